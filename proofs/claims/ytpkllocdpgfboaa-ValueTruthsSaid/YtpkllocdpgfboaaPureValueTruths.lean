/- Every And, Or, Not of the program is the reference's; what is handed in stays, the room behind it too. No condition: every input. -/
import Derived.Test.YtpkllocdpgfboaaSx2
import Derived.Test.YtpkllocdpgfboaaVB
set_option linter.unusedVariables false
set_option linter.unusedSimpArgs false
namespace Go.Proofs.Ytpkllocdpgfboaa.Pure
open Go.RowKit Go.Proofs.Ytpkllocdpgfboaa.S Go.Proofs.YtpkllocdpgfboaaV Go.Proofs.YtpkllocdpgfboaaW.PrintWords Go.Proofs.YtpkllocdpgfboaaW.PrintLast Go.Proofs.YtpkllocdpgfboaaW.PrintMore

def rk (t : Int) : Int := if t = 0 then 0 else if t = 1 then 2 else 1
def tru (r : Int) : Int := if r = 0 then 0 else if r = 2 then 1 else 2
def nt (t : Int) : Int := if t = 0 then 1 else if t = 1 then 0 else 2
theorem rk_range (t : Int) : 0 ≤ rk t ∧ rk t ≤ 2 := by unfold rk; split; omega; split <;> omega
theorem rank_is (t : Int) : value_rank.f t = some (rk t) := by unfold value_rank.f rk; (repeat' split) <;> rfl
theorem rrank_is (t : Int) : colonnaderef05_rank.f t = some (rk t) := by unfold colonnaderef05_rank.f rk; (repeat' split) <;> rfl
theorem rtruth_is (r : Int) : colonnaderef05_truth.f r = some (tru r) := by unfold colonnaderef05_truth.f tru; (repeat' split) <;> rfl
theorem not_is (t : Int) : value_Not.f t = some (nt t) := by unfold value_Not.f nt; (repeat' split) <;> rfl
theorem rnot_is (t : Int) : colonnaderef05_Not.f t = some (nt t) := by
  unfold colonnaderef05_Not.f
  rw [rrank_is, Option.bind_some, rtruth_is, Option.bind_some]
  congr 1
  unfold rk tru nt wrap64
  by_cases h : t = 0
  · simp [h]
  · by_cases h1 : t = 1
    · simp [h1]
    · simp [h, h1]
theorem rd_get {l : List Int} {i : Nat} (hi : i < l.length) : rd l (i : Int) = l[i] := by
  unfold rd; rw [Int.toNat_natCast, List.getD_eq_getElem?_getD, List.getElem?_eq_getElem hi]; rfl
theorem rd_at {A B : List Int} {x : Int} {i : Nat} (h : A.length = i) : rd (A ++ x :: B) (i : Int) = x := by
  unfold rd
  rw [Int.toNat_natCast, List.getD_eq_getElem?_getD, List.getElem?_append_right (by omega), h, Nat.sub_self]
  rfl
theorem and_l0 (l : List Int) (hlen : l.length ≤ 9223372036854775806) (d : Nat) : ∀ (k k' i : Nat) (r : Int), 0 ≤ r → r ≤ 2 → i + d = l.length → d + 1 ≤ k → d + 1 ≤ k' →
    ∃ t, value_most.l0 k (-1) r l (l.length : Int) (i : Int) = some t ∧ colonnaderef05_And.l0 k' l r (i : Int) = some t := by
  induction d with
  | zero =>
    intro k k' i r h0 h2 hi hk hk'
    obtain ⟨k, rfl⟩ : ∃ m, k = m + 1 := ⟨k - 1, by omega⟩
    obtain ⟨k', rfl⟩ : ∃ m, k' = m + 1 := ⟨k' - 1, by omega⟩
    refine ⟨tru r, ?_, ?_⟩
    · rw [value_most.l0, if_neg (by omega)]; unfold tru; (repeat' split) <;> rfl
    · rw [colonnaderef05_And.l0, if_neg (by omega), rtruth_is]; rfl
  | succ d ih =>
    intro k k' i r h0 h2 hi hk hk'
    obtain ⟨k, rfl⟩ : ∃ m, k = m + 1 := ⟨k - 1, by omega⟩
    obtain ⟨k', rfl⟩ : ∃ m, k' = m + 1 := ⟨k' - 1, by omega⟩
    have hr := rk_range l[i]
    obtain ⟨t, h3, h4⟩ := ih k k' (i + 1) (mn r (rk l[i])) (by unfold mn; split <;> omega) (by unfold mn; split <;> omega) (by omega) (by omega) (by omega)
    refine ⟨t, ?_, ?_⟩
    · rw [value_most.l0, if_pos (by omega), if_pos (by omega), if_pos (by omega), rd_get (show i < l.length by omega), rank_is, Option.bind_some, w64 (n := (i : Int) + 1) (by omega) (by omega), w64 (n := -1 * rk l[i]) (by omega) (by omega), w64 (n := -1 * r) (by omega) (by omega)]
      by_cases h : -1 * rk l[i] > -1 * r
      · rw [if_pos h, Option.bind_some]
        rw [show mn r (rk l[i]) = rk l[i] by unfold mn; rw [if_pos (by omega)]] at h3
        exact h3
      · rw [if_neg h]
        rw [show mn r (rk l[i]) = r by unfold mn; rw [if_neg (by omega)]] at h3
        exact h3
    · rw [colonnaderef05_And.l0, if_pos (by omega), if_pos (by omega), rd_get (show i < l.length by omega), rrank_is, Option.bind_some, w64 (n := (i : Int) + 1) (by omega) (by omega)]
      exact h4
theorem or_l0 (l : List Int) (hlen : l.length ≤ 9223372036854775806) (d : Nat) : ∀ (k k' i : Nat) (r : Int), 0 ≤ r → r ≤ 2 → i + d = l.length → d + 1 ≤ k → d + 1 ≤ k' →
    ∃ t, value_most.l0 k 1 r l (l.length : Int) (i : Int) = some t ∧ colonnaderef05_Or.l0 k' l r (i : Int) = some t := by
  induction d with
  | zero =>
    intro k k' i r h0 h2 hi hk hk'
    obtain ⟨k, rfl⟩ : ∃ m, k = m + 1 := ⟨k - 1, by omega⟩
    obtain ⟨k', rfl⟩ : ∃ m, k' = m + 1 := ⟨k' - 1, by omega⟩
    refine ⟨tru r, ?_, ?_⟩
    · rw [value_most.l0, if_neg (by omega)]; unfold tru; (repeat' split) <;> rfl
    · rw [colonnaderef05_Or.l0, if_neg (by omega), rtruth_is]; rfl
  | succ d ih =>
    intro k k' i r h0 h2 hi hk hk'
    obtain ⟨k, rfl⟩ : ∃ m, k = m + 1 := ⟨k - 1, by omega⟩
    obtain ⟨k', rfl⟩ : ∃ m, k' = m + 1 := ⟨k' - 1, by omega⟩
    have hr := rk_range l[i]
    obtain ⟨t, h3, h4⟩ := ih k k' (i + 1) (mx r (rk l[i])) (by unfold mx; split <;> omega) (by unfold mx; split <;> omega) (by omega) (by omega) (by omega)
    refine ⟨t, ?_, ?_⟩
    · rw [value_most.l0, if_pos (by omega), if_pos (by omega), if_pos (by omega), rd_get (show i < l.length by omega), rank_is, Option.bind_some, w64 (n := (i : Int) + 1) (by omega) (by omega), w64 (n := 1 * rk l[i]) (by omega) (by omega), w64 (n := 1 * r) (by omega) (by omega)]
      by_cases h : 1 * rk l[i] > 1 * r
      · rw [if_pos h, Option.bind_some]
        rw [show mx r (rk l[i]) = rk l[i] by unfold mx; rw [if_pos (by omega)]] at h3
        exact h3
      · rw [if_neg h]
        rw [show mx r (rk l[i]) = r by unfold mx; rw [if_neg (by omega)]] at h3
        exact h3
    · rw [colonnaderef05_Or.l0, if_pos (by omega), if_pos (by omega), rd_get (show i < l.length by omega), rrank_is, Option.bind_some, w64 (n := (i : Int) + 1) (by omega) (by omega)]
      exact h4
theorem and_is (l : List Int) (hlen : l.length ≤ 9223372036854775806) (k : Nat) (hk : l.length + 1 ≤ k) : ∃ t, value_And.f k l = some t ∧ colonnaderef05_And.f k l = some t := by
  obtain ⟨t, h1, h2⟩ := and_l0 l hlen l.length k k 0 2 (by decide) (by decide) (by omega) hk hk
  refine ⟨t, ?_, h2⟩
  unfold value_And.f value_most.f
  rw [show wrap64 (wrap64 (-(-1)) + 1) = 2 by unfold wrap64; omega]
  rw [show ((0 : Nat) : Int) = 0 from rfl] at h1
  rw [h1]; rfl
theorem or_is (l : List Int) (hlen : l.length ≤ 9223372036854775806) (k : Nat) (hk : l.length + 1 ≤ k) : ∃ t, value_Or.f k l = some t ∧ colonnaderef05_Or.f k l = some t := by
  obtain ⟨t, h1, h2⟩ := or_l0 l hlen l.length k k 0 0 (by decide) (by decide) (by omega) hk hk
  refine ⟨t, ?_, h2⟩
  unfold value_Or.f value_most.f
  rw [show wrap64 (wrap64 (-1) + 1) = 0 by unfold wrap64; omega]
  rw [show ((0 : Nat) : Int) = 0 from rfl] at h1
  rw [h1]; rfl
/-- The inner loop: number by number turned. -/
theorem inner (l0 : List Int) (a : Int) (turn : Int) (now : List Int) (hn : now.length = l0.length) (hlen : l0.length ≤ 140737488351232) (R : Option Bool) (d : Nat) : ∀ (k i : Nat), i + d = l0.length → d + 1 ≤ k →
    (∀ k', k ≤ k' + d + 1 → colonnadelaw05_ValueTruths.l0 k' l0 a (now.map nt ++ [71, 72, 73]) (wrap64 (turn + 1)) = R) →
    colonnadelaw05_ValueTruths.l1 k l0 a ((now.take i).map nt ++ now.drop i ++ [71, 72, 73]) turn now (i : Int) = R := by
  induction d with
  | zero =>
    intro k i hi hk h
    obtain ⟨k, rfl⟩ : ∃ m, k = m + 1 := ⟨k - 1, by omega⟩
    rw [colonnadelaw05_ValueTruths.l1, if_neg (by omega), List.take_of_length_le (by omega), List.drop_of_length_le (by omega), List.append_nil]
    exact h k (by omega)
  | succ d ih =>
    intro k i hi hk h
    obtain ⟨k, rfl⟩ : ∃ m, k = m + 1 := ⟨k - 1, by omega⟩
    have hi2 : i < now.length := by omega
    have hl1 : ((now.take i).map nt).length = i := by rw [List.length_map, List.length_take]; omega
    have hd := List.drop_eq_getElem_cons (l := now) (i := i) hi2
    have hlen2 : ((now.take i).map nt ++ now.drop i ++ [71, 72, 73]).length = l0.length + 3 := by simp; omega
    have hr1 : rd ((now.take i).map nt ++ now.drop i ++ [71, 72, 73]) (i : Int) = now[i] := by
      rw [hd, List.append_assoc, List.cons_append]; exact rd_at hl1
    have hset : ((now.take i).map nt ++ now.drop i ++ [71, 72, 73]).set i (nt now[i]) = (now.take (i + 1)).map nt ++ now.drop (i + 1) ++ [71, 72, 73] := by
      rw [hd, List.append_assoc, List.set_append_right _ _ (by omega), hl1, Nat.sub_self, List.cons_append, List.set_cons_zero, List.take_succ_eq_append_getElem hi2, List.map_append]
      simp
    have hlen3 : ((now.take (i + 1)).map nt ++ now.drop (i + 1) ++ [71, 72, 73]).length = l0.length + 3 := by simp; omega
    have hr2 : rd ((now.take (i + 1)).map nt ++ now.drop (i + 1) ++ [71, 72, 73]) (i : Int) = nt now[i] := by
      rw [List.take_succ_eq_append_getElem hi2, List.map_append, List.append_assoc, List.append_assoc]; exact rd_at hl1
    rw [colonnadelaw05_ValueTruths.l1, if_pos (by omega), if_pos (by omega), if_pos (by omega), if_pos (by omega), hr1, rd_get hi2, if_pos rfl, not_is, Option.bind_some, Int.toNat_natCast, hset, Option.bind_some, rnot_is, Option.bind_some, hr2, if_pos rfl, w64 (n := (i : Int) + 1) (by omega) (by omega)]
    exact ih k (i + 1) (by omega) (by omega) (fun k' hk' => h k' (by omega))
theorem outer (l0 : List Int) (a : Int) (hlen : l0.length ≤ 140737488351232) (d : Nat) : ∀ (k turn : Nat) (cur : List Int), cur.length = l0.length → turn + d = 2 → d * (l0.length + 3) + 3 + l0.length ≤ k →
    colonnadelaw05_ValueTruths.l0 k l0 a (cur ++ [71, 72, 73]) (turn : Int) = some true := by
  induction d with
  | zero =>
    intro k turn cur hc ht hk
    obtain ⟨k, rfl⟩ : ∃ m, k = m + 1 := ⟨k - 1, by omega⟩
    rw [colonnadelaw05_ValueTruths.l0, if_neg (by omega), not_is, rnot_is]
    simp
  | succ d ih =>
    intro k turn cur hc ht hk
    rw [Nat.succ_mul] at hk
    obtain ⟨k, rfl⟩ : ∃ m, k = m + 2 := ⟨k - 2, by omega⟩
    have hlen2 : (cur ++ [71, 72, 73]).length = l0.length + 3 := by simp; omega
    have htk : (cur ++ [71, 72, 73]).take l0.length = cur := by rw [← hc, List.take_left']; rfl
    obtain ⟨t1, h1, h2⟩ := and_is cur (by omega) (k + 1) (by omega)
    obtain ⟨t2, h3, h4⟩ := or_is cur (by omega) (k + 1) (by omega)
    have r0 : rd (cur ++ [71, 72, 73]) (l0.length : Int) = 71 := by
      exact rd_at hc
    have r1 : rd (cur ++ [71, 72, 73]) ((l0.length : Int) + 1) = 72 := by
      rw [show (l0.length : Int) + 1 = ((l0.length + 1 : Nat) : Int) from rfl, show cur ++ [71, 72, 73] = (cur ++ [71]) ++ 72 :: [73] by simp]; exact rd_at (by simp [hc])
    have r2 : rd (cur ++ [71, 72, 73]) ((l0.length : Int) + 2) = 73 := by
      rw [show (l0.length : Int) + 2 = ((l0.length + 2 : Nat) : Int) from rfl, show cur ++ [71, 72, 73] = (cur ++ [71, 72]) ++ 73 :: [] by simp]; exact rd_at (by simp [hc])
    rw [colonnadelaw05_ValueTruths.l0, if_pos (by omega), Option.bind_some, if_pos (by omega), if_pos (by omega), Int.toNat_natCast, htk, Option.bind_some, List.length_nil, if_pos (by omega), List.nil_append, Option.bind_some]
    rw [h1, Option.bind_some, h3, Option.bind_some, h2, Option.bind_some, if_pos rfl, h4, Option.bind_some, if_pos rfl]
    rw [if_pos (by omega), r0, if_pos rfl, w64 (n := (l0.length : Int) + 1) (by omega) (by omega), if_pos (by omega), if_pos (by omega), r1, if_pos rfl, w64 (n := (l0.length : Int) + 2) (by omega) (by omega), if_pos (by omega), if_pos (by omega), r2]
    rw [show ((73 : Int) != 73) = false from rfl, colonnadelaw05_ValueTruths.j1, if_neg (by decide)]
    have h := inner l0 a (turn : Int) cur hc hlen (some true) l0.length k 0 (by omega) (by omega) (fun k' hk' => by
      rw [w64 (by omega) (by omega)]
      exact ih k' (turn + 1) (cur.map nt) (by simp [hc]) (by omega) (by omega))
    rw [List.take_zero, List.map_nil, List.nil_append, List.drop_zero] at h
    exact h
theorem ValueTruths : colonnadelaw05_ValueTruths.Pure := by
  intro l0 a hm hs hwf hwa
  have hlen : l0.length ≤ 140737488351232 := by omega
  refine ⟨4 * (l0.length + 3) + 10, ?_⟩
  unfold colonnadelaw05_ValueTruths.f
  rw [Option.bind_some, List.length_nil, if_pos (by omega), List.nil_append, Option.bind_some, Option.bind_some, if_pos (by simp; omega)]
  exact outer l0 a hlen 2 _ 0 l0 rfl rfl (by omega)
end Go.Proofs.Ytpkllocdpgfboaa.Pure
