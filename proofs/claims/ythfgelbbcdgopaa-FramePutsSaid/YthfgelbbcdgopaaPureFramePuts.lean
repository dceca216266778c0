/- Every width, every PutFrame and every PutPacked of the program is the reference's; what is handed in stays, and again, when the same memory holds others. No condition: every input. -/
import Derived.Test.YthfgelbbcdgopaaSx11
import Derived.Test.YthfgelbbcdgopaaQFrameRef
set_option linter.unusedVariables false
set_option linter.unusedSimpArgs false
namespace Go.Proofs.Ythfgelbbcdgopaa.Pure
open Go.RowKit Go.Proofs.Ythfgelbbcdgopaa.S Go.Proofs.YthfgelbbcdgopaaV Go.Proofs.YthfgelbbcdgopaaW.PrintWords Go.Proofs.YthfgelbbcdgopaaW.PrintLast Go.Proofs.YthfgelbbcdgopaaW.PrintMore

theorem least_ex (l : List Int) : ∃ m, Least l m := by
  by_cases h : l.length ≤ 9223372036854775806
  · obtain ⟨m, _, hm⟩ := base_is l h (l.length + 1) (Nat.le_refl _)
    exact ⟨m, hm⟩
  · induction l with
    | nil => exact ⟨0, .inl ⟨rfl, rfl⟩⟩
    | cons x xs ih =>
      by_cases h2 : xs.length ≤ 9223372036854775806
      · obtain ⟨m, _, hm⟩ := base_is xs h2 (xs.length + 1) (Nat.le_refl _)
        rcases hm with ⟨h3, _⟩ | ⟨h3, h4⟩
        · subst h3; simp at h
        · by_cases h5 : x ≤ m
          · exact ⟨x, .inr ⟨List.mem_cons_self, fun y hy => by
              rcases List.mem_cons.1 hy with hy | hy
              · omega
              · have := h4 y hy; omega⟩⟩
          · exact ⟨m, .inr ⟨List.mem_cons_of_mem _ h3, fun y hy => by
              rcases List.mem_cons.1 hy with hy | hy
              · omega
              · exact h4 y hy⟩⟩
      · obtain ⟨m, hm⟩ := ih h2
        rcases hm with ⟨h3, _⟩ | ⟨h3, h4⟩
        · subst h3; simp at h2
        · by_cases h5 : x ≤ m
          · exact ⟨x, .inr ⟨List.mem_cons_self, fun y hy => by
              rcases List.mem_cons.1 hy with hy | hy
              · omega
              · have := h4 y hy; omega⟩⟩
          · exact ⟨m, .inr ⟨List.mem_cons_of_mem _ h3, fun y hy => by
              rcases List.mem_cons.1 hy with hy | hy
              · omega
              · exact h4 y hy⟩⟩
theorem bytes_same (n w : Int) : pack_Bytes.f n w = colonnaderef02_Bytes.f n w := rfl
/-- PutFrame: the two are one. -/
theorem putframe_same (l : List Int) (hl : I64s l) (hlen : l.length ≤ 17592186043904) (a : Int) (k : Nat) (hk : 100000000000000 ≤ k) : ∃ b e, frame_PutFrame.f k l a = some (b, e) ∧ colonnaderef11_PutFrame.f k l a = some (b, e) := by
  obtain ⟨m, hm⟩ := least_ex l
  by_cases h : (l.length : Int) ≤ 16777216 ∧ 0 ≤ a ∧ a ≤ 64
  · obtain ⟨h1, h2, h3⟩ := h
    obtain ⟨w, rfl⟩ := Int.eq_ofNat_of_zero_le h2
    have hn : l.length ≤ 16777216 := by omega
    have hw : w ≤ 64 := by omega
    have hp := putframe_is l hl w hw hn m hm k (by omega)
    have hmi := hm.i64 hl
    have hf64 := codes_fit64 hl hmi hm.le
    have hnn : NN (codesOf m l) := fun x hx => (hf64 x hx).1
    have hcl := codesOf_length m l
    have hmul : l.length * (w + 2) ≤ 16777216 * 66 := Nat.mul_le_mul hn (by omega)
    have hmul2 : l.length * w ≤ 16777216 * 64 := Nat.mul_le_mul hn hw
    have hr := rpack_is (codesOf m l) hf64 w hw (by omega) k (by rw [hcl]; omega)
    have href : colonnaderef11_PutFrame.f k l (w : Int) = if (w : Int) < (mw (codesOf m l) : Int) then some ([], 110) else (colonnaderef02_Pack.f k (codesOf m l) (w : Int)).bind fun bt => (if (le8 (word m) 8).length + bt.1.length < 140737488355328 then some (le8 (word m) 8 ++ bt.1, 0) else none) := by
      unfold colonnaderef11_PutFrame.f
      rw [rbytes_ok l.length w hn hw, Option.bind_some]
      (try dsimp only)
      rw [if_pos rfl, rframewidth_is l hl m hm (by omega) k (by omega), Option.bind_some, rcodes_is l hl m hm (by omega) k (by omega), Option.bind_some, rleast_is l (by omega) m hm k (by omega)]
      by_cases hlt : (w : Int) < (mw (codesOf m l) : Int)
      · rw [if_pos hlt, if_pos hlt]
      · rw [if_neg hlt, if_neg hlt]
        congr 1
        funext bt
        rw [Option.bind_some, putints_one m k (by omega), Option.bind_some]
    by_cases hf : Fit w (codesOf m l)
    · obtain ⟨b, p1, p2, p3, p4⟩ := hp.1 hf
      obtain ⟨c, q1, q2, q3, q4⟩ := hr.1 hf
      rw [hcl] at q3
      have hbc : b = c := num_inj p2 q2 (by rw [p3, q3]) (by rw [p4, q4])
      have hmwle := (mw_le hnn w).2 hf
      refine ⟨_, _, p1, ?_⟩
      rw [href, if_neg (by omega), q1, Option.bind_some]
      (try dsimp only)
      rw [if_pos (by rw [le8_length, q3]; omega), hbc]
    · have hmwle : ¬ mw (codesOf m l) ≤ w := fun h => hf ((mw_le hnn w).1 h)
      refine ⟨_, _, hp.2 hf, ?_⟩
      rw [href, if_pos (by omega)]
  · obtain ⟨e, hb, he, _⟩ := bytes_not (l.length : Int) a (fun h2 => h h2.2)
    refine ⟨[], e, ?_, ?_⟩
    · unfold frame_PutFrame.f
      rw [hb, Option.bind_some]
      (try dsimp only)
      rw [if_neg he]
    · unfold colonnaderef11_PutFrame.f
      rw [← bytes_same, hb, Option.bind_some]
      (try dsimp only)
      rw [if_neg he]
theorem rputpacked_l0 (l : List Int) (hl : I64s l) (hn : NN l) (hlen : l.length ≤ 17592186044415) (a : Int) (d : Nat) : ∀ (k i : Nat), i + d = l.length →
    ∀ r, (∀ k', k ≤ k' + d + 1 → colonnaderef02_Pack.f k' l a = some r) → d + 1 ≤ k → colonnaderef11_PutPacked.l0 k l a (l.take i) (i : Int) = some r := by
  induction d with
  | zero =>
    intro k i hi r hr hk
    obtain ⟨k, rfl⟩ : ∃ m, k = m + 1 := ⟨k - 1, by omega⟩
    rw [colonnaderef11_PutPacked.l0, if_neg (by omega), List.take_of_length_le (by omega), hr k (by omega), Option.bind_some]
  | succ d ih =>
    intro k i hi r hr hk
    obtain ⟨k, rfl⟩ : ∃ m, k = m + 1 := ⟨k - 1, by omega⟩
    have hi2 : i < l.length := by omega
    have hmem : l[i]'hi2 ∈ l := List.getElem_mem _
    obtain ⟨h1, h2⟩ := hl _ hmem
    have h0 := hn _ hmem
    have hlt : (l.take i).length = i := by rw [List.length_take]; omega
    rw [colonnaderef11_PutPacked.l0, if_pos (by omega), if_pos (by omega), if_pos (by omega), rd_get hi2, w64 (by omega) (by omega), wrap_u64, show l[i] % 18446744073709551616 = l[i] by omega, ← List.take_succ_eq_append_getElem hi2]
    exact ih k (i + 1) (by omega) r (fun k' hk' => hr k' (by omega)) (by omega)
/-- PutPacked: the two are one. -/
theorem putpacked_same (l : List Int) (hl : I64s l) (hlen : l.length ≤ 17592186043904) (a : Int) (k : Nat) (hk : 100000000000000 ≤ k) : ∃ b e, frame_PutPacked.f k l a = some (b, e) ∧ colonnaderef11_PutPacked.f k l a = some (b, e) := by
  by_cases h : (l.length : Int) ≤ 16777216 ∧ 0 ≤ a ∧ a ≤ 64
  · obtain ⟨h1, h2, h3⟩ := h
    obtain ⟨w, rfl⟩ := Int.eq_ofNat_of_zero_le h2
    have hn : l.length ≤ 16777216 := by omega
    have hw : w ≤ 64 := by omega
    have hp := putpacked_is l hl w hw hn k (by omega)
    have hmul : l.length * (w + 2) ≤ 16777216 * 66 := Nat.mul_le_mul hn (by omega)
    have hrw := rpackedwidth_is l hl (by omega) k (by omega)
    obtain ⟨k0, hk0⟩ : ∃ k0, k = k0 + 1 := ⟨k - 1, by omega⟩
    by_cases hnn : NN l
    · have href : colonnaderef11_PutPacked.f k l (w : Int) = if (w : Int) < (mw l : Int) then some ([], 110) else colonnaderef11_PutPacked.l0 k0 l (w : Int) [] 0 := by
        unfold colonnaderef11_PutPacked.f
        rw [rbytes_ok l.length w hn hw, Option.bind_some]
        (try dsimp only)
        rw [if_pos rfl, hrw.1 hnn, Option.bind_some]
        (try dsimp only)
        rw [if_pos rfl, hk0, colonnaderef11_PutPacked.j0]
        by_cases hlt : (w : Int) < (mw l : Int)
        · rw [if_pos (by simpa using hlt), if_pos hlt]
        · rw [if_neg (by simpa using hlt), if_neg hlt]
      have hf64 := nn_fit64 hl hnn
      by_cases hf : Fit w l
      · obtain ⟨b, p1, p2, p3, p4⟩ := hp.1 ⟨hnn, hf⟩
        have hmwle := (mw_le hnn w).2 hf
        refine ⟨_, _, p1, ?_⟩
        rw [href, if_neg (by omega)]
        refine rputpacked_l0 l hl hnn (by omega) (w : Int) l.length k0 0 (by omega) (b, 0) (fun k' hk' => ?_) (by omega)
        obtain ⟨c, q1, q2, q3, q4⟩ := (rpack_is l hf64 w hw hn k' (by omega)).1 hf
        rw [q1, num_inj q2 p2 (by rw [p3, q3]) (by rw [p4, q4])]
      · have hmwle : ¬ mw l ≤ w := fun h => hf ((mw_le hnn w).1 h)
        refine ⟨_, _, hp.2 (fun h => hf h.2), ?_⟩
        rw [href, if_pos (by omega)]
    · refine ⟨_, _, hp.2 (fun h => hnn h.1), ?_⟩
      unfold colonnaderef11_PutPacked.f
      rw [rbytes_ok l.length w hn hw, Option.bind_some]
      (try dsimp only)
      rw [if_pos rfl, hrw.2 hnn, Option.bind_some]
      (try dsimp only)
      rw [if_neg (by decide), hk0, colonnaderef11_PutPacked.j0, if_pos rfl]
  · obtain ⟨e, hb, he, _⟩ := bytes_not (l.length : Int) a (fun h2 => h h2.2)
    refine ⟨[], e, ?_, ?_⟩
    · unfold frame_PutPacked.f
      rw [hb, Option.bind_some]
      (try dsimp only)
      rw [if_neg he]
    · unfold colonnaderef11_PutPacked.f
      rw [← bytes_same, hb, Option.bind_some]
      (try dsimp only)
      rw [if_neg he]
theorem i64_wrap64 (n : Int) : I64 (wrap64 n) := by unfold wrap64; exact ⟨by omega, by omega⟩
theorem i64_wrapk (n : Int) : I64 (IntKind.i64.wrap n) := by rw [show IntKind.i64.wrap n = wrap64 n from i64_w n]; exact i64_wrap64 n
theorem rd_at {A B : List Int} {x : Int} {i : Nat} (h : A.length = i) : rd (A ++ x :: B) (i : Int) = x := by
  unfold rd
  rw [Int.toNat_natCast, List.getD_eq_getElem?_getD, List.getElem?_append_right (by omega), h, Nat.sub_self]
  rfl
theorem same_l0 (l : List Int) (hlen : l.length ≤ 9223372036854775806) (d : Nat) : ∀ (k i : Nat), i + d = l.length → d + 1 ≤ k → colonnaderef08_SameInts.l0 k l l (i : Int) = some true := by
  induction d with
  | zero =>
    intro k i hi hk
    obtain ⟨k, rfl⟩ : ∃ m, k = m + 1 := ⟨k - 1, by omega⟩
    rw [colonnaderef08_SameInts.l0, if_neg (by omega)]
  | succ d ih =>
    intro k i hi hk
    obtain ⟨k, rfl⟩ : ∃ m, k = m + 1 := ⟨k - 1, by omega⟩
    rw [colonnaderef08_SameInts.l0, if_pos (by omega), if_pos (by omega), if_pos (by omega), if_pos rfl, w64 (by omega) (by omega)]
    exact ih k (i + 1) (by omega) (by omega)
theorem same_is (l : List Int) (hlen : l.length ≤ 9223372036854775806) (k : Nat) (hk : l.length + 1 ≤ k) : colonnaderef08_SameInts.f k l l = some true := by
  unfold colonnaderef08_SameInts.f
  rw [if_pos rfl]
  exact same_l0 l hlen l.length k 0 (by omega) hk
theorem puts_l1 (l0 : List Int) (a : Int) (turn : Nat) (hlen : l0.length ≤ 17592186043904) (R : Option Bool) (d : Nat) : ∀ (k i : Nat) (cur : List Int), cur.length = l0.length → I64s cur → i + d = l0.length → d + 1 ≤ k →
    (∀ k' cur', k ≤ k' + d + 1 → cur'.length = l0.length → I64s cur' → colonnadelaw11_FramePuts.l0 k' l0 a (cur' ++ [71, 72]) (wrap64 ((turn : Int) + 1)) = R) →
    colonnadelaw11_FramePuts.l1 k l0 a (cur ++ [71, 72]) (turn : Int) (i : Int) = R := by
  induction d with
  | zero =>
    intro k i cur hc hi64 hi hk h
    obtain ⟨k, rfl⟩ : ∃ m, k = m + 1 := ⟨k - 1, by omega⟩
    rw [colonnadelaw11_FramePuts.l1, if_neg (by omega)]
    exact h k cur (by omega) hc hi64
  | succ d ih =>
    intro k i cur hc hi64 hi hk h
    obtain ⟨k, rfl⟩ : ∃ m, k = m + 1 := ⟨k - 1, by omega⟩
    have hset : ∀ (c : List Int) (v : Int), c.length = l0.length → (c ++ [71, 72]).set i v = c.set i v ++ [71, 72] := fun c v hcl => List.set_append_left _ _ (by omega)
    have h64 : ∀ (c : List Int) (v : Int), I64s c → I64 v → I64s (c.set i v) := fun c v hcc hv x hx => by
      rcases List.mem_or_eq_of_mem_set hx with h1 | h1
      · exact hcc x h1
      · rw [h1]; exact hv
    rw [colonnadelaw11_FramePuts.l1, if_pos (by omega), if_pos (by omega), if_pos (by rw [List.length_append]; omega), Option.bind_some, Int.toNat_natCast, hset cur _ hc]
    generalize hv : Go.bits .xor .i64 (wrap64 (Int.tdiv (rd (cur ++ [71, 72]) (i : Int)) 8)) (Int.tmod (i : Int) 3) = v
    have hv64 : I64 v := by rw [← hv]; exact i64_wrapk _
    have hc1 : (cur.set i v).length = l0.length := by rw [List.length_set]; exact hc
    have hi1 := h64 cur v hi64 hv64
    rw [w64 (n := (i : Int) + 1) (by omega) (by omega)]
    by_cases h3 : (l0.length : Int) % 3 = 2
    · rw [if_pos h3, hset _ _ hc1]
      exact ih k (i + 1) _ (by rw [List.length_set]; exact hc1) (h64 _ _ hi1 (i64_wrap64 _)) (by omega) (by omega) (fun k' c' hk' => h k' c' (by omega))
    · rw [if_neg h3]
      exact ih k (i + 1) _ hc1 hi1 (by omega) (by omega) (fun k' c' hk' => h k' c' (by omega))
theorem puts_l0 (l0 : List Int) (a : Int) (hlen : l0.length ≤ 17592186043904) (d : Nat) : ∀ (k turn : Nat) (cur : List Int), cur.length = l0.length → I64s cur → turn + d = 2 → d * 20000000000000 + 100000000000100 ≤ k →
    colonnadelaw11_FramePuts.l0 k l0 a (cur ++ [71, 72]) (turn : Int) = some true := by
  induction d with
  | zero =>
    intro k turn cur hc hi ht hk
    obtain ⟨k, rfl⟩ : ∃ m, k = m + 1 := ⟨k - 1, by omega⟩
    rw [colonnadelaw11_FramePuts.l0, if_neg (by omega)]
  | succ d ih =>
    intro k turn cur hc hi ht hk
    rw [Nat.succ_mul] at hk
    obtain ⟨k, rfl⟩ : ∃ m, k = m + 3 := ⟨k - 3, by omega⟩
    have hlen2 : (cur ++ [71, 72]).length = l0.length + 2 := by simp; omega
    have htk : (cur ++ [71, 72]).take l0.length = cur := by rw [← hc, List.take_left']; rfl
    obtain ⟨m, hm⟩ := least_ex cur
    obtain ⟨b1, e1, p1, p2⟩ := putframe_same cur hi (by omega) a (k + 2) (by omega)
    obtain ⟨b2, e2, p3, p4⟩ := putpacked_same cur hi (by omega) a (k + 2) (by omega)
    have pw := packedwidth_is cur hi (by omega) (k + 2) (by omega)
    have rpw := rpackedwidth_is cur hi (by omega) (k + 2) (by omega)
    obtain ⟨u, g, w1, w2⟩ : ∃ u g, frame_PackedWidth.f (k + 2) cur = some (u, g) ∧ colonnaderef11_PackedWidth.f (k + 2) cur = some (u, g) := by
      by_cases hnn : NN cur
      · exact ⟨_, _, pw.1 hnn, rpw.1 hnn⟩
      · exact ⟨_, _, pw.2 hnn, rpw.2 hnn⟩
    have f1 := framewidth_is cur hi m hm (by omega) (k + 2) (by omega)
    have f2 := rframewidth_is cur hi m hm (by omega) (k + 2) (by omega)
    have r0 : rd (cur ++ [71, 72]) (l0.length : Int) = 71 := rd_at hc
    have r1 : rd (cur ++ [71, 72]) ((l0.length : Int) + 1) = 72 := by
      rw [show (l0.length : Int) + 1 = ((l0.length + 1 : Nat) : Int) from rfl, show cur ++ [71, 72] = (cur ++ [71]) ++ 72 :: [] by simp]; exact rd_at (by simp [hc])
    rw [colonnadelaw11_FramePuts.l0, if_pos (by omega), Option.bind_some, if_pos (by omega), if_pos (by omega), Int.toNat_natCast, htk, Option.bind_some, List.length_nil, if_pos (by omega), List.nil_append, Option.bind_some]
    rw [w2, Option.bind_some, p2, Option.bind_some, p4, Option.bind_some, w1, Option.bind_some, p1, Option.bind_some, p3, Option.bind_some, f1, Option.bind_some, f2, Option.bind_some]
    (try dsimp only)
    rw [if_pos rfl, if_pos rfl, show (g != g) = false by simp, if_neg (by decide)]
    unfold colonnadelaw11_num.f
    rw [Option.bind_some, if_pos rfl, if_pos rfl, Option.bind_some, if_pos rfl, show ((strOfNums b2).toList != (strOfNums b2).toList) = false by simp]
    rw [colonnadelaw11_FramePuts.j1, if_neg (by decide), if_pos (by omega), if_pos (by omega), Int.toNat_natCast, htk, same_is cur (by omega) (k + 1) (by omega), Option.bind_some, if_pos rfl, if_pos (by omega), r0, if_pos rfl, w64 (n := (l0.length : Int) + 1) (by omega) (by omega), if_pos (by omega), if_pos (by omega), r1]
    rw [show ((72 : Int) != 72) = false from rfl, colonnadelaw11_FramePuts.j2, if_neg (by decide)]
    refine puts_l1 l0 a turn hlen (some true) l0.length k 0 cur hc hi (by omega) (by omega) (fun k' cur' hk' hc' hi' => ?_)
    rw [w64 (by omega) (by omega)]
    have e1 : turn + 1 + d = 2 := by omega
    have e2 : d * 20000000000000 + 100000000000100 ≤ k' := by
      generalize d * 20000000000000 = q at hk ⊢
      omega
    exact ih k' (turn + 1) cur' hc' hi' e1 e2
theorem FramePuts : colonnadelaw11_FramePuts.Pure := by
  intro l0 a hm hs hwf hwa
  have hlen : l0.length ≤ 17592186043904 := by omega
  obtain ⟨K, hK⟩ : ∃ K : Nat, K = 140000000000100 := ⟨_, rfl⟩
  refine ⟨K, ?_⟩
  unfold colonnadelaw11_FramePuts.f
  rw [Option.bind_some, List.length_nil, if_pos (by omega), List.nil_append, Option.bind_some, Option.bind_some, if_pos (by simp; omega)]
  exact puts_l0 l0 a hlen 2 K 0 l0 rfl (fun x hx => wf_i64.1 (hwf x hx)) rfl (by omega)
end Go.Proofs.Ythfgelbbcdgopaa.Pure
