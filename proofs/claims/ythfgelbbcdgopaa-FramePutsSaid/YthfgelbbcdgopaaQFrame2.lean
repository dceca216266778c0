/- The least of integers, codes over a base; PutFrame, PutPacked of the program. -/
import Derived.Test.YthfgelbbcdgopaaSx6
import Derived.Test.YthfgelbbcdgopaaSx9
import Derived.Test.YthfgelbbcdgopaaSx10
import Derived.Test.YthfgelbbcdgopaaQFrame
import Derived.Test.YthfgelbbcdgopaaQPackuint64
set_option linter.unusedVariables false
set_option linter.unusedSimpArgs false
namespace Go.Proofs.Ythfgelbbcdgopaa.S
open Go.RowKit Go.Proofs.YthfgelbbcdgopaaV Go.Proofs.YthfgelbbcdgopaaW.PrintWords Go.Proofs.YthfgelbbcdgopaaW.PrintLast Go.Proofs.YthfgelbbcdgopaaW.PrintMore

def I64s (l : List Int) : Prop := ∀ x ∈ l, I64 x
/-- m is the base of l: the least, 0 of none. -/
def Least (l : List Int) (m : Int) : Prop := (l = [] ∧ m = 0) ∨ (m ∈ l ∧ ∀ x ∈ l, m ≤ x)
theorem Least.uniq {l : List Int} {m m' : Int} (h : Least l m) (h' : Least l m') : m = m' := by
  rcases h with ⟨h1, h2⟩ | ⟨h1, h2⟩ <;> rcases h' with ⟨h3, h4⟩ | ⟨h3, h4⟩
  · omega
  · subst h1; cases h3
  · subst h3; cases h1
  · have := h2 _ h3; have := h4 _ h1; omega
theorem Least.i64 {l : List Int} {m : Int} (h : Least l m) (hl : I64s l) : I64 m := by
  rcases h with ⟨_, rfl⟩ | ⟨h1, _⟩
  · exact ⟨by decide, by decide⟩
  · exact hl _ h1
theorem rd_get {l : List Int} {i : Nat} (hi : i < l.length) : rd l (i : Int) = l[i] := by
  unfold rd; rw [Int.toNat_natCast, List.getD_eq_getElem?_getD, List.getElem?_eq_getElem hi]; rfl
theorem min_l0 (l : List Int) (hlen : l.length ≤ 9223372036854775806) (d : Nat) : ∀ (k i : Nat) (m : Int), i + d = l.length → m ∈ l.take i → (∀ x ∈ l.take i, m ≤ x) → d + 1 ≤ k →
    ∃ r, slices_Min_int64_int64.l0 k l m (i : Int) = some r ∧ r ∈ l ∧ ∀ x ∈ l, r ≤ x := by
  induction d with
  | zero =>
    intro k i m hi h1 h2 hk
    obtain ⟨k, rfl⟩ : ∃ m, k = m + 1 := ⟨k - 1, by omega⟩
    rw [List.take_of_length_le (by omega)] at h1 h2
    rw [slices_Min_int64_int64.l0, if_neg (by omega)]
    exact ⟨m, rfl, h1, h2⟩
  | succ d ih =>
    intro k i m hi h1 h2 hk
    obtain ⟨k, rfl⟩ : ∃ m, k = m + 1 := ⟨k - 1, by omega⟩
    rw [slices_Min_int64_int64.l0, if_pos (by omega), if_pos (by omega), rd_get (show i < l.length by omega), w64 (by omega) (by omega)]
    have ht := List.take_succ_eq_append_getElem (l := l) (i := i) (by omega)
    have hmn : mn m l[i] = m ∧ m ≤ l[i] ∨ mn m l[i] = l[i] ∧ l[i] < m := by unfold mn; split <;> omega
    refine ih k (i + 1) _ (by omega) ?_ ?_ (by omega)
    · rw [ht, List.mem_append]
      rcases hmn with ⟨e, _⟩ | ⟨e, _⟩
      · rw [e]; exact .inl h1
      · rw [e]; exact .inr (List.mem_singleton.2 rfl)
    · rw [ht]
      intro x hx
      rcases List.mem_append.1 hx with hx | hx
      · have := h2 x hx
        rcases hmn with ⟨e, _⟩ | ⟨e, _⟩ <;> omega
      · have := List.mem_singleton.1 hx
        rcases hmn with ⟨e, _⟩ | ⟨e, _⟩ <;> omega
theorem min_is (l : List Int) (h0 : 0 < l.length) (hlen : l.length ≤ 9223372036854775806) (k : Nat) (hk : l.length + 1 ≤ k) : ∃ r, slices_Min_int64_int64.f k l = some r ∧ r ∈ l ∧ ∀ x ∈ l, r ≤ x := by
  unfold slices_Min_int64_int64.f
  rw [if_neg (by omega), if_pos (by omega), show (0 : Int) = ((0 : Nat) : Int) from rfl, rd_get h0]
  have ht : l.take 1 = [l[0]] := by rw [List.take_succ_eq_append_getElem h0]; rfl
  exact min_l0 l hlen (l.length - 1) k 1 l[0] (by omega) (by rw [ht]; exact List.mem_singleton.2 rfl) (by rw [ht]; intro x hx; rw [List.mem_singleton.1 hx]; exact Int.le_refl _) (by omega)
theorem base_is (l : List Int) (hlen : l.length ≤ 9223372036854775806) (k : Nat) (hk : l.length + 1 ≤ k) : ∃ m, frame_base.f k l = some m ∧ Least l m := by
  unfold frame_base.f
  by_cases h : (l.length : Int) = 0
  · rw [if_pos h]; exact ⟨0, rfl, .inl ⟨List.eq_nil_of_length_eq_zero (by omega), rfl⟩⟩
  · rw [if_neg h]
    obtain ⟨r, h1, h2, h3⟩ := min_is l (by omega) hlen k hk
    rw [h1]
    exact ⟨r, rfl, .inr ⟨h2, h3⟩⟩
/-- Codes over a base that is not above. -/
def codesOf (m : Int) (l : List Int) : List Int := l.map fun v => v - m
theorem codesOf_length (m : Int) (l : List Int) : (codesOf m l).length = l.length := by simp [codesOf]
theorem set_step (c : List Int) (n i : Nat) (x : Int) (hc : c.length = i) (hi : i < n) : (c ++ List.replicate (n - i) 0).set i x = (c ++ [x]) ++ List.replicate (n - (i + 1)) 0 := by
  rw [List.set_append_right _ _ (by omega), hc, Nat.sub_self, show n - i = (n - (i + 1)) + 1 by omega, List.replicate_succ, List.set_cons_zero, List.append_assoc]
  rfl
theorem above_l0 (l : List Int) (hl : I64s l) (m : Int) (hm : I64 m) (hle : ∀ x ∈ l, m ≤ x) (hlen : l.length ≤ 9223372036854775806) (d : Nat) : ∀ (k i : Nat), i + d = l.length → d + 1 ≤ k →
    frame_above.l0 k m (codesOf m (l.take i) ++ List.replicate (l.length - i) 0) l (l.length : Int) (i : Int) = some (codesOf m l) := by
  induction d with
  | zero =>
    intro k i hi hk
    obtain ⟨k, rfl⟩ : ∃ m, k = m + 1 := ⟨k - 1, by omega⟩
    rw [frame_above.l0, if_neg (by omega), List.take_of_length_le (by omega), show l.length - i = 0 by omega]
    simp
  | succ d ih =>
    intro k i hi hk
    obtain ⟨k, rfl⟩ : ∃ m, k = m + 1 := ⟨k - 1, by omega⟩
    have hmem : l[i]'(by omega) ∈ l := List.getElem_mem _
    have hlt : (codesOf m (l.take i)).length = i := by rw [codesOf_length, List.length_take]; omega
    have hge := hle _ hmem
    rw [frame_above.l0, if_pos (by omega), if_pos (by omega), if_pos (by omega), rd_get (show i < l.length by omega), drop_is hm (hl _ hmem), if_neg (by omega)]
    simp only [Option.bind_some]
    rw [if_pos (by rw [List.length_append, hlt, List.length_replicate]; omega), Int.toNat_natCast, set_step _ _ _ _ hlt (by omega), w64 (by omega) (by omega)]
    have ht : codesOf m (l.take i) ++ [l[i] - m] = codesOf m (l.take (i + 1)) := by
      rw [List.take_succ_eq_append_getElem (show i < l.length by omega)]; unfold codesOf; rw [List.map_append]; rfl
    rw [ht]
    exact ih k (i + 1) (by omega) (by omega)
theorem above_is (l : List Int) (hl : I64s l) (m : Int) (hm : I64 m) (hle : ∀ x ∈ l, m ≤ x) (hlen : l.length ≤ 35184372088832) (k : Nat) (hk : l.length + 1 ≤ k) : frame_above.f k l m = some (codesOf m l) := by
  unfold frame_above.f
  rw [if_pos (by omega), if_pos (by omega), Int.toNat_natCast]
  exact above_l0 l hl m hm hle (by omega) l.length k 0 (by omega) hk
theorem codes_fit64 {l : List Int} (hl : I64s l) {m : Int} (hm : I64 m) (hle : ∀ x ∈ l, m ≤ x) : Fit 64 (codesOf m l) := by
  intro x hx
  simp only [codesOf, List.mem_map] at hx
  obtain ⟨v, hv, rfl⟩ := hx
  have h1 := hl v hv
  have h2 := hle v hv
  obtain ⟨h3, h4⟩ := h1
  obtain ⟨h5, h6⟩ := hm
  exact ⟨by omega, by omega⟩
/-- A number's eight bytes. -/
def le8 (u : Nat) (i : Nat) : List Int := (List.range i).map fun j => ((u / 2 ^ (8 * j) % 256 : Nat) : Int)
theorem le8_length (u i : Nat) : (le8 u i).length = i := by simp [le8]
theorem le8_bytes (u i : Nat) : Bytes (le8 u i) := by
  intro x hx
  simp only [le8, List.mem_map] at hx
  obtain ⟨j, _, rfl⟩ := hx
  omega
theorem le8_succ (u i : Nat) : le8 u (i + 1) = le8 u i ++ [((u / 2 ^ (8 * i) % 256 : Nat) : Int)] := by simp [le8, List.range_succ]
theorem le8_num (u i : Nat) : num (le8 u i) = u % 2 ^ (8 * i) := by
  induction i with
  | zero => simp [le8, num, Nat.mod_one]
  | succ i ih =>
    rw [le8_succ, num_append, ih, le8_length, pow256, Nat.mul_succ, Nat.pow_add, Nat.mod_mul]
    simp only [num, Int.toNat_natCast, Nat.mul_zero, Nat.add_zero]
theorem put_l0 (x8 : List Int) (hx : x8.length ≤ 1000000000) (u : Nat) (d : Nat) : ∀ (k i : Nat), i + d = 8 → d + 1 ≤ k →
    frame_PutFrame.l0 k x8 (u : Int) (le8 u i ++ List.replicate (8 - i) 0) 8 (i : Int) = some (le8 u 8 ++ x8, 0) := by
  induction d with
  | zero =>
    intro k i hi hk
    obtain ⟨k, rfl⟩ : ∃ m, k = m + 1 := ⟨k - 1, by omega⟩
    obtain rfl : i = 8 := by omega
    rw [frame_PutFrame.l0, if_neg (by omega), if_pos (by rw [List.length_append, le8_length, List.length_replicate]; omega)]
    simp
  | succ d ih =>
    intro k i hi hk
    obtain ⟨k, rfl⟩ : ∃ m, k = m + 1 := ⟨k - 1, by omega⟩
    rw [frame_PutFrame.l0, if_pos (by omega), w64 (n := 8 * (i : Int)) (by omega) (by omega), if_pos (by omega), if_pos (by omega), if_pos (by rw [List.length_append, le8_length, List.length_replicate]; omega), w64 (n := (i : Int) + 1) (by omega) (by omega), Int.toNat_natCast]
    rw [show (8 : Int) * (i : Int) = ((8 * i : Nat) : Int) by omega, shr_u64' (by omega), set_step _ _ _ _ (le8_length u i) (by omega), show ((u / 2 ^ (8 * i) : Nat) : Int) % 256 = ((u / 2 ^ (8 * i) % 256 : Nat) : Int) from (Int.natCast_emod _ _).symm, ← le8_succ]
    exact ih k (i + 1) (by omega) (by omega)
theorem put_from0 (x8 : List Int) (hx : x8.length ≤ 1000000000) (u : Nat) (k : Nat) (hk : 9 ≤ k) : frame_PutFrame.l0 k x8 (u : Int) (List.replicate 8 0) ((8 : Nat) : Int) 0 = some (le8 u 8 ++ x8, 0) := by
  have h := put_l0 x8 hx u 8 k 0 rfl hk
  have e : le8 u 0 = [] := rfl
  rw [e, List.nil_append] at h
  exact h
/-- The word of an integer. -/
def word (m : Int) : Nat := (m % 18446744073709551616).toNat
/-- PutFrame at a width that may be. -/
theorem putframe_is (l : List Int) (hl : I64s l) (w : Nat) (hw : w ≤ 64) (hn : l.length ≤ 16777216) (m : Int) (hm : Least l m) (k : Nat) (hk : 2000000000 ≤ k) :
    (Fit w (codesOf m l) → ∃ b, frame_PutFrame.f k l (w : Int) = some (le8 (word m) 8 ++ b, 0) ∧ Bytes b ∧ b.length = (l.length * w + 7) / 8 ∧ num b = lanes w (codesOf m l)) ∧
    (¬ Fit w (codesOf m l) → frame_PutFrame.f k l (w : Int) = some ([], 110)) := by
  have hmi := hm.i64 hl
  have hle : ∀ x ∈ l, m ≤ x := by
    rcases hm with ⟨h1, _⟩ | ⟨_, h2⟩
    · subst h1; intro x hx; cases hx
    · exact h2
  obtain ⟨m', hb, hm'⟩ := base_is l (by omega) k (by omega)
  obtain rfl := hm'.uniq hm
  have hmul : l.length * (w + 2) ≤ 16777216 * 66 := Nat.mul_le_mul hn (by omega)
  have hmul2 : l.length * w ≤ 16777216 * 64 := Nat.mul_le_mul hn hw
  have hcl := codesOf_length m' l
  have hp := uint64_pack (codesOf m' l) w hw (by omega) (codes_fit64 hl hmi hle) k (by rw [hcl]; omega)
  have ha := above_is l hl m' hmi hle (by omega) k (by omega)
  unfold frame_PutFrame.f
  rw [bytes_ok l.length w hn hw]
  rw [Option.bind_some]; (try dsimp only)
  rw [if_pos rfl, hb]
  rw [Option.bind_some]; (try dsimp only)
  rw [ha]
  rw [Option.bind_some]; (try dsimp only)
  refine ⟨fun h => ?_, fun h => ?_⟩
  · obtain ⟨b, p1, p2, p3, p4⟩ := hp.1 h
    rw [hcl] at p3
    rw [p1]
    rw [Option.bind_some]; (try dsimp only)
    rw [if_pos rfl, Option.bind_some]
    (try dsimp only)
    rw [w64 (by omega) (by omega), if_pos (by omega), if_pos (by omega), Option.bind_some]
    (try dsimp only)
    rw [List.length_replicate]
    refine ⟨b, ?_, p2, p3, p4⟩
    have hu : IntKind.u64.wrap m' = (word m' : Int) := by rw [wrap_u64]; unfold word; omega
    rw [hu]
    exact put_from0 b (by omega) (word m') k (by omega)
  · rw [hp.2 h]
    rw [Option.bind_some]; (try dsimp only)
    rw [if_neg (by decide)]
/-- PutPacked at a width that may be. -/
theorem putpacked_is (l : List Int) (hl : I64s l) (w : Nat) (hw : w ≤ 64) (hn : l.length ≤ 16777216) (k : Nat) (hk : 2000000000 ≤ k) :
    ((∀ x ∈ l, 0 ≤ x) ∧ Fit w l → ∃ b, frame_PutPacked.f k l (w : Int) = some (b, 0) ∧ Bytes b ∧ b.length = (l.length * w + 7) / 8 ∧ num b = lanes w l) ∧
    (¬ ((∀ x ∈ l, 0 ≤ x) ∧ Fit w l) → frame_PutPacked.f k l (w : Int) = some ([], 110)) := by
  obtain ⟨m, hb, hm⟩ := base_is l (by omega) k (by omega)
  have hmul : l.length * (w + 2) ≤ 16777216 * 66 := Nat.mul_le_mul hn (by omega)
  unfold frame_PutPacked.f
  rw [bytes_ok l.length w hn hw]
  simp only [Option.bind_some]
  rw [if_pos trivial, hb]
  simp only [Option.bind_some]
  by_cases h0 : m < 0
  · rw [if_pos h0]
    have hneg : ¬ ∀ x ∈ l, 0 ≤ x := by
      intro h
      rcases hm with ⟨_, h2⟩ | ⟨h1, _⟩
      · omega
      · have := h m h1; omega
    exact ⟨fun h => absurd h.1 hneg, fun _ => rfl⟩
  · rw [if_neg h0]
    have hnn : ∀ x ∈ l, (0 : Int) ≤ x := by
      intro x hx
      rcases hm with ⟨h1, _⟩ | ⟨_, h2⟩
      · subst h1; cases hx
      · have := h2 x hx; omega
    have hz : I64 0 := ⟨by decide, by decide⟩
    have hc0 : codesOf 0 l = l := by
      unfold codesOf
      conv => rhs; rw [← List.map_id l]
      apply List.map_congr_left; intro x _; simp
    have ha := above_is l hl 0 hz hnn (by omega) k (by omega)
    have hf := codes_fit64 hl hz hnn
    rw [hc0] at ha hf
    have hp := uint64_pack l w hw (by omega) hf k (by omega)
    rw [ha]
    simp only [Option.bind_some]
    refine ⟨fun h => ?_, fun h => ?_⟩
    · obtain ⟨b, p1, p2, p3, p4⟩ := hp.1 h.2
      rw [p1]
      simp only [Option.bind_some]
      exact ⟨b, by rw [if_pos trivial], p2, p3, p4⟩
    · rw [hp.2 (fun h2 => h ⟨hnn, h2⟩)]
      simp only [Option.bind_some]
      rw [if_neg (by decide)]
theorem bytes_not (n w : Int) (h : ¬ (0 ≤ n ∧ n ≤ 16777216 ∧ 0 ≤ w ∧ w ≤ 64)) : ∃ e : Int, pack_Bytes.f n w = some (0, e) ∧ e ≠ 0 ∧ e = (if n < 0 then 2 else if 16777216 < n then 3 else 20) := by
  unfold pack_Bytes.f
  by_cases h1 : n < 0
  · rw [if_pos h1, if_pos h1]; exact ⟨2, rfl, by decide, rfl⟩
  · rw [if_neg h1, if_neg h1]
    by_cases h2 : n > 16777216
    · rw [if_pos h2, if_pos h2]; exact ⟨3, rfl, by decide, rfl⟩
    · rw [if_neg h2, if_neg h2, may_is, Option.bind_some, if_neg (by simp; omega)]
      exact ⟨20, rfl, by decide, rfl⟩
end Go.Proofs.Ythfgelbbcdgopaa.S
