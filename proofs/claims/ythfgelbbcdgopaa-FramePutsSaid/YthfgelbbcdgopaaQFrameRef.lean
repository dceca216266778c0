/- The reference's widths, codes, PutFrame, PutPacked; and the program's beside them. -/
import Derived.Test.YthfgelbbcdgopaaSx5
import Derived.Test.YthfgelbbcdgopaaSx6
import Derived.Test.YthfgelbbcdgopaaSx2
import Derived.Test.YthfgelbbcdgopaaSx3
import Derived.Test.YthfgelbbcdgopaaSx7
import Derived.Test.YthfgelbbcdgopaaSx10
import Derived.Test.YthfgelbbcdgopaaQRefPack
import Derived.Test.YthfgelbbcdgopaaQFrame2
set_option linter.unusedVariables false
set_option linter.unusedSimpArgs false
namespace Go.Proofs.Ythfgelbbcdgopaa.S
open Go.RowKit Go.Proofs.YthfgelbbcdgopaaV Go.Proofs.YthfgelbbcdgopaaW.PrintWords Go.Proofs.YthfgelbbcdgopaaW.PrintLast Go.Proofs.YthfgelbbcdgopaaW.PrintMore

/-- The least width that all fit. -/
def mw : List Int → Nat
  | [] => 0
  | x :: xs => max (wid x.toNat) (mw xs)
def NN (l : List Int) : Prop := ∀ x ∈ l, 0 ≤ x
theorem mw_le {l : List Int} (h : NN l) (v : Nat) : mw l ≤ v ↔ Fit v l := by
  induction l with
  | nil => exact ⟨fun _ _ h => (by cases h), fun _ => Nat.zero_le _⟩
  | cons x xs ih =>
    have h1 : NN xs := fun y hy => h y (List.mem_cons_of_mem _ hy)
    have h0 : 0 ≤ x := h x List.mem_cons_self
    rw [Fit.cons, mw, ← ih h1, ← wid_le]
    constructor
    · intro h2; exact ⟨⟨h0, by omega⟩, by omega⟩
    · intro h2; omega
theorem mw_append (l m : List Int) : mw (l ++ m) = max (mw l) (mw m) := by
  induction l with
  | nil => simp [mw]
  | cons x xs ih => simp only [List.cons_append, mw, ih]; omega
theorem mw_64 {l : List Int} (h : Fit 64 l) : mw l ≤ 64 := (mw_le (fun x hx => (h x hx).1) 64).2 h
theorem widest_rounds (c : List Int) (hc : Fit 64 c) (hlen : c.length ≤ 9223372036854775806) (d : Nat) : ∀ (k i w : Nat), w ≤ 64 → i ≤ c.length →
    (2 * (c.length - i) + (64 - w) = d → w = mw (c.take i) → d + 1 ≤ k → colonnaderef11_widest.l0 k c (w : Int) (i : Int) = some (mw c : Int)) ∧
    (∀ hi : i < c.length, 2 * (c.length - i) + (64 - w) = d + 1 → mw (c.take i) ≤ w → w ≤ mw (c.take (i + 1)) → d + 1 ≤ k → colonnaderef11_widest.l1 k c (w : Int) (i : Int) = some (mw c : Int)) := by
  induction d using Nat.strongRecOn with
  | _ d ih =>
    intro k i w hw hi
    have hm64 := mw_64 hc
    refine ⟨fun hd hwm hk => ?_, fun hi2 hd h1 h2 hk => ?_⟩
    · obtain ⟨k, rfl⟩ : ∃ m, k = m + 1 := ⟨k - 1, by omega⟩
      rw [colonnaderef11_widest.l0]
      by_cases h : i < c.length
      · rw [if_pos (by omega)]
        have ht := List.take_succ_eq_append_getElem (l := c) (i := i) h
        exact (ih (d - 1) (by omega) k i w hw hi).2 h (by omega) (by omega) (by rw [ht, mw_append]; omega) (by omega)
      · rw [if_neg (by omega), hwm, List.take_of_length_le (by omega)]
    · obtain ⟨k, rfl⟩ : ∃ m, k = m + 1 := ⟨k - 1, by omega⟩
      have hx := hc _ (List.getElem_mem hi2)
      obtain ⟨x, hxe⟩ : ∃ x : Nat, c[i] = (x : Int) := ⟨(c[i]).toNat, by omega⟩
      rw [hxe, Int.toNat_natCast] at hx
      have ht := List.take_succ_eq_append_getElem (l := c) (i := i) hi2
      have hmt : mw (c.take (i + 1)) = max (mw (c.take i)) (wid x) := by rw [ht, mw_append, hxe]; simp [mw]
      have hx64 : wid x ≤ 64 := wid_le.2 hx.2
      rw [colonnaderef11_widest.l1, if_pos (by omega), if_pos (by omega), rd_get hi2, hxe, fits_is x w hw hx.2, Option.bind_some]
      by_cases hf : wid x ≤ w
      · rw [if_pos (by simpa using hf), w64 (by omega) (by omega)]
        by_cases hd0 : d = 0
        · omega
        · exact (ih (d - 1) (by omega) k (i + 1) w hw (by omega)).1 (by omega) (by omega) (by omega)
      · rw [if_neg (by simpa using hf), w64 (by omega) (by omega)]
        exact (ih (d - 1) (by omega) k i (w + 1) (by omega) hi).2 hi2 (by omega) (by omega) (by omega) (by omega)
theorem widest_is (c : List Int) (hc : Fit 64 c) (hlen : c.length ≤ 9223372036854775806) (k : Nat) (hk : 2 * c.length + 66 ≤ k) : colonnaderef11_widest.f k c = some (mw c : Int) :=
  (widest_rounds c hc hlen (2 * c.length + 64) k 0 0 (by omega) (by omega)).1 (by omega) rfl (by omega)
theorem rleast_l0 (l : List Int) (hlen : l.length ≤ 9223372036854775806) (d : Nat) : ∀ (k i : Nat) (m : Int), i + d = l.length → Least (l.take i) m → d + 1 ≤ k →
    ∃ r, colonnaderef11_least.l0 k l m (i : Int) = some r ∧ Least l r := by
  induction d with
  | zero =>
    intro k i m hi h1 hk
    obtain ⟨k, rfl⟩ : ∃ m, k = m + 1 := ⟨k - 1, by omega⟩
    rw [List.take_of_length_le (by omega)] at h1
    rw [colonnaderef11_least.l0, if_neg (by omega)]
    exact ⟨m, rfl, h1⟩
  | succ d ih =>
    intro k i m hi h1 hk
    obtain ⟨k, rfl⟩ : ∃ m, k = m + 1 := ⟨k - 1, by omega⟩
    have hi2 : i < l.length := by omega
    have ht := List.take_succ_eq_append_getElem (l := l) (i := i) hi2
    have hlt : (l.take i).length = i := by rw [List.length_take]; omega
    rw [colonnaderef11_least.l0, if_pos (by omega), rd_get hi2, w64 (by omega) (by omega)]
    by_cases h0 : (i : Int) = 0
    · rw [if_pos h0, if_pos (by omega)]
      refine ih k (i + 1) l[i] (by omega) ?_ (by omega)
      have : l.take i = [] := List.eq_nil_of_length_eq_zero (by omega)
      rw [ht, this]
      exact .inr ⟨List.mem_singleton.2 rfl, fun x hx => by rw [List.mem_singleton.1 hx]; exact Int.le_refl _⟩
    · rw [if_neg h0, if_pos (by omega)]
      rcases h1 with ⟨h2, _⟩ | ⟨h2, h3⟩
      · rw [h2] at hlt; simp at hlt; omega
      · by_cases h4 : l[i] < m
        · rw [if_pos h4]
          refine ih k (i + 1) l[i] (by omega) (.inr ?_) (by omega)
          rw [ht]
          refine ⟨List.mem_append.2 (.inr (List.mem_singleton.2 rfl)), fun x hx => ?_⟩
          rcases List.mem_append.1 hx with hx | hx
          · have := h3 x hx; omega
          · rw [List.mem_singleton.1 hx]; exact Int.le_refl _
        · rw [if_neg h4]
          refine ih k (i + 1) m (by omega) (.inr ?_) (by omega)
          rw [ht]
          refine ⟨List.mem_append.2 (.inl h2), fun x hx => ?_⟩
          rcases List.mem_append.1 hx with hx | hx
          · exact h3 x hx
          · rw [List.mem_singleton.1 hx]; omega
theorem rleast_is (l : List Int) (hlen : l.length ≤ 9223372036854775806) (m : Int) (hm : Least l m) (k : Nat) (hk : l.length + 1 ≤ k) : colonnaderef11_least.f k l = some m := by
  obtain ⟨r, h1, h2⟩ := rleast_l0 l hlen l.length k 0 0 (by omega) (.inl ⟨rfl, rfl⟩) hk
  rw [h2.uniq hm] at h1
  exact h1
theorem rdrop_is {a v : Int} (ha : I64 a) (hv : I64 v) : colonnaderef11_Drop.f a v = some (if v < a then (0, false) else (v - a, true)) := drop_is ha hv
theorem rcodes_l0 (l : List Int) (hl : I64s l) (m : Int) (hm : I64 m) (hle : ∀ x ∈ l, m ≤ x) (hlen : l.length ≤ 17592186044415) (d : Nat) : ∀ (k i : Nat), i + d = l.length → d + 1 ≤ k →
    colonnaderef11_codes.l0 k l m (codesOf m (l.take i)) (i : Int) = some (codesOf m l) := by
  induction d with
  | zero =>
    intro k i hi hk
    obtain ⟨k, rfl⟩ : ∃ m, k = m + 1 := ⟨k - 1, by omega⟩
    rw [colonnaderef11_codes.l0, if_neg (by omega), List.take_of_length_le (by omega)]
  | succ d ih =>
    intro k i hi hk
    obtain ⟨k, rfl⟩ : ∃ m, k = m + 1 := ⟨k - 1, by omega⟩
    have hi2 : i < l.length := by omega
    have hmem : l[i]'hi2 ∈ l := List.getElem_mem _
    have hlt : (codesOf m (l.take i)).length = i := by rw [codesOf_length, List.length_take]; omega
    have hge := hle _ hmem
    rw [colonnaderef11_codes.l0, if_pos (by omega), if_pos (by omega), rd_get hi2, rdrop_is hm (hl _ hmem), if_neg (by omega), Option.bind_some]
    rw [if_pos (by omega), w64 (by omega) (by omega)]
    have ht : codesOf m (l.take i) ++ [l[i] - m] = codesOf m (l.take (i + 1)) := by
      rw [List.take_succ_eq_append_getElem hi2]; unfold codesOf; rw [List.map_append]; rfl
    rw [ht]
    exact ih k (i + 1) (by omega) (by omega)
theorem Least.le {l : List Int} {m : Int} (h : Least l m) : ∀ x ∈ l, m ≤ x := by
  rcases h with ⟨h1, _⟩ | ⟨_, h2⟩
  · subst h1; intro x hx; cases hx
  · exact h2
theorem rcodes_is (l : List Int) (hl : I64s l) (m : Int) (hm : Least l m) (hlen : l.length ≤ 17592186044415) (k : Nat) (hk : l.length + 1 ≤ k) : colonnaderef11_codes.f k l = some (codesOf m l) := by
  unfold colonnaderef11_codes.f
  rw [rleast_is l (by omega) m hm k hk, Option.bind_some]
  exact rcodes_l0 l hl m (hm.i64 hl) hm.le hlen l.length k 0 (by omega) hk
theorem rframewidth_is (l : List Int) (hl : I64s l) (m : Int) (hm : Least l m) (hlen : l.length ≤ 17592186044415) (k : Nat) (hk : 2 * l.length + 66 ≤ k) : colonnaderef11_FrameWidth.f k l = some (mw (codesOf m l) : Int) := by
  unfold colonnaderef11_FrameWidth.f
  rw [rcodes_is l hl m hm hlen k (by omega), Option.bind_some, widest_is _ (codes_fit64 hl (hm.i64 hl) hm.le) (by rw [codesOf_length]; omega) k (by rw [codesOf_length]; omega), Option.bind_some]
theorem max_l0 (l : List Int) (hlen : l.length ≤ 9223372036854775806) (d : Nat) : ∀ (k i : Nat) (m : Int), i + d = l.length → m ∈ l.take i → (∀ x ∈ l.take i, x ≤ m) → d + 1 ≤ k →
    ∃ r, slices_Max_int64_int64.l0 k l m (i : Int) = some r ∧ r ∈ l ∧ ∀ x ∈ l, x ≤ r := by
  induction d with
  | zero =>
    intro k i m hi h1 h2 hk
    obtain ⟨k, rfl⟩ : ∃ m, k = m + 1 := ⟨k - 1, by omega⟩
    rw [List.take_of_length_le (by omega)] at h1 h2
    rw [slices_Max_int64_int64.l0, if_neg (by omega)]
    exact ⟨m, rfl, h1, h2⟩
  | succ d ih =>
    intro k i m hi h1 h2 hk
    obtain ⟨k, rfl⟩ : ∃ m, k = m + 1 := ⟨k - 1, by omega⟩
    rw [slices_Max_int64_int64.l0, if_pos (by omega), if_pos (by omega), rd_get (show i < l.length by omega), w64 (by omega) (by omega)]
    have ht := List.take_succ_eq_append_getElem (l := l) (i := i) (by omega)
    have hmn : mx m l[i] = m ∧ l[i] ≤ m ∨ mx m l[i] = l[i] ∧ m < l[i] := by unfold mx; split <;> omega
    refine ih k (i + 1) _ (by omega) ?_ ?_ (by omega)
    · rw [ht, List.mem_append]
      rcases hmn with ⟨e, _⟩ | ⟨e, _⟩
      · rw [e]; exact .inl h1
      · rw [e]; exact .inr (List.mem_singleton.2 rfl)
    · rw [ht]
      intro x hx
      rcases List.mem_append.1 hx with hx | hx
      · have := h2 x hx
        rcases hmn with ⟨e, _⟩ | ⟨e, _⟩ <;> omega
      · have := List.mem_singleton.1 hx
        rcases hmn with ⟨e, _⟩ | ⟨e, _⟩ <;> omega
theorem max_is (l : List Int) (h0 : 0 < l.length) (hlen : l.length ≤ 9223372036854775806) (k : Nat) (hk : l.length + 1 ≤ k) : ∃ r, slices_Max_int64_int64.f k l = some r ∧ r ∈ l ∧ ∀ x ∈ l, x ≤ r := by
  unfold slices_Max_int64_int64.f
  rw [if_neg (by omega), if_pos (by omega), show (0 : Int) = ((0 : Nat) : Int) from rfl, rd_get h0]
  have ht : l.take 1 = [l[0]] := by rw [List.take_succ_eq_append_getElem h0]; rfl
  exact max_l0 l hlen (l.length - 1) k 1 l[0] (by omega) (by rw [ht]; exact List.mem_singleton.2 rfl) (by rw [ht]; intro x hx; rw [List.mem_singleton.1 hx]; exact Int.le_refl _) (by omega)
theorem wid_eq_mw {c : List Int} (hc : NN c) {x : Nat} (h1 : (x : Int) ∈ c) (h2 : ∀ y ∈ c, y ≤ (x : Int)) : wid x = mw c := by
  have key : ∀ v, wid x ≤ v ↔ mw c ≤ v := by
    intro v
    rw [mw_le hc, wid_le]
    constructor
    · intro h y hy
      have h3 := h2 y hy
      have h4 := hc y hy
      exact ⟨h4, by omega⟩
    · intro h
      have := (h _ h1).2
      rwa [Int.toNat_natCast] at this
  have a := (key (wid x)).1 (Nat.le_refl _)
  have b := (key (mw c)).2 (Nat.le_refl _)
  omega
theorem framewidth_is (l : List Int) (hl : I64s l) (m : Int) (hm : Least l m) (hlen : l.length ≤ 9223372036854775806) (k : Nat) (hk : l.length + 2 ≤ k) : frame_FrameWidth.f k l = some (mw (codesOf m l) : Int) := by
  unfold frame_FrameWidth.f
  by_cases h : (l.length : Int) = 0
  · rw [if_pos h]
    have : l = [] := List.eq_nil_of_length_eq_zero (by omega)
    subst this; rfl
  · rw [if_neg h]
    obtain ⟨a, a1, a2, a3⟩ := min_is l (by omega) hlen k (by omega)
    obtain ⟨b, b1, b2, b3⟩ := max_is l (by omega) hlen k (by omega)
    have hea : a = m := Least.uniq (.inr ⟨a2, a3⟩) hm
    subst hea
    have hia := hl a a2
    have hib := hl b b2
    have hab := a3 b b2
    obtain ⟨i1, i2⟩ := hia
    obtain ⟨i3, i4⟩ := hib
    rw [a1, Option.bind_some, b1, Option.bind_some, drop_is ⟨i1, i2⟩ ⟨i3, i4⟩, if_neg (by omega), Option.bind_some]
    obtain ⟨x, hx⟩ : ∃ x : Nat, b - a = (x : Int) := ⟨(b - a).toNat, by omega⟩
    obtain ⟨k, rfl⟩ : ∃ m, k = m + 1 := ⟨k - 1, by omega⟩
    rw [hx, width_is k x (by omega), Option.bind_some]
    congr 2
    refine wid_eq_mw (fun y hy => ?_) ?_ (fun y hy => ?_)
    · simp only [codesOf, List.mem_map] at hy
      obtain ⟨z, hz, rfl⟩ := hy
      have := a3 z hz; omega
    · simp only [codesOf, List.mem_map]
      exact ⟨b, b2, hx⟩
    · simp only [codesOf, List.mem_map] at hy
      obtain ⟨z, hz, rfl⟩ := hy
      have := b3 z hz; omega
/-- What both packed widths are. -/
theorem packedwidth_is (l : List Int) (hl : I64s l) (hlen : l.length ≤ 9223372036854775806) (k : Nat) (hk : l.length + 2 ≤ k) :
    (NN l → frame_PackedWidth.f k l = some ((mw l : Int), true)) ∧ (¬ NN l → frame_PackedWidth.f k l = some (0, false)) := by
  obtain ⟨m, hb, hm⟩ := base_is l hlen k (by omega)
  unfold frame_PackedWidth.f
  rw [hb, Option.bind_some]
  by_cases h0 : m < 0
  · rw [if_pos h0]
    refine ⟨fun h => ?_, fun _ => rfl⟩
    exfalso
    rcases hm with ⟨_, h2⟩ | ⟨h1, _⟩
    · omega
    · have := h m h1; omega
  · rw [if_neg h0]
    have hnn : NN l := fun x hx => by have := hm.le x hx; omega
    refine ⟨fun _ => ?_, fun h => absurd hnn h⟩
    by_cases h : (l.length : Int) = 0
    · rw [if_pos h]
      have : l = [] := List.eq_nil_of_length_eq_zero (by omega)
      subst this; rfl
    · rw [if_neg h]
      obtain ⟨b, b1, b2, b3⟩ := max_is l (by omega) hlen k (by omega)
      have hib := hl b b2
      have hb0 := hnn b b2
      obtain ⟨i3, i4⟩ := hib
      obtain ⟨x, rfl⟩ := Int.eq_ofNat_of_zero_le hb0
      obtain ⟨k, rfl⟩ : ∃ m, k = m + 1 := ⟨k - 1, by omega⟩
      rw [b1, Option.bind_some, wrap_u64, show (x : Int) % 18446744073709551616 = (x : Int) by omega, width_is k x (by omega), Option.bind_some, wid_eq_mw hnn b2 b3]
theorem nn_fit64 {l : List Int} (hl : I64s l) (hn : NN l) : Fit 64 l := fun x hx => by
  obtain ⟨h1, h2⟩ := hl x hx
  have := hn x hx
  exact ⟨this, by omega⟩
theorem rpackedwidth_l0 (l : List Int) (hl : I64s l) (hlen : l.length ≤ 17592186044415) (d : Nat) : ∀ (k i : Nat), i + d = l.length → NN (l.take i) → d + 2 * l.length + 67 ≤ k →
    (NN l → colonnaderef11_PackedWidth.l0 k l (l.take i) (i : Int) = some ((mw l : Int), true)) ∧ (¬ NN l → colonnaderef11_PackedWidth.l0 k l (l.take i) (i : Int) = some (0, false)) := by
  induction d with
  | zero =>
    intro k i hi hn hk
    obtain ⟨k, rfl⟩ : ∃ m, k = m + 1 := ⟨k - 1, by omega⟩
    rw [List.take_of_length_le (by omega)] at hn ⊢
    rw [colonnaderef11_PackedWidth.l0, if_neg (by omega), widest_is l (nn_fit64 hl hn) (by omega) k (by omega), Option.bind_some]
    exact ⟨fun _ => rfl, fun h => absurd hn h⟩
  | succ d ih =>
    intro k i hi hn hk
    obtain ⟨k, rfl⟩ : ∃ m, k = m + 1 := ⟨k - 1, by omega⟩
    have hi2 : i < l.length := by omega
    have hmem : l[i]'hi2 ∈ l := List.getElem_mem _
    have hlt : (l.take i).length = i := by rw [List.length_take]; omega
    rw [colonnaderef11_PackedWidth.l0, if_pos (by omega), if_pos (by omega), rd_get hi2]
    by_cases h0 : l[i] < 0
    · rw [if_pos h0]
      exact ⟨fun h => by have := h _ hmem; omega, fun _ => rfl⟩
    · obtain ⟨h1, h2⟩ := hl _ hmem
      rw [if_neg h0, if_pos (by omega), w64 (by omega) (by omega), wrap_u64, show l[i] % 18446744073709551616 = l[i] by omega, ← List.take_succ_eq_append_getElem hi2]
      refine ih k (i + 1) (by omega) ?_ (by omega)
      rw [List.take_succ_eq_append_getElem hi2]
      intro x hx
      rcases List.mem_append.1 hx with hx | hx
      · exact hn x hx
      · rw [List.mem_singleton.1 hx]; omega
theorem rpackedwidth_is (l : List Int) (hl : I64s l) (hlen : l.length ≤ 17592186044415) (k : Nat) (hk : 3 * l.length + 67 ≤ k) :
    (NN l → colonnaderef11_PackedWidth.f k l = some ((mw l : Int), true)) ∧ (¬ NN l → colonnaderef11_PackedWidth.f k l = some (0, false)) := by
  unfold colonnaderef11_PackedWidth.f
  exact rpackedwidth_l0 l hl hlen l.length k 0 (by omega) (fun _ h => by cases h) (by omega)
theorem mod64 {n : Nat} (h : n < 18446744073709551616) : (n : Int) % 18446744073709551616 = (n : Int) := by omega
theorem mod8 {n : Nat} (h : n < 256) : (n : Int) % 256 = (n : Int) := by omega
theorem fixed_l0 (u : Nat) (hu : u < 2 ^ 64) (d : Nat) : ∀ (k i : Nat), i + d = 8 → d + 1 ≤ k → colonnaderef08_Fixed.l0 k ((u / 2 ^ (8 * i) : Nat) : Int) 8 (le8 u i) (i : Int) = some (le8 u 8) := by
  induction d with
  | zero =>
    intro k i hi hk
    obtain ⟨k, rfl⟩ : ∃ m, k = m + 1 := ⟨k - 1, by omega⟩
    obtain rfl : i = 8 := by omega
    rw [colonnaderef08_Fixed.l0, if_neg (by omega)]
  | succ d ih =>
    intro k i hi hk
    obtain ⟨k, rfl⟩ : ∃ m, k = m + 1 := ⟨k - 1, by omega⟩
    have hlt : u / 2 ^ (8 * i) < 2 ^ 64 := Nat.lt_of_le_of_lt (Nat.div_le_self _ _) hu
    have hdd : u / 2 ^ (8 * i) / 256 = u / 2 ^ (8 * (i + 1)) := by rw [Nat.div_div_eq_div_mul, show (256 : Nat) = 2 ^ 8 from rfl, ← Nat.pow_add, show 8 * i + 8 = 8 * (i + 1) by omega]
    rw [colonnaderef08_Fixed.l0, if_pos (by omega), if_pos (by rw [le8_length]; omega), show Int.tdiv ((u / 2 ^ (8 * i) : Nat) : Int) 256 = ((u / 2 ^ (8 * i) / 256 : Nat) : Int) from tdiv_nat _ 256, show Int.tmod ((u / 2 ^ (8 * i) : Nat) : Int) 256 = ((u / 2 ^ (8 * i) % 256 : Nat) : Int) from tmod_nat _ 256, w64 (by omega) (by omega)]
    rw [wrap_u64, mod64 (Nat.lt_of_le_of_lt (Nat.div_le_self _ _) hlt), mod8 (Nat.mod_lt _ (by decide)), ← le8_succ, hdd]
    exact ih k (i + 1) (by omega) (by omega)
theorem putints_one (m : Int) (k : Nat) (hk : 12 ≤ k) : colonnaderef08_PutInts.f k [m] = some (le8 (word m) 8) := by
  obtain ⟨k, rfl⟩ : ∃ q, k = q + 2 := ⟨k - 2, by omega⟩
  have hu : IntKind.u64.wrap m = (word m : Int) := by rw [wrap_u64]; unfold word; omega
  have hw : word m < 2 ^ 64 := by unfold word; omega
  have hf := fixed_l0 (word m) hw 8 (k + 1) 0 rfl (by omega)
  have e0 : word m / 2 ^ (8 * 0) = word m := by simp
  rw [e0] at hf
  unfold colonnaderef08_PutInts.f
  rw [colonnaderef08_PutInts.l0, if_pos (by simp), if_pos (by decide), show rd [m] 0 = m from rfl, hu]
  unfold colonnaderef08_Fixed.f
  rw [show (le8 (word m) 0) = ([] : List Int) from rfl, show ((0 : Nat) : Int) = 0 from rfl] at hf
  rw [hf, Option.bind_some, if_pos (by rw [le8_length]; decide), w64 (by decide) (by decide), List.nil_append, colonnaderef08_PutInts.l0, if_neg (by simp)]
end Go.Proofs.Ythfgelbbcdgopaa.S
