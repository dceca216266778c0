/- What the statements of layer 2 make of their numbers; the first calls. -/
import Derived.Test.YtigjihomdnkepaaSx4
import Derived.Test.YtigjihomdnkepaaSx3
import Derived.Test.YtigjihomdnkepaaSx5
import Derived.Test.YtigjihomdnkepaaQWord
import Derived.Test.YtigjihomdnkepaaVL
set_option linter.unusedVariables false
set_option linter.unusedSimpArgs false
namespace Go.Proofs.Ytigjihomdnkepaa.S
open Go.RowKit Go.Proofs.YtigjihomdnkepaaV Go.Proofs.YtigjihomdnkepaaW.PrintWords Go.Proofs.YtigjihomdnkepaaW.PrintLast Go.Proofs.YtigjihomdnkepaaW.PrintMore

def fitL (w : Nat) (l : List Int) : List Int := l.map fun x => ((x.toNat % 2 ^ w : Nat) : Int)
theorem fitL_length (w : Nat) (l : List Int) : (fitL w l).length = l.length := by simp [fitL]
theorem fitL_fit (w : Nat) (l : List Int) : Fit w (fitL w l) := by
  intro x hx
  simp only [fitL, List.mem_map] at hx
  obtain ⟨y, _, rfl⟩ := hx
  exact ⟨Int.natCast_nonneg _, by rw [Int.toNat_natCast]; exact Nat.mod_lt _ (Nat.two_pow_pos _)⟩
theorem fit_up {w v : Nat} (h : w ≤ v) {l : List Int} (hl : Fit w l) : Fit v l := fun x hx => ⟨(hl x hx).1, Nat.lt_of_lt_of_le (hl x hx).2 (Nat.pow_le_pow_right (by decide) h)⟩
theorem fitL_succ (w : Nat) (l : List Int) (i : Nat) (hi : i < l.length) : fitL w (l.take (i + 1)) = fitL w (l.take i) ++ [(((l.getD i 0).toNat % 2 ^ w : Nat) : Int)] := by
  rw [List.take_succ_eq_append_getElem hi, List.getD_eq_getElem?_getD, List.getElem?_eq_getElem hi]
  unfold fitL
  rw [List.map_append]
  rfl
theorem fit_l0 (l : List Int) (hl : Fit 64 l) (hlen : l.length ≤ 9223372036854775807) (w : Nat) (hw : w ≤ 64) (d : Nat) : ∀ (k i : Nat), i + d = min l.length 1048576 → 2 * d + 2 ≤ k →
    colonnadelaw02_fit.l0 k l (w : Int) (fitL w (l.take i)) (i : Int) = some (fitL w (l.take 1048576), (w : Int)) := by
  induction d with
  | zero =>
    intro k i hi hk
    obtain ⟨k, rfl⟩ : ∃ m, k = m + 2 := ⟨k - 2, by omega⟩
    have he : l.take i = l.take 1048576 := by
      by_cases h : l.length ≤ 1048576
      · rw [List.take_of_length_le (by omega), List.take_of_length_le h]
      · rw [show i = 1048576 by omega]
    rw [colonnadelaw02_fit.l0]
    by_cases h : (i : Int) < (l.length : Int)
    · rw [if_pos h, show decide ((i : Int) < 1048576) = false from decide_eq_false (by omega), colonnadelaw02_fit.j2, if_neg (by decide), he]
    · rw [if_neg h, colonnadelaw02_fit.j2, if_neg (by decide), he]
  | succ d ih =>
    intro k i hi hk
    obtain ⟨k, rfl⟩ : ∃ m, k = m + 2 := ⟨k - 2, by omega⟩
    rw [colonnadelaw02_fit.l0, if_pos (by omega), show decide ((i : Int) < 1048576) = true from decide_eq_true (by omega), colonnadelaw02_fit.j2, if_pos rfl, if_pos (by omega), if_pos (by omega)]
    have hx := hl.get i
    obtain ⟨x, hxe⟩ : ∃ x : Nat, l.getD i 0 = (x : Int) := ⟨(l.getD i 0).toNat, by omega⟩
    have hrd : rd l (i : Int) = (x : Int) := by unfold rd; rw [Int.toNat_natCast, hxe]
    rw [hxe, Int.toNat_natCast] at hx
    have hs := fitL_succ w l i (by omega)
    rw [hxe, Int.toNat_natCast] at hs
    have hlen2 : (fitL w (l.take i)).length ≤ 1048576 := by rw [fitL_length, List.length_take]; omega
    rw [hrd, w64 (n := (i : Int) + 1) (by omega) (by omega)]
    by_cases h : (w : Int) < 64
    · have h1 : 2 ^ w < 2 ^ 64 := Nat.pow_lt_pow_right (by decide) (by omega)
      have h2 := Nat.two_pow_pos w
      rw [if_pos h, wrap_u64, show (w : Int) % 18446744073709551616 = (w : Int) by omega, if_pos (by omega), if_pos (by omega), show (1 : Int) = ((1 : Nat) : Int) from rfl, shl_u64' (by omega), wrap_u64, Nat.one_mul, Nat.mod_eq_of_lt (show 2 ^ w < 18446744073709551616 from h1)]
      rw [show (((2 ^ w : Nat) : Int) - ((1 : Nat) : Int)) % 18446744073709551616 = ((2 ^ w - 1 : Nat) : Int) by omega, and_u64 (by omega) (by omega), and_mask, ← hs]
      exact ih k (i + 1) (by omega) (by omega)
    · rw [if_neg h, if_pos (by omega)]
      have hw64 : w = 64 := by omega
      rw [Nat.mod_eq_of_lt (show x < 2 ^ w by rw [hw64]; exact hx.2)] at hs
      rw [← hs]
      exact ih k (i + 1) (by omega) (by omega)
theorem fit_is (l : List Int) (hl : Fit 64 l) (hlen : l.length ≤ 9223372036854775807) (a : Int) (k : Nat) (hk : 2097160 ≤ k) :
    ∃ w : Nat, w ≤ 64 ∧ (w : Int) = a % 65 ∧ colonnadelaw02_fit.f k l a = some (fitL w (l.take 1048576), (w : Int)) := by
  obtain ⟨k, rfl⟩ : ∃ m, k = m + 1 := ⟨k - 1, by omega⟩
  have h0 : 0 ≤ a % 65 := Int.emod_nonneg _ (by decide)
  have h1 : a % 65 < 65 := Int.emod_lt_of_pos _ (by decide)
  obtain ⟨w, hw⟩ := Int.eq_ofNat_of_zero_le h0
  refine ⟨w, by omega, hw.symm, ?_⟩
  have key := fit_l0 l hl hlen w (by omega) (min l.length 1048576) k 0 (by omega) (by omega)
  unfold colonnadelaw02_fit.f
  have ht : Int.tmod a 65 = a % 65 ∨ Int.tmod a 65 = a % 65 - 65 := by
    rcases Int.le_total 0 a with h | h
    · exact .inl (Int.tmod_eq_emod_of_nonneg h)
    · have h2 := Int.tmod_def a 65
      have h3 := Int.neg_tmod a 65
      have h4 : Int.tmod (-a) 65 = (-a) % 65 := Int.tmod_eq_emod_of_nonneg (by omega)
      omega
  have ht2 : Int.tmod a 65 < 0 ∧ Int.tmod a 65 = a % 65 - 65 ∨ ¬ Int.tmod a 65 < 0 ∧ Int.tmod a 65 = a % 65 := by
    rcases Int.le_total 0 a with h | h
    · right; rw [Int.tmod_eq_emod_of_nonneg h]; omega
    · have h3 := Int.neg_tmod a 65
      have h4 : Int.tmod (-a) 65 = (-a) % 65 := Int.tmod_eq_emod_of_nonneg (by omega)
      omega
  rcases ht2 with ⟨h2, h3⟩ | ⟨h2, h3⟩
  · rw [if_pos h2, h3, w64 (by omega) (by omega), show a % 65 - 65 + 65 = (w : Int) by omega, colonnadelaw02_fit.j0]
    exact key
  · rw [if_neg h2, h3, hw, colonnadelaw02_fit.j0]
    exact key
theorem awake_60 : colonnadelaw02_awake.f 60 = some true := by decide +kernel
theorem awake_is (k : Nat) (hk : 60 ≤ k) : colonnadelaw02_awake.f k = some true := at_rounds (g := fun k => colonnadelaw02_awake.f k) (fun k => colonnadelaw02_awake.mono k) hk awake_60
theorem same_l0 (l : List Int) (hlen : l.length ≤ 9223372036854775806) (d : Nat) : ∀ (k i : Nat), i + d = l.length → d + 1 ≤ k → colonnaderef02_Same.l0 k l l (i : Int) = some true := by
  induction d with
  | zero =>
    intro k i hi hk
    obtain ⟨k, rfl⟩ : ∃ m, k = m + 1 := ⟨k - 1, by omega⟩
    rw [colonnaderef02_Same.l0, if_neg (by omega)]
  | succ d ih =>
    intro k i hi hk
    obtain ⟨k, rfl⟩ : ∃ m, k = m + 1 := ⟨k - 1, by omega⟩
    rw [colonnaderef02_Same.l0, if_pos (by omega), if_pos (by omega), if_pos (by omega), if_pos rfl, w64 (by omega) (by omega)]
    exact ih k (i + 1) (by omega) (by omega)
theorem same_is (l : List Int) (hlen : l.length ≤ 9223372036854775806) (k : Nat) (hk : l.length + 1 ≤ k) : colonnaderef02_Same.f k l l = some true := by
  unfold colonnaderef02_Same.f
  rw [if_pos rfl]
  exact same_l0 l hlen l.length k 0 (by omega) hk
theorem Fit.of_wf {l : List Int} (h : ∀ x ∈ l, (Lit.int .u64 x).wf = true) : Fit 64 l := fun x hx => by
  have := wf_u64.1 (h x hx)
  exact ⟨this.1, by omega⟩
end Go.Proofs.Ytigjihomdnkepaa.S
