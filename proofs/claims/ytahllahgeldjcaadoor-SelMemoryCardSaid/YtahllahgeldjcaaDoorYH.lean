/- Seat bits: the law BitsAlgebra, over the abstract machine (written by genYH.py). -/
import Derived.Test.YtahllahgeldjcaaDoorYG
namespace Go.Ax
set_option linter.unusedVariables false
set_option linter.unusedSimpArgs false

theorem cnt_and_or (f g u v : Nat → Bool) (hu : ∀ i, u i = (f i && g i)) (hv : ∀ i, v i = (f i || g i)) : ∀ n, cnt u n + cnt v n = cnt f n + cnt g n
  | 0 => rfl
  | n + 1 => by
    have := cnt_and_or f g u v hu hv n
    simp only [cnt, hu, hv]
    cases f n <;> cases g n <;> simp <;> omega

theorem cnt_all {f : Nat → Bool} : ∀ {n : Nat}, (∀ i, i < n → f i = true) → cnt f n = n
  | 0, _ => rfl
  | n + 1, h => by simp only [cnt]; rw [cnt_all fun i hi => h i (by omega), h n (by omega)]; rfl

theorem canon_zero {n : Nat} (hn : n ≤ 16777216) : Canon n (List.replicate ((n + 63) / 64) 0) ∧ ∀ i, bit (List.replicate ((n + 63) / 64) (0 : BitVec 64)) i = false := by
  have key : ∀ i, bit (List.replicate ((n + 63) / 64) (0 : BitVec 64)) i = false := by
    intro i
    have : word (List.replicate ((n + 63) / 64) 0) (i / 64) = 0#64 := by
      unfold word
      rw [List.getD_eq_getElem?_getD, List.getElem?_replicate]
      split <;> rfl
    unfold bit; rw [this]; simp
  exact ⟨⟨by simp, hn, fun i _ => key i⟩, key⟩

end Go.Ax
