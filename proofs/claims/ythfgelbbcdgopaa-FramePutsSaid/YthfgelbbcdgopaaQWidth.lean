/- Width: how many bits a number needs, the program's. -/
import Derived.Test.YthfgelbbcdgopaaSx7
import Derived.Test.YthfgelbbcdgopaaVB
namespace Go.Proofs.Ythfgelbbcdgopaa.S
open Go.RowKit Go.Proofs.YthfgelbbcdgopaaV Go.Proofs.YthfgelbbcdgopaaW.PrintWords Go.Proofs.YthfgelbbcdgopaaW.PrintLast Go.Proofs.YthfgelbbcdgopaaW.PrintMore

def wid (v : Nat) : Nat := if v = 0 then 0 else v.log2 + 1
theorem wid_le {v n : Nat} : wid v ≤ n ↔ v < 2 ^ n := by
  unfold wid
  split
  · rename_i h; subst h; simp [Nat.two_pow_pos]
  · rename_i h; rw [← Nat.log2_lt h]; omega
theorem wid_div {v s : Nat} (h : 2 ^ s ≤ v) : wid v = wid (v / 2 ^ s) + s := by
  have key : ∀ n, wid v ≤ n ↔ wid (v / 2 ^ s) + s ≤ n := by
    intro n
    rw [wid_le]
    by_cases hs : s ≤ n
    · rw [show (wid (v / 2 ^ s) + s ≤ n) ↔ wid (v / 2 ^ s) ≤ n - s by omega, wid_le, Nat.div_lt_iff_lt_mul (Nat.two_pow_pos s), ← Nat.pow_add, show n - s + s = n by omega]
    · have := Nat.pow_le_pow_right (show 0 < 2 by decide) (show n ≤ s by omega)
      omega
  have h1 := (key (wid v)).1 (Nat.le_refl _)
  have h2 := (key (wid (v / 2 ^ s) + s)).2 (Nat.le_refl _)
  omega
theorem tab8 : ∀ i : Fin 256, bt (⟨#[0, 1, 2, 2, 3, 3, 3, 3, 4, 4, 4, 4, 4, 4, 4, 4, 5, 5, 5, 5, 5, 5, 5, 5, 5, 5, 5, 5, 5, 5, 5, 5, 6, 6, 6, 6, 6, 6, 6, 6, 6, 6, 6, 6, 6, 6, 6, 6, 6, 6, 6, 6, 6, 6, 6, 6, 6, 6, 6, 6, 6, 6, 6, 6, 7, 7, 7, 7, 7, 7, 7, 7, 7, 7, 7, 7, 7, 7, 7, 7, 7, 7, 7, 7, 7, 7, 7, 7, 7, 7, 7, 7, 7, 7, 7, 7, 7, 7, 7, 7, 7, 7, 7, 7, 7, 7, 7, 7, 7, 7, 7, 7, 7, 7, 7, 7, 7, 7, 7, 7, 7, 7, 7, 7, 7, 7, 7, 7, 8, 8, 8, 8, 8, 8, 8, 8, 8, 8, 8, 8, 8, 8, 8, 8, 8, 8, 8, 8, 8, 8, 8, 8, 8, 8, 8, 8, 8, 8, 8, 8, 8, 8, 8, 8, 8, 8, 8, 8, 8, 8, 8, 8, 8, 8, 8, 8, 8, 8, 8, 8, 8, 8, 8, 8, 8, 8, 8, 8, 8, 8, 8, 8, 8, 8, 8, 8, 8, 8, 8, 8, 8, 8, 8, 8, 8, 8, 8, 8, 8, 8, 8, 8, 8, 8, 8, 8, 8, 8, 8, 8, 8, 8, 8, 8, 8, 8, 8, 8, 8, 8, 8, 8, 8, 8, 8, 8, 8, 8, 8, 8, 8, 8, 8, 8, 8, 8, 8, 8, 8, 8, 8, 8, 8, 8, 8, 8]⟩ : ByteArray) (i.val : Int) = (wid i.val : Int) := by decide +kernel
theorem bt_tab {i : Int} (h0 : 0 ≤ i) (h1 : i < 256) : bt (⟨#[0, 1, 2, 2, 3, 3, 3, 3, 4, 4, 4, 4, 4, 4, 4, 4, 5, 5, 5, 5, 5, 5, 5, 5, 5, 5, 5, 5, 5, 5, 5, 5, 6, 6, 6, 6, 6, 6, 6, 6, 6, 6, 6, 6, 6, 6, 6, 6, 6, 6, 6, 6, 6, 6, 6, 6, 6, 6, 6, 6, 6, 6, 6, 6, 7, 7, 7, 7, 7, 7, 7, 7, 7, 7, 7, 7, 7, 7, 7, 7, 7, 7, 7, 7, 7, 7, 7, 7, 7, 7, 7, 7, 7, 7, 7, 7, 7, 7, 7, 7, 7, 7, 7, 7, 7, 7, 7, 7, 7, 7, 7, 7, 7, 7, 7, 7, 7, 7, 7, 7, 7, 7, 7, 7, 7, 7, 7, 7, 8, 8, 8, 8, 8, 8, 8, 8, 8, 8, 8, 8, 8, 8, 8, 8, 8, 8, 8, 8, 8, 8, 8, 8, 8, 8, 8, 8, 8, 8, 8, 8, 8, 8, 8, 8, 8, 8, 8, 8, 8, 8, 8, 8, 8, 8, 8, 8, 8, 8, 8, 8, 8, 8, 8, 8, 8, 8, 8, 8, 8, 8, 8, 8, 8, 8, 8, 8, 8, 8, 8, 8, 8, 8, 8, 8, 8, 8, 8, 8, 8, 8, 8, 8, 8, 8, 8, 8, 8, 8, 8, 8, 8, 8, 8, 8, 8, 8, 8, 8, 8, 8, 8, 8, 8, 8, 8, 8, 8, 8, 8, 8, 8, 8, 8, 8, 8, 8, 8, 8, 8, 8, 8, 8, 8, 8, 8, 8]⟩ : ByteArray) i = (wid i.toNat : Int) := by
  obtain ⟨n, rfl⟩ := Int.eq_ofNat_of_zero_le h0
  exact tab8 ⟨n, by omega⟩
theorem len_j0 (k : Nat) (v : Nat) (b : Int) (hv : v < 2 ^ 32) (hb : 0 ≤ b) (hb2 : b ≤ 32) : bits_Len64.j0 (k + 1) (v : Int) b = some (b + (wid v : Int)) := by
  have hw : ∀ x : Nat, x < 256 → wid x ≤ 8 := fun x hx => wid_le.2 (by omega)
  rw [bits_Len64.j0]
  by_cases h1 : (v : Int) ≥ 65536
  · rw [if_pos h1]
    have e1 := wid_div (v := v) (s := 16) (by omega)
    by_cases h2 : (v : Int) / 65536 ≥ 256
    · have e2 := wid_div (v := v / 2 ^ 16) (s := 8) (by omega)
      rw [if_pos h2, if_pos (by omega), if_pos (by omega), bt_tab (by omega) (by omega)]
      have e3 : ((v : Int) / 65536 / 256 % 256).toNat = v / 2 ^ 16 / 2 ^ 8 := by omega
      rw [e3]
      have := hw (v / 2 ^ 16 / 2 ^ 8) (by omega)
      congr 1
      unfold wrap64
      omega
    · rw [if_neg h2, if_pos (by omega), if_pos (by omega), bt_tab (by omega) (by omega)]
      have e3 : ((v : Int) / 65536 % 256).toNat = v / 2 ^ 16 := by omega
      rw [e3]
      have := hw (v / 2 ^ 16) (by omega)
      congr 1
      unfold wrap64
      omega
  · rw [if_neg h1]
    by_cases h2 : (v : Int) ≥ 256
    · have e2 := wid_div (v := v) (s := 8) (by omega)
      rw [if_pos h2, if_pos (by omega), if_pos (by omega), bt_tab (by omega) (by omega)]
      have e3 : ((v : Int) / 256 % 256).toNat = v / 2 ^ 8 := by omega
      rw [e3]
      have := hw (v / 2 ^ 8) (by omega)
      congr 1
      unfold wrap64
      omega
    · rw [if_neg h2, if_pos (by omega), if_pos (by omega), bt_tab (by omega) (by omega)]
      have e3 : ((v : Int) % 256).toNat = v := by omega
      rw [e3]
      have := hw v (by omega)
      congr 1
      unfold wrap64
      omega
theorem len_is (k : Nat) (v : Nat) (hv : v < 2 ^ 64) : bits_Len64.f (k + 1) (v : Int) = some (wid v : Int) := by
  unfold bits_Len64.f
  by_cases h : (v : Int) ≥ 4294967296
  · rw [if_pos h, show (v : Int) / 4294967296 = ((v / 2 ^ 32 : Nat) : Int) by omega, len_j0 k _ 32 (by omega) (by decide) (by decide), wid_div (v := v) (s := 32) (by omega)]
    congr 1
    omega
  · rw [if_neg h, len_j0 k _ 0 (by omega) (by decide) (by decide)]
    congr 1
    omega
/-- Width. -/
theorem width_is (k : Nat) (v : Nat) (hv : v < 2 ^ 64) : pack_Width.f (k + 1) (v : Int) = some (wid v : Int) := by
  unfold pack_Width.f
  rw [len_is k v hv]; rfl
end Go.Proofs.Ythfgelbbcdgopaa.S
