/- Lanes that end with a whole byte, and lanes behind them, are the lanes of both. No condition: every input. -/
import Derived.Test.YtigjihomdnkepaaSx7
import Derived.Test.YtigjihomdnkepaaQPackuint64
import Derived.Test.YtigjihomdnkepaaQFit
set_option linter.unusedVariables false
set_option linter.unusedSimpArgs false
namespace Go.Proofs.Ytigjihomdnkepaa.Pure
open Go.RowKit Go.Proofs.Ytigjihomdnkepaa.S Go.Proofs.YtigjihomdnkepaaV Go.Proofs.YtigjihomdnkepaaW.PrintWords Go.Proofs.YtigjihomdnkepaaW.PrintLast Go.Proofs.YtigjihomdnkepaaW.PrintMore

theorem str_append (a b : List Int) : strOfNums (a ++ b) = strOfNums a ++ strOfNums b := by
  apply ByteArray.ext
  simp [strOfNums, ByteArray.data_append]
theorem PackJoins : colonnadelaw02_PackJoins.Pure := by
  intro l0 l1 a2 hm hs hwf hm1 hs1 hwf1 hwa
  have hl := Fit.of_wf hwf
  have hl1 := Fit.of_wf hwf1
  obtain ⟨K, hK⟩ : ∃ K : Nat, K = 1000000000 := ⟨_, rfl⟩
  refine ⟨K, ?_⟩
  obtain ⟨w, hw, hwe, hfit⟩ := fit_is l0 hl (by omega) a2 K (by omega)
  obtain ⟨w1, hw1, hwe1, hfit1⟩ := fit_is l1 hl1 (by omega) a2 K (by omega)
  obtain rfl : w1 = w := by omega
  have hfL := fitL_fit w1 (l0.take 1048576)
  have hn : (fitL w1 (l0.take 1048576)).length ≤ 1048576 := by rw [fitL_length, List.length_take]; omega
  have hfM := fitL_fit w1 (l1.take 1048576)
  have hnM : (fitL w1 (l1.take 1048576)).length ≤ 1048576 := by rw [fitL_length, List.length_take]; omega
  generalize fitL w1 (l0.take 1048576) = l at hfit hfL hn
  generalize fitL w1 (l1.take 1048576) = m at hfit1 hfM hnM
  unfold colonnadelaw02_PackJoins.f colonnadelaw02_num.f
  rw [awake_is K (by omega), hfit, hfit1]
  simp only [Option.bind_some, if_true]
  obtain ⟨q, hq⟩ : ∃ q : Nat, q = l.length - l.length % 8 := ⟨_, rfl⟩
  rw [w64 (by omega) (by omega), show (l.length : Int) - (l.length : Int) % 8 = (q : Int) by omega, if_pos (by omega), if_pos (by omega), Int.toNat_natCast]
  have hfA : Fit w1 (l.take q) := hfL.take q
  have hnA : (l.take q).length = q := by rw [List.length_take]; omega
  generalize l.take q = x at hfA hnA ⊢
  have b1 : x.length * (w1 + 2) ≤ 1048576 * 66 := Nat.mul_le_mul (by omega) (by omega)
  have b2 : m.length * (w1 + 2) ≤ 1048576 * 66 := Nat.mul_le_mul (by omega) (by omega)
  have b3 : (x ++ m).length * (w1 + 2) ≤ 2097152 * 66 := Nat.mul_le_mul (by rw [List.length_append]; omega) (by omega)
  obtain ⟨a, pa, ba, la, na⟩ := (uint64_pack x w1 hw (by omega) (fit_up hw hfA) K (by omega)).1 hfA
  obtain ⟨b, pb, bb, lb, nb⟩ := (uint64_pack m w1 hw (by omega) (fit_up hw hfM) K (by omega)).1 hfM
  have hfC : Fit w1 (x ++ m) := Fit.append.2 ⟨hfA, hfM⟩
  obtain ⟨c, pc, bc, lc, nc⟩ := (uint64_pack (x ++ m) w1 hw (by rw [List.length_append]; omega) (fit_up hw hfC) K (by omega)).1 hfC
  rw [pa, pb]
  simp only [Option.bind_some, List.nil_append, List.length_nil, Nat.zero_add]
  rw [if_pos (by omega), if_pos (by omega), pc]
  simp only [Option.bind_some, if_true]
  have c1 : x.length * w1 ≤ 1048576 * 64 := Nat.mul_le_mul (by omega) hw
  have c2 : m.length * w1 ≤ 1048576 * 64 := Nat.mul_le_mul (by omega) hw
  rw [if_pos (by rw [strOfNums_size, strOfNums_size]; omega), ← str_append]
  obtain ⟨t, ht⟩ : ∃ t, q = 8 * t := ⟨q / 8, by omega⟩
  have hdiv : x.length * w1 = 8 * (t * w1) := by rw [hnA, ht, Nat.mul_assoc]
  have he : a ++ b = c := by
    refine num_inj (Bytes.append.2 ⟨ba, bb⟩) bc ?_ ?_
    · rw [List.length_append, la, lb, lc, List.length_append, Nat.add_mul]; omega
    · rw [num_append, na, nb, nc, lanes_append, pow256, la, Nat.mul_comm w1 x.length, hdiv]
      congr 3
      omega
  rw [he]
  simp
end Go.Proofs.Ytigjihomdnkepaa.Pure
