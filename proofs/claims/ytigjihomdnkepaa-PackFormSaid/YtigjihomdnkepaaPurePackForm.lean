/- Whatever bytes are taken out as lanes, Pack writes again, byte for byte. No condition: every input. -/
import Derived.Test.YtigjihomdnkepaaSx7
import Derived.Test.YtigjihomdnkepaaQPackuint64
import Derived.Test.YtigjihomdnkepaaQUnpackuint64
import Derived.Test.YtigjihomdnkepaaQFit
set_option linter.unusedVariables false
set_option linter.unusedSimpArgs false
namespace Go.Proofs.Ytigjihomdnkepaa.Pure
open Go.RowKit Go.Proofs.Ytigjihomdnkepaa.S Go.Proofs.YtigjihomdnkepaaV Go.Proofs.YtigjihomdnkepaaW.PrintWords Go.Proofs.YtigjihomdnkepaaW.PrintLast Go.Proofs.YtigjihomdnkepaaW.PrintMore

theorem PackForm : colonnadelaw02_PackForm.Pure := by
  intro l a1 a2 hm hs hwf hw1 hw2
  have hb := Bytes.of_wf hwf
  have hw2' := wf_i64.1 hw2
  obtain ⟨K, hK⟩ : ∃ K : Nat, K = 2000000000 := ⟨_, rfl⟩
  refine ⟨K, ?_⟩
  unfold colonnadelaw02_PackForm.f colonnadelaw02_num.f
  rw [awake_is K (by omega)]
  simp only [Option.bind_some, if_true]
  by_cases h : 0 ≤ a1 ∧ a1 ≤ 64 ∧ 0 ≤ a2 ∧ a2 ≤ 16777216 ∧ l.length = (a2.toNat * a1.toNat + 7) / 8 ∧ num l < 2 ^ (a2.toNat * a1.toNat)
  · obtain ⟨h1, h2, h3, h4, h5, h6⟩ := h
    obtain ⟨w, rfl⟩ := Int.eq_ofNat_of_zero_le h1
    obtain ⟨n, rfl⟩ := Int.eq_ofNat_of_zero_le h3
    simp only [Int.toNat_natCast] at h5 h6
    have hn : n ≤ 16777216 := by omega
    have hw : w ≤ 64 := by omega
    have hbd : n * (w + 2) ≤ 16777216 * 66 := Nat.mul_le_mul hn (by omega)
    have hbd2 : n * w ≤ 16777216 * 64 := Nat.mul_le_mul hn hw
    have hf := lanesOf_fit w n (num l)
    have hu := (uint64_unpack l hb (by omega) w n hw hn K (by omega) h5 h6).1 (fit_up hw hf)
    have hlen := lanesOf_length w n (num l)
    obtain ⟨b, hp, hpb, hbl, hbn⟩ := (uint64_pack (lanesOf w n (num l)) w hw (by omega) (fit_up hw hf) K (by rw [hlen]; omega)).1 hf
    rw [hu]
    simp only [Option.bind_some, if_true]
    rw [hp]
    simp only [Option.bind_some, if_true]
    have he : b = l := num_inj hpb hb (by rw [hbl, hlen, h5]) (by rw [hbn, lanes_lanesOf, Nat.mul_comm, Nat.mod_eq_of_lt h6])
    rw [he, if_pos rfl, hlen]
    simp
  · obtain ⟨e, he, hee⟩ := uint64_unpack_not l hb (by omega) a1 a2 (by omega) K (by omega) h
    rw [he]
    simp only [Option.bind_some]
    rw [if_neg]
    · simp
    · rw [hee]
      (repeat' split) <;> decide
end Go.Proofs.Ytigjihomdnkepaa.Pure
