/- Numbers of any width are packed and taken out again; each stands at its place by At and by Word; they take just the bytes that they need. No condition: every input. -/
import Derived.Test.YtigjihomdnkepaaSx5
import Derived.Test.YtigjihomdnkepaaQPackuint64
import Derived.Test.YtigjihomdnkepaaQUnpackuint64
import Derived.Test.YtigjihomdnkepaaQFit
set_option linter.unusedVariables false
set_option linter.unusedSimpArgs false
namespace Go.Proofs.Ytigjihomdnkepaa.Pure
open Go.RowKit Go.Proofs.Ytigjihomdnkepaa.S Go.Proofs.YtigjihomdnkepaaV Go.Proofs.YtigjihomdnkepaaW.PrintWords Go.Proofs.YtigjihomdnkepaaW.PrintLast Go.Proofs.YtigjihomdnkepaaW.PrintMore

theorem at_zero (b : List Int) (i k : Nat) (hlen : b.length ≤ 1152921504606846975) : pack_At.f (k + 1) b ((0 : Nat) : Int) (i : Int) = some (0, true) := by
  unfold pack_At.f
  rw [may_is]
  simp only [Option.bind_some]
  rw [if_pos (by simp), if_neg (by omega), if_neg (by omega), pack_At.j0, if_neg (by decide), if_pos (by omega)]
theorem back_l0 (l b : List Int) (w : Nat) (hw : w ≤ 64) (hn : l.length ≤ 16777216) (hf : Fit w l) (hb : Bytes b) (hlen : b.length = (l.length * w + 7) / 8) (hnum : num b = lanes w l) (d : Nat) :
    ∀ (k i : Nat), i + d = l.length → d + 30 ≤ k → colonnadelaw02_PackBack.l0 k l (w : Int) b (i : Int) = some true := by
  induction d with
  | zero =>
    intro k i hi hk
    obtain ⟨k, rfl⟩ : ∃ m, k = m + 1 := ⟨k - 1, by omega⟩
    rw [colonnadelaw02_PackBack.l0, if_neg (by omega)]
  | succ d ih =>
    intro k i hi hk
    obtain ⟨k, rfl⟩ : ∃ m, k = m + 1 := ⟨k - 1, by omega⟩
    have hbd : l.length * w ≤ 16777216 * 64 := Nat.mul_le_mul hn hw
    have hi2 : (i + 1) * w ≤ l.length * w := Nat.mul_le_mul_right _ (by omega)
    have hi3 : i * w ≤ (i + 1) * w := Nat.mul_le_mul_right _ (by omega)
    have hget := lanes_get hf i (by omega)
    have hx := hf.get i
    obtain ⟨x, hxe⟩ : ∃ x : Nat, l.getD i 0 = (x : Int) := ⟨(l.getD i 0).toNat, by omega⟩
    have hrd : rd l (i : Int) = (x : Int) := by unfold rd; rw [Int.toNat_natCast, hxe]
    rw [hxe, Int.toNat_natCast] at hx hget
    have hat : pack_At.f k b (w : Int) (i : Int) = some ((x : Int), true) := by
      by_cases h0 : w = 0
      · subst h0
        obtain ⟨k, rfl⟩ : ∃ m, k = m + 1 := ⟨k - 1, by omega⟩
        have : x = 0 := by simpa using hx.2
        rw [at_zero b i k (by omega), this]; rfl
      · rw [at_in b hb (by omega) w i (by omega) hw (by omega) k (by omega), hnum, hget]
    rw [colonnadelaw02_PackBack.l0, if_pos (by omega), hat, show (i : Int) * (w : Int) = ((i * w : Nat) : Int) from (Int.natCast_mul _ _).symm, w64 (n := ((i * w : Nat) : Int)) (by omega) (by omega), word_nonneg b hb (by omega) (i * w) (by omega) k (by omega)]
    simp only [Option.bind_some]
    rw [hrd, w64 (n := (i : Int) + 1) (by omega) (by omega)]
    have hih := ih k (i + 1) (by omega) (by omega)
    rw [show ((i + 1 : Nat) : Int) = (i : Int) + 1 from rfl] at hih
    by_cases h : (w : Int) < 64
    · have h1 : 2 ^ w < 2 ^ 64 := Nat.pow_lt_pow_right (by decide) (by omega)
      have h2 := Nat.two_pow_pos w
      rw [if_pos h, wrap_u64 (w : Int), show (w : Int) % 18446744073709551616 = (w : Int) by omega, if_pos (by omega), if_pos trivial, if_pos (by omega), if_pos rfl]
      by_cases h0 : (w : Int) > 0
      · rw [if_pos h0, show (1 : Int) = ((1 : Nat) : Int) from rfl, shl_u64' (by omega), wrap_u64, Nat.one_mul, Nat.mod_eq_of_lt (show 2 ^ w < 18446744073709551616 from h1)]
        rw [show (((2 ^ w : Nat) : Int) - ((1 : Nat) : Int)) % 18446744073709551616 = ((2 ^ w - 1 : Nat) : Int) by omega, and_u64 (Nat.mod_lt _ (by decide)) (by omega), and_mask, Nat.mod_mod_of_dvd _ (Nat.pow_dvd_pow 2 hw), hnum, hget, if_pos rfl]
        exact hih
      · rw [if_neg h0]; exact hih
    · rw [if_neg h, if_pos trivial, if_pos (by omega), if_pos rfl, if_pos (by omega)]
      have hw64 : w = 64 := by omega
      subst hw64
      rw [hnum, hget, if_pos rfl]
      exact hih
theorem PackBack : colonnadelaw02_PackBack.Pure := by
  intro l0 a1 hm hs hwf hwa
  have hl := Fit.of_wf hwf
  have hlen0 : l0.length ≤ 140737488351232 := by omega
  obtain ⟨K, hK⟩ : ∃ K : Nat, K = 1000000000 := ⟨_, rfl⟩
  refine ⟨K, ?_⟩
  obtain ⟨w, hw, _, hfit⟩ := fit_is l0 hl (by omega) a1 K (by omega)
  have hfL := fitL_fit w (l0.take 1048576)
  have hn : (fitL w (l0.take 1048576)).length ≤ 1048576 := by rw [fitL_length, List.length_take]; omega
  generalize fitL w (l0.take 1048576) = l at hfit hfL hn
  have hmul : l.length * (w + 2) ≤ 1048576 * 66 := Nat.mul_le_mul hn (by omega)
  obtain ⟨b, hp, hb, hbl, hbn⟩ := (uint64_pack l w hw (by omega) (fit_up hw hfL) K (by omega)).1 hfL
  have hlt := lanes_lt hfL
  rw [Nat.mul_comm] at hlt
  have hbd : l.length * w ≤ 1048576 * 64 := Nat.mul_le_mul hn hw
  have hback : lanesOf w l.length (num b) = l := by rw [hbn]; exact lanesOf_lanes hfL
  have hu := (uint64_unpack b hb (by omega) w l.length hw (by omega) K (by omega) hbl (by rw [hbn]; exact hlt)).1 (by rw [hback]; exact fit_up hw hfL)
  rw [hback] at hu
  obtain ⟨K', rfl⟩ : ∃ m, K = m + 1 := ⟨K - 1, by omega⟩
  unfold colonnadelaw02_PackBack.f
  rw [awake_is (K' + 1) (by omega), hfit]
  simp only [Option.bind_some, if_true]
  rw [hp, bytes_ok l.length w (by omega) hw]
  simp only [Option.bind_some]
  rw [hu]
  unfold colonnadelaw02_num.f
  simp only [Option.bind_some, if_true]
  rw [if_pos (by rw [hbl]), same_is l (by omega) (K' + 1) (by omega)]
  simp only [Option.bind_some]
  rw [colonnadelaw02_PackBack.j0, if_neg (by decide)]
  exact back_l0 l b w hw (by omega) hfL hb hbl hbn l.length K' 0 (by omega) (by omega)
end Go.Proofs.Ytigjihomdnkepaa.Pure
