/- Whatever is opened is written again, byte for byte. No condition: every input. -/
import Derived.Test.YthfgelbbcdgopaaSx5
import Derived.Test.YthfgelbbcdgopaaQFrame3
set_option linter.unusedVariables false
set_option linter.unusedSimpArgs false
namespace Go.Proofs.Ythfgelbbcdgopaa.Pure
open Go.RowKit Go.Proofs.Ythfgelbbcdgopaa.S Go.Proofs.YthfgelbbcdgopaaV Go.Proofs.YthfgelbbcdgopaaW.PrintWords Go.Proofs.YthfgelbbcdgopaaW.PrintLast Go.Proofs.YthfgelbbcdgopaaW.PrintMore

theorem lift_i64 {m : Int} (hm : I64 m) {c : List Int} (hc : Fit 64 c) (hu : Under m c) : I64s (liftOf m c) := by
  intro x hx
  simp only [liftOf, List.mem_map] at hx
  obtain ⟨v, hv, rfl⟩ := hx
  have h1 := (hc v hv).1
  have h2 := hu v hv
  obtain ⟨h3, h4⟩ := hm
  exact ⟨by omega, by omega⟩
theorem lift_least {m : Int} {c : List Int} (hc : Fit 64 c) (hz : Nought m c) : Least (liftOf m c) m := by
  rcases hz with ⟨h1, h2⟩ | h
  · subst h1; exact .inl ⟨rfl, h2⟩
  · refine .inr ⟨?_, ?_⟩
    · simp only [liftOf, List.mem_map]
      exact ⟨0, h, by omega⟩
    · intro x hx
      simp only [liftOf, List.mem_map] at hx
      obtain ⟨v, hv, rfl⟩ := hx
      have h1 := (hc v hv).1
      omega
theorem head8 (l : List Int) (hb : Bytes l) (h8 : 8 ≤ l.length) : le8 (word (baseOf l)) 8 = l.take 8 := by
  refine num_inj (le8_bytes _ _) (hb.take 8) (by rw [le8_length, List.length_take]; omega) ?_
  rw [le8_num]
  have h1 := num_lt (hb.take 8)
  rw [List.length_take, Nat.min_eq_left h8] at h1
  unfold word baseOf wrap64
  omega
theorem form_j0 (l : List Int) (hb : Bytes l) (hl : l.length ≤ 140737488351232) (n w : Int) (K : Nat) (hK : 3000000000 ≤ K) : colonnadelaw11_FrameForm.j0 (K + 1) l n w = some true := by
  rw [colonnadelaw11_FrameForm.j0]
  unfold colonnadelaw11_num.f
  by_cases h : 0 ≤ n ∧ n ≤ 16777216 ∧ 0 ≤ w ∧ w ≤ 64
  · obtain ⟨h1, h2, h3, h4⟩ := h
    obtain ⟨n, rfl⟩ := Int.eq_ofNat_of_zero_le h1
    obtain ⟨w, rfl⟩ := Int.eq_ofNat_of_zero_le h3
    rcases openpacked_cases l hb (by omega) w n (by omega) (by omega) K (by omega) with ⟨hI, hU, ho⟩ | ⟨_, e, ho, he, _⟩
    · have hlen := lanesOf_length w n (num l)
      have hf := lanesOf_fit w n (num l)
      have hf64 := fit64_lanesOf w n (num l) (by omega)
      rcases unpack_cases l hb (by omega) w n (by omega) (by omega) K (by omega) with ⟨_, hu⟩ | ⟨hn, _⟩
      · have hv := (values_is 0 ⟨by decide, by decide⟩ l n w (by omega) _ hf64 hlen K (by omega) hu).1 hU
        have hz : liftOf 0 (lanesOf w n (num l)) = lanesOf w n (num l) := by
          unfold liftOf
          conv => rhs; rw [← List.map_id (lanesOf w n (num l))]
          apply List.map_congr_left; intro x _; simp
        rw [hz] at hv
        have hi : I64s (lanesOf w n (num l)) := by have := lift_i64 (m := 0) ⟨by decide, by decide⟩ hf64 hU; rwa [hz] at this
        obtain ⟨b, hp, hbb, hbl, hbn⟩ := (putpacked_is (lanesOf w n (num l)) hi w (by omega) (by rw [hlen]; omega) K (by omega)).1 ⟨fun x hx => (hf x hx).1, hf⟩
        have he : b = l := num_inj hbb hb (by rw [hbl, hlen, hI.1]) (by rw [hbn, lanes_lanesOf, Nat.mul_comm, Nat.mod_eq_of_lt hI.2])
        rw [ho, Option.bind_some, Option.bind_some]
        (try dsimp only)
        rw [if_pos rfl, hv, Option.bind_some]
        (try dsimp only)
        rw [hp, Option.bind_some, Option.bind_some]
        (try dsimp only)
        rw [if_pos rfl, Option.bind_some, if_pos rfl, he, if_pos rfl, hlen]
        simp
      · exact absurd hI hn
    · rw [ho, Option.bind_some, Option.bind_some]
      (try dsimp only)
      rw [if_neg he]
      rfl
  · obtain ⟨e, hbe, he, _⟩ := bytes_not n w h
    unfold frame_OpenPacked.f
    rw [hbe, Option.bind_some]
    (try dsimp only)
    rw [if_neg he, Option.bind_some, Option.bind_some]
    (try dsimp only)
    rw [if_neg he]
    rfl
theorem FrameForm : colonnadelaw11_FrameForm.Pure := by
  intro l n w hm hs hwf hw1 hw2
  have hb := Bytes.of_wf hwf
  have hl : l.length ≤ 140737488351232 := by omega
  obtain ⟨K, hK⟩ : ∃ K : Nat, K = 3000000000 := ⟨_, rfl⟩
  refine ⟨K + 1, ?_⟩
  have hj := form_j0 l hb hl n w K (by omega)
  unfold colonnadelaw11_FrameForm.f colonnadelaw11_num.f
  rw [awake_is (K + 1) (by omega), Option.bind_some, if_pos rfl]
  by_cases h : 0 ≤ n ∧ n ≤ 16777216 ∧ 0 ≤ w ∧ w ≤ 64
  · obtain ⟨h1, h2, h3, h4⟩ := h
    obtain ⟨n, rfl⟩ := Int.eq_ofNat_of_zero_le h1
    obtain ⟨w, rfl⟩ := Int.eq_ofNat_of_zero_le h3
    rcases openframe_cases l hb (by omega) w n (by omega) (by omega) (K + 1) (by omega) with ⟨⟨h8, hI, hU, hZ⟩, ho⟩ | ⟨_, e, ho, he, _⟩
    · have hlen := lanesOf_length w n (num (l.drop 8))
      have hf := lanesOf_fit w n (num (l.drop 8))
      have hf64 := fit64_lanesOf w n (num (l.drop 8)) (by omega)
      rcases unpack_cases (l.drop 8) (hb.drop 8) (by simp; omega) w n (by omega) (by omega) (K + 1) (by omega) with ⟨_, hu⟩ | ⟨hn, _⟩
      · have hv := (values_is (baseOf l) (baseOf_i64 l) (l.drop 8) n w (by omega) _ hf64 hlen (K + 1) (by omega) hu).1 hU
        have hi := lift_i64 (baseOf_i64 l) hf64 hU
        have hle := lift_least hf64 hZ
        have hll := liftOf_length (baseOf l) (lanesOf w n (num (l.drop 8)))
        obtain ⟨b, hp, hbb, hbl, hbn⟩ := (putframe_is _ hi w (by omega) (by rw [hll, hlen]; omega) (baseOf l) hle (K + 1) (by omega)).1 (by rw [codes_lift]; exact hf)
        rw [codes_lift] at hbn
        have he : b = l.drop 8 := num_inj hbb (hb.drop 8) (by rw [hbl, hll, hlen, hI.1]) (by rw [hbn, lanes_lanesOf, Nat.mul_comm, Nat.mod_eq_of_lt hI.2])
        rw [ho, Option.bind_some, Option.bind_some]
        (try dsimp only)
        rw [if_pos rfl, hv, Option.bind_some]
        (try dsimp only)
        rw [hp, Option.bind_some, Option.bind_some]
        (try dsimp only)
        rw [if_pos rfl, Option.bind_some, if_pos rfl, he, head8 l hb h8, List.take_append_drop, if_pos rfl, hll, hlen, if_pos rfl]
        exact hj
      · exact absurd hI hn
    · rw [ho, Option.bind_some, Option.bind_some]
      (try dsimp only)
      rw [if_neg he, if_pos rfl, if_pos (by decide)]
      exact hj
  · obtain ⟨e, hbe, he, _⟩ := bytes_not n w h
    have ho : frame_OpenFrame.f (K + 1) l n w = some (0, [], e) := by
      unfold frame_OpenFrame.f
      rw [hbe, Option.bind_some]
      (try dsimp only)
      rw [if_neg he]
    rw [ho, Option.bind_some, Option.bind_some]
    (try dsimp only)
    rw [if_neg he, if_pos rfl, if_pos (by decide)]
    exact hj
end Go.Proofs.Ythfgelbbcdgopaa.Pure
