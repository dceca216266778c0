/- Seat bits: slices that are read; Of, sameWords, alike. -/
import Derived.Test.YtpemffaclmpnnaaDoorYD
namespace Go.Ax
set_option linter.unusedVariables false
set_option linter.unusedSimpArgs false

theorem Words.reads {h : Heap} {b : Option Addr} {c q : Nat} {ws : List (BitVec 64)} (w : Words h b c q ws) : Reads h (.slice b ws.length c) (ws.map wv) := by
  rcases w with ⟨rfl, rfl, rfl⟩ | ⟨v, rfl, r, _⟩
  · exact .inl ⟨rfl, rfl⟩
  · exact .inr ⟨⟨q, 0, some v⟩, c, by simp, fun i x hx => by simpa using r.get hx⟩

theorem new_big {h : Heap} {n : Nat} (hn : 16777216 < n) : Gives P T (.fn F_bits_New) [.int .i64 n] h fun v h' => v = .pointer none ∧ h' = h := by
  refine gives_by t_bits_New (by simp [c_bits_New]) fun Q hQ => ?_
  have h1 : (16777216 : Int) < n := by omega
  have h0 : ¬ ((n : Int) < 0) := by omega
  simp [c_bits_New, h1, h0]
  exact hQ _ _ ⟨rfl, rfl⟩

theorem Of_spec {h : Heap} {v : Value} {bs : List Bool} (r : Reads h v (bs.map .bool)) (hn : bs.length ≤ 16777216) :
    Gives P T (.fn F_bits_Of) [v] h fun v h' => ∃ p q ws, v = ptr p ∧ SetAt h' p q bs.length ws ∧ Canon bs.length ws ∧ (∀ i, bit ws i = hold bs i) ∧ Grow h h' ∧ h.dyn.length ≤ p ∧ h.dyn.length ≤ q := by
  obtain ⟨b, c, rfl, hr⟩ := r.shape
  simp only [List.length_map] at hr ⊢
  refine gives_by t_bits_Of (by simp [c_bits_Of]) fun Q hQ => ?_
  simp [c_bits_Of]
  refine got_call (new_spec hn) ?_
  rintro _ h1 ⟨pt, qt, rfl, st, g1, f1, f2⟩
  simp [ptr]
  obtain ⟨n, hN⟩ : ∃ n, bs.length = n := ⟨_, rfl⟩
  obtain ⟨L, hL⟩ : ∃ L, (n + 63) / 64 = L := ⟨_, rfl⟩
  rw [hN] at st hn hr
  refine go_loop (fun k t h2 => ∃ (i : Nat) (wsi : List (BitVec 64)), k = n - i ∧ i ≤ n ∧ t = envT 34 [(3, ptr pt), (11, .slice b n c), (12, .int .i64 n), (13, .int .i64 i)] ∧
      wsi.length = L ∧ (∀ j, bit wsi j = (hold bs j && decide (j < i))) ∧ SetAt h2 pt qt n wsi ∧ Grow h h2) (n := n) ?_ ?_
  · refine ⟨0, _, rfl, by omega, ?_, by simp [hL], fun j => ?_, st, g1⟩
    · rw [envT_forget [3, 11, 12, 13] (by decide)]
      simp [ptr, hN]
    · have : word (List.replicate ((n + 63) / 64) 0) (j / 64) = 0#64 := by
        unfold word
        rw [List.getD_eq_getElem?_getD, List.getElem?_replicate]
        split <;> rfl
      unfold bit; rw [this]; simp
  · rintro k t h2 ⟨i, wsi, rfl, hi, rfl, hwl, hw, sti, g2⟩
    simp [ptr]
    refine branch_dec (fun hlt => ?_) (fun hge => ?_)
    · obtain ⟨a, rfl, hla⟩ := hr i hlt
      have hld := hload_grow g2 (hla i _ (hold_get (by omega)))
      have hw1 : IntKind.i64.wrap ((i : Int) + 1) = ((i + 1 : Nat) : Int) := by rw [wrap_i64 (by omega) (by omega)]; omega
      obtain ⟨bv, hbv⟩ : ∃ bv, hold bs i = bv := ⟨_, rfl⟩
      rw [hbv] at hld
      cases bv with
      | false =>
        simp [hlt, hld, hw1]
        refine ⟨n - (i + 1), by omega, i + 1, rfl, by omega, ?_, wsi, hwl, fun j => ?_, sti, g2⟩
        · rw [envT_forget [3, 11, 12, 13] (by decide)]
          simp
        · rw [hw]
          by_cases hj : j = i
          · subst hj; rw [hbv]; rfl
          · rw [dec_succ hj]
      | true =>
        obtain ⟨m, hm⟩ : ∃ m, i % 64 = m := ⟨_, rfl⟩
        obtain ⟨d, hd⟩ : ∃ d, i / 64 = d := ⟨_, rfl⟩
        have e1 := tmod_nat i 64
        have e2 := tdiv_nat i 64
        rw [hm] at e1
        rw [hd] at e2
        simp only [Int.cast_ofNat_Int] at e1 e2
        have i3 : d < wsi.length := by omega
        have e3 : IntKind.i64.wrap (d : Int) = d := wrap_i64 (by omega) (by omega)
        obtain ⟨v, c', rh, rw, stt⟩ := sti.open i3
        obtain ⟨h3, e4, s3, c3, _⟩ := stt (word wsi d ||| 1#64 <<< m)
        simp [hlt, hld, hw1, e1, e2, e3, i3, rh.get (i := 1) rfl, rw.get (wv_get i3), e4]
        refine ⟨n - (i + 1), by omega, i + 1, rfl, by omega, ?_, _, by simpa using hwl, fun j => ?_, s3, g2.after c3 fun m hm hmq => by omega⟩
        · rw [envT_forget [3, 11, 12, 13] (by decide)]
          simp
        · rw [bit_set i3]
          split
          · rename_i hjd
            rw [BitVec.getLsbD_or, one_bit m _ (by omega) (by omega)]
            have h5 : (word wsi d).getLsbD (j % 64) = bit wsi j := by unfold bit; rw [hjd]
            rw [h5, hw]
            by_cases hj : j = i
            · subst hj; rw [hbv]; simp [hm]
            · have h6 : decide (j % 64 = m) = false := by simp; omega
              rw [h6, dec_succ hj, Bool.or_false]
          · rename_i hjd
            rw [hw, dec_succ (fun e => hjd (by rw [e, hd]))]
    · have hiL : i = n := by omega
      subst hiL
      simp
      have hb : ∀ j, bit wsi j = hold bs j := by
        intro j
        rw [hw]
        by_cases hj : j < i
        · simp [hj]
        · rw [hold_out (by omega)]; rfl
      refine hQ _ _ ⟨pt, qt, wsi, rfl, by rw [hN]; exact sti, ⟨by rw [hN, hwl, hL], by omega, fun j hj => ?_⟩, hb, g2, f1, f2⟩
      rw [hb, hold_out hj]

theorem Of_big {h : Heap} {v : Value} {bs : List Bool} (r : Reads h v (bs.map .bool)) (hn : 16777216 < bs.length) :
    Gives P T (.fn F_bits_Of) [v] h fun v h' => v = .pointer none ∧ h' = h := by
  obtain ⟨b, c, rfl, hr⟩ := r.shape
  simp only [List.length_map] at hr ⊢
  refine gives_by t_bits_Of (by simp [c_bits_Of]) fun Q hQ => ?_
  simp [c_bits_Of]
  refine got_call (new_big hn) ?_
  rintro _ _ ⟨rfl, rfl⟩
  simp
  exact hQ _ _ ⟨rfl, rfl⟩

theorem sameWords_spec {h : Heap} {v v' : Value} {ws ws' : List (BitVec 64)} (r : Reads h v (ws.map wv)) (r' : Reads h v' (ws'.map wv)) (hl : ws.length ≤ 1000000000000) :
    Gives P T (.fn F_colonnadelaw01_sameWords) [v, v'] h fun v h' => v = .bool (decide (ws = ws')) ∧ h' = h := by
  obtain ⟨b, c, rfl, hr⟩ := r.shape
  obtain ⟨b', c', rfl, hr'⟩ := r'.shape
  simp only [List.length_map] at hr hr' ⊢
  refine gives_by t_colonnadelaw01_sameWords (by simp [c_colonnadelaw01_sameWords]) fun Q hQ => ?_
  by_cases hll : ws.length = ws'.length
  · simp [c_colonnadelaw01_sameWords, hll]
    obtain ⟨n, hN⟩ : ∃ n, ws'.length = n := ⟨_, rfl⟩
    rw [hN] at hll
    rw [hll] at hr hl
    rw [hN] at hr'
    rw [hN]
    refine go_loop (fun k t h2 => ∃ (i : Nat), k = n - i ∧ i ≤ n ∧ t = envT 26 [(0, .slice b n c), (1, .slice b' n c'), (5, .int .i64 i)] ∧
      (∀ j, j < i → word ws j = word ws' j) ∧ h2 = h) (n := n) ?_ ?_
    · refine ⟨0, rfl, by omega, ?_, fun j hj => by omega, rfl⟩
      rw [envT_forget [0, 1, 5] (by decide)]
      simp
    · rintro k t h2 ⟨i, rfl, hi, rfl, hw, rfl⟩
      simp
      refine branch_dec (fun hlt => ?_) (fun hge => ?_)
      · obtain ⟨a, rfl, hla⟩ := hr i hlt
        obtain ⟨a', rfl, hla'⟩ := hr' i hlt
        have hld := hla i _ (wv_get (by omega))
        have hld' := hla' i _ (wv_get (by omega))
        have hw1 : IntKind.i64.wrap ((i : Int) + 1) = ((i + 1 : Nat) : Int) := by rw [wrap_i64 (by omega) (by omega)]; omega
        by_cases he : word ws i = word ws' i
        · simp [hlt, hld, hld', hw1, he]
          refine ⟨n - (i + 1), by omega, i + 1, rfl, by omega, ?_, fun j hj => ?_⟩
          · rw [envT_forget [0, 1, 5] (by decide)]
            simp
          · by_cases hji : j = i
            · subst hji; exact he
            · exact hw j (by omega)
        · simp [hlt, hld, hld', hw1, he]
          refine hQ _ _ ⟨?_, rfl⟩
          have : ¬ ws = ws' := fun e => he (by rw [e])
          simp [this]
      · simp
        refine hQ _ _ ⟨?_, rfl⟩
        have : ws = ws' := by
          apply List.ext_getElem?
          intro j
          by_cases hj : j < n
          · rw [word_get (by omega), word_get (by omega), hw j (by omega)]
          · rw [List.getElem?_eq_none (by omega), List.getElem?_eq_none (by omega)]
        simp [this]
  · have : ¬ ((ws.length : Int) = ws'.length) := by omega
    simp [c_colonnadelaw01_sameWords, this]
    refine hQ _ _ ⟨?_, rfl⟩
    have : ¬ ws = ws' := fun e => hll (by rw [e])
    simp [this]

theorem alike_spec {h : Heap} {p q n p' q' n' : Nat} {ws ws' : List (BitVec 64)} (s : SetAt h p q n ws) (s' : SetAt h p' q' n' ws') (hl : ws.length ≤ 16777216) (hl' : ws'.length ≤ 16777216) :
    Gives P T (.fn F_colonnadelaw01_alike) [ptr p, ptr p'] h fun v h' => v = .bool (decide (n = n' ∧ ws = ws')) ∧ Grow h h' := by
  refine gives_by t_colonnadelaw01_alike (by simp [c_colonnadelaw01_alike]) fun Q hQ => ?_
  simp [c_colonnadelaw01_alike, ptr]
  refine got_call (len_spec s) ?_
  rintro _ _ ⟨rfl, rfl⟩
  simp
  refine got_call (len_spec s') ?_
  rintro _ _ ⟨rfl, rfl⟩
  by_cases hn : n = n'
  · have : ((n : Int) = n') := by omega
    simp [this]
    refine got_call (Words_spec s hl) ?_
    rintro _ h1 ⟨b1, c1, q1, rfl, w1, g1, f1⟩
    simp
    refine got_call (Words_spec (s'.grow g1) hl') ?_
    rintro _ h2 ⟨b2, c2, q2, rfl, w2, g2, f2⟩
    simp
    refine got_call (sameWords_spec (w1.chg g2 id).reads w2.reads (by omega)) ?_
    rintro _ _ ⟨rfl, rfl⟩
    simp
    exact hQ _ _ ⟨by simp [hn], g1.trans g2⟩
  · have : ¬ ((n : Int) = n') := by omega
    simp [this]
    exact hQ _ _ ⟨by simp [hn], Chg.refl _⟩
end Go.Ax
