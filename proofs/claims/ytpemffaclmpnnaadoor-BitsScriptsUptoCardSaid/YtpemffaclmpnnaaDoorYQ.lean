/- Seat bits: a walk over what a set holds. -/
import Derived.Test.YtpemffaclmpnnaaDoorYK
import Derived.Test.YtpemffaclmpnnaaDoorMY
namespace Go.Ax
set_option linter.unusedVariables false
set_option linter.unusedSimpArgs false

theorem All_spec {h : Heap} {v : Value} (hv : goodC v = true) : Gives P T (.fn F_bits_Set_All) [v] h fun r h' => r = .func (.func F_bits_Set_All_1) #[] #[.pointer (some ⟨h.dyn.length, 0, some 0⟩)] ∧ h' = hnew h [v] 0 := by
  refine gives_by t_bits_Set_All (by simp [c_bits_Set_All]) fun Q hQ => ?_
  simp [c_bits_Set_All, hv]
  exact hQ _ _ ⟨rfl, rfl⟩

theorem cnt_gap {f : Nat → Bool} {a b : Nat} (hab : a ≤ b) (h : ∀ i, a ≤ i → i < b → f i = false) : cnt f b = cnt f a := by
  obtain ⟨d, rfl⟩ := Nat.le.dest hab
  rw [cnt_add, cnt_zero fun i hi => h (a + i) (by omega) (by omega)]; omega

/-- What a round of a walk does: it is told the k-th number; block w, the walk's own, stays. -/
def Round (y w : Nat) (ws : List (BitVec 64)) (J : Nat → Heap → Prop) (stop : Heap → Prop) : Prop :=
  ∀ k x h, bit ws x = true → cnt (bit ws) x = k → J k h → Gives P T (.yield y) [.int .i64 (x : Nat)] h fun v h' => h'.ro = h.ro ∧ h'.dyn[w]? = h.dyn[w]? ∧ (v = .bool true ∧ J (k + 1) h' ∨ v = .bool false ∧ stop h')

theorem All1_spec {h : Heap} {L : Nat → Nat → Option Value} (hro : h.ro = roBlk tabG L) {p q n y : Nat} {ws : List (BitVec 64)} {box : Addr} (hbox : hload h box = some (ptr p)) (s : SetAt h p q n ws) (cn : Canon n ws) {J : Nat → Nat → Heap → Prop} {stop : Heap → Prop}
    (start : ∀ w h', Grow h h' → h.dyn.length ≤ w → (ws ≠ [] → w < h'.dyn.length) → J w 0 h') (step : ∀ w, h.dyn.length ≤ w → Round y w ws (J w) stop) :
    Gives P T (.fn F_bits_Set_All_1) [.func (.yield y) #[] #[], .pointer (some box)] h fun _ h' => h'.ro = h.ro ∧ ((∃ w, J w (cnt (bit ws) n) h') ∨ stop h') := by
  have hl := cn.len
  have hn := cn.le
  refine gives_by t_bits_Set_All_1 (by simp [c_bits_Set_All_1]) fun Q hQ => ?_
  simp [c_bits_Set_All_1, hbox]
  refine got_call (Words_spec s (by omega)) ?_
  rintro _ h1 ⟨b, c, w, rfl, wd, g1, f1⟩
  have hj := start w h1 g1 f1 (fun hne => wd.le.resolve_left hne)
  have hstep := step w f1
  obtain ⟨M, hM⟩ : ∃ M, ws.length = M := ⟨_, rfl⟩
  rw [hM] at hl
  have hrd : ∀ i, i < M → ∃ v, b = some ⟨w, 0, some v⟩ ∧ RowAt h1 w v 1 (ws.map wv) := fun i hi => wd.at (i := i) (by omega)
  simp [hM]
  refine go_loopK (fun k ks h2 => ∃ (i : Nat), k = M - i ∧ i ≤ M ∧ ks = [(0, .func (.yield y) #[] #[]), (6, .slice b M c), (7, .int .i64 M), (8, .int .i64 i)] ∧ J w (cnt (bit ws) (64 * i)) h2 ∧ h2.ro = h.ro ∧ h2.dyn[w]? = h1.dyn[w]?) (n := M)
    ⟨0, rfl, by omega, rfl, hj, g1.ro, rfl⟩ (by simp) ?_
  rintro I hI k ks e h2 ⟨i, rfl, hi, rfl, hJ, hr2, hd2⟩
  simp
  refine branch_dec (fun hlt => ?_) (fun hge => ?_)
  · have hiM : i < M := by omega
    obtain ⟨v, rfl, rw1⟩ := hrd i hiM
    have rw2 := rw1.same hd2
    have e4 : IntKind.i64.wrap ((i : Int) + 1) = ((i + 1 : Nat) : Int) := by rw [wrap_i64 (by omega) (by omega)]; omega
    simp [hiM, rw2.get (wv_get (show i < ws.length by omega))]
    refine go_loopK (fun k ks h3 => ∃ (pos : Nat) (x : BitVec 64), k = 64 - pos ∧ pos ≤ 64 ∧ ks = [(0, .func (.yield y) #[] #[]), (3, .int .i64 i), (4, .int .u64 (wi x)), (6, .slice (some ⟨w, 0, some v⟩) M c), (7, .int .i64 M), (8, .int .i64 i)] ∧
      (∀ b, x.getLsbD b = ((word ws i).getLsbD b && decide (pos ≤ b))) ∧ J w (cnt (bit ws) (64 * i + pos)) h3 ∧ h3.ro = h.ro ∧ h3.dyn[w]? = h1.dyn[w]?) (n := 64)
      ⟨0, word ws i, rfl, by omega, rfl, fun b => by simp, hJ, hr2, hd2⟩ (by simp) ?_
    rintro I2 hI2 k2 ks2 e2 h3 ⟨pos, x, rfl, hpos, rfl, hx, hJ3, hr3, hd3⟩
    simp
    by_cases hx0 : x = 0#64
    · subst hx0
      simp [e4]
      refine ⟨M - (i + 1), by omega, hI _ _ _ _ ⟨i + 1, rfl, by omega, rfl, ?_, hr3, hd3⟩ (by simp)⟩
      have : cnt (bit ws) (64 * (i + 1)) = cnt (bit ws) (64 * i + pos) := cnt_gap (by omega) fun j h1 h2 => by
        have := hx (j - 64 * i)
        simp at this
        have h5 : bit ws j = (word ws i).getLsbD (j - 64 * i) := by unfold bit; rw [show j / 64 = i by omega, show j % 64 = j - 64 * i by omega]
        rw [h5]
        cases hc : (word ws i).getLsbD (j - 64 * i) with
        | false => rfl
        | true => have := this hc; omega
      rw [this]; exact hJ3
    · obtain ⟨j, hj64, hjx, hlow⟩ : ∃ j, j < 64 ∧ x.getLsbD j = true ∧ ∀ i, i < j → x.getLsbD i = false := lowest (by
        apply Classical.byContradiction
        intro hc
        apply hx0
        apply BitVec.eq_of_getLsbD_eq
        intro b hb
        cases hbx : x.getLsbD b with
        | false => simp
        | true => exact absurd ⟨b, hb, hbx⟩ hc)
      have hjw := hx j
      rw [hjx] at hjw
      have hjw' : (word ws i).getLsbD j = true ∧ pos ≤ j := by simpa using hjw.symm
      have a1 : IntKind.i64.wrap (64 * (i : Int)) = 64 * (i : Int) := wrap_i64 (by omega) (by omega)
      have a2 : IntKind.i64.wrap (64 * (i : Int) + (j : Int)) = ((64 * i + j : Nat) : Int) := by rw [wrap_i64 (by omega) (by omega)]; omega
      obtain ⟨num, hnum⟩ : ∃ z, 64 * i + j = z := ⟨_, rfl⟩
      rw [hnum] at a2
      have hbn : bit ws num = true := by unfold bit; rw [show num / 64 = i by omega, show num % 64 = j by omega]; exact hjw'.1
      have hcn : cnt (bit ws) num = cnt (bit ws) (64 * i + pos) := cnt_gap (by omega) fun b h1 h2 => by
        have := hlow (b - 64 * i) (by omega)
        rw [hx] at this
        have h5 : bit ws b = (word ws i).getLsbD (b - 64 * i) := by unfold bit; rw [show b / 64 = i by omega, show b % 64 = b - 64 * i by omega]
        rw [h5]
        have h6 : pos ≤ b - 64 * i := by omega
        simpa [h6] using this
      simp [hx0, a1]
      refine got_call (tz_spec (hr3.trans hro) hj64 hjx hlow) ?_
      rintro _ _ ⟨rfl, rfl⟩
      rename_i h3
      simp [a2]
      refine got_call (hstep (cnt (bit ws) num) num h3 hbn rfl (by rw [hcn]; exact hJ3)) ?_
      rintro v5 h5 ⟨hr5, hd5, ⟨rfl, hJ5⟩ | ⟨rfl, hst⟩⟩
      · simp
        refine ⟨64 - (j + 1), by omega, hI2 _ _ _ _ ⟨j + 1, x &&& (x - 1#64), rfl, by omega, rfl, fun b => ?_, ?_, hr5.trans hr3, hd5.trans hd3⟩ (by simp)⟩
        · rw [and_pred hj64 hjx hlow, hx]
          by_cases hb : j + 1 ≤ b
          · have h6 : pos ≤ b := by omega
            have h7 : ¬ b = j := by omega
            have h8 : b ≠ j := h7
            simp [hb, h6, h7]
          · by_cases hbj : b = j
            · subst hbj
              have h8 : ¬ b + 1 ≤ b := by omega
              simp
            · have h7 := hlow b (by omega)
              rw [hx] at h7
              rw [h7]
              simp; omega
        · have : cnt (bit ws) (64 * i + (j + 1)) = cnt (bit ws) num + 1 := by rw [← Nat.add_assoc, hnum, cnt_step, hbn]; rfl
          rw [this]; exact hJ5
      · simp
        exact hQ _ _ ⟨hr5.trans hr3, .inr hst⟩
  · have hiM : i = M := by omega
    subst hiM
    simp
    refine hQ _ _ ⟨hr2, .inl ⟨w, ?_⟩⟩
    have : cnt (bit ws) (64 * i) = cnt (bit ws) n := cnt_gap (by omega) fun b h1 h2 => cn.out b h1
    rw [← this]; exact hJ

end Go.Ax
