/- Seat bits: Slice. -/
import Derived.Test.YtpemffaclmpnnaaDoorYK
namespace Go.Ax
set_option linter.unusedVariables false
set_option linter.unusedSimpArgs false

/-- A word read across two. -/
theorem across {ws : List (BitVec 64)} {d m b : Nat} (hm : m < 64) (hb : b < 64) : (word ws d >>> m).getLsbD b = (bit ws (64 * d + m + b) && decide (m + b < 64)) := by
  rw [BitVec.getLsbD_ushiftRight]
  by_cases h : m + b < 64
  · rw [word_bit _ _ _ h]; simp [h, Nat.add_assoc]
  · rw [BitVec.getLsbD_of_ge _ _ (by omega)]; simp [h]

theorem across2 {ws : List (BitVec 64)} {d m b : Nat} (hm : m < 64) (hm0 : 0 < m) (hb : b < 64) : (word ws d >>> m ||| word ws (d + 1) <<< (64 - m)).getLsbD b = bit ws (64 * d + m + b) := by
  rw [BitVec.getLsbD_or, across hm hb, BitVec.getLsbD_shiftLeft]
  by_cases h : m + b < 64
  · have : b < 64 - m := by omega
    simp [h, this]
  · have h2 : ¬ b < 64 - m := by omega
    simp only [h, h2, hb, decide_true, decide_false, Bool.and_false, Bool.false_or, Bool.not_false, Bool.true_and]
    rw [word_bit _ _ _ (by omega)]
    congr 1; omega

def keptS : List Nat := [64, 65, 66, 67, 68, 69, 70, 71, 72]

/-- What holds at the head of Slice's loop. -/
def SInv (p f pt qt L n' : Nat) (ws : List (BitVec 64)) (h : Heap) (k : Nat) (t : List Value) (h2 : Heap) : Prop :=
  ∃ (i : Nat) (wsi : List (BitVec 64)) (e : List (Nat × Value)), k = L - i ∧ i ≤ L ∧ t = envT 100 ((0, ptr p) :: (1, .int .i64 f) :: (7, ptr pt) :: (35, .int .i64 L) :: (36, .int .i64 i) :: e) ∧
    wsi.length = L ∧ (∀ j b, j < i → b < 64 → (word wsi j).getLsbD b = bit ws (f + 64 * j + b)) ∧ SetAt h2 pt qt n' wsi ∧ Grow h h2

theorem SInv.mk' {p f pt qt L n' : Nat} {ws : List (BitVec 64)} {h h2 : Heap} {i : Nat} {wsi : List (BitVec 64)} {l : List (Nat × Value)} (hi : i ≤ L) (hl : wsi.length = L)
    (hw : ∀ j b, j < i → b < 64 → (word wsi j).getLsbD b = bit ws (f + 64 * j + b)) (s : SetAt h2 pt qt n' wsi) (g : Grow h h2)
    (q0 : slot l 0 = ptr p) (q1 : slot l 1 = .int .i64 f) (q7 : slot l 7 = ptr pt) (q35 : slot l 35 = .int .i64 L) (q36 : slot l 36 = .int .i64 i) :
    SInv p f pt qt L n' ws h (L - i) (forget 9426286221768660091011 (envT 100 l)) h2 := by
  obtain ⟨e, he⟩ := forget_some [0, 1, 7, 35, 36] keptS (keep := 9426286221768660091011) (N := 100) (by decide) l
  refine ⟨i, wsi, e, rfl, hi, he.trans ?_, hl, hw, s, g⟩
  simp [q0, q1, q7, q35, q36]

theorem slice_spec {h : Heap} {p q n : Nat} {ws : List (BitVec 64)} (s : SetAt h p q n ws) (cn : Canon n ws) (from_ to_ : Int) {f t : Nat} (hf : min (max from_ 0) (n : Int) = f) (ht : max (min to_ (n : Int)) f = t) :
    Gives P T (.fn F_bits_Set_Slice) [ptr p, .int .i64 from_, .int .i64 to_] h fun v h' => ∃ p2 q2 ws2, v = ptr p2 ∧ SetAt h' p2 q2 (t - f) ws2 ∧ Canon (t - f) ws2 ∧ (∀ i, bit ws2 i = (bit ws (f + i) && decide (i < t - f))) ∧ Grow h h' ∧ h.dyn.length ≤ p2 ∧ h.dyn.length ≤ q2 := by
  have hn := cn.le
  have hl := cn.len
  obtain ⟨b, c, r, w⟩ := s.ex
  refine gives_by t_bits_Set_Slice (by simp [c_bits_Set_Slice]) fun Q hQ => ?_
  have hft : f ≤ t := by omega
  have htn : t ≤ n := by omega
  have hw0 : IntKind.i64.wrap ((t : Int) - f) = ((t - f : Nat) : Int) := by rw [wrap_i64 (by omega) (by omega)]; omega
  obtain ⟨n', hn'⟩ : ∃ n', t - f = n' := ⟨_, rfl⟩
  rw [hn'] at hw0
  simp [c_bits_Set_Slice, ptr, r.get (i := 0) rfl, hf, ht, hw0]
  refine got_call (new_spec (by omega)) ?_
  rintro _ h1 ⟨pt, qt, rfl, st, g1, f1, f2⟩
  obtain ⟨bt, ct, rt, wt⟩ := st.ex
  obtain ⟨L, hL⟩ : ∃ L, (n' + 63) / 64 = L := ⟨_, rfl⟩
  simp [ptr, rt.get (i := 1) rfl, hL]
  refine go_loop (SInv p f pt qt L n' ws h) (n := L) ?_ ?_
  · exact SInv.mk' (i := 0) (by omega) (by simp [hL]) (fun j b hj => by omega) st g1 rfl rfl rfl rfl rfl
  · rintro k t2 h2 ⟨i, wsi, e, rfl, hi, rfl, hwl, hw, sti, g2⟩
    simp [ptr]
    refine branch_dec (fun hlt => ?_) (fun hge => ?_)
    · have hiL : i < L := by omega
      have i3 : i < wsi.length := by omega
      obtain ⟨kk, hk⟩ : ∃ kk, f + 64 * i = kk := ⟨_, rfl⟩
      obtain ⟨d, hd⟩ : ∃ d, kk / 64 = d := ⟨_, rfl⟩
      obtain ⟨m, hm⟩ : ∃ m, kk % 64 = m := ⟨_, rfl⟩
      have hkn : kk < n := by omega
      have e1 := tmod_nat kk 64
      have e2 := tdiv_nat kk 64
      rw [hm] at e1
      rw [hd] at e2
      simp only [Int.cast_ofNat_Int] at e1 e2
      have e3 : IntKind.i64.wrap (d : Int) = d := wrap_i64 (by omega) (by omega)
      have z1 : IntKind.i64.wrap (64 * (i : Int)) = 64 * (i : Int) := wrap_i64 (by omega) (by omega)
      have z2 : IntKind.i64.wrap ((f : Int) + 64 * (i : Int)) = (kk : Int) := by rw [wrap_i64 (by omega) (by omega)]; omega
      have hw1 : IntKind.i64.wrap ((i : Int) + 1) = ((i + 1 : Nat) : Int) := by rw [wrap_i64 (by omega) (by omega)]; omega
      have id : d < ws.length := by omega
      obtain ⟨vs, cs, rs, rws, _⟩ := (s.grow g2).open id
      obtain ⟨v, c', rh, rw, stt⟩ := sti.open i3
      obtain ⟨h3, e4, s3, c3, rh3, rw3⟩ := stt (word ws d >>> m)
      have rs3 := rs.chg c3 (by have := s.ex; obtain ⟨_, _, x, _⟩ := this; have := x.lt; omega)
      simp [hlt, hiL, e1, e2, e3, z1, z2, id, i3, rs.get (i := 1) rfl, rh.get (i := 1) rfl, rws.get (wv_get id), e4]
      have hset : ∀ x : BitVec 64, (∀ b, b < 64 → x.getLsbD b = bit ws (kk + b)) → ∀ j b, j < i + 1 → b < 64 → (word (wsi.set i x) j).getLsbD b = bit ws (f + 64 * j + b) := by
        intro x hx j b hj hb
        rw [word_set i3]
        by_cases hji : i = j
        · subst hji; rw [if_pos rfl, hx b hb, hk]
        · rw [if_neg hji]; exact hw j b (by omega) hb
      have g3 : Grow h h3 := g2.after c3 fun m hm hmq => by omega
      by_cases hm0 : m = 0
      · subst hm0
        simp [skipV, hw1]
        refine ⟨L - (i + 1), by omega, SInv.mk' (i := i + 1) (wsi := wsi.set i (word ws d >>> 0)) (by omega) (by simpa using hwl) (hset _ fun b hb => ?_) (by simpa using s3) g3 rfl rfl rfl rfl rfl⟩
        rw [across (by omega) hb]
        have : decide (0 + b < 64) = true := by simp; omega
        rw [this, Bool.and_true]
        congr 1; omega
      · have hmp : 0 < m := by omega
        have z3 : IntKind.i64.wrap ((d : Int) + 1) = ((d + 1 : Nat) : Int) := by rw [wrap_i64 (by omega) (by omega)]; omega
        obtain ⟨d1, hd1⟩ : ∃ d1, d + 1 = d1 := ⟨_, rfl⟩
        rw [hd1] at z3
        have z4 : IntKind.i64.wrap (64 - (m : Int)) = ((64 - m : Nat) : Int) := by rw [wrap_i64 (by omega) (by omega)]; omega
        obtain ⟨m1, hm1⟩ : ∃ m1, 64 - m = m1 := ⟨_, rfl⟩
        rw [hm1] at z4
        by_cases hdd : d1 < ws.length
        · have i4 : i < (wsi.set i (word ws d >>> m)).length := by simpa using i3
          obtain ⟨vt2, ct2, rh4, rw4, stt2⟩ := s3.open i4
          obtain ⟨vs2, cs2, rs4, rws4, _⟩ := (s.grow g3).open hdd
          obtain ⟨h5, e5, s5, c5, rh5, rw5⟩ := stt2 (word ws d >>> m ||| word ws d1 <<< m1)
          have hwi : word (wsi.set i (word ws d >>> m)) i = word ws d >>> m := by rw [word_set i3, if_pos rfl]
          have hg := rw4.get (wv_get i4)
          rw [hwi] at hg
          simp [hmp, e1, e2, e3, z3, z4, hdd, i3, hw1, rs4.get (i := 1) rfl, rh4.get (i := 1) rfl, rws4.get (wv_get hdd), hg, e5]
          rw [List.set_set] at s5
          refine ⟨L - (i + 1), by omega, SInv.mk' (i := i + 1) (wsi := wsi.set i (word ws d >>> m ||| word ws d1 <<< m1)) (by omega) (by simpa using hwl) (hset _ fun b hb => ?_) s5 (g3.after c5 fun m hm hmq => by omega) rfl rfl rfl rfl rfl⟩
          rw [← hd1, ← hm1, across2 (by omega) hmp hb]
          congr 1; omega
        · simp [skipV, hmp, e1, e2, e3, z3, hdd, hw1, rs3.get (i := 1) rfl]
          refine ⟨L - (i + 1), by omega, SInv.mk' (i := i + 1) (wsi := wsi.set i (word ws d >>> m)) (by omega) (by simpa using hwl) (hset _ fun b hb => ?_) s3 g3 rfl rfl rfl rfl rfl⟩
          rw [across (by omega) hb]
          by_cases hmb : m + b < 64
          · simp only [hmb, decide_true, Bool.and_true]
            congr 1; omega
          · have : bit ws (kk + b) = false := by unfold bit; rw [word_out (by omega)]; simp
            rw [this]; simp [hmb]
    · have hiL : i = L := by omega
      subst hiL
      simp
      refine got_call (trim_spec sti (by omega) (by omega)) ?_
      rintro v h3 ⟨ws2, s3, c2, hb, c3⟩
      simp
      rw [hn'] at hQ
      refine hQ _ _ ⟨pt, qt, ws2, rfl, s3, c2, fun j => ?_, g2.after c3 fun m hm hmq => by omega, f1, f2⟩
      rw [hb]
      by_cases hj : j < n'
      · simp only [hj, decide_true, Bool.and_true]
        show (word wsi (j / 64)).getLsbD (j % 64) = _
        rw [hw _ _ (by omega) (by omega)]
        congr 1; omega
      · simp [hj]
end Go.Ax
