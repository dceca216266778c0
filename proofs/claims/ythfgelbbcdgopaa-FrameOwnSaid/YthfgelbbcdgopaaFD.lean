/- Seat frame: frames and packed numbers opened; the law. -/
import Derived.Test.YthfgelbbcdgopaaFC
namespace Go.Ax
set_option linter.unusedVariables false
set_option linter.unusedSimpArgs false

theorem clone_app2 {h : Heap} {v : Value} {bs : List (BitVec 8)} (r : Reads (hnew h [] 1) v (bs.map bv)) (hl : bs.length ≤ 140737488351232) :
    ∃ v1 h1 q1, aappend (hnew h [] 1) 1 1 [.int .u8 0] (.slice (some ⟨h.dyn.length, 0, some 0⟩) 0 0) v = some (v1, h1) ∧ Own h1 v1 q1 (bs.map bv) ∧ Grow h h1 ∧ h.dyn.length ≤ q1 ∧ TopS v1 := by
  have hv : slen v = some (bs.map bv).length ∧ firstN (hnew h [] 1) 1 (bs.map bv).length v = some (bs.map bv) := by
    rcases r with ⟨rfl, h0⟩ | ⟨a, c, rfl, hl⟩
    · rw [h0]; exact ⟨rfl, rfl⟩
    · refine ⟨rfl, ?_⟩
      simp only [firstN, Nat.mul_one]
      exact loadN_of _ _ hl
  have own0 : Own (hnew h [] 1) (.slice (some ⟨h.dyn.length, 0, some 0⟩) 0 0) h.dyn.length [] := .inr (.inr ⟨0, [], rfl, by decide, RowAt.new _ _ _⟩)
  by_cases h0 : bs = []
  · subst h0
    have e := own0.app0 (by simp) (bytes := 1) (z := .int .u8 0) hv.1 hv.2
    exact ⟨_, _, h.dyn.length, e, own0, Grow.new _ _ _, Nat.le_refl _, fun b n c e => by cases e; exact .inr (.inr (Nat.le_refl _))⟩
  · have hg : (bs.map bv).all goodC = true := by rw [List.all_eq_true]; intro x hx; rw [List.mem_map] at hx; obtain ⟨y, _, rfl⟩ := hx; simp [bv]
    obtain ⟨v', h', q', e, o, c, _, d⟩ := own0.app (bytes := 1) (z := .int .u8 0) (by simpa using h0) hv.1 hv.2 hg (by simp; omega) (by simp; omega)
    obtain ⟨b, m, ht⟩ := aappend_top e hv.1 (by simpa using h0) (fun b n c e => by cases e; exact .inr (.inr (Nat.le_refl _)))
    refine ⟨v', h', q', e, by simpa using o, (Grow.new h [] 1).after c fun n hn hb => by have := hb.1; omega, ?_, ht ▸ TopS.full⟩
    rcases d with ⟨h1, _⟩ | h1
    · omega
    · rw [h1]; simp

theorem OpenFrame_spec {h : Heap} {v : Value} {bs : List (BitVec 8)} (r : Bytes h v bs) (hl : bs.length ≤ 140737488351232) (h8 : 8 ≤ bs.length) {w n : Nat} (g : Fine (bs.drop 8) w n) :
    Gives P T (.fn F_frame_OpenFrame) [v, .int .i64 n, .int .i64 w] h fun r h' => Grow h h' ∧ ((¬ goodF bs w n ∧ r = .tuple #[.int .i64 0, .slice none 0 0, .int .i64 70]) ∨ ∃ u q, goodF bs w n ∧ r = .tuple #[.int .i64 (baseF bs), u, .int .i64 0] ∧ Own h' u q ((bs.drop 8).map bv) ∧ h.dyn.length ≤ q ∧ q < h'.dyn.length) := by
  obtain ⟨b, c, ev, hsh⟩ := r.reads.shape
  clear hsh
  simp only [List.length_map] at ev
  obtain ⟨N, hN⟩ : ∃ N, bs.length = N := ⟨_, rfl⟩
  have hlen : ∀ h, lenR h v = some (.int .i64 N, h) := fun h => by rw [ev, hN]; simp
  refine gives_by t_frame_OpenFrame (by simp [c_frame_OpenFrame]) fun Q hQ => ?_
  have gn := g.nle
  simp [c_frame_OpenFrame]
  refine got_call (Bytes_spec g.nle g.wle) ?_
  rintro _ _ ⟨rfl, rfl⟩
  rename_i h
  have h8' : ¬ (N : Int) < 8 := by omega
  have h8'' : ¬ N < 8 := by omega
  obtain ⟨⟨v2, e2, B2⟩, v3, e3, B3⟩ := r.cut8 h8
  simp [hlen, h8', h8'', e3]
  have hw0 := @Word_spec h v3 (bs.take 8) B3 0 (by simp; omega) (by omega)
  refine got_call hw0 ?_
  rintro _ _ ⟨rfl, rfl⟩
  rename_i h
  have hbf : IntKind.i64.wrap (wi (wordB (bs.take 8) 0)) = baseF bs := rfl
  simp [e2, hbf]
  refine got_call (Unpack_uint64_spec B2 g) ?_
  rintro _ h1 ⟨g1, ⟨hnf, _⟩ | ⟨u1, q1, _, rfl, o1, hq1⟩⟩
  · exact absurd (lanes64 _ _ _) hnf
  obtain ⟨bc, cc, rfl, hr⟩ := o1.reads.shape
  simp only [List.length_map, lanesL_len] at hr ⊢
  have hz : (n = 0) = True ∨ (n = 0) = False := by by_cases h : n = 0 <;> simp [h]
  rcases hz with hz | hz
  all_goals
    simp [hz]
    refine go_loopK (fun kk ks h2 => ∃ (i : Nat), kk = n - i ∧ i ≤ n ∧ ks = [(0, v), (11, .int .i64 (baseF bs)), (14, .bool (zeroF (bs.drop 8) w n i (baseF bs))), (50, .slice bc n cc), (51, .int .i64 n), (52, .int .i64 i)] ∧ h2 = h1 ∧ within (bs.drop 8) w i (baseF bs)) (n := n)
      ⟨0, rfl, by omega, rfl, rfl, fun x hx => by omega⟩ (by simp [zeroF, hz]) ?_
    rintro I2 hI2 kk2 ks2 e2' h4 ⟨i, rfl, hi, rfl, rfl, hw⟩
    simp
    refine branch_dec (fun hlt => ?_) (fun hge => ?_)
    · have hin : i < n := by omega
      have e4 : IntKind.i64.wrap ((i : Int) + 1) = ((i + 1 : Nat) : Int) := by rw [wrap_i64 (by omega) (by omega)]; omega
      obtain ⟨a, rfl, hla⟩ := hr i hin
      have hld := hla i _ (lanes_get hin)
      simp [hin, hld]
      refine got_call over_spec ?_
      rintro _ _ ⟨rfl, rfl⟩
      rename_i h4
      cases ho : overB (baseF bs) (laneB (bs.drop 8) w i) with
      | true =>
        simp
        exact hQ _ _ ⟨g1, .inl ⟨fun h => by (have := h.1 i hin; rw [this] at ho; cases ho), rfl⟩⟩
      | false =>
        have hw' : within (bs.drop 8) w (i + 1) (baseF bs) := fun x hx => by
          by_cases hxi : x = i
          · rw [hxi]; exact ho
          · exact hw x (by omega)
        cases hzf : zeroF (bs.drop 8) w n i (baseF bs) with
        | true =>
          simp [skipV, e4]
          exact ⟨n - (i + 1), by omega, hI2 _ _ _ _ ⟨i + 1, rfl, by omega, rfl, rfl, hw'⟩ (by simp [zeroF_succ, hzf])⟩
        | false =>
          simp [e4]
          exact ⟨n - (i + 1), by omega, hI2 _ _ _ _ ⟨i + 1, rfl, by omega, rfl, rfl, hw'⟩ (by simp [zeroF_succ, hzf])⟩
    · have hin : i = n := by omega
      cases hzf : zeroF (bs.drop 8) w n i (baseF bs) with
      | false =>
        simp
        exact hQ _ _ ⟨g1, .inl ⟨fun h => by (have := h.2; rw [hin] at hzf; rw [this] at hzf; cases hzf), rfl⟩⟩
      | true =>
        obtain ⟨⟨v5, e5, B5⟩, _⟩ := (r.grow g1).cut8 h8
        simp [e5]
        refine got_call (own_spec B5.reads (by simp; omega)) ?_
        rintro u6 h6 ⟨q6, o6, g6, hq6, hl6⟩
        simp
        have := g1.len
        exact hQ _ _ ⟨g1.trans g6, .inr ⟨u6, q6, ⟨by rw [hin] at hw; exact hw, by rw [hin] at hzf; exact hzf⟩, rfl, o6, by omega, hl6⟩⟩

theorem refOpenFrame_spec {h : Heap} {v : Value} {bs : List (BitVec 8)} (r : Bytes h v bs) (hl : bs.length ≤ 140737488351232) (h8 : 8 ≤ bs.length) {w n : Nat} (g : Fine (bs.drop 8) w n) :
    Gives P T (.fn F_colonnaderef11_OpenFrame) [v, .int .i64 n, .int .i64 w] h fun r h' => Grow h h' ∧ ((¬ goodF bs w n ∧ r = .tuple #[.int .i64 0, .slice none 0 0, .int .i64 70]) ∨ ∃ u q, goodF bs w n ∧ r = .tuple #[.int .i64 (baseF bs), u, .int .i64 0] ∧ Own h' u q ((bs.drop 8).map bv) ∧ h.dyn.length ≤ q) := by
  obtain ⟨b, c, ev, hsh⟩ := r.reads.shape
  clear hsh
  simp only [List.length_map] at ev
  obtain ⟨N, hN⟩ : ∃ N, bs.length = N := ⟨_, rfl⟩
  have hlen : ∀ h, lenR h v = some (.int .i64 N, h) := fun h => by rw [ev, hN]; simp
  refine gives_by t_colonnaderef11_OpenFrame (by simp [c_colonnaderef11_OpenFrame]) fun Q hQ => ?_
  have gn := g.nle
  simp [c_colonnaderef11_OpenFrame]
  refine got_call (refBytes_spec g.nle g.wle) ?_
  rintro _ _ ⟨rfl, rfl⟩
  rename_i h
  have h8' : ¬ (N : Int) < 8 := by omega
  have h8'' : ¬ N < 8 := by omega
  obtain ⟨⟨v2, e2, B2⟩, v3, e3, B3⟩ := r.cut8 h8
  simp [hlen, h8', h8'', e3]
  refine got_call (Low_spec B3.reads (by simp; omega)) ?_
  rintro _ _ ⟨rfl, rfl⟩
  rename_i h
  have hbf : IntKind.i64.wrap (wi (wordB (bs.take 8) 0)) = baseF bs := rfl
  simp [e2, hbf]
  refine got_call (refUnpack_spec B2.reads g (kind := 64) (by omega)) ?_
  rintro _ h1 ⟨g1, ⟨hnf, _⟩ | ⟨u1, q1, _, rfl, o1, hq1⟩⟩
  · exact absurd (lanes64 _ _ _) hnf
  obtain ⟨bc, cc, rfl, hr⟩ := o1.reads.shape
  simp only [List.length_map, lanesL_len] at hr ⊢
  have hz : (n = 0) = True ∨ (n = 0) = False := by by_cases h : n = 0 <;> simp [h]
  rcases hz with hz | hz
  all_goals
    simp [hz]
    refine go_loopK (fun kk ks h2 => ∃ (i : Nat), kk = n - i ∧ i ≤ n ∧ ks = [(0, v), (11, .int .i64 (baseF bs)), (12, .slice bc n cc), (13, .bool (zeroF (bs.drop 8) w n i (baseF bs))), (14, .int .i64 i)] ∧ h2 = h1 ∧ within (bs.drop 8) w i (baseF bs)) (n := n)
      ⟨0, rfl, by omega, rfl, rfl, fun x hx => by omega⟩ (by simp [zeroF, hz]) ?_
    rintro I2 hI2 kk2 ks2 e2' h4 ⟨i, rfl, hi, rfl, rfl, hw⟩
    simp
    refine branch_dec (fun hlt => ?_) (fun hge => ?_)
    · have hin : i < n := by omega
      have e4 : IntKind.i64.wrap ((i : Int) + 1) = ((i + 1 : Nat) : Int) := by rw [wrap_i64 (by omega) (by omega)]; omega
      obtain ⟨a, rfl, hla⟩ := hr i hin
      have hld := hla i _ (lanes_get hin)
      simp [hin, hld]
      refine got_call refabove_spec ?_
      rintro _ _ ⟨rfl, rfl⟩
      rename_i h4
      cases ho : overB (baseF bs) (laneB (bs.drop 8) w i) with
      | true =>
        simp
        exact hQ _ _ ⟨g1, .inl ⟨fun h => by (have := h.1 i hin; rw [this] at ho; cases ho), rfl⟩⟩
      | false =>
        have hw' : within (bs.drop 8) w (i + 1) (baseF bs) := fun x hx => by
          by_cases hxi : x = i
          · rw [hxi]; exact ho
          · exact hw x (by omega)
        simp [hin, hld]
        by_cases h0 : laneB (bs.drop 8) w i = 0#64
        · simp [h0, e4]
          exact ⟨n - (i + 1), by omega, hI2 _ _ _ _ ⟨i + 1, rfl, by omega, rfl, rfl, hw'⟩ (by simp [zeroF_succ, h0])⟩
        · simp [h0, e4]
          exact ⟨n - (i + 1), by omega, hI2 _ _ _ _ ⟨i + 1, rfl, by omega, rfl, rfl, hw'⟩ (by simp [zeroF_succ, h0])⟩
    · have hin : i = n := by omega
      cases hzf : zeroF (bs.drop 8) w n i (baseF bs) with
      | false =>
        simp
        exact hQ _ _ ⟨g1, .inl ⟨fun h => by (have := h.2; rw [hin] at hzf; rw [this] at hzf; cases hzf), rfl⟩⟩
      | true =>
        obtain ⟨⟨v5, e5, B5⟩, _⟩ := ((r.grow g1).grow (Grow.new _ [] 1)).cut8 h8
        obtain ⟨v6, h6, q6, e6, o6, g6, hq6, _⟩ := clone_app2 B5.reads (by simp; omega)
        simp [e5, e6]
        have := g1.len
        exact hQ _ _ ⟨g1.trans g6, .inr ⟨v6, q6, ⟨by rw [hin] at hw; exact hw, by rw [hin] at hzf; exact hzf⟩, rfl, o6, by omega⟩⟩


/-- Why packed numbers are not opened. -/
def openP (bs : List (BitVec 8)) (w n : Int) : Int := if ¬ bytesE n w = 0 then bytesE n w else faultE bs w n

theorem openP_ok {bs : List (BitVec 8)} {w n : Int} (h : openP bs w n = 0) : ∃ w' n' : Nat, w = w' ∧ n = n' ∧ Fine bs w' n' := by
  unfold openP at h
  split at h
  · rename_i h1; exact absurd h h1
  exact faultE_fine h

theorem OpenPacked_bad {h : Heap} {v : Value} {bs : List (BitVec 8)} (r : Bytes h v bs) (hl : bs.length ≤ 140737488351232) {w n : Int} (he : ¬ openP bs w n = 0) :
    Gives P T (.fn F_frame_OpenPacked) [v, .int .i64 n, .int .i64 w] h fun r h' => r = .tuple #[.slice none 0 0, .int .i64 (openP bs w n)] ∧ h' = h := by
  refine gives_by t_frame_OpenPacked (by simp [c_frame_OpenPacked]) fun Q hQ => ?_
  simp [c_frame_OpenPacked]
  by_cases hb : bytesE n w = 0
  case neg =>
    have : openP bs w n = bytesE n w := by unfold openP; rw [if_pos hb]
    rw [this] at hQ
    refine got_call (Bytes_bad hb) ?_
    rintro _ _ ⟨rfl, rfl⟩
    simp [hb]
    exact hQ _ _ ⟨rfl, rfl⟩
  obtain ⟨n, w, rfl, rfl, hn, hw⟩ := bytesE_ok hb
  have hE : openP bs w n = faultE bs w n := by unfold openP; rw [if_neg (by simpa using hb)]
  rw [hE] at hQ he
  refine got_call (Bytes_spec hn hw) ?_
  rintro _ _ ⟨rfl, rfl⟩
  rename_i h
  simp
  refine got_call (Values_bad r hl he) ?_
  rintro _ _ ⟨rfl, rfl⟩
  simp [he]
  exact hQ _ _ ⟨rfl, rfl⟩

theorem refOpenPacked_bad {h : Heap} {v : Value} {bs : List (BitVec 8)} (r : Reads h v (bs.map bv)) (hl : bs.length ≤ 140737488351232) {w n : Int} (he : ¬ openP bs w n = 0) :
    Gives P T (.fn F_colonnaderef11_OpenPacked) [v, .int .i64 n, .int .i64 w] h fun r h' => r = .tuple #[.slice none 0 0, .int .i64 (openP bs w n)] ∧ h' = h := by
  refine gives_by t_colonnaderef11_OpenPacked (by simp [c_colonnaderef11_OpenPacked]) fun Q hQ => ?_
  simp [c_colonnaderef11_OpenPacked]
  by_cases hb : bytesE n w = 0
  case neg =>
    have : openP bs w n = bytesE n w := by unfold openP; rw [if_pos hb]
    rw [this] at hQ
    refine got_call (refBytes_bad hb) ?_
    rintro _ _ ⟨rfl, rfl⟩
    simp [hb]
    exact hQ _ _ ⟨rfl, rfl⟩
  obtain ⟨n, w, rfl, rfl, hn, hw⟩ := bytesE_ok hb
  have hE : openP bs w n = faultE bs w n := by unfold openP; rw [if_neg (by simpa using hb)]
  rw [hE] at hQ he
  refine got_call (refBytes_spec hn hw) ?_
  rintro _ _ ⟨rfl, rfl⟩
  rename_i h
  simp
  refine got_call (refUnpack_bad r hl (kind := 64) he) ?_
  rintro _ _ ⟨rfl, rfl⟩
  simp [he]
  exact hQ _ _ ⟨rfl, rfl⟩

theorem OpenPacked_spec {h : Heap} {v : Value} {bs : List (BitVec 8)} (r : Bytes h v bs) (hl : bs.length ≤ 140737488351232) {w n : Nat} (g : Fine bs w n) :
    Gives P T (.fn F_frame_OpenPacked) [v, .int .i64 n, .int .i64 w] h fun r h' => Grow h h' ∧ ((¬ within bs w n 0 ∧ r = .tuple #[.slice none 0 0, .int .i64 70]) ∨ ∃ u q, within bs w n 0 ∧ r = .tuple #[u, .int .i64 0] ∧ Own h' u q (bs.map bv) ∧ h.dyn.length ≤ q ∧ q < h'.dyn.length) := by
  refine gives_by t_frame_OpenPacked (by simp [c_frame_OpenPacked]) fun Q hQ => ?_
  simp [c_frame_OpenPacked]
  refine got_call (Bytes_spec g.nle g.wle) ?_
  rintro _ _ ⟨rfl, rfl⟩
  rename_i h
  simp
  refine got_call (Values_spec r (base := 0) g) ?_
  rintro _ h1 ⟨g1, ⟨hnf, rfl⟩ | ⟨u1, q1, hw, rfl, o1, hq1, _⟩⟩
  · simp
    exact hQ _ _ ⟨g1, .inl ⟨hnf, rfl⟩⟩
  · simp
    refine got_call (own_spec (r.reads.grow g1) hl) ?_
    rintro u6 h6 ⟨q6, o6, g6, hq6, hl6⟩
    simp
    have := g1.len
    exact hQ _ _ ⟨g1.trans g6, .inr ⟨u6, q6, hw, rfl, o6, by omega, hl6⟩⟩

theorem over_zero (c : BitVec 64) : overB 0 c = decide (9223372036854775807 < wi c) := by
  unfold overB
  rw [show (9223372036854775807#64 - BitVec.ofInt 64 0) = 9223372036854775807#64 by decide]
  rfl

theorem refOpenPacked_spec {h : Heap} {v : Value} {bs : List (BitVec 8)} (r : Reads h v (bs.map bv)) (hl : bs.length ≤ 140737488351232) {w n : Nat} (g : Fine bs w n) :
    Gives P T (.fn F_colonnaderef11_OpenPacked) [v, .int .i64 n, .int .i64 w] h fun r h' => Grow h h' ∧ ((¬ within bs w n 0 ∧ r = .tuple #[.slice none 0 0, .int .i64 70]) ∨ ∃ u q, within bs w n 0 ∧ r = .tuple #[u, .int .i64 0] ∧ Own h' u q (bs.map bv) ∧ h.dyn.length ≤ q) := by
  refine gives_by t_colonnaderef11_OpenPacked (by simp [c_colonnaderef11_OpenPacked]) fun Q hQ => ?_
  have gn := g.nle
  simp [c_colonnaderef11_OpenPacked]
  refine got_call (refBytes_spec g.nle g.wle) ?_
  rintro _ _ ⟨rfl, rfl⟩
  rename_i h
  simp
  refine got_call (refUnpack_spec r g (kind := 64) (by omega)) ?_
  rintro _ h1 ⟨g1, ⟨hnf, _⟩ | ⟨u1, q1, _, rfl, o1, hq1⟩⟩
  · exact absurd (lanes64 _ _ _) hnf
  obtain ⟨bc, cc, rfl, hr⟩ := o1.reads.shape
  simp only [List.length_map, lanesL_len] at hr ⊢
  simp
  refine go_loopK (fun kk ks h2 => ∃ (i : Nat), kk = n - i ∧ i ≤ n ∧ ks = [(0, v), (10, .slice bc n cc), (11, .int .i64 i)] ∧ h2 = h1 ∧ within bs w i 0) (n := n)
    ⟨0, rfl, by omega, rfl, rfl, fun x hx => by omega⟩ (by simp) ?_
  rintro I2 hI2 kk2 ks2 e2' h4 ⟨i, rfl, hi, rfl, rfl, hw⟩
  simp
  refine branch_dec (fun hlt => ?_) (fun hge => ?_)
  · have hin : i < n := by omega
    have e4 : IntKind.i64.wrap ((i : Int) + 1) = ((i + 1 : Nat) : Int) := by rw [wrap_i64 (by omega) (by omega)]; omega
    obtain ⟨a, rfl, hla⟩ := hr i hin
    have hld := hla i _ (lanes_get hin)
    have ho := over_zero (laneB bs w i)
    by_cases hov : 9223372036854775807 < wi (laneB bs w i)
    · simp [hin, hld, hov]
      exact hQ _ _ ⟨g1, .inl ⟨fun h => by (have := h i hin; rw [ho] at this; simp [hov] at this), rfl⟩⟩
    · simp [hin, hld, hov, e4]
      refine ⟨n - (i + 1), by omega, hI2 _ _ _ _ ⟨i + 1, rfl, by omega, rfl, rfl, fun x hx => ?_⟩ (by simp)⟩
      by_cases hxi : x = i
      · rw [hxi, ho]; simp [hov]
      · exact hw x (by omega)
  · have hin : i = n := by omega
    subst hin
    obtain ⟨v6, h6, q6, e6, o6, g6, hq6, _⟩ := clone_app (r.grow g1) hl
    simp [e6]
    have := g1.len
    exact hQ _ _ ⟨g1.trans g6, .inr ⟨v6, q6, hw, rfl, o6, by omega⟩⟩

end Go.Ax
