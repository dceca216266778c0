/- Seat frame: bytes lent and kept; Lift, Values. -/
import Derived.Test.YthfgelbbcdgopaaPG
namespace Go.Ax
set_option linter.unusedVariables false
set_option linter.unusedSimpArgs false

theorem num_spec {h : Heap} {e : Int} : Gives P T (.fn F_colonnadelaw11_num) [.int .i64 e] h fun r h' => r = .int .i64 e ∧ h' = h := by
  refine gives_by t_colonnadelaw11_num (by simp [c_colonnadelaw11_num]) fun Q hQ => ?_
  simp [c_colonnadelaw11_num]
  exact hQ _ _ ⟨rfl, rfl⟩

theorem bytesLent_spec {h : Heap} {v : Value} {bs : List (BitVec 8)} (r : Reads h v (bs.map bv)) (hl : bs.length ≤ 140737488351232) :
    Gives P T (.fn F_colonnadelaw11_bytesLent) [v] h fun r h' => ∃ q, Room h' r q (bs.map bv) ((marksL 66).map bv) ∧ Grow h h' ∧ h.dyn.length ≤ q := by
  obtain ⟨b, c, ev, _⟩ := r.shape
  simp only [List.length_map] at ev
  refine gives_by t_colonnadelaw11_bytesLent (by simp [c_colonnadelaw11_bytesLent]) fun Q hQ => ?_
  simp [c_colonnadelaw11_bytesLent]
  obtain ⟨v1, h1, q1, e1, o1, g1, hq1, t1⟩ := clone_app r hl
  simp [e1]
  refine go_loopK (fun kk ks h2 => ∃ (k : Nat) (u : Value) (q : Nat), kk = 66 - k ∧ k ≤ 66 ∧ ks = [(0, v), (3, u), (4, .int .i64 k)] ∧ Own h2 u q ((bs ++ marksL k).map bv) ∧ Grow h h2 ∧ h.dyn.length ≤ q ∧ TopS u ∧ (k ≠ 0 → ∃ b n, u = .slice b n gcap)) (n := 66)
    ⟨0, v1, q1, rfl, by omega, rfl, by simpa [marksL] using o1, g1, hq1, t1, fun h => absurd rfl h⟩ (by simp) ?_
  rintro I hI kk ks e h3 ⟨k, u, q, rfl, hk, rfl, ow, gg, hq, ht, _⟩
  simp
  by_cases hlt : k < 66
  · have hlt' : (k : Int) < 66 := by omega
    have f1 : IntKind.i64.wrap (150 + (k : Int)) = ((150 + k : Nat) : Int) := by rw [wrap_i64 (by omega) (by omega)]; omega
    have f2 := mark_wrap hlt
    obtain ⟨x, hx⟩ : ∃ x, BitVec.ofNat 8 (150 + k) = x := ⟨_, rfl⟩
    obtain ⟨n150, hn150⟩ : ∃ x, 150 + k = x := ⟨_, rfl⟩
    rw [hx, hn150] at f2
    rw [hn150] at f1
    have e4 : IntKind.i64.wrap ((k : Int) + 1) = ((k + 1 : Nat) : Int) := by rw [wrap_i64 (by omega) (by omega)]; omega
    obtain ⟨v', h', q', e8, o', c', l', d'⟩ := ow.push (bytes := 1) (z := .int .u8 0) (x := .int .u8 (bi x)) (by simp) (by simp [marksL_len]; omega) (by simp [marksL_len]; omega)
    obtain ⟨b, m, et⟩ := aappend_top e8 rfl (by simp) ht
    simp [hlt, hlt', f1, f2, e8, e4]
    refine ⟨66 - (k + 1), by omega, hI _ _ _ _ ⟨k + 1, v', q', rfl, by omega, rfl, ?_, gg.after c' fun n hn hb => by have := hb.1; omega, ?_, et ▸ TopS.full, fun _ => ⟨b, m, et⟩⟩ (by simp)⟩
    · rw [marksL_succ, hx, ← List.append_assoc, List.map_append]; exact o'
    · have := gg.len
      rcases d' with ⟨h1, _⟩ | h1 <;> omega
  · have hk66 : k = 66 := by omega
    subst hk66
    rename_i htop
    obtain ⟨v2, e2, rm⟩ := room_mk (l := bs.map bv) (more := (marksL 66).map bv) ow (htop (by omega)) (by simp)
    simp only [List.length_map] at e2
    subst ev
    simp [e2]
    exact hQ _ _ ⟨q, rm, gg, hq⟩

theorem bytesKept_spec {h : Heap} {v v' : Value} {q : Nat} {bs : List (BitVec 8)} (r : Room h v q (bs.map bv) ((marksL 66).map bv)) (r' : Reads h v' (bs.map bv)) (hl : bs.length ≤ 140737488351232) :
    Gives P T (.fn F_colonnadelaw11_bytesKept) [v, v'] h fun r h' => r = .bool true ∧ h' = h := by
  obtain ⟨b, c, ev, _⟩ := r'.shape
  simp only [List.length_map] at ev
  refine gives_by t_colonnadelaw11_bytesKept (by simp [c_colonnadelaw11_bytesKept]) fun Q hQ => ?_
  obtain ⟨N, hN⟩ : ∃ N, bs.length = N := ⟨_, rfl⟩
  obtain ⟨M, hM⟩ : ∃ M, N + 66 = M := ⟨_, rfl⟩
  have f0 : IntKind.i64.wrap ((N : Int) + 66) = (M : Nat) := by rw [wrap_i64 (by omega) (by omega)]; omega
  obtain ⟨v2, e2, r2⟩ := r.reach (n := M) (by simp [marksL_len]; omega)
  have hs1 := b2s_reads r.reads
  have hs2 := b2s_reads r'
  rw [hN] at ev
  obtain ⟨b2, c2, ev2, hr2⟩ := r2.shape
  have hlen2 : (bs.map bv ++ (marksL 66).map bv).length = M := by simp [marksL_len]; omega
  rw [hlen2] at ev2 hr2
  subst ev2
  subst ev
  simp [c_colonnadelaw11_bytesKept, hs1, hs2, f0, e2]
  refine go_loopK (fun kk ks h2 => ∃ (k : Nat), kk = 66 - k ∧ k ≤ 66 ∧ ks = [(1, .slice b N c), (5, .slice b2 M c2), (6, .int .i64 k)] ∧ h2 = h) (n := 66) ⟨0, rfl, by omega, rfl, rfl⟩ (by simp) ?_
  rintro I hI kk ks e h3 ⟨k, rfl, hk, rfl, rfl⟩
  simp
  by_cases hlt : k < 66
  · have hlt' : (k : Int) < 66 := by omega
    have f1 : IntKind.i64.wrap (150 + (k : Int)) = ((150 + k : Nat) : Int) := by rw [wrap_i64 (by omega) (by omega)]; omega
    have f2 := mark_wrap hlt
    have hget : (bs.map bv ++ (marksL 66).map bv)[N + k]? = some (.int .u8 (bi (BitVec.ofNat 8 (150 + k)))) := by
      rw [List.getElem?_append_right (by simp; omega)]
      simp [marksL, hN, hlt]; rfl
    obtain ⟨x, hx⟩ : ∃ x, BitVec.ofNat 8 (150 + k) = x := ⟨_, rfl⟩
    obtain ⟨n150, hn150⟩ : ∃ x, 150 + k = x := ⟨_, rfl⟩
    rw [hx, hn150] at f2
    rw [hx] at hget
    rw [hn150] at f1
    have f3 : IntKind.i64.wrap ((N : Int) + k) = ((N + k : Nat) : Int) := by rw [wrap_i64 (by omega) (by omega)]; omega
    have hlm : N + k < M := by omega
    obtain ⟨Nk, hNk⟩ : ∃ x, N + k = x := ⟨_, rfl⟩
    rw [hNk] at f3 hget hlm
    have e4 : IntKind.i64.wrap ((k : Int) + 1) = ((k + 1 : Nat) : Int) := by rw [wrap_i64 (by omega) (by omega)]; omega
    obtain ⟨a, rfl, hla⟩ := hr2 Nk hlm
    have hld := hla Nk _ hget
    simp [hlt, hlt', f1, f2, f3, hlm, hld, e4]
    exact ⟨66 - (k + 1), by omega, hI _ _ _ _ ⟨k + 1, rfl, by omega, rfl, rfl⟩ (by simp)⟩
  · have hk66 : k = 66 := by omega
    subst hk66
    simp
    exact hQ _ _ ⟨rfl, rfl⟩


/-- A code over a base. -/
def liftI (base : Int) (c : BitVec 64) : Int := IntKind.i64.wrap (base + wi c)
/-- Does a code lead beyond the greatest number? -/
def overB (base : Int) (c : BitVec 64) : Bool := decide (wi (9223372036854775807#64 - BitVec.ofInt 64 base) < wi c)

theorem lift_a (base : Int) (c : BitVec 64) : IntKind.i64.wrap (base + IntKind.i64.wrap (wi c)) = liftI base c := by
  unfold liftI
  simp [IntKind.wrap, IntKind.bits, IntKind.signed]
  try omega
theorem lift_b (base : Int) (c : BitVec 64) : IntKind.i64.wrap (wi (BitVec.ofInt 64 base + c)) = liftI base c := by
  unfold liftI
  have : wi (BitVec.ofInt 64 base + c) = (base + wi c) % 18446744073709551616 := by
    have h1 := wrap_wi (base + wi c)
    have h2 : BitVec.ofInt 64 (base + wi c) = BitVec.ofInt 64 base + c := by rw [BitVec.ofInt_add, ofInt_wi]
    rw [h2] at h1
    rw [← h1]
    simp [IntKind.wrap, IntKind.bits, IntKind.signed]
  rw [this]
  simp [IntKind.wrap, IntKind.bits, IntKind.signed]
  try omega

theorem over_spec {h : Heap} {base : Int} {c : BitVec 64} : Gives P T (.fn F_frame_over) [.int .i64 base, .int .u64 (wi c)] h fun r h' => r = .bool (overB base c) ∧ h' = h := by
  refine gives_by t_frame_over (by simp [c_frame_over]) fun Q hQ => ?_
  have e := wrap_wi base
  simp [c_frame_over, e]
  exact hQ _ _ ⟨rfl, rfl⟩

theorem Lift_spec {h : Heap} {base : Int} {c : BitVec 64} : Gives P T (.fn F_frame_Lift) [.int .i64 base, .int .u64 (wi c)] h fun r h' => r = .int .i64 (liftI base c) ∧ h' = h := by
  refine gives_by t_frame_Lift (by simp [c_frame_Lift]) fun Q hQ => ?_
  simp [c_frame_Lift, lift_a]
  exact hQ _ _ ⟨rfl, rfl⟩

theorem refabove_spec {h : Heap} {base : Int} {c : BitVec 64} : Gives P T (.fn F_colonnaderef11_above) [.int .i64 base, .int .u64 (wi c)] h fun r h' => r = .tuple #[.int .i64 (liftI base c), .bool (overB base c)] ∧ h' = h := by
  refine gives_by t_colonnaderef11_above (by simp [c_colonnaderef11_above]) fun Q hQ => ?_
  have e := wrap_wi base
  have e2 := lift_b base c
  simp [c_colonnaderef11_above, e, e2]
  exact hQ _ _ ⟨rfl, rfl⟩

theorem refLift_spec {h : Heap} {base : Int} {c : BitVec 64} : Gives P T (.fn F_colonnaderef11_Lift) [.int .i64 base, .int .u64 (wi c)] h fun r h' => r = .int .i64 (liftI base c) ∧ h' = h := by
  refine gives_by t_colonnaderef11_Lift (by simp [c_colonnaderef11_Lift]) fun Q hQ => ?_
  simp [c_colonnaderef11_Lift]
  refine got_call refabove_spec ?_
  rintro _ _ ⟨rfl, rfl⟩
  simp
  exact hQ _ _ ⟨rfl, rfl⟩

/-- A number with a sign. -/
def iv (x : Int) : Value := .int .i64 x

theorem SameInts_spec {h : Heap} {v v' : Value} {cs : List Int} (r : Reads h v (cs.map iv)) (r' : Reads h v' (cs.map iv)) (hl : cs.length ≤ 140737488351232) :
    Gives P T (.fn F_colonnaderef08_SameInts) [v, v'] h fun r h' => r = .bool true ∧ h' = h := by
  obtain ⟨b, c, rfl, hr⟩ := r.shape
  obtain ⟨b', c', rfl, hr'⟩ := r'.shape
  simp only [List.length_map] at hr hr' ⊢
  obtain ⟨N, hN⟩ : ∃ N, cs.length = N := ⟨_, rfl⟩
  rw [hN] at hr hr' hl ⊢
  refine gives_by t_colonnaderef08_SameInts (by simp [c_colonnaderef08_SameInts]) fun Q hQ => ?_
  simp [c_colonnaderef08_SameInts]
  refine go_loopK (fun kk ks h2 => ∃ (i : Nat), kk = N - i ∧ i ≤ N ∧ ks = [(0, .slice b N c), (1, .slice b' N c'), (5, .int .i64 i)] ∧ h2 = h) (n := N) ⟨0, rfl, by omega, rfl, rfl⟩ (by simp) ?_
  rintro I hI kk ks e h3 ⟨i, rfl, hi, rfl, rfl⟩
  simp
  refine branch_dec (fun hlt => ?_) (fun hge => ?_)
  · have hil : i < N := by omega
    have e4 : IntKind.i64.wrap ((i : Int) + 1) = ((i + 1 : Nat) : Int) := by rw [wrap_i64 (by omega) (by omega)]; omega
    obtain ⟨a, rfl, hla⟩ := hr i hil
    obtain ⟨a', rfl, hla'⟩ := hr' i hil
    have hg : (cs.map iv)[i]? = some (.int .i64 (cs[i]'(by omega))) := by rw [List.getElem?_map, List.getElem?_eq_getElem (by omega)]; rfl
    have hld := hla i _ hg
    have hld' := hla' i _ hg
    simp [hil, hld, hld', e4]
    exact ⟨N - (i + 1), by omega, hI _ _ _ _ ⟨i + 1, rfl, by omega, rfl, rfl⟩ (by simp)⟩
  · have hil : i = N := by omega
    subst hil
    simp
    exact hQ _ _ ⟨rfl, rfl⟩

/-- No code leads beyond. -/
def within (bs : List (BitVec 8)) (w n : Nat) (base : Int) : Prop := ∀ i, i < n → overB base (laneB bs w i) = false

/-- The numbers over a base. -/
def valsL (bs : List (BitVec 8)) (w n : Nat) (base : Int) : List Int := (lanesL bs w n).map (liftI base)
theorem valsL_len (bs : List (BitVec 8)) (w n : Nat) (base : Int) : (valsL bs w n base).length = n := by simp [valsL, lanesL_len]
theorem valsL_succ (bs : List (BitVec 8)) (w n : Nat) (base : Int) : valsL bs w (n + 1) base = valsL bs w n base ++ [liftI base (laneB bs w n)] := by simp [valsL, lanesL_succ]
theorem valsL_get {bs : List (BitVec 8)} {w n i : Nat} {base : Int} (hi : i < n) : (valsL bs w n base)[i]? = some (liftI base (laneB bs w i)) := by
  unfold valsL lanesL
  rw [List.getElem?_map, List.getElem?_map, List.getElem?_range hi]; rfl
theorem lanes_get {bs : List (BitVec 8)} {w n i : Nat} (hi : i < n) : ((lanesL bs w n).map (kv .u64))[i]? = some (.int .u64 (wi (laneB bs w i))) := by
  unfold lanesL
  rw [List.getElem?_map, List.getElem?_map, List.getElem?_range hi]; rfl
theorem lanes64 (bs : List (BitVec 8)) (w n : Nat) : lanesFit bs w n 64 := fun i _ => (laneB bs w i).isLt

theorem Values_bad {h : Heap} {v : Value} {bs : List (BitVec 8)} (r : Bytes h v bs) (hl : bs.length ≤ 140737488351232) {base w n : Int} (hf : ¬ faultE bs w n = 0) :
    Gives P T (.fn F_frame_Values) [.int .i64 base, v, .int .i64 n, .int .i64 w] h fun r h' => r = .tuple #[.slice none 0 0, .int .i64 (faultE bs w n)] ∧ h' = h := by
  refine gives_by t_frame_Values (by simp [c_frame_Values]) fun Q hQ => ?_
  simp [c_frame_Values]
  refine got_call (Unpack_uint64_bad r hl hf) ?_
  rintro _ _ ⟨rfl, rfl⟩
  simp [hf]
  exact hQ _ _ ⟨rfl, rfl⟩

theorem refValues_bad {h : Heap} {v : Value} {bs : List (BitVec 8)} (r : Reads h v (bs.map bv)) (hl : bs.length ≤ 140737488351232) {base w n : Int} (hf : ¬ faultE bs w n = 0) :
    Gives P T (.fn F_colonnaderef11_Values) [.int .i64 base, v, .int .i64 n, .int .i64 w] h fun r h' => r = .tuple #[.slice none 0 0, .int .i64 (faultE bs w n)] ∧ h' = h := by
  refine gives_by t_colonnaderef11_Values (by simp [c_colonnaderef11_Values]) fun Q hQ => ?_
  simp [c_colonnaderef11_Values]
  refine got_call (refUnpack_bad r hl (kind := 64) hf) ?_
  rintro _ _ ⟨rfl, rfl⟩
  simp [hf]
  exact hQ _ _ ⟨rfl, rfl⟩

theorem refValues_spec {h : Heap} {v : Value} {bs : List (BitVec 8)} (r : Reads h v (bs.map bv)) {base : Int} {w n : Nat} (g : Fine bs w n) :
    Gives P T (.fn F_colonnaderef11_Values) [.int .i64 base, v, .int .i64 n, .int .i64 w] h fun r h' => Grow h h' ∧ ((¬ within bs w n base ∧ r = .tuple #[.slice none 0 0, .int .i64 70]) ∨ ∃ u q, within bs w n base ∧ r = .tuple #[u, .int .i64 0] ∧ Own h' u q ((valsL bs w n base).map iv) ∧ h.dyn.length ≤ q) := by
  refine gives_by t_colonnaderef11_Values (by simp [c_colonnaderef11_Values]) fun Q hQ => ?_
  have gn := g.nle
  simp [c_colonnaderef11_Values]
  refine got_call (refUnpack_spec r g (kind := 64) (by omega)) ?_
  rintro _ h1 ⟨g1, ⟨hnf, _⟩ | ⟨u1, q1, _, rfl, o1, hq1⟩⟩
  · exact absurd (lanes64 _ _ _) hnf
  obtain ⟨b, c, rfl, hr⟩ := o1.reads.shape
  simp only [List.length_map, lanesL_len] at hr ⊢
  simp
  refine go_loopK (fun kk ks h2 => ∃ (i : Nat) (u : Value) (q : Nat), kk = n - i ∧ i ≤ n ∧ ks = [(0, .int .i64 base), (10, .slice b n c), (12, u), (13, .int .i64 i)] ∧ Own h2 u q ((valsL bs w i base).map iv) ∧ Grow h1 h2 ∧ h1.dyn.length ≤ q ∧ within bs w i base) (n := n)
    ⟨0, .slice none 0 0, h1.dyn.length, rfl, by omega, rfl, by simpa [valsL, lanesL] using Own.nil _ _, Chg.refl _, Nat.le_refl _, fun x hx => by omega⟩ (by simp) ?_
  rintro I2 hI2 kk2 ks2 e2 h4 ⟨i, u, q, rfl, hi, rfl, ow, gg, hq, hw⟩
  simp
  refine branch_dec (fun hlt => ?_) (fun hge => ?_)
  · have hin : i < n := by omega
    have e4 : IntKind.i64.wrap ((i : Int) + 1) = ((i + 1 : Nat) : Int) := by rw [wrap_i64 (by omega) (by omega)]; omega
    obtain ⟨a, rfl, hla⟩ := hr i hin
    have hld := hload_grow gg (hla i _ (lanes_get hin))
    simp [hin, hld]
    refine got_call refabove_spec ?_
    rintro _ _ ⟨rfl, rfl⟩
    rename_i h4
    cases ho : overB base (laneB bs w i) with
    | true =>
      simp
      exact hQ _ _ ⟨g1.trans gg, .inl ⟨fun h => by (rw [h i hin] at ho; cases ho), rfl⟩⟩
    | false =>
      simp [hin, hld]
      refine got_call refLift_spec ?_
      rintro _ _ ⟨rfl, rfl⟩
      rename_i h4
      obtain ⟨v', h', q', e8, o', c', l', d'⟩ := ow.push (bytes := 8) (z := .int .i64 0) (x := .int .i64 (liftI base (laneB bs w i))) (by simp) (by simp [valsL_len]; omega) (by simp [valsL_len]; omega)
      simp [e8, e4]
      refine ⟨n - (i + 1), by omega, hI2 _ _ _ _ ⟨i + 1, v', q', rfl, by omega, rfl, ?_, gg.after c' (fun n hn hb => by have := hb.1; omega), own_q gg.len hq d', fun x hx => ?_⟩ (by simp)⟩
      · rw [valsL_succ, List.map_append]; exact o'
      · by_cases hxi : x = i
        · rw [hxi]; exact ho
        · exact hw x (by omega)
  · have hin : i = n := by omega
    subst hin
    simp
    have := g1.len
    exact hQ _ _ ⟨g1.trans gg, .inr ⟨u, q, hw, rfl, ow, by omega⟩⟩

theorem Values_spec {h : Heap} {v : Value} {bs : List (BitVec 8)} (r : Bytes h v bs) {base : Int} {w n : Nat} (g : Fine bs w n) :
    Gives P T (.fn F_frame_Values) [.int .i64 base, v, .int .i64 n, .int .i64 w] h fun r h' => Grow h h' ∧ ((¬ within bs w n base ∧ r = .tuple #[.slice none 0 0, .int .i64 70]) ∨ ∃ u q, within bs w n base ∧ r = .tuple #[u, .int .i64 0] ∧ Own h' u q ((valsL bs w n base).map iv) ∧ h.dyn.length ≤ q ∧ q < h'.dyn.length) := by
  refine gives_by t_frame_Values (by simp [c_frame_Values]) fun Q hQ => ?_
  have gn := g.nle
  simp [c_frame_Values]
  refine got_call (Unpack_uint64_spec r g) ?_
  rintro _ h1 ⟨g1, ⟨hnf, _⟩ | ⟨u1, q1, _, rfl, o1, hq1⟩⟩
  · exact absurd (lanes64 _ _ _) hnf
  obtain ⟨b, c, rfl, hr⟩ := o1.reads.shape
  simp only [List.length_map, lanesL_len] at hr ⊢
  simp [mkS_nat (h := h1) (bytes := 8) (n := n) (z := .int .i64 0) (by omega) (by omega)]
  refine go_loopK (fun kk ks h2 => ∃ (i : Nat) (L : List Value), kk = n - i ∧ i ≤ n ∧ ks = [(0, .int .i64 base), (12, .slice (some ⟨h1.dyn.length, 0, some 0⟩) n n), (27, .slice b n c), (28, .int .i64 n), (29, .int .i64 i)] ∧ L.length = n ∧ (∀ j, j < i → L[j]? = some (.int .i64 (liftI base (laneB bs w j)))) ∧ RowAt h2 h1.dyn.length 0 1 L ∧ Grow h1 h2 ∧ within bs w i base) (n := n)
    ⟨0, List.replicate n (.int .i64 0), rfl, by omega, rfl, by simp, fun j hj => by omega, RowAt.new _ _ _, Grow.new _ _ _, fun x hx => by omega⟩ (by simp) ?_
  rintro I2 hI2 kk2 ks2 e2 h4 ⟨i, L, rfl, hi, rfl, hL, hv, row, gg, hw⟩
  simp
  refine branch_dec (fun hlt => ?_) (fun hge => ?_)
  · have hin : i < n := by omega
    have e4 : IntKind.i64.wrap ((i : Int) + 1) = ((i + 1 : Nat) : Int) := by rw [wrap_i64 (by omega) (by omega)]; omega
    obtain ⟨a, rfl, hla⟩ := hr i hin
    have hld := hload_grow gg (hla i _ (lanes_get hin))
    simp [hin, hld]
    refine got_call over_spec ?_
    rintro _ _ ⟨rfl, rfl⟩
    rename_i h4
    cases ho : overB base (laneB bs w i) with
    | true =>
      simp
      exact hQ _ _ ⟨g1.trans gg, .inl ⟨fun h => by (rw [h i hin] at ho; cases ho), rfl⟩⟩
    | false =>
      simp
      refine got_call Lift_spec ?_
      rintro _ _ ⟨rfl, rfl⟩
      rename_i h4
      obtain ⟨h5, es, row5, c5, n5⟩ := row.store (i := i) (by omega) (x := .int .i64 (liftI base (laneB bs w i))) (by simp)
      simp [hin, es, e4]
      refine ⟨n - (i + 1), by omega, hI2 _ _ _ _ ⟨i + 1, _, rfl, by omega, rfl, by simpa using hL, fun j hj => ?_, row5, gg.after c5 (fun n hn hb => by omega), fun x hx => ?_⟩ (by simp)⟩
      · by_cases hji : j = i
        · subst hji; rw [List.getElem?_set_self (by omega)]
        · rw [List.getElem?_set_ne (fun e => hji e.symm)]; exact hv j (by omega)
      · by_cases hxi : x = i
        · rw [hxi]; exact ho
        · exact hw x (by omega)
  · have hin : i = n := by omega
    subst hin
    simp
    have hLe : L = (valsL bs w i base).map iv := by
      apply List.ext_getElem?
      intro j
      by_cases hj : j < i
      · rw [hv j hj, List.getElem?_map, valsL_get hj]; rfl
      · rw [List.getElem?_eq_none (by omega), List.getElem?_eq_none (by simp [valsL_len]; omega)]
    subst hLe
    have := g1.len
    refine hQ _ _ ⟨g1.trans gg, .inr ⟨_, h1.dyn.length, hw, rfl, .inr (.inr ⟨0, [], by simp [valsL_len], by simp [valsL_len]; unfold gcap; omega, by simpa using row⟩), by omega, row.lt⟩⟩

end Go.Ax
