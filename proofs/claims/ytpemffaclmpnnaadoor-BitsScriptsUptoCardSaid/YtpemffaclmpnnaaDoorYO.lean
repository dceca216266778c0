/- Seat bits: Join. -/
import Derived.Test.YtpemffaclmpnnaaDoorYN
import Derived.Test.YtpemffaclmpnnaaDoorYH
namespace Go.Ax
set_option linter.unusedVariables false
set_option linter.unusedSimpArgs false

/-- A set somewhere: its blocks, its length, its words. -/
structure SetD where
  p : Nat
  q : Nat
  n : Nat
  ws : List (BitVec 64)

def SetD.ok (h : Heap) (s : SetD) : Prop := SetAt h s.p s.q s.n s.ws ∧ Canon s.n s.ws

def sumN : List SetD → Nat
  | [] => 0
  | s :: r => s.n + sumN r

/-- Is the number i in, when the sets are laid behind one another? -/
def joinB : List SetD → Nat → Bool
  | [], _ => false
  | s :: r, i => if i < s.n then bit s.ws i else joinB r (i - s.n)

theorem joinB_out : ∀ (l : List SetD) (i : Nat), sumN l ≤ i → joinB l i = false
  | [], _, _ => rfl
  | s :: r, i, h => by
    simp only [sumN] at h
    simp only [joinB]
    rw [if_neg (by omega)]
    exact joinB_out r _ (by omega)

theorem sumN_take (l : List SetD) : ∀ {a : Nat} {s : SetD}, l[a]? = some s → sumN (l.take (a + 1)) = sumN (l.take a) + s.n := by
  induction l with
  | nil => intro a s h; simp at h
  | cons x r ih =>
    intro a s h
    cases a with
    | zero => simp at h; subst h; simp [sumN]
    | succ a =>
      simp only [List.getElem?_cons_succ] at h
      have := ih h
      simp only [List.take_succ_cons, sumN] at this ⊢
      omega

theorem joinB_at (l : List SetD) : ∀ {a : Nat} {s : SetD}, l[a]? = some s → ∀ i, i < s.n → joinB l (sumN (l.take a) + i) = bit s.ws i := by
  induction l with
  | nil => intro a s h; simp at h
  | cons x r ih =>
    intro a s h i hi
    cases a with
    | zero => simp at h; subst h; simp [sumN, joinB, hi]
    | succ a =>
      simp only [List.getElem?_cons_succ] at h
      have := ih h i hi
      simp only [List.take_succ_cons, sumN, joinB]
      rw [if_neg (by omega), show x.n + sumN (r.take a) + i - x.n = sumN (r.take a) + i by omega]
      exact this

theorem sumN_take_le (l : List SetD) (a : Nat) : sumN (l.take a) ≤ sumN l := by
  induction l generalizing a with
  | nil => simp [sumN]
  | cons x r ih =>
    cases a with
    | zero => simp [sumN]
    | succ a => simp only [List.take_succ_cons, sumN]; have := ih a; omega

def keptJ : List Nat := [71, 72, 73, 74, 75, 76, 77, 78, 79]

/-- At the head of the loop that adds up the lengths. -/
def JInv1 (v : Value) (b : Option Addr) (c len : Nat) (sets : List SetD) (h : Heap) (k : Nat) (t : List Value) (h2 : Heap) : Prop :=
  ∃ (a : Nat) (e : List (Nat × Value)), k = len - a ∧ a ≤ len ∧ t = envT 106 ((0, v) :: (4, .int .i64 (sumN (sets.take a) : Nat)) :: (14, .slice b len c) :: (15, .int .i64 len) :: (16, .int .i64 a) :: e) ∧ h2 = h

theorem JInv1.mk' {v : Value} {b : Option Addr} {c len : Nat} {sets : List SetD} {h : Heap} {a : Nat} {l : List (Nat × Value)} (ha : a ≤ len)
    (q0 : slot l 0 = v) (q4 : slot l 4 = .int .i64 (sumN (sets.take a) : Nat)) (q14 : slot l 14 = .slice b len c) (q15 : slot l 15 = .int .i64 len) (q16 : slot l 16 = .int .i64 a) :
    JInv1 v b c len sets h (len - a) (forget 1206564636373194352214033 (envT 106 l)) h := by
  obtain ⟨e, he⟩ := forget_some [0, 4, 14, 15, 16] keptJ (keep := 1206564636373194352214033) (N := 106) (by decide) l
  refine ⟨a, e, rfl, ha, he.trans ?_, rfl⟩
  simp [q0, q4, q14, q15, q16]

/-- At the head of the loop over the sets. -/
def JInv2 (b : Option Addr) (c len pt qt N W : Nat) (sets : List SetD) (h : Heap) (k : Nat) (t : List Value) (h2 : Heap) : Prop :=
  ∃ (a : Nat) (wsi : List (BitVec 64)) (e : List (Nat × Value)), k = len - a ∧ a ≤ len ∧ t = envT 106 ((7, ptr pt) :: (8, .int .i64 (sumN (sets.take a) : Nat)) :: (33, .slice b len c) :: (34, .int .i64 len) :: (35, .int .i64 a) :: e) ∧
    wsi.length = W ∧ (∀ i, bit wsi i = (joinB sets i && decide (i < sumN (sets.take a)))) ∧ SetAt h2 pt qt N wsi ∧ Grow h h2

theorem JInv2.mk' {b : Option Addr} {c len pt qt N W : Nat} {sets : List SetD} {h h2 : Heap} {a : Nat} {wsi : List (BitVec 64)} {l : List (Nat × Value)} (ha : a ≤ len) (hl : wsi.length = W)
    (hw : ∀ i, bit wsi i = (joinB sets i && decide (i < sumN (sets.take a)))) (s : SetAt h2 pt qt N wsi) (g : Grow h h2)
    (q7 : slot l 7 = ptr pt) (q8 : slot l 8 = .int .i64 (sumN (sets.take a) : Nat)) (q33 : slot l 33 = .slice b len c) (q34 : slot l 34 = .int .i64 len) (q35 : slot l 35 = .int .i64 a) :
    JInv2 b c len pt qt N W sets h (len - a) (forget 1206564636373254481641856 (envT 106 l)) h2 := by
  obtain ⟨e, he⟩ := forget_some [7, 8, 33, 34, 35] keptJ (keep := 1206564636373254481641856) (N := 106) (by decide) l
  refine ⟨a, wsi, e, rfl, ha, he.trans ?_, hl, hw, s, g⟩
  simp [q7, q8, q33, q34, q35]

/-- At the head of the loop over one set's words. -/
def JInv3 (b : Option Addr) (c len pt qt N W d pa at_ L : Nat) (hd : Value) (ws : List (BitVec 64)) (sets : List SetD) (h : Heap) (k : Nat) (t : List Value) (h2 : Heap) : Prop :=
  ∃ (j : Nat) (wsi : List (BitVec 64)) (e : List (Nat × Value)), k = L - j ∧ j ≤ L ∧ t = envT 106 ((7, ptr pt) :: (8, .int .i64 at_) :: (10, ptr pa) :: (33, .slice b len c) :: (34, .int .i64 len) :: (35, .int .i64 d) :: (42, hd) :: (43, .int .i64 L) :: (44, .int .i64 j) :: e) ∧
    wsi.length = W ∧ (∀ i, bit wsi i = if i < at_ then joinB sets i else (bit ws (i - at_) && decide (i - at_ < 64 * j))) ∧ SetAt h2 pt qt N wsi ∧ Grow h h2

theorem JInv3.mk' {b : Option Addr} {c len pt qt N W d pa at_ L : Nat} {hd : Value} {ws : List (BitVec 64)} {sets : List SetD} {h h2 : Heap} {j : Nat} {wsi : List (BitVec 64)} {l : List (Nat × Value)} (hj : j ≤ L) (hl : wsi.length = W)
    (hw : ∀ i, bit wsi i = if i < at_ then joinB sets i else (bit ws (i - at_) && decide (i - at_ < 64 * j))) (s : SetAt h2 pt qt N wsi) (g : Grow h h2)
    (q7 : slot l 7 = ptr pt) (q8 : slot l 8 = .int .i64 at_) (q10 : slot l 10 = ptr pa) (q33 : slot l 33 = .slice b len c) (q34 : slot l 34 = .int .i64 len) (q35 : slot l 35 = .int .i64 d) (q42 : slot l 42 = hd) (q43 : slot l 43 = .int .i64 L) (q44 : slot l 44 = .int .i64 j) :
    JInv3 b c len pt qt N W d pa at_ L hd ws sets h (L - j) (forget 1206564636404040807220608 (envT 106 l)) h2 := by
  obtain ⟨e, he⟩ := forget_some [7, 8, 10, 33, 34, 35, 42, 43, 44] keptJ (keep := 1206564636404040807220608) (N := 106) (by decide) l
  refine ⟨j, wsi, e, rfl, hj, he.trans ?_, hl, hw, s, g⟩
  simp [q7, q8, q10, q33, q34, q35, q42, q43, q44]

/-- One more word laid down. -/
theorem join_step {f g : Nat → Bool} {at_ j i : Nat} {x : Bool} (hx : x = (decide (at_ + 64 * j ≤ i) && decide (i < at_ + 64 * (j + 1)) && g (i - at_))) :
    ((if i < at_ then f i else (g (i - at_) && decide (i - at_ < 64 * j))) || x) = if i < at_ then f i else (g (i - at_) && decide (i - at_ < 64 * (j + 1))) := by
  subst hx
  by_cases h1 : i < at_
  · have : ¬ at_ + 64 * j ≤ i := by omega
    simp [h1, this]
  · rw [if_neg h1, if_neg h1]
    by_cases h2 : i - at_ < 64 * j
    · have h3 : ¬ at_ + 64 * j ≤ i := by omega
      have h4 : i - at_ < 64 * (j + 1) := by omega
      simp [h2, h3, h4]
    · have h3 : at_ + 64 * j ≤ i := by omega
      by_cases h4 : i < at_ + 64 * (j + 1)
      · have h5 : i - at_ < 64 * (j + 1) := by omega
        simp [h2, h3, h4, h5]
      · have h5 : ¬ i - at_ < 64 * (j + 1) := by omega
        simp [h2, h4, h5]

theorem join_spec {h : Heap} {v : Value} {sets : List SetD} (r : Reads h v (sets.map fun s => ptr s.p)) (hs : ∀ s ∈ sets, s.ok h) (hN : sumN sets ≤ 16777216) (hlen : sets.length ≤ 100000000000000000) :
    Gives P T (.fn F_bits_Join) [v] h fun v h' => ∃ p2 q2 ws2, v = .tuple #[ptr p2, .int .i64 0] ∧ SetAt h' p2 q2 (sumN sets) ws2 ∧ Canon (sumN sets) ws2 ∧ (∀ i, bit ws2 i = joinB sets i) ∧ Grow h h' ∧ h.dyn.length ≤ p2 ∧ h.dyn.length ≤ q2 := by
  obtain ⟨b, c, rfl, hr⟩ := r.shape
  simp only [List.length_map] at hr ⊢
  obtain ⟨len, hL⟩ : ∃ len, sets.length = len := ⟨_, rfl⟩
  rw [hL] at hr hlen ⊢
  refine gives_by t_bits_Join (by simp [c_bits_Join]) fun Q hQ => ?_
  simp [c_bits_Join]
  refine go_loop (JInv1 (.slice b len c) b c len sets h) (n := len) ?_ ?_
  · exact JInv1.mk' (a := 0) (by omega) rfl rfl rfl rfl rfl
  · rintro k t h2 ⟨a, e, rfl, ha, rfl, rfl⟩
    simp
    refine branch_dec (fun hlt => ?_) (fun hge => ?_)
    · have hal : a < len := by omega
      obtain ⟨x, rfl, hx⟩ := hr a hal
      have hsa : sets[a]? = some sets[a] := List.getElem?_eq_getElem (by omega)
      obtain ⟨s, hsd⟩ : ∃ s, sets[a] = s := ⟨_, rfl⟩
      rw [hsd] at hsa
      have hld := hx a (ptr s.p) (by rw [List.getElem?_map, hsa]; rfl)
      obtain ⟨sa, ca⟩ := hs s (List.mem_of_getElem? hsa)
      obtain ⟨bs, cs, rs, ws⟩ := sa.ex
      have hsum := sumN_take sets hsa
      have hle := sumN_take_le sets (a + 1)
      have z1 : IntKind.i64.wrap ((sumN (sets.take a) : Int) + s.n) = ((sumN (sets.take (a + 1)) : Nat) : Int) := by rw [wrap_i64 (by omega) (by omega)]; omega
      have hw1 : IntKind.i64.wrap ((a : Int) + 1) = ((a + 1 : Nat) : Int) := by rw [wrap_i64 (by omega) (by omega)]; omega
      simp [hal, hld, ptr, rs.get (i := 0) rfl, z1, hw1]
      exact ⟨len - (a + 1), by omega, JInv1.mk' (a := a + 1) (by omega) rfl rfl rfl rfl rfl⟩
    · have hal : a = len := by omega
      subst hal
      rw [List.take_of_length_le (by omega)]
      simp
      refine got_call (new_spec hN) ?_
      rintro _ h1 ⟨pt, qt, rfl, st, g1, f1, f2⟩
      simp [ptr]
      obtain ⟨N, hNN⟩ : ∃ N, sumN sets = N := ⟨_, rfl⟩
      rw [hNN] at st hN hQ
      obtain ⟨W, hW⟩ : ∃ W, (N + 63) / 64 = W := ⟨_, rfl⟩
      refine go_loop (JInv2 b c a pt qt N W sets h2) (n := a) ?_ ?_
      · refine JInv2.mk' (a := 0) (by omega) (by simp [hW]) (fun i => ?_) st g1 rfl rfl rfl rfl rfl
        have := (canon_zero (n := N) hN).2 i
        rw [this]; simp [sumN]
      · rintro k t h3 ⟨d, wsi, e, rfl, hd, rfl, hwl, hw, sti, g2⟩
        simp
        refine branch_dec (fun hlt => ?_) (fun hge => ?_)
        · have hal : d < a := by omega
          obtain ⟨x, rfl, hx⟩ := hr d hal
          have hsa : sets[d]? = some sets[d] := List.getElem?_eq_getElem (by omega)
          obtain ⟨s, hsd⟩ : ∃ s, sets[d] = s := ⟨_, rfl⟩
          rw [hsd] at hsa
          have hld := hload_grow g2 (hx d (ptr s.p) (by rw [List.getElem?_map, hsa]; rfl))
          obtain ⟨sa0, ca⟩ := hs s (List.mem_of_getElem? hsa)
          obtain ⟨bs, cs, rs0, ws0⟩ := sa0.ex
          have rs := rs0.grow g2
          have hsum := sumN_take sets hsa
          have hle := sumN_take_le sets (d + 1)
          simp [hal, hld, ptr, rs.get (i := 1) rfl]
          obtain ⟨at_, hat⟩ : ∃ x, sumN (sets.take d) = x := ⟨_, rfl⟩
          obtain ⟨L, hLw⟩ : ∃ L, s.ws.length = L := ⟨_, rfl⟩
          have hcl := ca.len
          rw [hat] at hw hsum
          rw [hat, hLw]
          refine go_loop (JInv3 (some x) c a pt qt N W d s.p at_ L (.slice bs L cs) s.ws sets h2) (n := L) ?_ ?_
          · refine JInv3.mk' (j := 0) (by omega) hwl (fun i => ?_) sti g2 rfl rfl rfl rfl rfl rfl rfl rfl rfl
            rw [hw]
            by_cases hi : i < at_ <;> simp [hi]
          · rintro k t h4 ⟨j, wsj, e, rfl, hj, rfl, hwl2, hw2, stj, g4⟩
            simp
            refine branch_dec (fun hjlt => ?_) (fun hjge => ?_)
            · have hjL : j < L := by omega
              have i1 : j < s.ws.length := by omega
              obtain ⟨kk, hk⟩ : ∃ kk, at_ + 64 * j = kk := ⟨_, rfl⟩
              obtain ⟨dd, hdd⟩ : ∃ dd, kk / 64 = dd := ⟨_, rfl⟩
              obtain ⟨m, hm⟩ : ∃ m, kk % 64 = m := ⟨_, rfl⟩
              have hkN : kk < N := by omega
              have e1 := tmod_nat kk 64
              have e2 := tdiv_nat kk 64
              rw [hm] at e1
              rw [hdd] at e2
              simp only [Int.cast_ofNat_Int] at e1 e2
              have i3 : dd < wsj.length := by omega
              have e3 : IntKind.i64.wrap (dd : Int) = dd := wrap_i64 (by omega) (by omega)
              have z1 : IntKind.i64.wrap (64 * (j : Int)) = 64 * (j : Int) := wrap_i64 (by omega) (by omega)
              have z2 : IntKind.i64.wrap ((at_ : Int) + 64 * (j : Int)) = (kk : Int) := by rw [wrap_i64 (by omega) (by omega)]; omega
              have hw1 : IntKind.i64.wrap ((j : Int) + 1) = ((j + 1 : Nat) : Int) := by rw [wrap_i64 (by omega) (by omega)]; omega
              obtain ⟨vs, rfl, rws⟩ := (ws0.chg g4 id).at i1
              obtain ⟨v, c', rh, rw, stt⟩ := stj.open i3
              obtain ⟨h5, e4, s5, c5, rh5, rw5⟩ := stt (word wsj dd ||| word s.ws j <<< m)
              have g5 : Grow h2 h5 := g4.after c5 fun m hm hmq => by omega
              have hx : ∀ i, kk ≤ i → i < kk + 64 → (word s.ws j).getLsbD (i - kk) = bit s.ws (i - at_) := by
                intro i h1 h2
                rw [word_bit _ _ _ (by omega)]; congr 1; omega
              simp [hjlt, hjL, hLw ▸ i1, ptr, e1, e2, e3, z1, z2, i3, rws.get (wv_get i1), rh.get (i := 1) rfl, rw.get (wv_get i3), e4]
              by_cases hm0 : m = 0
              · subst hm0
                simp [skipV, hw1]
                refine ⟨L - (j + 1), by omega, JInv3.mk' (j := j + 1) (wsi := wsj.set dd (word wsj dd ||| word s.ws j <<< 0)) (by omega) (by simpa using hwl2) (fun i => ?_) (by simpa using s5) g5 rfl rfl rfl rfl rfl rfl rfl rfl rfl⟩
                rw [or_low hdd hm i3, hw2]
                refine join_step ?_
                rw [hk]
                by_cases h1 : kk ≤ i
                · by_cases h2 : i < at_ + 64 * (j + 1)
                  · have h3 : i / 64 = dd := by omega
                    rw [hx i h1 (by omega)]; simp [h1, h2, h3]
                  · have h3 : ¬ i / 64 = dd := by omega
                    simp [h2, h3]
                · simp [h1]
              · have hmp : 0 < m := by omega
                have z3 : IntKind.i64.wrap ((dd : Int) + 1) = ((dd + 1 : Nat) : Int) := by rw [wrap_i64 (by omega) (by omega)]; omega
                obtain ⟨d1, hd1⟩ : ∃ d1, dd + 1 = d1 := ⟨_, rfl⟩
                rw [hd1] at z3
                have z4 : IntKind.i64.wrap (64 - (m : Int)) = ((64 - m : Nat) : Int) := by rw [wrap_i64 (by omega) (by omega)]; omega
                obtain ⟨m1, hm1⟩ : ∃ m1, 64 - m = m1 := ⟨_, rfl⟩
                rw [hm1] at z4
                by_cases hd2 : d1 < wsj.length
                · have i4 : d1 < (wsj.set dd (word wsj dd ||| word s.ws j <<< m)).length := by simpa using hd2
                  obtain ⟨vt2, ct2, rh4, rw4, stt2⟩ := s5.open i4
                  obtain ⟨h6, e5, s6, c6, rh6, rw6⟩ := stt2 (word wsj d1 ||| word s.ws j >>> m1)
                  have hwi : word (wsj.set dd (word wsj dd ||| word s.ws j <<< m)) d1 = word wsj d1 := by rw [word_set i3, if_neg (by omega)]
                  have hg := rw4.get (wv_get i4)
                  rw [hwi] at hg
                  simp [hmp, e1, e2, e3, z3, z4, hd2, hw1, rh4.get (i := 1) rfl, hg, e5]
                  rw [← hwi, ← hm1, ← hd1] at s6
                  refine ⟨L - (j + 1), by omega, JInv3.mk' (j := j + 1) (by omega) (by simpa using hwl2) (fun i => ?_) s6 (g5.after c6 fun m hm hmq => by omega) rfl rfl rfl rfl rfl rfl rfl rfl rfl⟩
                  rw [or_high hdd hm hmp (by simpa [hd1] using hd2), or_low hdd hm i3, hw2, Bool.or_assoc]
                  refine join_step ?_
                  rw [hk]
                  by_cases h1 : kk ≤ i
                  · by_cases h2 : i < at_ + 64 * (j + 1)
                    · rw [hx i h1 (by omega)]
                      by_cases h3 : i / 64 = dd
                      · simp [h1, h2, h3]
                      · have h4 : i / 64 = dd + 1 := by omega
                        simp [h1, h2, h4]
                    · have h3 : ¬ i / 64 = dd := by omega
                      have h5 : (word s.ws j).getLsbD (i - kk) = false := BitVec.getLsbD_of_ge _ _ (by omega)
                      simp [h2, h3, h5]
                  · have h3 : ¬ i / 64 = dd + 1 := by omega
                    simp [h1, h3]
                · simp [skipV, hmp, e1, e2, e3, z3, hd2, hw1, rh5.get (i := 1) rfl]
                  refine ⟨L - (j + 1), by omega, JInv3.mk' (j := j + 1) (by omega) (by simpa using hwl2) (fun i => ?_) s5 g5 rfl rfl rfl rfl rfl rfl rfl rfl rfl⟩
                  rw [or_low hdd hm i3, hw2]
                  refine join_step ?_
                  rw [hk]
                  by_cases h1 : kk ≤ i
                  · by_cases h2 : i < at_ + 64 * (j + 1)
                    · rw [hx i h1 (by omega)]
                      by_cases h3 : i / 64 = dd
                      · simp [h1, h2, h3]
                      · have h5 := ca.out (i - at_) (by omega)
                        simp [h1, h2, h3, h5]
                    · have h3 : ¬ i / 64 = dd := by omega
                      simp [h2, h3]
                  · simp [h1]
            · have hjL : j = L := by omega
              subst hjL
              have hw1 : IntKind.i64.wrap ((d : Int) + 1) = ((d + 1 : Nat) : Int) := by rw [wrap_i64 (by omega) (by omega)]; omega
              have z1 : IntKind.i64.wrap ((at_ : Int) + s.n) = ((sumN (sets.take (d + 1)) : Nat) : Int) := by rw [wrap_i64 (by omega) (by omega)]; omega
              obtain ⟨bs4, cs4, rs4, _⟩ := (sa0.grow g4).ex
              simp [ptr, rs4.get (i := 0) rfl, z1, hw1]
              refine ⟨a - (d + 1), by omega, JInv2.mk' (a := d + 1) (by omega) hwl2 (fun i => ?_) stj g4 rfl rfl rfl rfl rfl⟩
              rw [hw2, hsum]
              by_cases hi : i < at_
              · have : i < at_ + s.n := by omega
                simp [hi, this]
              · rw [if_neg hi]
                by_cases hin : i < at_ + s.n
                · have h5 := joinB_at sets hsa (i - at_) (by omega)
                  rw [hat, show at_ + (i - at_) = i by omega] at h5
                  have h6 : i - at_ < 64 * j := by omega
                  simp [h5, hin, h6]
                · have h5 := ca.out (i - at_) (by omega)
                  simp [h5, hin]
        · have hda : d = a := by omega
          subst hda
          simp
          have hall : ∀ i, bit wsi i = joinB sets i := by
            intro i
            rw [hw, List.take_of_length_le (by omega), hNN]
            by_cases hi : i < N
            · simp [hi]
            · rw [joinB_out sets i (by omega)]; simp
          refine hQ _ _ ⟨pt, qt, wsi, rfl, sti, ⟨by omega, hN, fun i hi => by rw [hall, joinB_out sets i (by omega)]⟩, hall, g2, f1, f2⟩
end Go.Ax
