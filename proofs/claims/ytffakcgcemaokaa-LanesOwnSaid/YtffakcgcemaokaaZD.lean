/- Seat lanes: the exported calls on words; the comparison as a function value. -/
import Derived.Test.YtffakcgcemaokaaZB
import Derived.Test.YtffakcgcemaokaaPW
namespace Go.Ax
set_option linter.unusedVariables false
set_option linter.unusedSimpArgs false

theorem Spread_spec {h : Heap} {v : BitVec 64} {w : Nat} (h1 : 1 ≤ w) (h2 : w ≤ 64) (hv : 64 ≤ w ∨ v >>> w = 0#64) :
    Gives P T (.fn F_lanes_Spread) [.int .u64 (wi v), .int .i64 w] h fun r h' => r = .tuple #[.int .u64 (wi (spreadB v w)), .int .i64 0] ∧ h' = h := by
  refine gives_by t_lanes_Spread (by simp [c_lanes_Spread]) fun Q hQ => ?_
  have hvb : ∀ j, w ≤ j → v.getLsbD j = false := by
    rcases hv with hv | hv
    · exact fun j hj => BitVec.getLsbD_of_ge _ _ (by omega)
    · exact fits_bits hv
  have hr : 1 ≤ (w : Int) ∧ (w : Int) ≤ 64 := by omega
  simp [c_lanes_Spread]
  refine got_call (wide_spec _) ?_
  rintro _ _ ⟨rfl, rfl⟩
  simp [hr]
  by_cases h64 : 64 ≤ w
  · have : ¬ (w : Int) < 64 := by omega
    simp [this, skipV]
    refine got_call (spread_spec h1 h2 hvb) ?_
    rintro _ _ ⟨rfl, rfl⟩
    simp
    exact hQ _ _ ⟨rfl, rfl⟩
  · have : (w : Int) < 64 := by omega
    have hv0 : v >>> w = 0#64 := hv.resolve_left h64
    simp [this, hv0]
    refine got_call (spread_spec h1 h2 hvb) ?_
    rintro _ _ ⟨rfl, rfl⟩
    simp
    exact hQ _ _ ⟨rfl, rfl⟩

theorem Spread_bad {h : Heap} {v : BitVec 64} {w : Int} (hr : ¬ (1 ≤ w ∧ w ≤ 64)) :
    Gives P T (.fn F_lanes_Spread) [.int .u64 (wi v), .int .i64 w] h fun r h' => r = .tuple #[.int .u64 0, .int .i64 20] ∧ h' = h := by
  refine gives_by t_lanes_Spread (by simp [c_lanes_Spread]) fun Q hQ => ?_
  simp [c_lanes_Spread]
  refine got_call (wide_spec _) ?_
  rintro _ _ ⟨rfl, rfl⟩
  simp [hr]
  exact hQ _ _ ⟨rfl, rfl⟩

theorem Spread_over {h : Heap} {v : BitVec 64} {w : Nat} (h1 : 1 ≤ w) (h2 : w ≤ 64) (hv : ¬ (64 ≤ w ∨ v >>> w = 0#64)) :
    Gives P T (.fn F_lanes_Spread) [.int .u64 (wi v), .int .i64 w] h fun r h' => r = .tuple #[.int .u64 0, .int .i64 21] ∧ h' = h := by
  refine gives_by t_lanes_Spread (by simp [c_lanes_Spread]) fun Q hQ => ?_
  have hr : 1 ≤ (w : Int) ∧ (w : Int) ≤ 64 := by omega
  have h3 : (w : Int) < 64 := by omega
  have h4 : ¬ v >>> w = 0#64 := fun e => hv (.inr e)
  simp [c_lanes_Spread]
  refine got_call (wide_spec _) ?_
  rintro _ _ ⟨rfl, rfl⟩
  simp [hr, h3, h4]
  exact hQ _ _ ⟨rfl, rfl⟩

theorem Equal_spec {h : Heap} {x y : BitVec 64} {w : Nat} (h1 : 1 ≤ w) (h2 : w ≤ 64) :
    Gives P T (.fn F_lanes_Equal) [.int .u64 (wi x), .int .u64 (wi y), .int .i64 w] h fun r h' => r = .tuple #[.int .u64 (wi (equalB (usedB w) (topsB w) x y)), .int .i64 0] ∧ h' = h := by
  refine gives_by t_lanes_Equal (by simp [c_lanes_Equal]) fun Q hQ => ?_
  have hr : 1 ≤ (w : Int) ∧ (w : Int) ≤ 64 := by omega
  simp [c_lanes_Equal]
  refine got_call (wide_spec _) ?_
  rintro _ _ ⟨rfl, rfl⟩
  simp [hr]
  refine got_call (tops_spec h1 h2) ?_
  rintro _ _ ⟨rfl, rfl⟩
  simp
  refine got_call (equal_spec h1 h2) ?_
  rintro _ _ ⟨rfl, rfl⟩
  simp
  exact hQ _ _ ⟨rfl, rfl⟩

theorem Equal_bad {h : Heap} {x y : BitVec 64} {w : Int} (hr : ¬ (1 ≤ w ∧ w ≤ 64)) :
    Gives P T (.fn F_lanes_Equal) [.int .u64 (wi x), .int .u64 (wi y), .int .i64 w] h fun r h' => r = .tuple #[.int .u64 0, .int .i64 20] ∧ h' = h := by
  refine gives_by t_lanes_Equal (by simp [c_lanes_Equal]) fun Q hQ => ?_
  simp [c_lanes_Equal]
  refine got_call (wide_spec _) ?_
  rintro _ _ ⟨rfl, rfl⟩
  simp [hr]
  exact hQ _ _ ⟨rfl, rfl⟩

theorem Below_spec {h : Heap} {x y : BitVec 64} {w : Nat} (h1 : 1 ≤ w) (h2 : w ≤ 64) :
    Gives P T (.fn F_lanes_Below) [.int .u64 (wi x), .int .u64 (wi y), .int .i64 w] h fun r h' => r = .tuple #[.int .u64 (wi (belowB (usedB w) (topsB w) x y)), .int .i64 0] ∧ h' = h := by
  refine gives_by t_lanes_Below (by simp [c_lanes_Below]) fun Q hQ => ?_
  have hr : 1 ≤ (w : Int) ∧ (w : Int) ≤ 64 := by omega
  simp [c_lanes_Below]
  refine got_call (wide_spec _) ?_
  rintro _ _ ⟨rfl, rfl⟩
  simp [hr]
  refine got_call (tops_spec h1 h2) ?_
  rintro _ _ ⟨rfl, rfl⟩
  simp
  refine got_call (below_spec h1 h2) ?_
  rintro _ _ ⟨rfl, rfl⟩
  simp
  exact hQ _ _ ⟨rfl, rfl⟩

theorem Below_bad {h : Heap} {x y : BitVec 64} {w : Int} (hr : ¬ (1 ≤ w ∧ w ≤ 64)) :
    Gives P T (.fn F_lanes_Below) [.int .u64 (wi x), .int .u64 (wi y), .int .i64 w] h fun r h' => r = .tuple #[.int .u64 0, .int .i64 20] ∧ h' = h := by
  refine gives_by t_lanes_Below (by simp [c_lanes_Below]) fun Q hQ => ?_
  simp [c_lanes_Below]
  refine got_call (wide_spec _) ?_
  rintro _ _ ⟨rfl, rfl⟩
  simp [hr]
  exact hQ _ _ ⟨rfl, rfl⟩

theorem Marks_spec {h : Heap} {m : BitVec 64} {w : Nat} (h1 : 1 ≤ w) (h2 : w ≤ 64) :
    Gives P T (.fn F_lanes_Marks) [.int .u64 (wi m), .int .i64 w] h fun r h' => r = .tuple #[.int .u64 (wi (marksB m w)), .int .i64 0] ∧ h' = h := by
  refine gives_by t_lanes_Marks (by simp [c_lanes_Marks]) fun Q hQ => ?_
  have hr : 1 ≤ (w : Int) ∧ (w : Int) ≤ 64 := by omega
  simp [c_lanes_Marks]
  refine got_call (wide_spec _) ?_
  rintro _ _ ⟨rfl, rfl⟩
  simp [hr]
  refine got_call (marks_spec h1 h2) ?_
  rintro _ _ ⟨rfl, rfl⟩
  simp
  exact hQ _ _ ⟨rfl, rfl⟩

theorem Marks_bad {h : Heap} {m : BitVec 64} {w : Int} (hr : ¬ (1 ≤ w ∧ w ≤ 64)) :
    Gives P T (.fn F_lanes_Marks) [.int .u64 (wi m), .int .i64 w] h fun r h' => r = .tuple #[.int .u64 0, .int .i64 20] ∧ h' = h := by
  refine gives_by t_lanes_Marks (by simp [c_lanes_Marks]) fun Q hQ => ?_
  simp [c_lanes_Marks]
  refine got_call (wide_spec _) ?_
  rintro _ _ ⟨rfl, rfl⟩
  simp [hr]
  exact hQ _ _ ⟨rfl, rfl⟩

/-! ### the masks are what the document says -/

theorem ofNat_lane {x : BitVec 64} {w l : Nat} (h1 : 1 ≤ w) (h2 : w ≤ 64) (hl : l < lc w) : (BitVec.ofNat 64 (ln w x.toNat l)).toNat = ln w x.toNat l := by
  rw [← lane_toNat h1 h2 hl]; simp

theorem stB_eq {x y : BitVec 64} {w l : Nat} (h1 : 1 ≤ w) (h2 : w ≤ 64) (hl : l < lc w) : stB 1 (BitVec.ofNat 64 (ln w x.toNat l)) (BitVec.ofNat 64 (ln w y.toNat l)) = decide (ln w x.toNat l = ln w y.toNat l) := by
  simp only [stB, if_true]
  apply decide_eq_decide.2
  rw [← BitVec.toNat_inj, ofNat_lane h1 h2 hl, ofNat_lane h1 h2 hl]
theorem stB_lt {x y : BitVec 64} {w l : Nat} (h1 : 1 ≤ w) (h2 : w ≤ 64) (hl : l < lc w) : stB 3 (BitVec.ofNat 64 (ln w x.toNat l)) (BitVec.ofNat 64 (ln w y.toNat l)) = decide (ln w x.toNat l < ln w y.toNat l) := by
  simp only [stB]
  rw [if_neg (by omega), if_neg (by omega)]
  simp only [if_true]
  apply decide_eq_decide.2
  unfold wi
  rw [ofNat_lane h1 h2 hl, ofNat_lane h1 h2 hl]
  omega

theorem equal_held {x y : BitVec 64} {w : Nat} (h1 : 1 ≤ w) (h2 : w ≤ 64) : equalB (usedB w) (topsB w) x y = heldB 1 x y w := by
  apply eq_bvOf (by omega)
  intro j hj
  by_cases h : j < w * lc w ∧ j % w = w - 1
  · have hl : j / w < lc w := Nat.div_lt_of_lt_mul h.1
    have e : j = w * (j / w) + (w - 1) := by have := Nat.div_add_mod j w; omega
    have := equal_top (masks h1 h2) x y hl
    rw [← e] at this
    rw [this, heldF, stB_eq h1 h2 hl]
    simp [h, hj]
  · rw [equal_out (masks h1 h2) x y h]
    rw [not_and] at h
    by_cases h3 : j < w * lc w
    · simp [heldF, h h3]
    · simp [h3]

theorem below_held {x y : BitVec 64} {w : Nat} (h1 : 1 ≤ w) (h2 : w ≤ 64) : belowB (usedB w) (topsB w) x y = heldB 3 x y w := by
  apply eq_bvOf (by omega)
  intro j hj
  by_cases h : j < w * lc w ∧ j % w = w - 1
  · have hl : j / w < lc w := Nat.div_lt_of_lt_mul h.1
    have e : j = w * (j / w) + (w - 1) := by have := Nat.div_add_mod j w; omega
    have := below_top (masks h1 h2) x y hl
    rw [← e] at this
    rw [this, heldF, stB_lt h1 h2 hl]
    simp [h, hj]
  · rw [below_out (masks h1 h2) x y h]
    rw [not_and] at h
    by_cases h3 : j < w * lc w
    · simp [heldF, h h3]
    · simp [h3]

/-! ### the comparison, as a function value -/

def tstB (op : Int) (w : Nat) (y x : BitVec 64) : BitVec 64 :=
  if op = 1 then equalB (usedB w) (topsB w) x y else if op = 2 then ~~~ (equalB (usedB w) (topsB w) x y) &&& topsB w else if op = 3 then belowB (usedB w) (topsB w) x y
  else if op = 4 then ~~~ (belowB (usedB w) (topsB w) y x) &&& topsB w else if op = 5 then belowB (usedB w) (topsB w) y x else ~~~ (belowB (usedB w) (topsB w) x y) &&& topsB w

/-- What the comparison has by it. -/
structure Caps (h : Heap) (p1 p2 p3 p4 w : Nat) (op : Int) (y : BitVec 64) : Prop where
  op : RowAt h p1 0 0 [.int .i64 op]
  y : RowAt h p2 0 0 [.int .u64 (wi y)]
  top : RowAt h p3 0 0 [.int .u64 (wi (topsB w))]
  w : RowAt h p4 0 0 [.int .i64 w]

def cp (p : Nat) : Value := .pointer (some ⟨p, 0, some 0⟩)

theorem stands1_spec {h : Heap} {p1 p2 p3 p4 w : Nat} {op : Int} {y x : BitVec 64} (c : Caps h p1 p2 p3 p4 w op y) (h1 : 1 ≤ w) (h2 : w ≤ 64) :
    Gives P T (.fn F_lanes_stands_1) [.int .u64 (wi x), cp p1, cp p2, cp p3, cp p4] h fun r h' => r = .int .u64 (wi (tstB op w y x)) ∧ h' = h := by
  have l1 := c.op.get (i := 0) rfl
  have l2 := c.y.get (i := 0) rfl
  have l3 := c.top.get (i := 0) rfl
  have l4 := c.w.get (i := 0) rfl
  refine gives_by t_lanes_stands_1 (by simp [c_lanes_stands_1]) fun Q hQ => ?_
  by_cases o1 : op = 1
  · simp [c_lanes_stands_1, cp, l1, l2, l3, l4, o1]
    refine got_call (equal_spec h1 h2) ?_
    rintro _ _ ⟨rfl, rfl⟩
    simp
    exact hQ _ _ ⟨by simp [tstB, o1], rfl⟩
  by_cases o2 : op = 2
  · simp [c_lanes_stands_1, cp, l1, l2, l3, l4, o2]
    refine got_call (equal_spec h1 h2) ?_
    rintro _ _ ⟨rfl, rfl⟩
    simp [l3]
    exact hQ _ _ ⟨by simp [tstB, o2], rfl⟩
  by_cases o3 : op = 3
  · simp [c_lanes_stands_1, cp, l1, l2, l3, l4, o3]
    refine got_call (below_spec h1 h2) ?_
    rintro _ _ ⟨rfl, rfl⟩
    simp
    exact hQ _ _ ⟨by simp [tstB, o3], rfl⟩
  by_cases o4 : op = 4
  · simp [c_lanes_stands_1, cp, l1, l2, l3, l4, o4]
    refine got_call (below_spec h1 h2) ?_
    rintro _ _ ⟨rfl, rfl⟩
    simp [l3]
    exact hQ _ _ ⟨by simp [tstB, o4], rfl⟩
  by_cases o5 : op = 5
  · simp [c_lanes_stands_1, cp, l1, l2, l3, l4, o5]
    refine got_call (below_spec h1 h2) ?_
    rintro _ _ ⟨rfl, rfl⟩
    simp
    exact hQ _ _ ⟨by simp [tstB, o5], rfl⟩
  · simp [c_lanes_stands_1, cp, l1, l2, l3, l4, o1, o2, o3, o4, o5]
    refine got_call (below_spec h1 h2) ?_
    rintro _ _ ⟨rfl, rfl⟩
    simp [l3]
    exact hQ _ _ ⟨by simp [tstB, o1, o2, o3, o4, o5], rfl⟩

theorem Caps.chg {S : Nat → Prop} {h h' : Heap} {p1 p2 p3 p4 w : Nat} {op : Int} {y : BitVec 64} (c : Caps h p1 p2 p3 p4 w op y) (k : Chg S h h') (hs : ¬ S p1 ∧ ¬ S p2 ∧ ¬ S p3 ∧ ¬ S p4) : Caps h' p1 p2 p3 p4 w op y :=
  ⟨c.op.chg k hs.1, c.y.chg k hs.2.1, c.top.chg k hs.2.2.1, c.w.chg k hs.2.2.2⟩

theorem stands_mk {h : Heap} {w : Nat} {op : Int} {c : BitVec 64} (h1 : 1 ≤ w) (h2 : w ≤ 64) (hv : ∀ j, w ≤ j → c.getLsbD j = false) :
    Gives P T (.fn F_lanes_stands) [.int .i64 w, .int .i64 op, .int .u64 (wi c)] h fun r h' => ∃ p1 p2 p3 p4, r = .func (.func F_lanes_stands_1) #[] #[cp p1, cp p2, cp p3, cp p4] ∧ Caps h' p1 p2 p3 p4 w op (spreadB c w) ∧ Grow h h' := by
  refine gives_by t_lanes_stands (by simp [c_lanes_stands]) fun Q hQ => ?_
  have r1 : RowAt (hnew h [.int .i64 w] 0) h.dyn.length 0 0 [.int .i64 w] := RowAt.new _ _ _
  have r2 := r1.grow (Grow.new (hnew h [.int .i64 w] 0) [.int .i64 op] 0)
  have q2 : RowAt (hnew (hnew h [.int .i64 w] 0) [.int .i64 op] 0) (h.dyn.length + 1) 0 0 [.int .i64 op] := by simpa using RowAt.new (hnew h [.int .i64 w] 0) [.int .i64 op] 0
  have l2 := r2.get (i := 0) rfl
  simp [c_lanes_stands, l2]
  refine got_call (tops_spec h1 h2) ?_
  rintro _ _ ⟨rfl, rfl⟩
  simp [l2]
  refine got_call (spread_spec h1 h2 hv) ?_
  rintro _ _ ⟨rfl, rfl⟩
  obtain ⟨H2, hH2⟩ : ∃ H2, hnew (hnew h [.int .i64 w] 0) [.int .i64 op] 0 = H2 := ⟨_, rfl⟩
  have hlen : H2.dyn.length = h.dyn.length + 2 := by rw [← hH2]; simp
  have gH2 : Grow h H2 := by rw [← hH2]; exact (Grow.new _ _ _).trans (Grow.new _ _ _)
  have g3 := Grow.new H2 [.int .u64 0] 0
  have g4 := Grow.new (hnew H2 [.int .u64 0] 0) [.int .u64 0] 0
  have r3 := (RowAt.new H2 [.int .u64 0] 0).grow g4
  have r4 := RowAt.new (hnew H2 [.int .u64 0] 0) [.int .u64 0] 0
  obtain ⟨H5, e5, r5, c5, n5⟩ := r3.store (i := 0) (by simp) (x := .int .u64 (wi (topsB w))) (by simp)
  have r4' := r4.chg c5 (by simp)
  obtain ⟨H6, e6, r6, c6, n6⟩ := r4'.store (i := 0) (by simp) (x := .int .u64 (wi (spreadB c w))) (by simp)
  rw [hH2] at r2 q2 l2
  simp [l2, hH2]
  simp only [hnew_len] at e6 r6 c6
  rw [hlen] at e5 r5 c5 e6 r6 c6
  simp [hlen, e5, e6]
  refine hQ _ _ ⟨h.dyn.length + 1, h.dyn.length + 3, h.dyn.length + 2, h.dyn.length, rfl, ⟨?_, by simpa using r6, ?_, ?_⟩, ?_⟩
  · exact (((q2.grow g3).grow g4).chg c5 (by omega)).chg c6 (by omega)
  · simpa using r5.chg c6 (by omega)
  · exact (((r2.grow g3).grow g4).chg c5 (by omega)).chg c6 (by omega)
  · have g := (gH2.trans g3).trans g4
    exact (g.after c5 fun n hn e => by omega).after c6 fun n hn e => by omega

end Go.Ax
