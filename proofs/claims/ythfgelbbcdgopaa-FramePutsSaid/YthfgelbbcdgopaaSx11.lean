-- written by a program of this session's (a changed print)
import Derived.Test.YthfgelbbcdgopaaSx0
import Derived.Test.YthfgelbbcdgopaaSx1
import Derived.Test.YthfgelbbcdgopaaSx2
import Derived.Test.YthfgelbbcdgopaaSx3
import Derived.Test.YthfgelbbcdgopaaSx5
import Derived.Test.YthfgelbbcdgopaaSx6
import Derived.Test.YthfgelbbcdgopaaSx7
import Derived.Test.YthfgelbbcdgopaaSx9
import Derived.Test.YthfgelbbcdgopaaSx10
namespace Go.Proofs.Ythfgelbbcdgopaa.S
open Go.RowKit Go.Proofs.YthfgelbbcdgopaaW.PrintWords Go.Proofs.YthfgelbbcdgopaaW.PrintLast Go.Proofs.YthfgelbbcdgopaaW.PrintMore Go.Proofs.YthfgelbbcdgopaaV
attribute [local go_sem] max2_int min2_int max_two min_two max_three min_three max_four min_four   -- for this text's walks alone
set_option linter.unusedVariables false
set_option linter.unusedSimpArgs false

/-! ### colonnadelaw11_FramePuts: function 6 -/
mutual
def colonnadelaw11_FramePuts.l0 : Nat → List Int → Int → List Int → Int → Option (Bool)
  | 0, _, _, _, _ => none
  | k + 1, x0, x1, x5, x6 => if x6 < 2 then ((some (([] : List Int) : List Int)).bind fun y261 => (if 0 ≤ (x0.length : Int) then (if (x0.length : Int) ≤ (x5.length : Int) then ((some (x5.take ((x0.length : Int) : Int).toNat : List Int)).bind fun y264 => (if y261.length + y264.length < 17592186044416 then ((some (y261 ++ y264 : List Int)).bind fun y268 => ((colonnaderef11_PackedWidth.f k y268).bind fun bt271 => ((colonnaderef11_PutFrame.f k y268 x1).bind fun bt273 => ((colonnaderef11_PutPacked.f k y268 x1).bind fun bt277 => ((frame_PackedWidth.f k (x5.take ((x0.length : Int) : Int).toNat)).bind fun bt285 => ((frame_PutFrame.f k (x5.take ((x0.length : Int) : Int).toNat) x1).bind fun bt291 => ((frame_PutPacked.f k (x5.take ((x0.length : Int) : Int).toNat) x1).bind fun bt299 => ((frame_FrameWidth.f k (x5.take ((x0.length : Int) : Int).toNat)).bind fun t307 => ((colonnaderef11_FrameWidth.f k y268).bind fun t308 => (if t307 = t308 then (if bt285.1 = bt271.1 then (if (bt285.2 != bt271.2) = true then (colonnadelaw11_FramePuts.j1 k x0 x1 x5 x6 y268 true) else ((colonnadelaw11_num.f bt291.2).bind fun t309 => (if t309 = bt273.2 then (if (strOfNums bt291.1).toList = (strOfNums bt273.1).toList then ((colonnadelaw11_num.f bt299.2).bind fun t310 => (if t310 = bt277.2 then (colonnadelaw11_FramePuts.j1 k x0 x1 x5 x6 y268 ((strOfNums bt299.1).toList != (strOfNums bt277.1).toList)) else (colonnadelaw11_FramePuts.j1 k x0 x1 x5 x6 y268 true))) else (colonnadelaw11_FramePuts.j1 k x0 x1 x5 x6 y268 true)) else (colonnadelaw11_FramePuts.j1 k x0 x1 x5 x6 y268 true)))) else (colonnadelaw11_FramePuts.j1 k x0 x1 x5 x6 y268 true)) else (colonnadelaw11_FramePuts.j1 k x0 x1 x5 x6 y268 true))))))))))) else (none))) else (none)) else (none))) else (some true)
def colonnadelaw11_FramePuts.j1 : Nat → List Int → Int → List Int → Int → List Int → Bool → Option (Bool)
  | 0, _, _, _, _, _, _ => none
  | k + 1, x0, x1, x5, x6, x7, x122 => if x122 = true then (some false) else (if 0 ≤ (x0.length : Int) then (if (x0.length : Int) ≤ (x5.length : Int) then ((colonnaderef08_SameInts.f k (x5.take ((x0.length : Int) : Int).toNat) x7).bind fun t315 => (if t315 = true then (if (x0.length : Int) < (x5.length : Int) then (if (rd x5 (x0.length : Int)) = 71 then (if 0 ≤ (wrap64 ((x0.length : Int) + 1)) then (if (wrap64 ((x0.length : Int) + 1)) < (x5.length : Int) then (colonnadelaw11_FramePuts.j2 k x0 x1 x5 x6 ((rd x5 (wrap64 ((x0.length : Int) + 1))) != 72)) else (none)) else (none)) else (colonnadelaw11_FramePuts.j2 k x0 x1 x5 x6 true)) else (none)) else (colonnadelaw11_FramePuts.j2 k x0 x1 x5 x6 true))) else (none)) else (none))
def colonnadelaw11_FramePuts.j2 : Nat → List Int → Int → List Int → Int → Bool → Option (Bool)
  | 0, _, _, _, _, _ => none
  | k + 1, x0, x1, x5, x6, x146 => if x146 = true then (some false) else (colonnadelaw11_FramePuts.l1 k x0 x1 x5 x6 0)
def colonnadelaw11_FramePuts.l1 : Nat → List Int → Int → List Int → Int → Int → Option (Bool)
  | 0, _, _, _, _, _ => none
  | k + 1, x0, x1, x5, x6, x20 => if x20 < (x0.length : Int) then (if 0 ≤ x20 then (if x20 < (x5.length : Int) then ((some (x5.set (x20 : Int).toNat (Go.bits .xor .i64 (wrap64 (Int.tdiv (rd x5 x20) 8)) (Int.tmod x20 3)) : List Int)).bind fun y319 => (if ((x0.length : Int) % 3) = 2 then (colonnadelaw11_FramePuts.l1 k x0 x1 (y319.set (x20 : Int).toNat (wrap64 (-(rd y319 x20)))) x6 (wrap64 (x20 + 1))) else (colonnadelaw11_FramePuts.l1 k x0 x1 y319 x6 (wrap64 (x20 + 1))))) else (none)) else (none)) else (colonnadelaw11_FramePuts.l0 k x0 x1 x5 (wrap64 (x6 + 1)))
end
def colonnadelaw11_FramePuts.f (k : Nat) (l0 : List Int) (a1 : Int) : Option (Bool) := (some (([] : List Int) : List Int)).bind fun y249 => (if y249.length + l0.length < 17592186044416 then ((some (y249 ++ l0 : List Int)).bind fun y252 => ((some (([71, 72] : List Int) : List Int)).bind fun y255 => (if y252.length + y255.length < 17592186044416 then (colonnadelaw11_FramePuts.l0 k l0 a1 (y252 ++ y255) 0) else (none)))) else (none))
theorem colonnadelaw11_FramePuts.mono_l : ∀ k, (∀ y0 y1 y2 y3, LeO (colonnadelaw11_FramePuts.l0 k y0 y1 y2 y3) (colonnadelaw11_FramePuts.l0 (k + 1) y0 y1 y2 y3)) ∧ (∀ y0 y1 y2 y3 y4 y5, LeO (colonnadelaw11_FramePuts.j1 k y0 y1 y2 y3 y4 y5) (colonnadelaw11_FramePuts.j1 (k + 1) y0 y1 y2 y3 y4 y5)) ∧ (∀ y0 y1 y2 y3 y4, LeO (colonnadelaw11_FramePuts.j2 k y0 y1 y2 y3 y4) (colonnadelaw11_FramePuts.j2 (k + 1) y0 y1 y2 y3 y4)) ∧ (∀ y0 y1 y2 y3 y4, LeO (colonnadelaw11_FramePuts.l1 k y0 y1 y2 y3 y4) (colonnadelaw11_FramePuts.l1 (k + 1) y0 y1 y2 y3 y4))
  | 0 => ⟨fun _ _ _ _ r h => by simp [colonnadelaw11_FramePuts.l0] at h, fun _ _ _ _ _ _ r h => by simp [colonnadelaw11_FramePuts.j1] at h, fun _ _ _ _ _ r h => by simp [colonnadelaw11_FramePuts.j2] at h, fun _ _ _ _ _ r h => by simp [colonnadelaw11_FramePuts.l1] at h⟩
  | k + 1 => by
    obtain ⟨ih0, ih1, ih2, ih3⟩ := colonnadelaw11_FramePuts.mono_l k
    refine ⟨?_, ?_, ?_, ?_⟩
    · intro y0 y1 y2 y3
      unfold colonnadelaw11_FramePuts.l0
      repeat' first
      | (with_reducible exact ih0 _ _ _ _)
      | (with_reducible exact ih1 _ _ _ _ _ _)
      | (with_reducible exact ih2 _ _ _ _ _)
      | (with_reducible exact ih3 _ _ _ _ _)
      | (with_reducible exact colonnaderef08_SameInts.mono _ _ _)
      | (with_reducible exact colonnaderef11_FrameWidth.mono _ _)
      | (with_reducible exact colonnaderef11_PackedWidth.mono _ _)
      | (with_reducible exact colonnaderef11_PutFrame.mono _ _ _)
      | (with_reducible exact colonnaderef11_PutPacked.mono _ _ _)
      | (with_reducible exact frame_FrameWidth.mono _ _)
      | (with_reducible exact frame_PackedWidth.mono _ _)
      | (with_reducible exact frame_PutFrame.mono _ _ _)
      | (with_reducible exact frame_PutPacked.mono _ _ _)
      | (with_reducible exact LeO.refl _)
      | (with_reducible exact LeO.none _)
      | (with_reducible refine LeO.ite ?_ ?_)
      | (with_reducible refine LeO.bind ?_ (fun _ => ?_))
      | exact ih0 _ _ _ _
      | exact ih1 _ _ _ _ _ _
      | exact ih2 _ _ _ _ _
      | exact ih3 _ _ _ _ _
      | exact colonnaderef08_SameInts.mono _ _ _
      | exact colonnaderef11_FrameWidth.mono _ _
      | exact colonnaderef11_PackedWidth.mono _ _
      | exact colonnaderef11_PutFrame.mono _ _ _
      | exact colonnaderef11_PutPacked.mono _ _ _
      | exact frame_FrameWidth.mono _ _
      | exact frame_PackedWidth.mono _ _
      | exact frame_PutFrame.mono _ _ _
      | exact frame_PutPacked.mono _ _ _
      | exact LeO.none _
      | refine LeO.ite ?_ ?_
      | refine LeO.bind ?_ (fun _ => ?_)
    · intro y0 y1 y2 y3 y4 y5
      unfold colonnadelaw11_FramePuts.j1
      repeat' first
      | (with_reducible exact ih0 _ _ _ _)
      | (with_reducible exact ih1 _ _ _ _ _ _)
      | (with_reducible exact ih2 _ _ _ _ _)
      | (with_reducible exact ih3 _ _ _ _ _)
      | (with_reducible exact colonnaderef08_SameInts.mono _ _ _)
      | (with_reducible exact colonnaderef11_FrameWidth.mono _ _)
      | (with_reducible exact colonnaderef11_PackedWidth.mono _ _)
      | (with_reducible exact colonnaderef11_PutFrame.mono _ _ _)
      | (with_reducible exact colonnaderef11_PutPacked.mono _ _ _)
      | (with_reducible exact frame_FrameWidth.mono _ _)
      | (with_reducible exact frame_PackedWidth.mono _ _)
      | (with_reducible exact frame_PutFrame.mono _ _ _)
      | (with_reducible exact frame_PutPacked.mono _ _ _)
      | (with_reducible exact LeO.refl _)
      | (with_reducible exact LeO.none _)
      | (with_reducible refine LeO.ite ?_ ?_)
      | (with_reducible refine LeO.bind ?_ (fun _ => ?_))
      | exact ih0 _ _ _ _
      | exact ih1 _ _ _ _ _ _
      | exact ih2 _ _ _ _ _
      | exact ih3 _ _ _ _ _
      | exact colonnaderef08_SameInts.mono _ _ _
      | exact colonnaderef11_FrameWidth.mono _ _
      | exact colonnaderef11_PackedWidth.mono _ _
      | exact colonnaderef11_PutFrame.mono _ _ _
      | exact colonnaderef11_PutPacked.mono _ _ _
      | exact frame_FrameWidth.mono _ _
      | exact frame_PackedWidth.mono _ _
      | exact frame_PutFrame.mono _ _ _
      | exact frame_PutPacked.mono _ _ _
      | exact LeO.none _
      | refine LeO.ite ?_ ?_
      | refine LeO.bind ?_ (fun _ => ?_)
    · intro y0 y1 y2 y3 y4
      unfold colonnadelaw11_FramePuts.j2
      repeat' first
      | (with_reducible exact ih0 _ _ _ _)
      | (with_reducible exact ih1 _ _ _ _ _ _)
      | (with_reducible exact ih2 _ _ _ _ _)
      | (with_reducible exact ih3 _ _ _ _ _)
      | (with_reducible exact colonnaderef08_SameInts.mono _ _ _)
      | (with_reducible exact colonnaderef11_FrameWidth.mono _ _)
      | (with_reducible exact colonnaderef11_PackedWidth.mono _ _)
      | (with_reducible exact colonnaderef11_PutFrame.mono _ _ _)
      | (with_reducible exact colonnaderef11_PutPacked.mono _ _ _)
      | (with_reducible exact frame_FrameWidth.mono _ _)
      | (with_reducible exact frame_PackedWidth.mono _ _)
      | (with_reducible exact frame_PutFrame.mono _ _ _)
      | (with_reducible exact frame_PutPacked.mono _ _ _)
      | (with_reducible exact LeO.refl _)
      | (with_reducible exact LeO.none _)
      | (with_reducible refine LeO.ite ?_ ?_)
      | (with_reducible refine LeO.bind ?_ (fun _ => ?_))
      | exact ih0 _ _ _ _
      | exact ih1 _ _ _ _ _ _
      | exact ih2 _ _ _ _ _
      | exact ih3 _ _ _ _ _
      | exact colonnaderef08_SameInts.mono _ _ _
      | exact colonnaderef11_FrameWidth.mono _ _
      | exact colonnaderef11_PackedWidth.mono _ _
      | exact colonnaderef11_PutFrame.mono _ _ _
      | exact colonnaderef11_PutPacked.mono _ _ _
      | exact frame_FrameWidth.mono _ _
      | exact frame_PackedWidth.mono _ _
      | exact frame_PutFrame.mono _ _ _
      | exact frame_PutPacked.mono _ _ _
      | exact LeO.none _
      | refine LeO.ite ?_ ?_
      | refine LeO.bind ?_ (fun _ => ?_)
    · intro y0 y1 y2 y3 y4
      unfold colonnadelaw11_FramePuts.l1
      repeat' first
      | (with_reducible exact ih0 _ _ _ _)
      | (with_reducible exact ih1 _ _ _ _ _ _)
      | (with_reducible exact ih2 _ _ _ _ _)
      | (with_reducible exact ih3 _ _ _ _ _)
      | (with_reducible exact colonnaderef08_SameInts.mono _ _ _)
      | (with_reducible exact colonnaderef11_FrameWidth.mono _ _)
      | (with_reducible exact colonnaderef11_PackedWidth.mono _ _)
      | (with_reducible exact colonnaderef11_PutFrame.mono _ _ _)
      | (with_reducible exact colonnaderef11_PutPacked.mono _ _ _)
      | (with_reducible exact frame_FrameWidth.mono _ _)
      | (with_reducible exact frame_PackedWidth.mono _ _)
      | (with_reducible exact frame_PutFrame.mono _ _ _)
      | (with_reducible exact frame_PutPacked.mono _ _ _)
      | (with_reducible exact LeO.refl _)
      | (with_reducible exact LeO.none _)
      | (with_reducible refine LeO.ite ?_ ?_)
      | (with_reducible refine LeO.bind ?_ (fun _ => ?_))
      | exact ih0 _ _ _ _
      | exact ih1 _ _ _ _ _ _
      | exact ih2 _ _ _ _ _
      | exact ih3 _ _ _ _ _
      | exact colonnaderef08_SameInts.mono _ _ _
      | exact colonnaderef11_FrameWidth.mono _ _
      | exact colonnaderef11_PackedWidth.mono _ _
      | exact colonnaderef11_PutFrame.mono _ _ _
      | exact colonnaderef11_PutPacked.mono _ _ _
      | exact frame_FrameWidth.mono _ _
      | exact frame_PackedWidth.mono _ _
      | exact frame_PutFrame.mono _ _ _
      | exact frame_PutPacked.mono _ _ _
      | exact LeO.none _
      | refine LeO.ite ?_ ?_
      | refine LeO.bind ?_ (fun _ => ?_)
theorem colonnadelaw11_FramePuts.mono : ∀ a0 a1 k, LeO (colonnadelaw11_FramePuts.f k a0 a1) (colonnadelaw11_FramePuts.f (k + 1) a0 a1) := by
  intro a0 a1 k
  obtain ⟨ih0, ih1, ih2, ih3⟩ := colonnadelaw11_FramePuts.mono_l k
  unfold colonnadelaw11_FramePuts.f
  repeat' first
      | (with_reducible exact ih0 _ _ _ _)
      | (with_reducible exact ih1 _ _ _ _ _ _)
      | (with_reducible exact ih2 _ _ _ _ _)
      | (with_reducible exact ih3 _ _ _ _ _)
      | (with_reducible exact colonnaderef08_SameInts.mono _ _ _)
      | (with_reducible exact colonnaderef11_FrameWidth.mono _ _)
      | (with_reducible exact colonnaderef11_PackedWidth.mono _ _)
      | (with_reducible exact colonnaderef11_PutFrame.mono _ _ _)
      | (with_reducible exact colonnaderef11_PutPacked.mono _ _ _)
      | (with_reducible exact frame_FrameWidth.mono _ _)
      | (with_reducible exact frame_PackedWidth.mono _ _)
      | (with_reducible exact frame_PutFrame.mono _ _ _)
      | (with_reducible exact frame_PutPacked.mono _ _ _)
      | (with_reducible exact LeO.refl _)
      | (with_reducible exact LeO.none _)
      | (with_reducible refine LeO.ite ?_ ?_)
      | (with_reducible refine LeO.bind ?_ (fun _ => ?_))
      | exact ih0 _ _ _ _
      | exact ih1 _ _ _ _ _ _
      | exact ih2 _ _ _ _ _
      | exact ih3 _ _ _ _ _
      | exact colonnaderef08_SameInts.mono _ _ _
      | exact colonnaderef11_FrameWidth.mono _ _
      | exact colonnaderef11_PackedWidth.mono _ _
      | exact colonnaderef11_PutFrame.mono _ _ _
      | exact colonnaderef11_PutPacked.mono _ _ _
      | exact frame_FrameWidth.mono _ _
      | exact frame_PackedWidth.mono _ _
      | exact frame_PutFrame.mono _ _ _
      | exact frame_PutPacked.mono _ _ _
      | exact LeO.none _
      | refine LeO.ite ?_ ?_
      | refine LeO.bind ?_ (fun _ => ?_)
set_option maxHeartbeats 8000000 in
set_option maxRecDepth 100000 in
theorem colonnadelaw11_FramePuts.calls (k : Nat) (A0 : Option Addr) (c0 : Nat) (l0 : List Int) (a1 : Int) (r : Bool) (w : World) (hr0 : Kd.C (Kd.int .i64) w A0 l0.length l0) (hc0 : l0.length ≤ c0) (h : colonnadelaw11_FramePuts.f k l0 a1 = some r) :
    Calls Try.prog 6 #[.slice A0 l0.length c0, .int .i64 a1] w fun e w' => e = .returned (.bool r) ∧ Below w.heap.size w w' := by
  have HR0 := Aside0.mk hr0
  have HC0 := Aside0.mk hc0
  clear hr0 hc0
  have HB := Aside0.mk (Below.refl w.heap.size w)
  have H : ((some (([] : List Int) : List Int)).bind fun y249 => (if y249.length + l0.length < 17592186044416 then ((some (y249 ++ l0 : List Int)).bind fun y252 => ((some (([71, 72] : List Int) : List Int)).bind fun y255 => (if y252.length + y255.length < 17592186044416 then (colonnadelaw11_FramePuts.l0 k l0 a1 (y252 ++ y255) 0) else (none)))) else (none))) = some r := h
  clear h
  obtain ⟨y249, hy249⟩ : ∃ y_ : List Int, y_ = (([] : List Int)) := ⟨_, rfl⟩
  replace H : (if y249.length + l0.length < 17592186044416 then ((some (y249 ++ l0 : List Int)).bind fun y252 => ((some (([71, 72] : List Int) : List Int)).bind fun y255 => (if y252.length + y255.length < 17592186044416 then (colonnadelaw11_FramePuts.l0 k l0 a1 (y252 ++ y255) 0) else (none)))) else (none)) = some r := by first | (rw [hy249]; with_reducible exact H) | (have H2_ := (Option.bind_some _ _).symm.trans H; rw [hy249]; with_reducible exact H2_) | (have H2_ := (Option.bind_some _ _).symm.trans H; with_reducible exact H2_) | with_reducible exact H | (rw [hy249]; exact H) | exact H
  have Ny249 := Aside0.mk hy249
  clear hy249
  by_cases c3 : y249.length + l0.length < 17592186044416
  · rw [if_pos c3] at H
    have LMc3 := Aside0.mk c3
    clear c3
    obtain ⟨y252, hy252⟩ : ∃ y_ : List Int, y_ = (y249 ++ l0) := ⟨_, rfl⟩
    replace H : ((some (([71, 72] : List Int) : List Int)).bind fun y255 => (if y252.length + y255.length < 17592186044416 then (colonnadelaw11_FramePuts.l0 k l0 a1 (y252 ++ y255) 0) else (none))) = some r := by first | (rw [hy252]; with_reducible exact H) | (have H2_ := (Option.bind_some _ _).symm.trans H; rw [hy252]; with_reducible exact H2_) | (have H2_ := (Option.bind_some _ _).symm.trans H; with_reducible exact H2_) | with_reducible exact H | (rw [hy252]; exact H) | exact H
    have Ny252 := Aside0.mk hy252
    clear hy252
    obtain ⟨y255, hy255⟩ : ∃ y_ : List Int, y_ = (([71, 72] : List Int)) := ⟨_, rfl⟩
    replace H : (if y252.length + y255.length < 17592186044416 then (colonnadelaw11_FramePuts.l0 k l0 a1 (y252 ++ y255) 0) else (none)) = some r := by first | (rw [hy255]; with_reducible exact H) | (have H2_ := (Option.bind_some _ _).symm.trans H; rw [hy255]; with_reducible exact H2_) | (have H2_ := (Option.bind_some _ _).symm.trans H; with_reducible exact H2_) | with_reducible exact H | (rw [hy255]; exact H) | exact H
    have Ny255 := Aside0.mk hy255
    clear hy255
    by_cases c4 : y252.length + y255.length < 17592186044416
    · rw [if_pos c4] at H
      have LMc4 := Aside0.mk c4
      clear c4
      obtain ⟨y258, hy258⟩ : ∃ y_ : List Int, y_ = (y252 ++ y255) := ⟨_, rfl⟩
      replace H : (colonnadelaw11_FramePuts.l0 k l0 a1 y258 0) = some r := by first | (rw [hy258]; with_reducible exact H) | (have H2_ := (Option.bind_some _ _).symm.trans H; rw [hy258]; with_reducible exact H2_) | (have H2_ := (Option.bind_some _ _).symm.trans H; with_reducible exact H2_) | with_reducible exact H | (rw [hy258]; exact H) | exact H
      have Ny258 := Aside0.mk hy258
      clear hy258
      have H' := Aside0.mk H
      clear H
      go_enter Try.func6, Try.ntmps6
      go_wp2_with (first | ((with_reducible refine gate_dst (N := 21) rfl ?_); (try (refine gate_guard (by rfl) ?_; dsimp only)); refine Kd.R_lit (Kd.int .i64) _ 2 ?hg (N := 21) ?hd (xs := ([] : List Int)) (inner := []) (ok := fun _ => True) (okp := fun _ => True) ?hr ?hp (fun _ hk => hk) trivial (Below.refl _ _) (Nat.le_refl _) (by simp) ?_; (case hd => rfl); (case hg => rfl); (case hr => first | (go_simp; done) | (go_simp; rfl)); (case hp => exact (Reps.none _ _)); intro v250 w5 ho6 hb hg_ hnew_; clear hg_ hnew_; (first | rw [← Ny249.out] at ho6 | (simp only [Int.reduceToNat] at ho6; rw [← Ny249.out] at ho6)); have n0_ := Aside0.mk (Kd.R_lower ho6 (below_size (by repeat (first | (with_reducible first | exact HB.out | apply below_alloc | apply pw_below_drewN | apply below_drew1) | exact HB.out)))); have n1_ := Aside0.mk (below_step (by repeat (first | (with_reducible first | exact HB.out | apply below_alloc | apply pw_below_drewN | apply below_drew1) | exact HB.out)) hb); clear HB; have HO251 := n0_; have HB := n1_; clear n0_ n1_; clear hb ho6) | ((with_reducible refine gate_builtin (b := .append) (xs := #[.tmp 21, .tmp 22]) rfl ?_); (try (refine gate_guard (by rfl) ?_; dsimp only)); at_builtin; refine Kd.R_append_rows (Kd.int .i64) (w0 := w) w.heap.size rfl (.tmp 21) (.tmp 22) 29 2 (.int .i64 0) 8 rfl Try.underlying29 info2 rfl (by decide) (by omega) v250 y249 l0 _ _ _ (fun _ => True) (fun _ => False) rfl rfl ?aO ?aR (fun _ _ h => h) (fun _ h => h.elim) ?aF ?aB ?aS ?aL ?_; (case aR => repeat (first | exact (Kd.C_below HR0.out HB.out) | (with_reducible refine Kd.C_alloc ?_ _) | (with_reducible refine Kd.C_drewN ?_ _) | (with_reducible refine Kd.C_drew ?_))); (case aB => exact (by repeat (first | (with_reducible first | exact HB.out | apply below_alloc | apply pw_below_drewN | apply below_drew1) | exact HB.out))); (case aF => exact (fun _ _ => trivial)); (case aO => exact (by (with_reducible repeat (first | apply Kd.R_alloc | apply Kd.R_drewN | apply Kd.R_drew)); exact HO251.out)); (case aS => exact (below_size (by repeat (first | (with_reducible first | exact HB.out | apply below_alloc | apply pw_below_drewN | apply below_drew1) | exact HB.out)))); (case aL => have := LMc3.out; omega); intro v253 w7 ho hb hg hat; rw [← Ny252.out] at ho; have n0_ := Aside0.mk (hb); have n1_ := Aside0.mk (ho); clear HB; clear HO251; have HB := n0_; have HO254 := n1_; clear n0_ n1_; clear ho hb hg hat) | ((with_reducible refine gate_dst (N := 24) rfl ?_); (try (refine gate_guard (by rfl) ?_; dsimp only)); refine Kd.R_lit (Kd.int .i64) _ 2 ?hg (N := 24) ?hd (xs := ([71, 72] : List Int)) (inner := [.int .i64 71, .int .i64 72]) (ok := fun _ => True) (okp := fun _ => True) ?hr ?hp (fun _ hk => hk) trivial (Below.refl _ _) (Nat.le_refl _) (by simp) ?_; (case hd => rfl); (case hg => rfl); (case hr => first | (go_simp; done) | (go_simp; rfl)); (case hp => exact (Reps.one (show Kd.M (Kd.int .i64) _ _ _ 71 [.int .i64 71] from rfl) (Reps.one (show Kd.M (Kd.int .i64) _ _ _ 72 [.int .i64 72] from rfl) (Reps.none _ _)))); intro v256 w8 ho9 hb hg_ hnew_; clear hg_ hnew_; (first | rw [← Ny255.out] at ho9 | (simp only [Int.reduceToNat] at ho9; rw [← Ny255.out] at ho9)); have n0_ := Aside0.mk (Kd.R_elder' (by (with_reducible repeat (first | apply Kd.R_alloc | apply Kd.R_drewN | apply Kd.R_drew)); exact HO254.out) (Kd.R_base ho9) hb); have n1_ := Aside0.mk (Kd.R_lower (Kd.R_new' ho9 (Kd.R_lt (by (with_reducible repeat (first | apply Kd.R_alloc | apply Kd.R_drewN | apply Kd.R_drew)); exact HO254.out))) (below_size (by repeat (first | (with_reducible first | exact HB.out | apply below_alloc | apply pw_below_drewN | apply below_drew1) | exact HB.out)))); have n2_ := Aside0.mk (below_step (by repeat (first | (with_reducible first | exact HB.out | apply below_alloc | apply pw_below_drewN | apply below_drew1) | exact HB.out)) hb); clear HO254; clear HB; have HO254 := n0_; have HO257 := n1_; have HB := n2_; clear n0_ n1_ n2_; clear hb ho9; obtain ⟨Ao11, co11, eo11⟩ := Kd.R_slice HO257.out; subst eo11) | ((with_reducible refine gate_builtin (b := .append) (xs := #[.tmp 23, .tmp 24]) rfl ?_); (try (refine gate_guard (by rfl) ?_; dsimp only)); at_builtin; refine Kd.R_append_rows (Kd.int .i64) (w0 := w) w.heap.size rfl (.tmp 23) (.tmp 24) 29 2 (.int .i64 0) 8 rfl Try.underlying29 info2 rfl (by decide) (by omega) v253 y252 y255 _ _ _ (fun k_ => some k_ ≠ (.slice Ao11 y255.length co11 : Value).ownBlock) (fun _ => False) rfl rfl ?aO ?aR (fun _ _ h => h) (fun _ h => h.elim) ?aF ?aB ?aS ?aL ?_; (case aR => repeat (first | exact (Kd.R_reads' HO257.out).2.2 | (with_reducible refine Kd.C_alloc ?_ _) | (with_reducible refine Kd.C_drewN ?_ _) | (with_reducible refine Kd.C_drew ?_))); (case aB => exact (by repeat (first | (with_reducible first | exact HB.out | apply below_alloc | apply pw_below_drewN | apply below_drew1) | exact HB.out))); (case aF => exact (fun k_ hk => Kd.fresh' (Kd.R_lt (by (with_reducible repeat (first | apply Kd.R_alloc | apply Kd.R_drewN | apply Kd.R_drew)); exact HO257.out)) k_ hk)); (case aO => exact (by (with_reducible repeat (first | apply Kd.R_alloc | apply Kd.R_drewN | apply Kd.R_drew)); exact Kd.R_mono HO254.out (fun _ hk => hk.2))); (case aS => exact (below_size (by repeat (first | (with_reducible first | exact HB.out | apply below_alloc | apply pw_below_drewN | apply below_drew1) | exact HB.out)))); (case aL => have := LMc4.out; omega); intro v259 w10 ho hb hg hat; rw [← Ny258.out] at ho; have n0_ := Aside0.mk (Kd.R_after (ok := (fun _ => True)) (by (with_reducible repeat (first | apply Kd.R_alloc | apply Kd.R_drewN | apply Kd.R_drew)); exact HO257.out) hg hat); have n1_ := Aside0.mk (hb); have n2_ := Aside0.mk (ho); clear HO257; clear HB; clear HO254; have HO257 := n0_; have HB := n1_; have HO260 := n2_; clear n0_ n1_ n2_; clear ho hb hg hat))
      go_loopg [6] k (fun kq v6 w' => ∃ (x5_1 : List Int) (x6_1 : Int), v6 = .int .i64 x6_1 ∧ Aside0 (colonnadelaw11_FramePuts.l0 kq l0 a1 x5_1 x6_1 = some r) ∧ Aside0 (kq ≤ k) ∧ Aside0 (Kd.R (Kd.int .i64) 2 w' w.heap.size (fun _ => True) v259 x5_1) ∧ Aside0 (Below w.heap.size w w'))
      case atStart => exact ⟨(y258), (0), (by first | rfl | (simp; done) | (simp [*]; done)), H', ⟨Nat.le_refl _⟩, ⟨by (with_reducible repeat (first | apply Kd.R_alloc | apply Kd.R_drewN | apply Kd.R_drew)); exact Kd.R_mono HO260.out (fun _ hk => trivial)⟩, ⟨by repeat (first | (with_reducible first | exact HB.out | apply below_alloc | apply pw_below_drewN | apply below_drew1) | exact HB.out)⟩⟩
      case round =>
        clear H'
        try clear p2
        try clear c3
        try clear c4
        try clear c6
        obtain ⟨x5_1, x6_1, rfl, HA, HK1, HO_5, HB⟩ := hrel
        cases gk with
        | zero => exact absurd HA.out (by simp [colonnadelaw11_FramePuts.l0])
        | succ k1 =>
          have H := HA.out
          clear HA
          simp only [colonnadelaw11_FramePuts.l0] at H
          by_cases c12 : x6_1 < 2
          · rw [if_pos c12] at H
            have c12b0 : decide (x6_1 < 2) = true := decide_eq_true c12
            clear c12
            obtain ⟨y261, hy261⟩ : ∃ y_ : List Int, y_ = (([] : List Int)) := ⟨_, rfl⟩
            replace H : (if 0 ≤ (l0.length : Int) then (if (l0.length : Int) ≤ (x5_1.length : Int) then ((some (x5_1.take ((l0.length : Int) : Int).toNat : List Int)).bind fun y264 => (if y261.length + y264.length < 17592186044416 then ((some (y261 ++ y264 : List Int)).bind fun y268 => ((colonnaderef11_PackedWidth.f k1 y268).bind fun bt271 => ((colonnaderef11_PutFrame.f k1 y268 a1).bind fun bt273 => ((colonnaderef11_PutPacked.f k1 y268 a1).bind fun bt277 => ((frame_PackedWidth.f k1 (x5_1.take ((l0.length : Int) : Int).toNat)).bind fun bt285 => ((frame_PutFrame.f k1 (x5_1.take ((l0.length : Int) : Int).toNat) a1).bind fun bt291 => ((frame_PutPacked.f k1 (x5_1.take ((l0.length : Int) : Int).toNat) a1).bind fun bt299 => ((frame_FrameWidth.f k1 (x5_1.take ((l0.length : Int) : Int).toNat)).bind fun t307 => ((colonnaderef11_FrameWidth.f k1 y268).bind fun t308 => (if t307 = t308 then (if bt285.1 = bt271.1 then (if (bt285.2 != bt271.2) = true then (colonnadelaw11_FramePuts.j1 k1 l0 a1 x5_1 x6_1 y268 true) else ((colonnadelaw11_num.f bt291.2).bind fun t309 => (if t309 = bt273.2 then (if (strOfNums bt291.1).toList = (strOfNums bt273.1).toList then ((colonnadelaw11_num.f bt299.2).bind fun t310 => (if t310 = bt277.2 then (colonnadelaw11_FramePuts.j1 k1 l0 a1 x5_1 x6_1 y268 ((strOfNums bt299.1).toList != (strOfNums bt277.1).toList)) else (colonnadelaw11_FramePuts.j1 k1 l0 a1 x5_1 x6_1 y268 true))) else (colonnadelaw11_FramePuts.j1 k1 l0 a1 x5_1 x6_1 y268 true)) else (colonnadelaw11_FramePuts.j1 k1 l0 a1 x5_1 x6_1 y268 true)))) else (colonnadelaw11_FramePuts.j1 k1 l0 a1 x5_1 x6_1 y268 true)) else (colonnadelaw11_FramePuts.j1 k1 l0 a1 x5_1 x6_1 y268 true))))))))))) else (none))) else (none)) else (none)) = some r := by first | (rw [hy261]; with_reducible exact H) | (have H2_ := (Option.bind_some _ _).symm.trans H; rw [hy261]; with_reducible exact H2_) | (have H2_ := (Option.bind_some _ _).symm.trans H; with_reducible exact H2_) | with_reducible exact H | (rw [hy261]; exact H) | exact H
            have Ny261 := Aside0.mk hy261
            clear hy261
            by_cases c13 : 0 ≤ (l0.length : Int)
            · rw [if_pos c13] at H
              have c13b0 := eq_true c13
              have c13b1 : decide (0 ≤ (l0.length : Int)) = true := decide_eq_true c13
              clear c13
              by_cases c14 : (l0.length : Int) ≤ (x5_1.length : Int)
              · rw [if_pos c14] at H
                have c14b0 := eq_true c14
                have c14b1 : decide ((l0.length : Int) ≤ (x5_1.length : Int)) = true := decide_eq_true c14
                clear c14
                obtain ⟨y264, hy264⟩ : ∃ y_ : List Int, y_ = (x5_1.take ((l0.length : Int) : Int).toNat) := ⟨_, rfl⟩
                replace H : (if y261.length + y264.length < 17592186044416 then ((some (y261 ++ y264 : List Int)).bind fun y268 => ((colonnaderef11_PackedWidth.f k1 y268).bind fun bt271 => ((colonnaderef11_PutFrame.f k1 y268 a1).bind fun bt273 => ((colonnaderef11_PutPacked.f k1 y268 a1).bind fun bt277 => ((frame_PackedWidth.f k1 (x5_1.take ((l0.length : Int) : Int).toNat)).bind fun bt285 => ((frame_PutFrame.f k1 (x5_1.take ((l0.length : Int) : Int).toNat) a1).bind fun bt291 => ((frame_PutPacked.f k1 (x5_1.take ((l0.length : Int) : Int).toNat) a1).bind fun bt299 => ((frame_FrameWidth.f k1 (x5_1.take ((l0.length : Int) : Int).toNat)).bind fun t307 => ((colonnaderef11_FrameWidth.f k1 y268).bind fun t308 => (if t307 = t308 then (if bt285.1 = bt271.1 then (if (bt285.2 != bt271.2) = true then (colonnadelaw11_FramePuts.j1 k1 l0 a1 x5_1 x6_1 y268 true) else ((colonnadelaw11_num.f bt291.2).bind fun t309 => (if t309 = bt273.2 then (if (strOfNums bt291.1).toList = (strOfNums bt273.1).toList then ((colonnadelaw11_num.f bt299.2).bind fun t310 => (if t310 = bt277.2 then (colonnadelaw11_FramePuts.j1 k1 l0 a1 x5_1 x6_1 y268 ((strOfNums bt299.1).toList != (strOfNums bt277.1).toList)) else (colonnadelaw11_FramePuts.j1 k1 l0 a1 x5_1 x6_1 y268 true))) else (colonnadelaw11_FramePuts.j1 k1 l0 a1 x5_1 x6_1 y268 true)) else (colonnadelaw11_FramePuts.j1 k1 l0 a1 x5_1 x6_1 y268 true)))) else (colonnadelaw11_FramePuts.j1 k1 l0 a1 x5_1 x6_1 y268 true)) else (colonnadelaw11_FramePuts.j1 k1 l0 a1 x5_1 x6_1 y268 true))))))))))) else (none)) = some r := by first | (rw [hy264]; with_reducible exact H) | (have H2_ := (Option.bind_some _ _).symm.trans H; rw [hy264]; with_reducible exact H2_) | (have H2_ := (Option.bind_some _ _).symm.trans H; with_reducible exact H2_) | with_reducible exact H | (rw [hy264]; exact H) | exact H
                have Ny264 := Aside0.mk hy264
                clear hy264
                by_cases c15 : y261.length + y264.length < 17592186044416
                · rw [if_pos c15] at H
                  have LMc15 := Aside0.mk c15
                  clear c15
                  obtain ⟨y268, hy268⟩ : ∃ y_ : List Int, y_ = (y261 ++ y264) := ⟨_, rfl⟩
                  replace H : ((colonnaderef11_PackedWidth.f k1 y268).bind fun bt271 => ((colonnaderef11_PutFrame.f k1 y268 a1).bind fun bt273 => ((colonnaderef11_PutPacked.f k1 y268 a1).bind fun bt277 => ((frame_PackedWidth.f k1 (x5_1.take ((l0.length : Int) : Int).toNat)).bind fun bt285 => ((frame_PutFrame.f k1 (x5_1.take ((l0.length : Int) : Int).toNat) a1).bind fun bt291 => ((frame_PutPacked.f k1 (x5_1.take ((l0.length : Int) : Int).toNat) a1).bind fun bt299 => ((frame_FrameWidth.f k1 (x5_1.take ((l0.length : Int) : Int).toNat)).bind fun t307 => ((colonnaderef11_FrameWidth.f k1 y268).bind fun t308 => (if t307 = t308 then (if bt285.1 = bt271.1 then (if (bt285.2 != bt271.2) = true then (colonnadelaw11_FramePuts.j1 k1 l0 a1 x5_1 x6_1 y268 true) else ((colonnadelaw11_num.f bt291.2).bind fun t309 => (if t309 = bt273.2 then (if (strOfNums bt291.1).toList = (strOfNums bt273.1).toList then ((colonnadelaw11_num.f bt299.2).bind fun t310 => (if t310 = bt277.2 then (colonnadelaw11_FramePuts.j1 k1 l0 a1 x5_1 x6_1 y268 ((strOfNums bt299.1).toList != (strOfNums bt277.1).toList)) else (colonnadelaw11_FramePuts.j1 k1 l0 a1 x5_1 x6_1 y268 true))) else (colonnadelaw11_FramePuts.j1 k1 l0 a1 x5_1 x6_1 y268 true)) else (colonnadelaw11_FramePuts.j1 k1 l0 a1 x5_1 x6_1 y268 true)))) else (colonnadelaw11_FramePuts.j1 k1 l0 a1 x5_1 x6_1 y268 true)) else (colonnadelaw11_FramePuts.j1 k1 l0 a1 x5_1 x6_1 y268 true)))))))))) = some r := by first | (rw [hy268]; with_reducible exact H) | (have H2_ := (Option.bind_some _ _).symm.trans H; rw [hy268]; with_reducible exact H2_) | (have H2_ := (Option.bind_some _ _).symm.trans H; with_reducible exact H2_) | with_reducible exact H | (rw [hy268]; exact H) | exact H
                  have Ny268 := Aside0.mk hy268
                  clear hy268
                  replace H := Option.bind_eq_some_iff.mp H
                  obtain ⟨⟨t271, t272⟩, A160, H⟩ := H
                  replace H : ((colonnaderef11_PutFrame.f k1 y268 a1).bind fun bt273 => ((colonnaderef11_PutPacked.f k1 y268 a1).bind fun bt277 => ((frame_PackedWidth.f k1 (x5_1.take ((l0.length : Int) : Int).toNat)).bind fun bt285 => ((frame_PutFrame.f k1 (x5_1.take ((l0.length : Int) : Int).toNat) a1).bind fun bt291 => ((frame_PutPacked.f k1 (x5_1.take ((l0.length : Int) : Int).toNat) a1).bind fun bt299 => ((frame_FrameWidth.f k1 (x5_1.take ((l0.length : Int) : Int).toNat)).bind fun t307 => ((colonnaderef11_FrameWidth.f k1 y268).bind fun t308 => (if t307 = t308 then (if bt285.1 = t271 then (if (bt285.2 != t272) = true then (colonnadelaw11_FramePuts.j1 k1 l0 a1 x5_1 x6_1 y268 true) else ((colonnadelaw11_num.f bt291.2).bind fun t309 => (if t309 = bt273.2 then (if (strOfNums bt291.1).toList = (strOfNums bt273.1).toList then ((colonnadelaw11_num.f bt299.2).bind fun t310 => (if t310 = bt277.2 then (colonnadelaw11_FramePuts.j1 k1 l0 a1 x5_1 x6_1 y268 ((strOfNums bt299.1).toList != (strOfNums bt277.1).toList)) else (colonnadelaw11_FramePuts.j1 k1 l0 a1 x5_1 x6_1 y268 true))) else (colonnadelaw11_FramePuts.j1 k1 l0 a1 x5_1 x6_1 y268 true)) else (colonnadelaw11_FramePuts.j1 k1 l0 a1 x5_1 x6_1 y268 true)))) else (colonnadelaw11_FramePuts.j1 k1 l0 a1 x5_1 x6_1 y268 true)) else (colonnadelaw11_FramePuts.j1 k1 l0 a1 x5_1 x6_1 y268 true))))))))) = some r := H
                  have A16 := Aside0.mk A160
                  clear A160
                  replace H := Option.bind_eq_some_iff.mp H
                  obtain ⟨⟨t273, t274⟩, A170, H⟩ := H
                  replace H : ((colonnaderef11_PutPacked.f k1 y268 a1).bind fun bt277 => ((frame_PackedWidth.f k1 (x5_1.take ((l0.length : Int) : Int).toNat)).bind fun bt285 => ((frame_PutFrame.f k1 (x5_1.take ((l0.length : Int) : Int).toNat) a1).bind fun bt291 => ((frame_PutPacked.f k1 (x5_1.take ((l0.length : Int) : Int).toNat) a1).bind fun bt299 => ((frame_FrameWidth.f k1 (x5_1.take ((l0.length : Int) : Int).toNat)).bind fun t307 => ((colonnaderef11_FrameWidth.f k1 y268).bind fun t308 => (if t307 = t308 then (if bt285.1 = t271 then (if (bt285.2 != t272) = true then (colonnadelaw11_FramePuts.j1 k1 l0 a1 x5_1 x6_1 y268 true) else ((colonnadelaw11_num.f bt291.2).bind fun t309 => (if t309 = t274 then (if (strOfNums bt291.1).toList = (strOfNums t273).toList then ((colonnadelaw11_num.f bt299.2).bind fun t310 => (if t310 = bt277.2 then (colonnadelaw11_FramePuts.j1 k1 l0 a1 x5_1 x6_1 y268 ((strOfNums bt299.1).toList != (strOfNums bt277.1).toList)) else (colonnadelaw11_FramePuts.j1 k1 l0 a1 x5_1 x6_1 y268 true))) else (colonnadelaw11_FramePuts.j1 k1 l0 a1 x5_1 x6_1 y268 true)) else (colonnadelaw11_FramePuts.j1 k1 l0 a1 x5_1 x6_1 y268 true)))) else (colonnadelaw11_FramePuts.j1 k1 l0 a1 x5_1 x6_1 y268 true)) else (colonnadelaw11_FramePuts.j1 k1 l0 a1 x5_1 x6_1 y268 true)))))))) = some r := H
                  have A17 := Aside0.mk A170
                  clear A170
                  replace H := Option.bind_eq_some_iff.mp H
                  obtain ⟨⟨t277, t278⟩, A180, H⟩ := H
                  replace H : ((frame_PackedWidth.f k1 (x5_1.take ((l0.length : Int) : Int).toNat)).bind fun bt285 => ((frame_PutFrame.f k1 (x5_1.take ((l0.length : Int) : Int).toNat) a1).bind fun bt291 => ((frame_PutPacked.f k1 (x5_1.take ((l0.length : Int) : Int).toNat) a1).bind fun bt299 => ((frame_FrameWidth.f k1 (x5_1.take ((l0.length : Int) : Int).toNat)).bind fun t307 => ((colonnaderef11_FrameWidth.f k1 y268).bind fun t308 => (if t307 = t308 then (if bt285.1 = t271 then (if (bt285.2 != t272) = true then (colonnadelaw11_FramePuts.j1 k1 l0 a1 x5_1 x6_1 y268 true) else ((colonnadelaw11_num.f bt291.2).bind fun t309 => (if t309 = t274 then (if (strOfNums bt291.1).toList = (strOfNums t273).toList then ((colonnadelaw11_num.f bt299.2).bind fun t310 => (if t310 = t278 then (colonnadelaw11_FramePuts.j1 k1 l0 a1 x5_1 x6_1 y268 ((strOfNums bt299.1).toList != (strOfNums t277).toList)) else (colonnadelaw11_FramePuts.j1 k1 l0 a1 x5_1 x6_1 y268 true))) else (colonnadelaw11_FramePuts.j1 k1 l0 a1 x5_1 x6_1 y268 true)) else (colonnadelaw11_FramePuts.j1 k1 l0 a1 x5_1 x6_1 y268 true)))) else (colonnadelaw11_FramePuts.j1 k1 l0 a1 x5_1 x6_1 y268 true)) else (colonnadelaw11_FramePuts.j1 k1 l0 a1 x5_1 x6_1 y268 true))))))) = some r := H
                  have A18 := Aside0.mk A180
                  clear A180
                  have c19b0 := eq_true (of_decide_eq_true (by first | (with_reducible assumption) | assumption) : 0 ≤ (l0.length : Int))
                  have c20b0 := eq_true (of_decide_eq_true (by first | (with_reducible assumption) | assumption) : (l0.length : Int) ≤ (x5_1.length : Int))
                  obtain ⟨y281, hy281⟩ : ∃ y_ : List Int, y_ = (x5_1.take ((l0.length : Int) : Int).toNat) := ⟨_, rfl⟩
                  replace H : ((frame_PackedWidth.f k1 y281).bind fun bt285 => ((frame_PutFrame.f k1 (x5_1.take ((l0.length : Int) : Int).toNat) a1).bind fun bt291 => ((frame_PutPacked.f k1 (x5_1.take ((l0.length : Int) : Int).toNat) a1).bind fun bt299 => ((frame_FrameWidth.f k1 (x5_1.take ((l0.length : Int) : Int).toNat)).bind fun t307 => ((colonnaderef11_FrameWidth.f k1 y268).bind fun t308 => (if t307 = t308 then (if bt285.1 = t271 then (if (bt285.2 != t272) = true then (colonnadelaw11_FramePuts.j1 k1 l0 a1 x5_1 x6_1 y268 true) else ((colonnadelaw11_num.f bt291.2).bind fun t309 => (if t309 = t274 then (if (strOfNums bt291.1).toList = (strOfNums t273).toList then ((colonnadelaw11_num.f bt299.2).bind fun t310 => (if t310 = t278 then (colonnadelaw11_FramePuts.j1 k1 l0 a1 x5_1 x6_1 y268 ((strOfNums bt299.1).toList != (strOfNums t277).toList)) else (colonnadelaw11_FramePuts.j1 k1 l0 a1 x5_1 x6_1 y268 true))) else (colonnadelaw11_FramePuts.j1 k1 l0 a1 x5_1 x6_1 y268 true)) else (colonnadelaw11_FramePuts.j1 k1 l0 a1 x5_1 x6_1 y268 true)))) else (colonnadelaw11_FramePuts.j1 k1 l0 a1 x5_1 x6_1 y268 true)) else (colonnadelaw11_FramePuts.j1 k1 l0 a1 x5_1 x6_1 y268 true))))))) = some r := by first | (rw [hy281]; with_reducible exact H) | (have H2_ := (Option.bind_some _ _).symm.trans H; rw [hy281]; with_reducible exact H2_) | (have H2_ := (Option.bind_some _ _).symm.trans H; with_reducible exact H2_) | with_reducible exact H | (rw [hy281]; exact H) | exact H
                  have Ny281 := Aside0.mk hy281
                  clear hy281
                  replace H := Option.bind_eq_some_iff.mp H
                  obtain ⟨⟨t285, t286⟩, A210, H⟩ := H
                  replace H : ((frame_PutFrame.f k1 (x5_1.take ((l0.length : Int) : Int).toNat) a1).bind fun bt291 => ((frame_PutPacked.f k1 (x5_1.take ((l0.length : Int) : Int).toNat) a1).bind fun bt299 => ((frame_FrameWidth.f k1 (x5_1.take ((l0.length : Int) : Int).toNat)).bind fun t307 => ((colonnaderef11_FrameWidth.f k1 y268).bind fun t308 => (if t307 = t308 then (if t285 = t271 then (if (t286 != t272) = true then (colonnadelaw11_FramePuts.j1 k1 l0 a1 x5_1 x6_1 y268 true) else ((colonnadelaw11_num.f bt291.2).bind fun t309 => (if t309 = t274 then (if (strOfNums bt291.1).toList = (strOfNums t273).toList then ((colonnadelaw11_num.f bt299.2).bind fun t310 => (if t310 = t278 then (colonnadelaw11_FramePuts.j1 k1 l0 a1 x5_1 x6_1 y268 ((strOfNums bt299.1).toList != (strOfNums t277).toList)) else (colonnadelaw11_FramePuts.j1 k1 l0 a1 x5_1 x6_1 y268 true))) else (colonnadelaw11_FramePuts.j1 k1 l0 a1 x5_1 x6_1 y268 true)) else (colonnadelaw11_FramePuts.j1 k1 l0 a1 x5_1 x6_1 y268 true)))) else (colonnadelaw11_FramePuts.j1 k1 l0 a1 x5_1 x6_1 y268 true)) else (colonnadelaw11_FramePuts.j1 k1 l0 a1 x5_1 x6_1 y268 true)))))) = some r := H
                  have A21 := Aside0.mk A210
                  clear A210
                  have c22b0 := eq_true (of_decide_eq_true (by first | (with_reducible assumption) | assumption) : 0 ≤ (l0.length : Int))
                  have c23b0 := eq_true (of_decide_eq_true (by first | (with_reducible assumption) | assumption) : (l0.length : Int) ≤ (x5_1.length : Int))
                  obtain ⟨y287, hy287⟩ : ∃ y_ : List Int, y_ = (x5_1.take ((l0.length : Int) : Int).toNat) := ⟨_, rfl⟩
                  replace H : ((frame_PutFrame.f k1 y287 a1).bind fun bt291 => ((frame_PutPacked.f k1 (x5_1.take ((l0.length : Int) : Int).toNat) a1).bind fun bt299 => ((frame_FrameWidth.f k1 (x5_1.take ((l0.length : Int) : Int).toNat)).bind fun t307 => ((colonnaderef11_FrameWidth.f k1 y268).bind fun t308 => (if t307 = t308 then (if t285 = t271 then (if (t286 != t272) = true then (colonnadelaw11_FramePuts.j1 k1 l0 a1 x5_1 x6_1 y268 true) else ((colonnadelaw11_num.f bt291.2).bind fun t309 => (if t309 = t274 then (if (strOfNums bt291.1).toList = (strOfNums t273).toList then ((colonnadelaw11_num.f bt299.2).bind fun t310 => (if t310 = t278 then (colonnadelaw11_FramePuts.j1 k1 l0 a1 x5_1 x6_1 y268 ((strOfNums bt299.1).toList != (strOfNums t277).toList)) else (colonnadelaw11_FramePuts.j1 k1 l0 a1 x5_1 x6_1 y268 true))) else (colonnadelaw11_FramePuts.j1 k1 l0 a1 x5_1 x6_1 y268 true)) else (colonnadelaw11_FramePuts.j1 k1 l0 a1 x5_1 x6_1 y268 true)))) else (colonnadelaw11_FramePuts.j1 k1 l0 a1 x5_1 x6_1 y268 true)) else (colonnadelaw11_FramePuts.j1 k1 l0 a1 x5_1 x6_1 y268 true)))))) = some r := by first | (rw [hy287]; with_reducible exact H) | (have H2_ := (Option.bind_some _ _).symm.trans H; rw [hy287]; with_reducible exact H2_) | (have H2_ := (Option.bind_some _ _).symm.trans H; with_reducible exact H2_) | with_reducible exact H | (rw [hy287]; exact H) | exact H
                  have Ny287 := Aside0.mk hy287
                  clear hy287
                  replace H := Option.bind_eq_some_iff.mp H
                  obtain ⟨⟨t291, t292⟩, A240, H⟩ := H
                  replace H : ((frame_PutPacked.f k1 (x5_1.take ((l0.length : Int) : Int).toNat) a1).bind fun bt299 => ((frame_FrameWidth.f k1 (x5_1.take ((l0.length : Int) : Int).toNat)).bind fun t307 => ((colonnaderef11_FrameWidth.f k1 y268).bind fun t308 => (if t307 = t308 then (if t285 = t271 then (if (t286 != t272) = true then (colonnadelaw11_FramePuts.j1 k1 l0 a1 x5_1 x6_1 y268 true) else ((colonnadelaw11_num.f t292).bind fun t309 => (if t309 = t274 then (if (strOfNums t291).toList = (strOfNums t273).toList then ((colonnadelaw11_num.f bt299.2).bind fun t310 => (if t310 = t278 then (colonnadelaw11_FramePuts.j1 k1 l0 a1 x5_1 x6_1 y268 ((strOfNums bt299.1).toList != (strOfNums t277).toList)) else (colonnadelaw11_FramePuts.j1 k1 l0 a1 x5_1 x6_1 y268 true))) else (colonnadelaw11_FramePuts.j1 k1 l0 a1 x5_1 x6_1 y268 true)) else (colonnadelaw11_FramePuts.j1 k1 l0 a1 x5_1 x6_1 y268 true)))) else (colonnadelaw11_FramePuts.j1 k1 l0 a1 x5_1 x6_1 y268 true)) else (colonnadelaw11_FramePuts.j1 k1 l0 a1 x5_1 x6_1 y268 true))))) = some r := H
                  have A24 := Aside0.mk A240
                  clear A240
                  have c25b0 := eq_true (of_decide_eq_true (by first | (with_reducible assumption) | assumption) : 0 ≤ (l0.length : Int))
                  have c26b0 := eq_true (of_decide_eq_true (by first | (with_reducible assumption) | assumption) : (l0.length : Int) ≤ (x5_1.length : Int))
                  obtain ⟨y295, hy295⟩ : ∃ y_ : List Int, y_ = (x5_1.take ((l0.length : Int) : Int).toNat) := ⟨_, rfl⟩
                  replace H : ((frame_PutPacked.f k1 y295 a1).bind fun bt299 => ((frame_FrameWidth.f k1 (x5_1.take ((l0.length : Int) : Int).toNat)).bind fun t307 => ((colonnaderef11_FrameWidth.f k1 y268).bind fun t308 => (if t307 = t308 then (if t285 = t271 then (if (t286 != t272) = true then (colonnadelaw11_FramePuts.j1 k1 l0 a1 x5_1 x6_1 y268 true) else ((colonnadelaw11_num.f t292).bind fun t309 => (if t309 = t274 then (if (strOfNums t291).toList = (strOfNums t273).toList then ((colonnadelaw11_num.f bt299.2).bind fun t310 => (if t310 = t278 then (colonnadelaw11_FramePuts.j1 k1 l0 a1 x5_1 x6_1 y268 ((strOfNums bt299.1).toList != (strOfNums t277).toList)) else (colonnadelaw11_FramePuts.j1 k1 l0 a1 x5_1 x6_1 y268 true))) else (colonnadelaw11_FramePuts.j1 k1 l0 a1 x5_1 x6_1 y268 true)) else (colonnadelaw11_FramePuts.j1 k1 l0 a1 x5_1 x6_1 y268 true)))) else (colonnadelaw11_FramePuts.j1 k1 l0 a1 x5_1 x6_1 y268 true)) else (colonnadelaw11_FramePuts.j1 k1 l0 a1 x5_1 x6_1 y268 true))))) = some r := by first | (rw [hy295]; with_reducible exact H) | (have H2_ := (Option.bind_some _ _).symm.trans H; rw [hy295]; with_reducible exact H2_) | (have H2_ := (Option.bind_some _ _).symm.trans H; with_reducible exact H2_) | with_reducible exact H | (rw [hy295]; exact H) | exact H
                  have Ny295 := Aside0.mk hy295
                  clear hy295
                  replace H := Option.bind_eq_some_iff.mp H
                  obtain ⟨⟨t299, t300⟩, A270, H⟩ := H
                  replace H : ((frame_FrameWidth.f k1 (x5_1.take ((l0.length : Int) : Int).toNat)).bind fun t307 => ((colonnaderef11_FrameWidth.f k1 y268).bind fun t308 => (if t307 = t308 then (if t285 = t271 then (if (t286 != t272) = true then (colonnadelaw11_FramePuts.j1 k1 l0 a1 x5_1 x6_1 y268 true) else ((colonnadelaw11_num.f t292).bind fun t309 => (if t309 = t274 then (if (strOfNums t291).toList = (strOfNums t273).toList then ((colonnadelaw11_num.f t300).bind fun t310 => (if t310 = t278 then (colonnadelaw11_FramePuts.j1 k1 l0 a1 x5_1 x6_1 y268 ((strOfNums t299).toList != (strOfNums t277).toList)) else (colonnadelaw11_FramePuts.j1 k1 l0 a1 x5_1 x6_1 y268 true))) else (colonnadelaw11_FramePuts.j1 k1 l0 a1 x5_1 x6_1 y268 true)) else (colonnadelaw11_FramePuts.j1 k1 l0 a1 x5_1 x6_1 y268 true)))) else (colonnadelaw11_FramePuts.j1 k1 l0 a1 x5_1 x6_1 y268 true)) else (colonnadelaw11_FramePuts.j1 k1 l0 a1 x5_1 x6_1 y268 true)))) = some r := H
                  have A27 := Aside0.mk A270
                  clear A270
                  have HC28 := Aside0.mk H
                  clear H
                  go_upto_region 12 with (first | ((with_reducible refine gate_dst (N := 30) rfl ?_); (try (refine gate_guard (by rfl) ?_; dsimp only)); refine Kd.R_lit (Kd.int .i64) _ 2 ?hg (N := 30) ?hd (xs := ([] : List Int)) (inner := []) (ok := fun _ => True) (okp := fun _ => True) ?hr ?hp (fun _ hk => hk) trivial (Below.refl _ _) (Nat.le_refl _) (by simp) ?_; (case hd => rfl); (case hg => rfl); (case hr => first | (go_simp; done) | (go_simp; rfl)); (case hp => exact (Reps.none _ _)); intro v262 w29 ho30 hb hg_ hnew_; clear hg_ hnew_; (first | rw [← Ny261.out] at ho30 | (simp only [Int.reduceToNat] at ho30; rw [← Ny261.out] at ho30)); have n0_ := Aside0.mk (Kd.R_elder' (by (with_reducible repeat (first | apply Kd.R_alloc | apply Kd.R_drewN | apply Kd.R_drew)); exact HO_5.out) (Kd.R_base ho30) hb); have n1_ := Aside0.mk (Kd.R_lower (Kd.R_new' ho30 (Kd.R_lt (by (with_reducible repeat (first | apply Kd.R_alloc | apply Kd.R_drewN | apply Kd.R_drew)); exact HO_5.out))) (below_size (by repeat (first | (with_reducible first | exact HB.out | apply below_alloc | apply pw_below_drewN | apply below_drew1) | exact HB.out)))); have n2_ := Aside0.mk (below_step (by repeat (first | (with_reducible first | exact HB.out | apply below_alloc | apply pw_below_drewN | apply below_drew1) | exact HB.out)) hb); clear HO_5; clear HB; have HO_5 := n0_; have HO263 := n1_; have HB := n2_; clear n0_ n1_ n2_; clear hb ho30; obtain ⟨Ao32, co32, eo32⟩ := Kd.R_slice HO_5.out; subst eo32; have q31 : ((l0.length : Int) : Int) ≤ ((x5_1.length : Int) : Int) := of_decide_eq_true (by first | (with_reducible assumption) | assumption); obtain ⟨i031, hi031, _, hsz31, _⟩ := info_parts info2; have hroom31 : x5_1.length ≤ co32 := (Kd.R_reads' HO_5.out).2.1; have hC31 : Kd.C (Kd.int .i64) _ Ao32 x5_1.length x5_1 := (Kd.R_reads' HO_5.out).2.2; have hcut31 := cut_to (P := Try.prog) 29 2 .i64 Try.underlying29 hi031 Ao32 x5_1.length co32 (l0.length : Int) (of_decide_eq_true (by first | (with_reducible assumption) | assumption)) q31 hroom31; have hr31 := Kd.C_take (m := ((l0.length : Int) : Int).toNat) hC31 (by omega); have hy31 : y264.length = ((l0.length : Int) : Int).toNat := (by rw [Ny264.out, List.length_take]; omega); rw [← Ny264.out] at hr31; rw [← hy31] at hcut31; have HR267 := Aside0.mk hr31; have HC267 := Aside0.mk (show y264.length ≤ co32 from by omega); clear hr31 hC31 hroom31 hi031 hsz31; have KY31 := Aside0.mk hy31; clear hy31; have KL31 := Aside0.mk (show ((l0.length : Int) : Int).toNat ≤ x5_1.length from by omega); replace q31 := eq_true q31) | ((with_reducible refine gate_builtin (b := .append) (xs := #[.tmp 30, .tmp 34]) rfl ?_); (try (refine gate_guard (by rfl) ?_; dsimp only)); at_builtin; refine Kd.R_append_rows (Kd.int .i64) (w0 := w) w.heap.size rfl (.tmp 30) (.tmp 34) 29 2 (.int .i64 0) 8 rfl Try.underlying29 info2 rfl (by decide) (by omega) v262 y261 y264 _ _ _ (fun k_ => some k_ ≠ (.slice Ao32 x5_1.length co32 : Value).ownBlock) (fun _ => False) rfl rfl ?aO ?aR (fun _ _ h => h) (fun _ h => h.elim) ?aF ?aB ?aS ?aL ?_; (case aR => repeat (first | exact (by repeat (first | (with_reducible exact HR267.out) | (with_reducible refine Kd.C_alloc ?_ _) | (with_reducible refine Kd.C_drewN ?_ _) | (with_reducible refine Kd.C_drew ?_) | exact HR267.out)) | (with_reducible refine Kd.C_alloc ?_ _) | (with_reducible refine Kd.C_drewN ?_ _) | (with_reducible refine Kd.C_drew ?_))); (case aB => exact (by repeat (first | (with_reducible first | exact HB.out | apply below_alloc | apply pw_below_drewN | apply below_drew1) | exact HB.out))); (case aF => exact (fun k_ hk => Kd.fresh' (Kd.R_lt (by (with_reducible repeat (first | apply Kd.R_alloc | apply Kd.R_drewN | apply Kd.R_drew)); exact HO_5.out)) k_ hk)); (case aO => exact (by (with_reducible repeat (first | apply Kd.R_alloc | apply Kd.R_drewN | apply Kd.R_drew)); exact Kd.R_mono HO263.out (fun _ hk => hk.2))); (case aS => exact (below_size (by repeat (first | (with_reducible first | exact HB.out | apply below_alloc | apply pw_below_drewN | apply below_drew1) | exact HB.out)))); (case aL => have := LMc15.out; omega); intro v269 w33 ho hb hg hat; rw [← Ny268.out] at ho; have n0_ := Aside0.mk (Kd.R_after (ok := (fun _ => True)) (by (with_reducible repeat (first | apply Kd.R_alloc | apply Kd.R_drewN | apply Kd.R_drew)); exact HO_5.out) hg hat); have n1_ := Aside0.mk (hb); have n2_ := Aside0.mk ((show Kd.C (Kd.int .i64) w33 Ao32 y264.length y264 from by rw [Ny264.out]; exact Kd.C_take (m := ((l0.length : Int) : Int).toNat) ((Kd.R_reads' (Kd.R_after (ok := (fun _ => True)) (by (with_reducible repeat (first | apply Kd.R_alloc | apply Kd.R_drewN | apply Kd.R_drew)); exact HO_5.out) hg hat)).2.2) KL31.out)); have n3_ := Aside0.mk (ho); clear HO_5; clear HB; clear HR267; clear HO263; have HO_5 := n0_; have HB := n1_; have HR267 := n2_; have HO270 := n3_; clear n0_ n1_ n2_ n3_; clear ho hb hg hat; obtain ⟨Ao34, co34, eo34⟩ := Kd.R_slice HO270.out; subst eo34) | ((with_reducible refine gate_callee (f := 25) rfl ?_); refine goesL_ (some 38) rfl rfl Try.func25 (by kernel_rfl) rfl #[.slice Ao34 y268.length co34] rfl (by (try simp only [List.map_toArray, List.map_cons, List.map_nil]); first | done | rfl | (simp only [List.length_drop, List.length_take]; rfl)) ?_; (with_reducible refine (colonnaderef11_PackedWidth.calls k1 _ _ y268 t271 t272 _ ?side1 ?side2 A16.out).mono ?_); (case side1 => repeat (first | exact (Kd.R_reads' HO270.out).2.2 | (with_reducible refine Kd.C_alloc ?_ _) | (with_reducible refine Kd.C_drewN ?_ _) | (with_reducible refine Kd.C_drew ?_))); (case side2 => exact (Kd.R_reads' HO270.out).2.1); rintro e w35 ⟨rfl, hb⟩; refine ⟨_, rfl, ?_⟩; have n0_ := Aside0.mk (Kd.R_below (by (with_reducible repeat (first | apply Kd.R_alloc | apply Kd.R_drewN | apply Kd.R_drew)); exact HO_5.out) hb); have n1_ := Aside0.mk (Kd.R_below (by (with_reducible repeat (first | apply Kd.R_alloc | apply Kd.R_drewN | apply Kd.R_drew)); exact HO270.out) hb); have n2_ := Aside0.mk (Kd.C_below (by repeat (first | (with_reducible exact HR267.out) | (with_reducible refine Kd.C_alloc ?_ _) | (with_reducible refine Kd.C_drewN ?_ _) | (with_reducible refine Kd.C_drew ?_) | exact HR267.out)) hb); have n3_ := Aside0.mk (below_step (by repeat (first | (with_reducible first | exact HB.out | apply below_alloc | apply pw_below_drewN | apply below_drew1) | exact HB.out)) hb); clear HO_5; clear HO270; clear HR267; clear HB; have HO_5 := n0_; have HO270 := n1_; have HR267 := n2_; have HB := n3_; clear n0_ n1_ n2_ n3_; (try clear hb); (try clear hb2); (try clear hk); (try clear hi)) | ((with_reducible refine gate_callee (f := 26) rfl ?_); refine goesL_ (some 44) rfl rfl Try.func26 (by kernel_rfl) rfl #[.slice Ao34 y268.length co34, .int .i64 a1] rfl (by (try simp only [List.map_toArray, List.map_cons, List.map_nil]); first | done | rfl | (simp only [List.length_drop, List.length_take]; rfl)) ?_; (with_reducible refine (colonnaderef11_PutFrame.calls k1 _ _ y268 a1 t273 t274 _ ?side1 ?side2 A17.out).mono ?_); (case side1 => repeat (first | exact (Kd.R_reads' HO270.out).2.2 | (with_reducible refine Kd.C_alloc ?_ _) | (with_reducible refine Kd.C_drewN ?_ _) | (with_reducible refine Kd.C_drew ?_))); (case side2 => exact (Kd.R_reads' HO270.out).2.1); rintro e w36 ⟨v275, rfl, ho0, hb⟩; refine ⟨_, rfl, ?_⟩; have n0_ := Aside0.mk (Kd.R_below (by (with_reducible repeat (first | apply Kd.R_alloc | apply Kd.R_drewN | apply Kd.R_drew)); exact HO_5.out) hb); have n1_ := Aside0.mk (Kd.R_below (by (with_reducible repeat (first | apply Kd.R_alloc | apply Kd.R_drewN | apply Kd.R_drew)); exact HO270.out) hb); have n2_ := Aside0.mk (Kd.R_lower ho0 (below_size (by repeat (first | (with_reducible first | exact HB.out | apply below_alloc | apply pw_below_drewN | apply below_drew1) | exact HB.out)))); have n3_ := Aside0.mk (Kd.C_below (by repeat (first | (with_reducible exact HR267.out) | (with_reducible refine Kd.C_alloc ?_ _) | (with_reducible refine Kd.C_drewN ?_ _) | (with_reducible refine Kd.C_drew ?_) | exact HR267.out)) hb); have n4_ := Aside0.mk (below_step (by repeat (first | (with_reducible first | exact HB.out | apply below_alloc | apply pw_below_drewN | apply below_drew1) | exact HB.out)) hb); clear HO_5; clear HO270; clear HR267; clear HB; have HO_5 := n0_; have HO270 := n1_; have HO276 := n2_; have HR267 := n3_; have HB := n4_; clear n0_ n1_ n2_ n3_ n4_; (try clear hb); (try clear hb2); (try clear hk); (try clear hi); (try clear ho0)) | ((with_reducible refine gate_callee (f := 27) rfl ?_); refine goesL_ (some 50) rfl rfl Try.func27 (by kernel_rfl) rfl #[.slice Ao34 y268.length co34, .int .i64 a1] rfl (by (try simp only [List.map_toArray, List.map_cons, List.map_nil]); first | done | rfl | (simp only [List.length_drop, List.length_take]; rfl)) ?_; (with_reducible refine (colonnaderef11_PutPacked.calls k1 _ _ y268 a1 t277 t278 _ ?side1 ?side2 A18.out).mono ?_); (case side1 => repeat (first | exact (Kd.R_reads' HO270.out).2.2 | (with_reducible refine Kd.C_alloc ?_ _) | (with_reducible refine Kd.C_drewN ?_ _) | (with_reducible refine Kd.C_drew ?_))); (case side2 => exact (Kd.R_reads' HO270.out).2.1); rintro e w37 ⟨v279, rfl, ho0, hb⟩; refine ⟨_, rfl, ?_⟩; have n0_ := Aside0.mk (Kd.R_below (by (with_reducible repeat (first | apply Kd.R_alloc | apply Kd.R_drewN | apply Kd.R_drew)); exact HO_5.out) hb); have n1_ := Aside0.mk (Kd.R_below (by (with_reducible repeat (first | apply Kd.R_alloc | apply Kd.R_drewN | apply Kd.R_drew)); exact HO270.out) hb); have n2_ := Aside0.mk (Kd.R_elder' (by (with_reducible repeat (first | apply Kd.R_alloc | apply Kd.R_drewN | apply Kd.R_drew)); exact HO276.out) (Kd.R_base ho0) hb); have n3_ := Aside0.mk (Kd.R_lower (Kd.R_new' ho0 (Kd.R_lt (by (with_reducible repeat (first | apply Kd.R_alloc | apply Kd.R_drewN | apply Kd.R_drew)); exact HO276.out))) (below_size (by repeat (first | (with_reducible first | exact HB.out | apply below_alloc | apply pw_below_drewN | apply below_drew1) | exact HB.out)))); have n4_ := Aside0.mk (Kd.C_below (by repeat (first | (with_reducible exact HR267.out) | (with_reducible refine Kd.C_alloc ?_ _) | (with_reducible refine Kd.C_drewN ?_ _) | (with_reducible refine Kd.C_drew ?_) | exact HR267.out)) hb); have n5_ := Aside0.mk (below_step (by repeat (first | (with_reducible first | exact HB.out | apply below_alloc | apply pw_below_drewN | apply below_drew1) | exact HB.out)) hb); clear HO_5; clear HO270; clear HO276; clear HR267; clear HB; have HO_5 := n0_; have HO270 := n1_; have HO276 := n2_; have HO280 := n3_; have HR267 := n4_; have HB := n5_; clear n0_ n1_ n2_ n3_ n4_ n5_; (try clear hb); (try clear hb2); (try clear hk); (try clear hi); (try clear ho0); (try clear hcut31); have q38 : ((l0.length : Int) : Int) ≤ ((x5_1.length : Int) : Int) := of_decide_eq_true (by first | (with_reducible assumption) | assumption); obtain ⟨i038, hi038, _, hsz38, _⟩ := info_parts info2; have hroom38 : x5_1.length ≤ co32 := (Kd.R_reads' HO_5.out).2.1; have hC38 : Kd.C (Kd.int .i64) _ Ao32 x5_1.length x5_1 := (Kd.R_reads' HO_5.out).2.2; have hcut38 := cut_to (P := Try.prog) 29 2 .i64 Try.underlying29 hi038 Ao32 x5_1.length co32 (l0.length : Int) (of_decide_eq_true (by first | (with_reducible assumption) | assumption)) q38 hroom38; have hr38 := Kd.C_take (m := ((l0.length : Int) : Int).toNat) hC38 (by omega); have hy38 : y281.length = ((l0.length : Int) : Int).toNat := (by rw [Ny281.out, List.length_take]; omega); rw [← Ny281.out] at hr38; rw [← hy38] at hcut38; have HR284 := Aside0.mk hr38; have HC284 := Aside0.mk (show y281.length ≤ co32 from by omega); clear hr38 hC38 hroom38 hi038 hsz38; have KY38 := Aside0.mk hy38; clear hy38; have KL38 := Aside0.mk (show ((l0.length : Int) : Int).toNat ≤ x5_1.length from by omega); replace q38 := eq_true q38) | ((with_reducible refine gate_callee (f := 28) rfl ?_); refine goesL_ (some 58) rfl rfl Try.func28 (by kernel_rfl) rfl #[.slice Ao32 y281.length co32] rfl (by (try simp only [List.map_toArray, List.map_cons, List.map_nil]); first | done | rfl | (simp only [List.length_drop, List.length_take]; rfl)) ?_; (with_reducible refine (frame_PackedWidth.calls k1 _ _ y281 t285 t286 _ ?side1 ?side2 A21.out).mono ?_); (case side1 => repeat (first | exact (by repeat (first | (with_reducible exact HR284.out) | (with_reducible refine Kd.C_alloc ?_ _) | (with_reducible refine Kd.C_drewN ?_ _) | (with_reducible refine Kd.C_drew ?_) | exact HR284.out)) | (with_reducible refine Kd.C_alloc ?_ _) | (with_reducible refine Kd.C_drewN ?_ _) | (with_reducible refine Kd.C_drew ?_))); (case side2 => exact HC284.out); rintro e w39 ⟨rfl, hb⟩; refine ⟨_, rfl, ?_⟩; have n0_ := Aside0.mk (Kd.R_below (by (with_reducible repeat (first | apply Kd.R_alloc | apply Kd.R_drewN | apply Kd.R_drew)); exact HO_5.out) hb); have n1_ := Aside0.mk (Kd.R_below (by (with_reducible repeat (first | apply Kd.R_alloc | apply Kd.R_drewN | apply Kd.R_drew)); exact HO270.out) hb); have n2_ := Aside0.mk (Kd.R_below (by (with_reducible repeat (first | apply Kd.R_alloc | apply Kd.R_drewN | apply Kd.R_drew)); exact HO276.out) hb); have n3_ := Aside0.mk (Kd.R_below (by (with_reducible repeat (first | apply Kd.R_alloc | apply Kd.R_drewN | apply Kd.R_drew)); exact HO280.out) hb); have n4_ := Aside0.mk (Kd.C_below (by repeat (first | (with_reducible exact HR267.out) | (with_reducible refine Kd.C_alloc ?_ _) | (with_reducible refine Kd.C_drewN ?_ _) | (with_reducible refine Kd.C_drew ?_) | exact HR267.out)) hb); have n5_ := Aside0.mk (Kd.C_below (by repeat (first | (with_reducible exact HR284.out) | (with_reducible refine Kd.C_alloc ?_ _) | (with_reducible refine Kd.C_drewN ?_ _) | (with_reducible refine Kd.C_drew ?_) | exact HR284.out)) hb); have n6_ := Aside0.mk (below_step (by repeat (first | (with_reducible first | exact HB.out | apply below_alloc | apply pw_below_drewN | apply below_drew1) | exact HB.out)) hb); clear HO_5; clear HO270; clear HO276; clear HO280; clear HR267; clear HR284; clear HB; have HO_5 := n0_; have HO270 := n1_; have HO276 := n2_; have HO280 := n3_; have HR267 := n4_; have HR284 := n5_; have HB := n6_; clear n0_ n1_ n2_ n3_ n4_ n5_ n6_; (try clear hb); (try clear hb2); (try clear hk); (try clear hi); (try clear hcut31); (try clear hcut38); have q40 : ((l0.length : Int) : Int) ≤ ((x5_1.length : Int) : Int) := of_decide_eq_true (by first | (with_reducible assumption) | assumption); obtain ⟨i040, hi040, _, hsz40, _⟩ := info_parts info2; have hroom40 : x5_1.length ≤ co32 := (Kd.R_reads' HO_5.out).2.1; have hC40 : Kd.C (Kd.int .i64) _ Ao32 x5_1.length x5_1 := (Kd.R_reads' HO_5.out).2.2; have hcut40 := cut_to (P := Try.prog) 29 2 .i64 Try.underlying29 hi040 Ao32 x5_1.length co32 (l0.length : Int) (of_decide_eq_true (by first | (with_reducible assumption) | assumption)) q40 hroom40; have hr40 := Kd.C_take (m := ((l0.length : Int) : Int).toNat) hC40 (by omega); have hy40 : y287.length = ((l0.length : Int) : Int).toNat := (by rw [Ny287.out, List.length_take]; omega); rw [← Ny287.out] at hr40; rw [← hy40] at hcut40; have HR290 := Aside0.mk hr40; have HC290 := Aside0.mk (show y287.length ≤ co32 from by omega); clear hr40 hC40 hroom40 hi040 hsz40; have KY40 := Aside0.mk hy40; clear hy40; have KL40 := Aside0.mk (show ((l0.length : Int) : Int).toNat ≤ x5_1.length from by omega); replace q40 := eq_true q40) | ((with_reducible refine gate_callee (f := 29) rfl ?_); refine goesL_ (some 67) rfl rfl Try.func29 (by kernel_rfl) rfl #[.slice Ao32 y287.length co32, .int .i64 a1] rfl (by (try simp only [List.map_toArray, List.map_cons, List.map_nil]); first | done | rfl | (simp only [List.length_drop, List.length_take]; rfl)) ?_; (with_reducible refine (frame_PutFrame.calls k1 _ _ y287 a1 t291 t292 _ ?side1 ?side2 A24.out).mono ?_); (case side1 => repeat (first | exact (by repeat (first | (with_reducible exact HR290.out) | (with_reducible refine Kd.C_alloc ?_ _) | (with_reducible refine Kd.C_drewN ?_ _) | (with_reducible refine Kd.C_drew ?_) | exact HR290.out)) | (with_reducible refine Kd.C_alloc ?_ _) | (with_reducible refine Kd.C_drewN ?_ _) | (with_reducible refine Kd.C_drew ?_))); (case side2 => exact HC290.out); rintro e w41 ⟨v293, rfl, ho0, hb⟩; refine ⟨_, rfl, ?_⟩; have n0_ := Aside0.mk (Kd.R_below (by (with_reducible repeat (first | apply Kd.R_alloc | apply Kd.R_drewN | apply Kd.R_drew)); exact HO_5.out) hb); have n1_ := Aside0.mk (Kd.R_below (by (with_reducible repeat (first | apply Kd.R_alloc | apply Kd.R_drewN | apply Kd.R_drew)); exact HO270.out) hb); have n2_ := Aside0.mk (Kd.R_elder' (by (with_reducible repeat (first | apply Kd.R_alloc | apply Kd.R_drewN | apply Kd.R_drew)); exact HO276.out) (Kd.R_base ho0) hb); have n3_ := Aside0.mk (Kd.R_elder' (by (with_reducible repeat (first | apply Kd.R_alloc | apply Kd.R_drewN | apply Kd.R_drew)); exact HO280.out) (Kd.R_base ho0) hb); have n4_ := Aside0.mk (Kd.R_lower (Kd.R_new' (Kd.R_new' ho0 (Kd.R_lt (by (with_reducible repeat (first | apply Kd.R_alloc | apply Kd.R_drewN | apply Kd.R_drew)); exact HO276.out))) (Kd.R_lt (by (with_reducible repeat (first | apply Kd.R_alloc | apply Kd.R_drewN | apply Kd.R_drew)); exact HO280.out))) (below_size (by repeat (first | (with_reducible first | exact HB.out | apply below_alloc | apply pw_below_drewN | apply below_drew1) | exact HB.out)))); have n5_ := Aside0.mk (Kd.C_below (by repeat (first | (with_reducible exact HR267.out) | (with_reducible refine Kd.C_alloc ?_ _) | (with_reducible refine Kd.C_drewN ?_ _) | (with_reducible refine Kd.C_drew ?_) | exact HR267.out)) hb); have n6_ := Aside0.mk (Kd.C_below (by repeat (first | (with_reducible exact HR284.out) | (with_reducible refine Kd.C_alloc ?_ _) | (with_reducible refine Kd.C_drewN ?_ _) | (with_reducible refine Kd.C_drew ?_) | exact HR284.out)) hb); have n7_ := Aside0.mk (Kd.C_below (by repeat (first | (with_reducible exact HR290.out) | (with_reducible refine Kd.C_alloc ?_ _) | (with_reducible refine Kd.C_drewN ?_ _) | (with_reducible refine Kd.C_drew ?_) | exact HR290.out)) hb); have n8_ := Aside0.mk (below_step (by repeat (first | (with_reducible first | exact HB.out | apply below_alloc | apply pw_below_drewN | apply below_drew1) | exact HB.out)) hb); clear HO_5; clear HO270; clear HO276; clear HO280; clear HR267; clear HR284; clear HR290; clear HB; have HO_5 := n0_; have HO270 := n1_; have HO276 := n2_; have HO280 := n3_; have HO294 := n4_; have HR267 := n5_; have HR284 := n6_; have HR290 := n7_; have HB := n8_; clear n0_ n1_ n2_ n3_ n4_ n5_ n6_ n7_ n8_; (try clear hb); (try clear hb2); (try clear hk); (try clear hi); (try clear ho0); (try clear hcut31); (try clear hcut38); (try clear hcut40); have q42 : ((l0.length : Int) : Int) ≤ ((x5_1.length : Int) : Int) := of_decide_eq_true (by first | (with_reducible assumption) | assumption); obtain ⟨i042, hi042, _, hsz42, _⟩ := info_parts info2; have hroom42 : x5_1.length ≤ co32 := (Kd.R_reads' HO_5.out).2.1; have hC42 : Kd.C (Kd.int .i64) _ Ao32 x5_1.length x5_1 := (Kd.R_reads' HO_5.out).2.2; have hcut42 := cut_to (P := Try.prog) 29 2 .i64 Try.underlying29 hi042 Ao32 x5_1.length co32 (l0.length : Int) (of_decide_eq_true (by first | (with_reducible assumption) | assumption)) q42 hroom42; have hr42 := Kd.C_take (m := ((l0.length : Int) : Int).toNat) hC42 (by omega); have hy42 : y295.length = ((l0.length : Int) : Int).toNat := (by rw [Ny295.out, List.length_take]; omega); rw [← Ny295.out] at hr42; rw [← hy42] at hcut42; have HR298 := Aside0.mk hr42; have HC298 := Aside0.mk (show y295.length ≤ co32 from by omega); clear hr42 hC42 hroom42 hi042 hsz42; have KY42 := Aside0.mk hy42; clear hy42; have KL42 := Aside0.mk (show ((l0.length : Int) : Int).toNat ≤ x5_1.length from by omega); replace q42 := eq_true q42) | ((with_reducible refine gate_callee (f := 30) rfl ?_); refine goesL_ (some 76) rfl rfl Try.func30 (by kernel_rfl) rfl #[.slice Ao32 y295.length co32, .int .i64 a1] rfl (by (try simp only [List.map_toArray, List.map_cons, List.map_nil]); first | done | rfl | (simp only [List.length_drop, List.length_take]; rfl)) ?_; (with_reducible refine (frame_PutPacked.calls k1 _ _ y295 a1 t299 t300 _ ?side1 ?side2 A27.out).mono ?_); (case side1 => repeat (first | exact (by repeat (first | (with_reducible exact HR298.out) | (with_reducible refine Kd.C_alloc ?_ _) | (with_reducible refine Kd.C_drewN ?_ _) | (with_reducible refine Kd.C_drew ?_) | exact HR298.out)) | (with_reducible refine Kd.C_alloc ?_ _) | (with_reducible refine Kd.C_drewN ?_ _) | (with_reducible refine Kd.C_drew ?_))); (case side2 => exact HC298.out); rintro e w43 ⟨v301, rfl, ho0, hb⟩; refine ⟨_, rfl, ?_⟩; have n0_ := Aside0.mk (Kd.R_below (by (with_reducible repeat (first | apply Kd.R_alloc | apply Kd.R_drewN | apply Kd.R_drew)); exact HO_5.out) hb); have n1_ := Aside0.mk (Kd.R_below (by (with_reducible repeat (first | apply Kd.R_alloc | apply Kd.R_drewN | apply Kd.R_drew)); exact HO270.out) hb); have n2_ := Aside0.mk (Kd.R_elder' (by (with_reducible repeat (first | apply Kd.R_alloc | apply Kd.R_drewN | apply Kd.R_drew)); exact HO276.out) (Kd.R_base ho0) hb); have n3_ := Aside0.mk (Kd.R_elder' (by (with_reducible repeat (first | apply Kd.R_alloc | apply Kd.R_drewN | apply Kd.R_drew)); exact HO280.out) (Kd.R_base ho0) hb); have n4_ := Aside0.mk (Kd.R_elder' (by (with_reducible repeat (first | apply Kd.R_alloc | apply Kd.R_drewN | apply Kd.R_drew)); exact HO294.out) (Kd.R_base ho0) hb); have n5_ := Aside0.mk (Kd.R_lower (Kd.R_new' (Kd.R_new' (Kd.R_new' ho0 (Kd.R_lt (by (with_reducible repeat (first | apply Kd.R_alloc | apply Kd.R_drewN | apply Kd.R_drew)); exact HO276.out))) (Kd.R_lt (by (with_reducible repeat (first | apply Kd.R_alloc | apply Kd.R_drewN | apply Kd.R_drew)); exact HO280.out))) (Kd.R_lt (by (with_reducible repeat (first | apply Kd.R_alloc | apply Kd.R_drewN | apply Kd.R_drew)); exact HO294.out))) (below_size (by repeat (first | (with_reducible first | exact HB.out | apply below_alloc | apply pw_below_drewN | apply below_drew1) | exact HB.out)))); have n6_ := Aside0.mk (Kd.C_below (by repeat (first | (with_reducible exact HR267.out) | (with_reducible refine Kd.C_alloc ?_ _) | (with_reducible refine Kd.C_drewN ?_ _) | (with_reducible refine Kd.C_drew ?_) | exact HR267.out)) hb); have n7_ := Aside0.mk (Kd.C_below (by repeat (first | (with_reducible exact HR284.out) | (with_reducible refine Kd.C_alloc ?_ _) | (with_reducible refine Kd.C_drewN ?_ _) | (with_reducible refine Kd.C_drew ?_) | exact HR284.out)) hb); have n8_ := Aside0.mk (Kd.C_below (by repeat (first | (with_reducible exact HR290.out) | (with_reducible refine Kd.C_alloc ?_ _) | (with_reducible refine Kd.C_drewN ?_ _) | (with_reducible refine Kd.C_drew ?_) | exact HR290.out)) hb); have n9_ := Aside0.mk (Kd.C_below (by repeat (first | (with_reducible exact HR298.out) | (with_reducible refine Kd.C_alloc ?_ _) | (with_reducible refine Kd.C_drewN ?_ _) | (with_reducible refine Kd.C_drew ?_) | exact HR298.out)) hb); have n10_ := Aside0.mk (below_step (by repeat (first | (with_reducible first | exact HB.out | apply below_alloc | apply pw_below_drewN | apply below_drew1) | exact HB.out)) hb); clear HO_5; clear HO270; clear HO276; clear HO280; clear HO294; clear HR267; clear HR284; clear HR290; clear HR298; clear HB; have HO_5 := n0_; have HO270 := n1_; have HO276 := n2_; have HO280 := n3_; have HO294 := n4_; have HO302 := n5_; have HR267 := n6_; have HR284 := n7_; have HR290 := n8_; have HR298 := n9_; have HB := n10_; clear n0_ n1_ n2_ n3_ n4_ n5_ n6_ n7_ n8_ n9_ n10_; (try clear hb); (try clear hb2); (try clear hk); (try clear hi); (try clear ho0)))
                  (try simp only [Act.put, List.setIfInBounds_toArray, List.set_cons_zero, List.set_cons_succ])
                  go_cut [122] (fun v122 wc => ∃ (kq : Nat) (x122_27 : Bool), v122 = .bool x122_27 ∧ Aside0 (colonnadelaw11_FramePuts.j1 kq l0 a1 x5_1 x6_1 y268 x122_27 = some r) ∧ Aside0 (kq ≤ k1) ∧ Aside0 (Kd.R (Kd.int .i64) 2 wc w.heap.size (fun k_ => some k_ ≠ ((.slice Ao34 y268.length co34) : Value).ownBlock) (.slice Ao32 x5_1.length co32) x5_1) ∧ Aside0 (Kd.R (Kd.int .i64) 2 wc w.heap.size (fun k_ => some k_ ≠ ((.slice Ao32 x5_1.length co32) : Value).ownBlock) (.slice Ao34 y268.length co34) y268) ∧ Aside0 (Below w.heap.size w wc))
                  case first =>
                    have H := HC28.out
                    clear HC28
                    have c44b0 := eq_true (of_decide_eq_true (by first | (with_reducible assumption) | assumption) : 0 ≤ (l0.length : Int))
                    have c45b0 := eq_true (of_decide_eq_true (by first | (with_reducible assumption) | assumption) : (l0.length : Int) ≤ (x5_1.length : Int))
                    obtain ⟨y303, hy303⟩ : ∃ y_ : List Int, y_ = (x5_1.take ((l0.length : Int) : Int).toNat) := ⟨_, rfl⟩
                    replace H : ((frame_FrameWidth.f k1 y303).bind fun t307 => ((colonnaderef11_FrameWidth.f k1 y268).bind fun t308 => (if t307 = t308 then (if t285 = t271 then (if (t286 != t272) = true then (colonnadelaw11_FramePuts.j1 k1 l0 a1 x5_1 x6_1 y268 true) else ((colonnadelaw11_num.f t292).bind fun t309 => (if t309 = t274 then (if (strOfNums t291).toList = (strOfNums t273).toList then ((colonnadelaw11_num.f t300).bind fun t310 => (if t310 = t278 then (colonnadelaw11_FramePuts.j1 k1 l0 a1 x5_1 x6_1 y268 ((strOfNums t299).toList != (strOfNums t277).toList)) else (colonnadelaw11_FramePuts.j1 k1 l0 a1 x5_1 x6_1 y268 true))) else (colonnadelaw11_FramePuts.j1 k1 l0 a1 x5_1 x6_1 y268 true)) else (colonnadelaw11_FramePuts.j1 k1 l0 a1 x5_1 x6_1 y268 true)))) else (colonnadelaw11_FramePuts.j1 k1 l0 a1 x5_1 x6_1 y268 true)) else (colonnadelaw11_FramePuts.j1 k1 l0 a1 x5_1 x6_1 y268 true)))) = some r := by first | (rw [hy303]; with_reducible exact H) | (have H2_ := (Option.bind_some _ _).symm.trans H; rw [hy303]; with_reducible exact H2_) | (have H2_ := (Option.bind_some _ _).symm.trans H; with_reducible exact H2_) | with_reducible exact H | (rw [hy303]; exact H) | exact H
                    have Ny303 := Aside0.mk hy303
                    clear hy303
                    replace H := Option.bind_eq_some_iff.mp H
                    obtain ⟨t307, A460, H⟩ := H
                    replace H : ((colonnaderef11_FrameWidth.f k1 y268).bind fun t308 => (if t307 = t308 then (if t285 = t271 then (if (t286 != t272) = true then (colonnadelaw11_FramePuts.j1 k1 l0 a1 x5_1 x6_1 y268 true) else ((colonnadelaw11_num.f t292).bind fun t309 => (if t309 = t274 then (if (strOfNums t291).toList = (strOfNums t273).toList then ((colonnadelaw11_num.f t300).bind fun t310 => (if t310 = t278 then (colonnadelaw11_FramePuts.j1 k1 l0 a1 x5_1 x6_1 y268 ((strOfNums t299).toList != (strOfNums t277).toList)) else (colonnadelaw11_FramePuts.j1 k1 l0 a1 x5_1 x6_1 y268 true))) else (colonnadelaw11_FramePuts.j1 k1 l0 a1 x5_1 x6_1 y268 true)) else (colonnadelaw11_FramePuts.j1 k1 l0 a1 x5_1 x6_1 y268 true)))) else (colonnadelaw11_FramePuts.j1 k1 l0 a1 x5_1 x6_1 y268 true)) else (colonnadelaw11_FramePuts.j1 k1 l0 a1 x5_1 x6_1 y268 true))) = some r := H
                    have A46 := Aside0.mk A460
                    clear A460
                    replace H := Option.bind_eq_some_iff.mp H
                    obtain ⟨t308, A470, H⟩ := H
                    replace H : (if t307 = t308 then (if t285 = t271 then (if (t286 != t272) = true then (colonnadelaw11_FramePuts.j1 k1 l0 a1 x5_1 x6_1 y268 true) else ((colonnadelaw11_num.f t292).bind fun t309 => (if t309 = t274 then (if (strOfNums t291).toList = (strOfNums t273).toList then ((colonnadelaw11_num.f t300).bind fun t310 => (if t310 = t278 then (colonnadelaw11_FramePuts.j1 k1 l0 a1 x5_1 x6_1 y268 ((strOfNums t299).toList != (strOfNums t277).toList)) else (colonnadelaw11_FramePuts.j1 k1 l0 a1 x5_1 x6_1 y268 true))) else (colonnadelaw11_FramePuts.j1 k1 l0 a1 x5_1 x6_1 y268 true)) else (colonnadelaw11_FramePuts.j1 k1 l0 a1 x5_1 x6_1 y268 true)))) else (colonnadelaw11_FramePuts.j1 k1 l0 a1 x5_1 x6_1 y268 true)) else (colonnadelaw11_FramePuts.j1 k1 l0 a1 x5_1 x6_1 y268 true)) = some r := H
                    have A47 := Aside0.mk A470
                    clear A470
                    by_cases c48 : t307 = t308
                    · rw [if_pos c48] at H
                      have c48b0 : (t307 == t308) = true := beq_iff_eq.mpr c48
                      have c48b1 : (t307 != t308) = false := bne_eq_false_iff_eq.mpr c48
                      clear c48
                      (first | rw [c48b0] | (simp only [i64_w, i32_w]; rw [c48b0]) | skip)
                      by_cases c49 : t285 = t271
                      · rw [if_pos c49] at H
                        have c49b0 : (t285 == t271) = true := beq_iff_eq.mpr c49
                        have c49b1 : (t285 != t271) = false := bne_eq_false_iff_eq.mpr c49
                        clear c49
                        by_cases c50 : (t286 != t272) = true
                        · rw [if_pos c50] at H
                          have c50b0 : (t286 != t272) = true := c50
                          (try (have c50b1 : decide (t286 = t272) = false := by simpa using c50))
                          (try (have c50b2 : (t286 == t272) = false := by simpa using c50))
                          (try (have c50b3 : ¬ (t286 = t272) := by simpa using c50))
                          clear c50
                          have H' := Aside0.mk H
                          clear H
                          (try clear hcut31)
                          (try clear hcut38)
                          (try clear hcut40)
                          (try clear hcut42)
                          have q51 : ((l0.length : Int) : Int) ≤ ((x5_1.length : Int) : Int) := of_decide_eq_true (by first | (with_reducible assumption) | assumption)
                          obtain ⟨i051, hi051, _, hsz51, _⟩ := info_parts info2
                          have hroom51 : x5_1.length ≤ co32 := (Kd.R_reads' HO_5.out).2.1
                          have hC51 : Kd.C (Kd.int .i64) _ Ao32 x5_1.length x5_1 := (Kd.R_reads' HO_5.out).2.2
                          have hcut51 := cut_to (P := Try.prog) 29 2 .i64 Try.underlying29 hi051 Ao32 x5_1.length co32 (l0.length : Int) (of_decide_eq_true (by first | (with_reducible assumption) | assumption)) q51 hroom51
                          have hr51 := Kd.C_take (m := ((l0.length : Int) : Int).toNat) hC51 (by omega)
                          have hy51 : y303.length = ((l0.length : Int) : Int).toNat := (by rw [Ny303.out, List.length_take]; omega)
                          rw [← Ny303.out] at hr51
                          rw [← hy51] at hcut51
                          have HR306 := Aside0.mk hr51
                          have HC306 := Aside0.mk (show y303.length ≤ co32 from by omega)
                          clear hr51 hC51 hroom51 hi051 hsz51
                          have KY51 := Aside0.mk hy51
                          clear hy51
                          have KL51 := Aside0.mk (show ((l0.length : Int) : Int).toNat ≤ x5_1.length from by omega)
                          replace q51 := eq_true q51
                          go_wp2_with (first | ((with_reducible refine gate_callee (f := 31) rfl ?_); refine goesL_ (some 83) rfl rfl Try.func31 (by kernel_rfl) rfl #[.slice Ao32 y303.length co32] rfl (by (try simp only [List.map_toArray, List.map_cons, List.map_nil]); first | done | rfl | (simp only [List.length_drop, List.length_take]; rfl)) ?_; (with_reducible refine (frame_FrameWidth.calls k1 _ _ y303 t307 _ ?side1 ?side2 A46.out).mono ?_); (case side1 => repeat (first | exact (by repeat (first | (with_reducible exact HR306.out) | (with_reducible refine Kd.C_alloc ?_ _) | (with_reducible refine Kd.C_drewN ?_ _) | (with_reducible refine Kd.C_drew ?_) | exact HR306.out)) | (with_reducible refine Kd.C_alloc ?_ _) | (with_reducible refine Kd.C_drewN ?_ _) | (with_reducible refine Kd.C_drew ?_))); (case side2 => exact HC306.out); rintro e w52 ⟨rfl, hb⟩; refine ⟨_, rfl, ?_⟩; have n0_ := Aside0.mk (Kd.R_below (by (with_reducible repeat (first | apply Kd.R_alloc | apply Kd.R_drewN | apply Kd.R_drew)); exact HO_5.out) hb); have n1_ := Aside0.mk (Kd.R_below (by (with_reducible repeat (first | apply Kd.R_alloc | apply Kd.R_drewN | apply Kd.R_drew)); exact HO270.out) hb); have n2_ := Aside0.mk (Kd.R_below (by (with_reducible repeat (first | apply Kd.R_alloc | apply Kd.R_drewN | apply Kd.R_drew)); exact HO276.out) hb); have n3_ := Aside0.mk (Kd.R_below (by (with_reducible repeat (first | apply Kd.R_alloc | apply Kd.R_drewN | apply Kd.R_drew)); exact HO280.out) hb); have n4_ := Aside0.mk (Kd.R_below (by (with_reducible repeat (first | apply Kd.R_alloc | apply Kd.R_drewN | apply Kd.R_drew)); exact HO294.out) hb); have n5_ := Aside0.mk (Kd.R_below (by (with_reducible repeat (first | apply Kd.R_alloc | apply Kd.R_drewN | apply Kd.R_drew)); exact HO302.out) hb); have n6_ := Aside0.mk (Kd.C_below (by repeat (first | (with_reducible exact HR267.out) | (with_reducible refine Kd.C_alloc ?_ _) | (with_reducible refine Kd.C_drewN ?_ _) | (with_reducible refine Kd.C_drew ?_) | exact HR267.out)) hb); have n7_ := Aside0.mk (Kd.C_below (by repeat (first | (with_reducible exact HR284.out) | (with_reducible refine Kd.C_alloc ?_ _) | (with_reducible refine Kd.C_drewN ?_ _) | (with_reducible refine Kd.C_drew ?_) | exact HR284.out)) hb); have n8_ := Aside0.mk (Kd.C_below (by repeat (first | (with_reducible exact HR290.out) | (with_reducible refine Kd.C_alloc ?_ _) | (with_reducible refine Kd.C_drewN ?_ _) | (with_reducible refine Kd.C_drew ?_) | exact HR290.out)) hb); have n9_ := Aside0.mk (Kd.C_below (by repeat (first | (with_reducible exact HR298.out) | (with_reducible refine Kd.C_alloc ?_ _) | (with_reducible refine Kd.C_drewN ?_ _) | (with_reducible refine Kd.C_drew ?_) | exact HR298.out)) hb); have n10_ := Aside0.mk (Kd.C_below (by repeat (first | (with_reducible exact HR306.out) | (with_reducible refine Kd.C_alloc ?_ _) | (with_reducible refine Kd.C_drewN ?_ _) | (with_reducible refine Kd.C_drew ?_) | exact HR306.out)) hb); have n11_ := Aside0.mk (below_step (by repeat (first | (with_reducible first | exact HB.out | apply below_alloc | apply pw_below_drewN | apply below_drew1) | exact HB.out)) hb); clear HO_5; clear HO270; clear HO276; clear HO280; clear HO294; clear HO302; clear HR267; clear HR284; clear HR290; clear HR298; clear HR306; clear HB; have HO_5 := n0_; have HO270 := n1_; have HO276 := n2_; have HO280 := n3_; have HO294 := n4_; have HO302 := n5_; have HR267 := n6_; have HR284 := n7_; have HR290 := n8_; have HR298 := n9_; have HR306 := n10_; have HB := n11_; clear n0_ n1_ n2_ n3_ n4_ n5_ n6_ n7_ n8_ n9_ n10_ n11_; (try clear hb); (try clear hb2); (try clear hk); (try clear hi)) | ((with_reducible refine gate_callee (f := 32) rfl ?_); refine goesL_ (some 85) rfl rfl Try.func32 (by kernel_rfl) rfl #[.slice Ao34 y268.length co34] rfl (by (try simp only [List.map_toArray, List.map_cons, List.map_nil]); first | done | rfl | (simp only [List.length_drop, List.length_take]; rfl)) ?_; (with_reducible refine (colonnaderef11_FrameWidth.calls k1 _ _ y268 t308 _ ?side1 ?side2 A47.out).mono ?_); (case side1 => repeat (first | exact (Kd.R_reads' HO270.out).2.2 | (with_reducible refine Kd.C_alloc ?_ _) | (with_reducible refine Kd.C_drewN ?_ _) | (with_reducible refine Kd.C_drew ?_))); (case side2 => exact (Kd.R_reads' HO270.out).2.1); rintro e w53 ⟨rfl, hb⟩; refine ⟨_, rfl, ?_⟩; have n0_ := Aside0.mk (Kd.R_below (by (with_reducible repeat (first | apply Kd.R_alloc | apply Kd.R_drewN | apply Kd.R_drew)); exact HO_5.out) hb); have n1_ := Aside0.mk (Kd.R_below (by (with_reducible repeat (first | apply Kd.R_alloc | apply Kd.R_drewN | apply Kd.R_drew)); exact HO270.out) hb); have n2_ := Aside0.mk (Kd.R_below (by (with_reducible repeat (first | apply Kd.R_alloc | apply Kd.R_drewN | apply Kd.R_drew)); exact HO276.out) hb); have n3_ := Aside0.mk (Kd.R_below (by (with_reducible repeat (first | apply Kd.R_alloc | apply Kd.R_drewN | apply Kd.R_drew)); exact HO280.out) hb); have n4_ := Aside0.mk (Kd.R_below (by (with_reducible repeat (first | apply Kd.R_alloc | apply Kd.R_drewN | apply Kd.R_drew)); exact HO294.out) hb); have n5_ := Aside0.mk (Kd.R_below (by (with_reducible repeat (first | apply Kd.R_alloc | apply Kd.R_drewN | apply Kd.R_drew)); exact HO302.out) hb); have n6_ := Aside0.mk (Kd.C_below (by repeat (first | (with_reducible exact HR267.out) | (with_reducible refine Kd.C_alloc ?_ _) | (with_reducible refine Kd.C_drewN ?_ _) | (with_reducible refine Kd.C_drew ?_) | exact HR267.out)) hb); have n7_ := Aside0.mk (Kd.C_below (by repeat (first | (with_reducible exact HR284.out) | (with_reducible refine Kd.C_alloc ?_ _) | (with_reducible refine Kd.C_drewN ?_ _) | (with_reducible refine Kd.C_drew ?_) | exact HR284.out)) hb); have n8_ := Aside0.mk (Kd.C_below (by repeat (first | (with_reducible exact HR290.out) | (with_reducible refine Kd.C_alloc ?_ _) | (with_reducible refine Kd.C_drewN ?_ _) | (with_reducible refine Kd.C_drew ?_) | exact HR290.out)) hb); have n9_ := Aside0.mk (Kd.C_below (by repeat (first | (with_reducible exact HR298.out) | (with_reducible refine Kd.C_alloc ?_ _) | (with_reducible refine Kd.C_drewN ?_ _) | (with_reducible refine Kd.C_drew ?_) | exact HR298.out)) hb); have n10_ := Aside0.mk (Kd.C_below (by repeat (first | (with_reducible exact HR306.out) | (with_reducible refine Kd.C_alloc ?_ _) | (with_reducible refine Kd.C_drewN ?_ _) | (with_reducible refine Kd.C_drew ?_) | exact HR306.out)) hb); have n11_ := Aside0.mk (below_step (by repeat (first | (with_reducible first | exact HB.out | apply below_alloc | apply pw_below_drewN | apply below_drew1) | exact HB.out)) hb); clear HO_5; clear HO270; clear HO276; clear HO280; clear HO294; clear HO302; clear HR267; clear HR284; clear HR290; clear HR298; clear HR306; clear HB; have HO_5 := n0_; have HO270 := n1_; have HO276 := n2_; have HO280 := n3_; have HO294 := n4_; have HO302 := n5_; have HR267 := n6_; have HR284 := n7_; have HR290 := n8_; have HR298 := n9_; have HR306 := n10_; have HB := n11_; clear n0_ n1_ n2_ n3_ n4_ n5_ n6_ n7_ n8_ n9_ n10_ n11_; (try clear hb); (try clear hb2); (try clear hk); (try clear hi)))
                          go_meet
                          case rel => exact ⟨_, (true), (by first | rfl | (simp; done) | (simp [*]; done)), H', ⟨by have := HK1.out; first | omega | exact Nat.le_refl _⟩, ⟨by (with_reducible repeat (first | apply Kd.R_alloc | apply Kd.R_drewN | apply Kd.R_drew)); exact Kd.R_mono HO_5.out (fun _ hk => hk.2)⟩, ⟨by (with_reducible repeat (first | apply Kd.R_alloc | apply Kd.R_drewN | apply Kd.R_drew)); exact HO270.out⟩, ⟨by repeat (first | (with_reducible first | exact HB.out | apply below_alloc | apply pw_below_drewN | apply below_drew1) | exact HB.out)⟩⟩
                        · rw [if_neg c50] at H
                          have c50b0 : (t286 != t272) = false := by simpa using c50
                          (try (have c50b1 : decide (t286 = t272) = true := by simpa using c50))
                          (try (have c50b2 : (t286 == t272) = true := by simpa using c50))
                          clear c50
                          replace H := Option.bind_eq_some_iff.mp H
                          obtain ⟨t309, A540, H⟩ := H
                          replace H : (if t309 = t274 then (if (strOfNums t291).toList = (strOfNums t273).toList then ((colonnadelaw11_num.f t300).bind fun t310 => (if t310 = t278 then (colonnadelaw11_FramePuts.j1 k1 l0 a1 x5_1 x6_1 y268 ((strOfNums t299).toList != (strOfNums t277).toList)) else (colonnadelaw11_FramePuts.j1 k1 l0 a1 x5_1 x6_1 y268 true))) else (colonnadelaw11_FramePuts.j1 k1 l0 a1 x5_1 x6_1 y268 true)) else (colonnadelaw11_FramePuts.j1 k1 l0 a1 x5_1 x6_1 y268 true)) = some r := H
                          have A54 := Aside0.mk A540
                          clear A540
                          by_cases c55 : t309 = t274
                          · rw [if_pos c55] at H
                            have c55b0 : (t309 == t274) = true := beq_iff_eq.mpr c55
                            have c55b1 : (t309 != t274) = false := bne_eq_false_iff_eq.mpr c55
                            clear c55
                            by_cases c56 : (strOfNums t291).toList = (strOfNums t273).toList
                            · rw [if_pos c56] at H
                              have c56b0 : ((strOfNums t291).toList == (strOfNums t273).toList) = true := beq_iff_eq.mpr c56
                              have c56b1 : ((strOfNums t291).toList != (strOfNums t273).toList) = false := bne_eq_false_iff_eq.mpr c56
                              clear c56
                              replace H := Option.bind_eq_some_iff.mp H
                              obtain ⟨t310, A570, H⟩ := H
                              replace H : (if t310 = t278 then (colonnadelaw11_FramePuts.j1 k1 l0 a1 x5_1 x6_1 y268 ((strOfNums t299).toList != (strOfNums t277).toList)) else (colonnadelaw11_FramePuts.j1 k1 l0 a1 x5_1 x6_1 y268 true)) = some r := H
                              have A57 := Aside0.mk A570
                              clear A570
                              by_cases c58 : t310 = t278
                              · rw [if_pos c58] at H
                                have c58b0 : (t310 == t278) = true := beq_iff_eq.mpr c58
                                have c58b1 : (t310 != t278) = false := bne_eq_false_iff_eq.mpr c58
                                clear c58
                                have H' := Aside0.mk H
                                clear H
                                (try clear hcut31)
                                (try clear hcut38)
                                (try clear hcut40)
                                (try clear hcut42)
                                (try clear hcut51)
                                have q59 : ((l0.length : Int) : Int) ≤ ((x5_1.length : Int) : Int) := of_decide_eq_true (by first | (with_reducible assumption) | assumption)
                                obtain ⟨i059, hi059, _, hsz59, _⟩ := info_parts info2
                                have hroom59 : x5_1.length ≤ co32 := (Kd.R_reads' HO_5.out).2.1
                                have hC59 : Kd.C (Kd.int .i64) _ Ao32 x5_1.length x5_1 := (Kd.R_reads' HO_5.out).2.2
                                have hcut59 := cut_to (P := Try.prog) 29 2 .i64 Try.underlying29 hi059 Ao32 x5_1.length co32 (l0.length : Int) (of_decide_eq_true (by first | (with_reducible assumption) | assumption)) q59 hroom59
                                have hr59 := Kd.C_take (m := ((l0.length : Int) : Int).toNat) hC59 (by omega)
                                have hy59 : y303.length = ((l0.length : Int) : Int).toNat := (by rw [Ny303.out, List.length_take]; omega)
                                rw [← Ny303.out] at hr59
                                rw [← hy59] at hcut59
                                have HR306 := Aside0.mk hr59
                                have HC306 := Aside0.mk (show y303.length ≤ co32 from by omega)
                                clear hr59 hC59 hroom59 hi059 hsz59
                                have KY59 := Aside0.mk hy59
                                clear hy59
                                have KL59 := Aside0.mk (show ((l0.length : Int) : Int).toNat ≤ x5_1.length from by omega)
                                replace q59 := eq_true q59
                                go_wp2_with (first | ((with_reducible refine gate_callee (f := 31) rfl ?_); refine goesL_ (some 83) rfl rfl Try.func31 (by kernel_rfl) rfl #[.slice Ao32 y303.length co32] rfl (by (try simp only [List.map_toArray, List.map_cons, List.map_nil]); first | done | rfl | (simp only [List.length_drop, List.length_take]; rfl)) ?_; (with_reducible refine (frame_FrameWidth.calls k1 _ _ y303 t307 _ ?side1 ?side2 A46.out).mono ?_); (case side1 => repeat (first | exact (by repeat (first | (with_reducible exact HR306.out) | (with_reducible refine Kd.C_alloc ?_ _) | (with_reducible refine Kd.C_drewN ?_ _) | (with_reducible refine Kd.C_drew ?_) | exact HR306.out)) | (with_reducible refine Kd.C_alloc ?_ _) | (with_reducible refine Kd.C_drewN ?_ _) | (with_reducible refine Kd.C_drew ?_))); (case side2 => exact HC306.out); rintro e w60 ⟨rfl, hb⟩; refine ⟨_, rfl, ?_⟩; have n0_ := Aside0.mk (Kd.R_below (by (with_reducible repeat (first | apply Kd.R_alloc | apply Kd.R_drewN | apply Kd.R_drew)); exact HO_5.out) hb); have n1_ := Aside0.mk (Kd.R_below (by (with_reducible repeat (first | apply Kd.R_alloc | apply Kd.R_drewN | apply Kd.R_drew)); exact HO270.out) hb); have n2_ := Aside0.mk (Kd.R_below (by (with_reducible repeat (first | apply Kd.R_alloc | apply Kd.R_drewN | apply Kd.R_drew)); exact HO276.out) hb); have n3_ := Aside0.mk (Kd.R_below (by (with_reducible repeat (first | apply Kd.R_alloc | apply Kd.R_drewN | apply Kd.R_drew)); exact HO280.out) hb); have n4_ := Aside0.mk (Kd.R_below (by (with_reducible repeat (first | apply Kd.R_alloc | apply Kd.R_drewN | apply Kd.R_drew)); exact HO294.out) hb); have n5_ := Aside0.mk (Kd.R_below (by (with_reducible repeat (first | apply Kd.R_alloc | apply Kd.R_drewN | apply Kd.R_drew)); exact HO302.out) hb); have n6_ := Aside0.mk (Kd.C_below (by repeat (first | (with_reducible exact HR267.out) | (with_reducible refine Kd.C_alloc ?_ _) | (with_reducible refine Kd.C_drewN ?_ _) | (with_reducible refine Kd.C_drew ?_) | exact HR267.out)) hb); have n7_ := Aside0.mk (Kd.C_below (by repeat (first | (with_reducible exact HR284.out) | (with_reducible refine Kd.C_alloc ?_ _) | (with_reducible refine Kd.C_drewN ?_ _) | (with_reducible refine Kd.C_drew ?_) | exact HR284.out)) hb); have n8_ := Aside0.mk (Kd.C_below (by repeat (first | (with_reducible exact HR290.out) | (with_reducible refine Kd.C_alloc ?_ _) | (with_reducible refine Kd.C_drewN ?_ _) | (with_reducible refine Kd.C_drew ?_) | exact HR290.out)) hb); have n9_ := Aside0.mk (Kd.C_below (by repeat (first | (with_reducible exact HR298.out) | (with_reducible refine Kd.C_alloc ?_ _) | (with_reducible refine Kd.C_drewN ?_ _) | (with_reducible refine Kd.C_drew ?_) | exact HR298.out)) hb); have n10_ := Aside0.mk (Kd.C_below (by repeat (first | (with_reducible exact HR306.out) | (with_reducible refine Kd.C_alloc ?_ _) | (with_reducible refine Kd.C_drewN ?_ _) | (with_reducible refine Kd.C_drew ?_) | exact HR306.out)) hb); have n11_ := Aside0.mk (below_step (by repeat (first | (with_reducible first | exact HB.out | apply below_alloc | apply pw_below_drewN | apply below_drew1) | exact HB.out)) hb); clear HO_5; clear HO270; clear HO276; clear HO280; clear HO294; clear HO302; clear HR267; clear HR284; clear HR290; clear HR298; clear HR306; clear HB; have HO_5 := n0_; have HO270 := n1_; have HO276 := n2_; have HO280 := n3_; have HO294 := n4_; have HO302 := n5_; have HR267 := n6_; have HR284 := n7_; have HR290 := n8_; have HR298 := n9_; have HR306 := n10_; have HB := n11_; clear n0_ n1_ n2_ n3_ n4_ n5_ n6_ n7_ n8_ n9_ n10_ n11_; (try clear hb); (try clear hb2); (try clear hk); (try clear hi)) | ((with_reducible refine gate_callee (f := 32) rfl ?_); refine goesL_ (some 85) rfl rfl Try.func32 (by kernel_rfl) rfl #[.slice Ao34 y268.length co34] rfl (by (try simp only [List.map_toArray, List.map_cons, List.map_nil]); first | done | rfl | (simp only [List.length_drop, List.length_take]; rfl)) ?_; (with_reducible refine (colonnaderef11_FrameWidth.calls k1 _ _ y268 t308 _ ?side1 ?side2 A47.out).mono ?_); (case side1 => repeat (first | exact (Kd.R_reads' HO270.out).2.2 | (with_reducible refine Kd.C_alloc ?_ _) | (with_reducible refine Kd.C_drewN ?_ _) | (with_reducible refine Kd.C_drew ?_))); (case side2 => exact (Kd.R_reads' HO270.out).2.1); rintro e w61 ⟨rfl, hb⟩; refine ⟨_, rfl, ?_⟩; have n0_ := Aside0.mk (Kd.R_below (by (with_reducible repeat (first | apply Kd.R_alloc | apply Kd.R_drewN | apply Kd.R_drew)); exact HO_5.out) hb); have n1_ := Aside0.mk (Kd.R_below (by (with_reducible repeat (first | apply Kd.R_alloc | apply Kd.R_drewN | apply Kd.R_drew)); exact HO270.out) hb); have n2_ := Aside0.mk (Kd.R_below (by (with_reducible repeat (first | apply Kd.R_alloc | apply Kd.R_drewN | apply Kd.R_drew)); exact HO276.out) hb); have n3_ := Aside0.mk (Kd.R_below (by (with_reducible repeat (first | apply Kd.R_alloc | apply Kd.R_drewN | apply Kd.R_drew)); exact HO280.out) hb); have n4_ := Aside0.mk (Kd.R_below (by (with_reducible repeat (first | apply Kd.R_alloc | apply Kd.R_drewN | apply Kd.R_drew)); exact HO294.out) hb); have n5_ := Aside0.mk (Kd.R_below (by (with_reducible repeat (first | apply Kd.R_alloc | apply Kd.R_drewN | apply Kd.R_drew)); exact HO302.out) hb); have n6_ := Aside0.mk (Kd.C_below (by repeat (first | (with_reducible exact HR267.out) | (with_reducible refine Kd.C_alloc ?_ _) | (with_reducible refine Kd.C_drewN ?_ _) | (with_reducible refine Kd.C_drew ?_) | exact HR267.out)) hb); have n7_ := Aside0.mk (Kd.C_below (by repeat (first | (with_reducible exact HR284.out) | (with_reducible refine Kd.C_alloc ?_ _) | (with_reducible refine Kd.C_drewN ?_ _) | (with_reducible refine Kd.C_drew ?_) | exact HR284.out)) hb); have n8_ := Aside0.mk (Kd.C_below (by repeat (first | (with_reducible exact HR290.out) | (with_reducible refine Kd.C_alloc ?_ _) | (with_reducible refine Kd.C_drewN ?_ _) | (with_reducible refine Kd.C_drew ?_) | exact HR290.out)) hb); have n9_ := Aside0.mk (Kd.C_below (by repeat (first | (with_reducible exact HR298.out) | (with_reducible refine Kd.C_alloc ?_ _) | (with_reducible refine Kd.C_drewN ?_ _) | (with_reducible refine Kd.C_drew ?_) | exact HR298.out)) hb); have n10_ := Aside0.mk (Kd.C_below (by repeat (first | (with_reducible exact HR306.out) | (with_reducible refine Kd.C_alloc ?_ _) | (with_reducible refine Kd.C_drewN ?_ _) | (with_reducible refine Kd.C_drew ?_) | exact HR306.out)) hb); have n11_ := Aside0.mk (below_step (by repeat (first | (with_reducible first | exact HB.out | apply below_alloc | apply pw_below_drewN | apply below_drew1) | exact HB.out)) hb); clear HO_5; clear HO270; clear HO276; clear HO280; clear HO294; clear HO302; clear HR267; clear HR284; clear HR290; clear HR298; clear HR306; clear HB; have HO_5 := n0_; have HO270 := n1_; have HO276 := n2_; have HO280 := n3_; have HO294 := n4_; have HO302 := n5_; have HR267 := n6_; have HR284 := n7_; have HR290 := n8_; have HR298 := n9_; have HR306 := n10_; have HB := n11_; clear n0_ n1_ n2_ n3_ n4_ n5_ n6_ n7_ n8_ n9_ n10_ n11_; (try clear hb); (try clear hb2); (try clear hk); (try clear hi)) | (go_at_call 18; (with_reducible refine (colonnadelaw11_num.calls t292 t309 _ A54.out).mono ?_); rintro e w' ⟨rfl, ⟨nd, rfl⟩⟩; have hcv62 := own_string (P := Try.prog) Try.underlying27 Try.underlying5 Try.underlying9 (Kd.own_of_R HO294.out); have hcv63 := fun nd_ : Nat => own_string (P := Try.prog) Try.underlying27 Try.underlying5 Try.underlying9 (Kd.own_of_R (Kd.R_drewN HO294.out nd_)); have hcv64 := fun nd_ ne_ : Nat => own_string (P := Try.prog) Try.underlying27 Try.underlying5 Try.underlying9 (Kd.own_of_R (Kd.R_drewN (Kd.R_drewN HO294.out nd_) ne_)); have hcv65 := own_string (P := Try.prog) Try.underlying27 Try.underlying5 Try.underlying9 (Kd.own_of_R HO276.out); have hcv66 := fun nd_ : Nat => own_string (P := Try.prog) Try.underlying27 Try.underlying5 Try.underlying9 (Kd.own_of_R (Kd.R_drewN HO276.out nd_)); have hcv67 := fun nd_ ne_ : Nat => own_string (P := Try.prog) Try.underlying27 Try.underlying5 Try.underlying9 (Kd.own_of_R (Kd.R_drewN (Kd.R_drewN HO276.out nd_) ne_))) | (go_at_call 18; (with_reducible refine (colonnadelaw11_num.calls t300 t310 _ A57.out).mono ?_); rintro e w' ⟨rfl, ⟨nd, rfl⟩⟩; have hcv68 := own_string (P := Try.prog) Try.underlying27 Try.underlying5 Try.underlying9 (Kd.own_of_R HO302.out); have hcv69 := fun nd_ : Nat => own_string (P := Try.prog) Try.underlying27 Try.underlying5 Try.underlying9 (Kd.own_of_R (Kd.R_drewN HO302.out nd_)); have hcv70 := fun nd_ ne_ : Nat => own_string (P := Try.prog) Try.underlying27 Try.underlying5 Try.underlying9 (Kd.own_of_R (Kd.R_drewN (Kd.R_drewN HO302.out nd_) ne_)); have hcv71 := own_string (P := Try.prog) Try.underlying27 Try.underlying5 Try.underlying9 (Kd.own_of_R HO280.out); have hcv72 := fun nd_ : Nat => own_string (P := Try.prog) Try.underlying27 Try.underlying5 Try.underlying9 (Kd.own_of_R (Kd.R_drewN HO280.out nd_)); have hcv73 := fun nd_ ne_ : Nat => own_string (P := Try.prog) Try.underlying27 Try.underlying5 Try.underlying9 (Kd.own_of_R (Kd.R_drewN (Kd.R_drewN HO280.out nd_) ne_))))
                                go_meet
                                case rel => exact ⟨_, (((strOfNums t299).toList != (strOfNums t277).toList)), (by first | rfl | (simp; done) | (simp [*]; done)), H', ⟨by have := HK1.out; first | omega | exact Nat.le_refl _⟩, ⟨by (with_reducible repeat (first | apply Kd.R_alloc | apply Kd.R_drewN | apply Kd.R_drew)); exact Kd.R_mono HO_5.out (fun _ hk => hk.2)⟩, ⟨by (with_reducible repeat (first | apply Kd.R_alloc | apply Kd.R_drewN | apply Kd.R_drew)); exact HO270.out⟩, ⟨by repeat (first | (with_reducible first | exact HB.out | apply below_alloc | apply pw_below_drewN | apply below_drew1) | exact HB.out)⟩⟩
                              · rw [if_neg c58] at H
                                have c58b0 : (t310 == t278) = false := beq_eq_false_iff_ne.mpr c58
                                have c58b1 : (t310 != t278) = true := bne_iff_ne.mpr c58
                                have H' := Aside0.mk H
                                clear H
                                (try clear hcut31)
                                (try clear hcut38)
                                (try clear hcut40)
                                (try clear hcut42)
                                (try clear hcut51)
                                (try clear hcut59)
                                have q74 : ((l0.length : Int) : Int) ≤ ((x5_1.length : Int) : Int) := of_decide_eq_true (by first | (with_reducible assumption) | assumption)
                                obtain ⟨i074, hi074, _, hsz74, _⟩ := info_parts info2
                                have hroom74 : x5_1.length ≤ co32 := (Kd.R_reads' HO_5.out).2.1
                                have hC74 : Kd.C (Kd.int .i64) _ Ao32 x5_1.length x5_1 := (Kd.R_reads' HO_5.out).2.2
                                have hcut74 := cut_to (P := Try.prog) 29 2 .i64 Try.underlying29 hi074 Ao32 x5_1.length co32 (l0.length : Int) (of_decide_eq_true (by first | (with_reducible assumption) | assumption)) q74 hroom74
                                have hr74 := Kd.C_take (m := ((l0.length : Int) : Int).toNat) hC74 (by omega)
                                have hy74 : y303.length = ((l0.length : Int) : Int).toNat := (by rw [Ny303.out, List.length_take]; omega)
                                rw [← Ny303.out] at hr74
                                rw [← hy74] at hcut74
                                have HR306 := Aside0.mk hr74
                                have HC306 := Aside0.mk (show y303.length ≤ co32 from by omega)
                                clear hr74 hC74 hroom74 hi074 hsz74
                                have KY74 := Aside0.mk hy74
                                clear hy74
                                have KL74 := Aside0.mk (show ((l0.length : Int) : Int).toNat ≤ x5_1.length from by omega)
                                replace q74 := eq_true q74
                                go_wp2_with (first | ((with_reducible refine gate_callee (f := 31) rfl ?_); refine goesL_ (some 83) rfl rfl Try.func31 (by kernel_rfl) rfl #[.slice Ao32 y303.length co32] rfl (by (try simp only [List.map_toArray, List.map_cons, List.map_nil]); first | done | rfl | (simp only [List.length_drop, List.length_take]; rfl)) ?_; (with_reducible refine (frame_FrameWidth.calls k1 _ _ y303 t307 _ ?side1 ?side2 A46.out).mono ?_); (case side1 => repeat (first | exact (by repeat (first | (with_reducible exact HR306.out) | (with_reducible refine Kd.C_alloc ?_ _) | (with_reducible refine Kd.C_drewN ?_ _) | (with_reducible refine Kd.C_drew ?_) | exact HR306.out)) | (with_reducible refine Kd.C_alloc ?_ _) | (with_reducible refine Kd.C_drewN ?_ _) | (with_reducible refine Kd.C_drew ?_))); (case side2 => exact HC306.out); rintro e w75 ⟨rfl, hb⟩; refine ⟨_, rfl, ?_⟩; have n0_ := Aside0.mk (Kd.R_below (by (with_reducible repeat (first | apply Kd.R_alloc | apply Kd.R_drewN | apply Kd.R_drew)); exact HO_5.out) hb); have n1_ := Aside0.mk (Kd.R_below (by (with_reducible repeat (first | apply Kd.R_alloc | apply Kd.R_drewN | apply Kd.R_drew)); exact HO270.out) hb); have n2_ := Aside0.mk (Kd.R_below (by (with_reducible repeat (first | apply Kd.R_alloc | apply Kd.R_drewN | apply Kd.R_drew)); exact HO276.out) hb); have n3_ := Aside0.mk (Kd.R_below (by (with_reducible repeat (first | apply Kd.R_alloc | apply Kd.R_drewN | apply Kd.R_drew)); exact HO280.out) hb); have n4_ := Aside0.mk (Kd.R_below (by (with_reducible repeat (first | apply Kd.R_alloc | apply Kd.R_drewN | apply Kd.R_drew)); exact HO294.out) hb); have n5_ := Aside0.mk (Kd.R_below (by (with_reducible repeat (first | apply Kd.R_alloc | apply Kd.R_drewN | apply Kd.R_drew)); exact HO302.out) hb); have n6_ := Aside0.mk (Kd.C_below (by repeat (first | (with_reducible exact HR267.out) | (with_reducible refine Kd.C_alloc ?_ _) | (with_reducible refine Kd.C_drewN ?_ _) | (with_reducible refine Kd.C_drew ?_) | exact HR267.out)) hb); have n7_ := Aside0.mk (Kd.C_below (by repeat (first | (with_reducible exact HR284.out) | (with_reducible refine Kd.C_alloc ?_ _) | (with_reducible refine Kd.C_drewN ?_ _) | (with_reducible refine Kd.C_drew ?_) | exact HR284.out)) hb); have n8_ := Aside0.mk (Kd.C_below (by repeat (first | (with_reducible exact HR290.out) | (with_reducible refine Kd.C_alloc ?_ _) | (with_reducible refine Kd.C_drewN ?_ _) | (with_reducible refine Kd.C_drew ?_) | exact HR290.out)) hb); have n9_ := Aside0.mk (Kd.C_below (by repeat (first | (with_reducible exact HR298.out) | (with_reducible refine Kd.C_alloc ?_ _) | (with_reducible refine Kd.C_drewN ?_ _) | (with_reducible refine Kd.C_drew ?_) | exact HR298.out)) hb); have n10_ := Aside0.mk (Kd.C_below (by repeat (first | (with_reducible exact HR306.out) | (with_reducible refine Kd.C_alloc ?_ _) | (with_reducible refine Kd.C_drewN ?_ _) | (with_reducible refine Kd.C_drew ?_) | exact HR306.out)) hb); have n11_ := Aside0.mk (below_step (by repeat (first | (with_reducible first | exact HB.out | apply below_alloc | apply pw_below_drewN | apply below_drew1) | exact HB.out)) hb); clear HO_5; clear HO270; clear HO276; clear HO280; clear HO294; clear HO302; clear HR267; clear HR284; clear HR290; clear HR298; clear HR306; clear HB; have HO_5 := n0_; have HO270 := n1_; have HO276 := n2_; have HO280 := n3_; have HO294 := n4_; have HO302 := n5_; have HR267 := n6_; have HR284 := n7_; have HR290 := n8_; have HR298 := n9_; have HR306 := n10_; have HB := n11_; clear n0_ n1_ n2_ n3_ n4_ n5_ n6_ n7_ n8_ n9_ n10_ n11_; (try clear hb); (try clear hb2); (try clear hk); (try clear hi)) | ((with_reducible refine gate_callee (f := 32) rfl ?_); refine goesL_ (some 85) rfl rfl Try.func32 (by kernel_rfl) rfl #[.slice Ao34 y268.length co34] rfl (by (try simp only [List.map_toArray, List.map_cons, List.map_nil]); first | done | rfl | (simp only [List.length_drop, List.length_take]; rfl)) ?_; (with_reducible refine (colonnaderef11_FrameWidth.calls k1 _ _ y268 t308 _ ?side1 ?side2 A47.out).mono ?_); (case side1 => repeat (first | exact (Kd.R_reads' HO270.out).2.2 | (with_reducible refine Kd.C_alloc ?_ _) | (with_reducible refine Kd.C_drewN ?_ _) | (with_reducible refine Kd.C_drew ?_))); (case side2 => exact (Kd.R_reads' HO270.out).2.1); rintro e w76 ⟨rfl, hb⟩; refine ⟨_, rfl, ?_⟩; have n0_ := Aside0.mk (Kd.R_below (by (with_reducible repeat (first | apply Kd.R_alloc | apply Kd.R_drewN | apply Kd.R_drew)); exact HO_5.out) hb); have n1_ := Aside0.mk (Kd.R_below (by (with_reducible repeat (first | apply Kd.R_alloc | apply Kd.R_drewN | apply Kd.R_drew)); exact HO270.out) hb); have n2_ := Aside0.mk (Kd.R_below (by (with_reducible repeat (first | apply Kd.R_alloc | apply Kd.R_drewN | apply Kd.R_drew)); exact HO276.out) hb); have n3_ := Aside0.mk (Kd.R_below (by (with_reducible repeat (first | apply Kd.R_alloc | apply Kd.R_drewN | apply Kd.R_drew)); exact HO280.out) hb); have n4_ := Aside0.mk (Kd.R_below (by (with_reducible repeat (first | apply Kd.R_alloc | apply Kd.R_drewN | apply Kd.R_drew)); exact HO294.out) hb); have n5_ := Aside0.mk (Kd.R_below (by (with_reducible repeat (first | apply Kd.R_alloc | apply Kd.R_drewN | apply Kd.R_drew)); exact HO302.out) hb); have n6_ := Aside0.mk (Kd.C_below (by repeat (first | (with_reducible exact HR267.out) | (with_reducible refine Kd.C_alloc ?_ _) | (with_reducible refine Kd.C_drewN ?_ _) | (with_reducible refine Kd.C_drew ?_) | exact HR267.out)) hb); have n7_ := Aside0.mk (Kd.C_below (by repeat (first | (with_reducible exact HR284.out) | (with_reducible refine Kd.C_alloc ?_ _) | (with_reducible refine Kd.C_drewN ?_ _) | (with_reducible refine Kd.C_drew ?_) | exact HR284.out)) hb); have n8_ := Aside0.mk (Kd.C_below (by repeat (first | (with_reducible exact HR290.out) | (with_reducible refine Kd.C_alloc ?_ _) | (with_reducible refine Kd.C_drewN ?_ _) | (with_reducible refine Kd.C_drew ?_) | exact HR290.out)) hb); have n9_ := Aside0.mk (Kd.C_below (by repeat (first | (with_reducible exact HR298.out) | (with_reducible refine Kd.C_alloc ?_ _) | (with_reducible refine Kd.C_drewN ?_ _) | (with_reducible refine Kd.C_drew ?_) | exact HR298.out)) hb); have n10_ := Aside0.mk (Kd.C_below (by repeat (first | (with_reducible exact HR306.out) | (with_reducible refine Kd.C_alloc ?_ _) | (with_reducible refine Kd.C_drewN ?_ _) | (with_reducible refine Kd.C_drew ?_) | exact HR306.out)) hb); have n11_ := Aside0.mk (below_step (by repeat (first | (with_reducible first | exact HB.out | apply below_alloc | apply pw_below_drewN | apply below_drew1) | exact HB.out)) hb); clear HO_5; clear HO270; clear HO276; clear HO280; clear HO294; clear HO302; clear HR267; clear HR284; clear HR290; clear HR298; clear HR306; clear HB; have HO_5 := n0_; have HO270 := n1_; have HO276 := n2_; have HO280 := n3_; have HO294 := n4_; have HO302 := n5_; have HR267 := n6_; have HR284 := n7_; have HR290 := n8_; have HR298 := n9_; have HR306 := n10_; have HB := n11_; clear n0_ n1_ n2_ n3_ n4_ n5_ n6_ n7_ n8_ n9_ n10_ n11_; (try clear hb); (try clear hb2); (try clear hk); (try clear hi)) | (go_at_call 18; (with_reducible refine (colonnadelaw11_num.calls t292 t309 _ A54.out).mono ?_); rintro e w' ⟨rfl, ⟨nd, rfl⟩⟩; have hcv77 := own_string (P := Try.prog) Try.underlying27 Try.underlying5 Try.underlying9 (Kd.own_of_R HO294.out); have hcv78 := fun nd_ : Nat => own_string (P := Try.prog) Try.underlying27 Try.underlying5 Try.underlying9 (Kd.own_of_R (Kd.R_drewN HO294.out nd_)); have hcv79 := fun nd_ ne_ : Nat => own_string (P := Try.prog) Try.underlying27 Try.underlying5 Try.underlying9 (Kd.own_of_R (Kd.R_drewN (Kd.R_drewN HO294.out nd_) ne_)); have hcv80 := own_string (P := Try.prog) Try.underlying27 Try.underlying5 Try.underlying9 (Kd.own_of_R HO276.out); have hcv81 := fun nd_ : Nat => own_string (P := Try.prog) Try.underlying27 Try.underlying5 Try.underlying9 (Kd.own_of_R (Kd.R_drewN HO276.out nd_)); have hcv82 := fun nd_ ne_ : Nat => own_string (P := Try.prog) Try.underlying27 Try.underlying5 Try.underlying9 (Kd.own_of_R (Kd.R_drewN (Kd.R_drewN HO276.out nd_) ne_))) | (go_at_call 18; (with_reducible refine (colonnadelaw11_num.calls t300 t310 _ A57.out).mono ?_); rintro e w' ⟨rfl, ⟨nd, rfl⟩⟩))
                                go_meet
                                case rel => exact ⟨_, (true), (by first | rfl | (simp; done) | (simp [*]; done)), H', ⟨by have := HK1.out; first | omega | exact Nat.le_refl _⟩, ⟨by (with_reducible repeat (first | apply Kd.R_alloc | apply Kd.R_drewN | apply Kd.R_drew)); exact Kd.R_mono HO_5.out (fun _ hk => hk.2)⟩, ⟨by (with_reducible repeat (first | apply Kd.R_alloc | apply Kd.R_drewN | apply Kd.R_drew)); exact HO270.out⟩, ⟨by repeat (first | (with_reducible first | exact HB.out | apply below_alloc | apply pw_below_drewN | apply below_drew1) | exact HB.out)⟩⟩
                            · rw [if_neg c56] at H
                              have c56b0 : ((strOfNums t291).toList == (strOfNums t273).toList) = false := beq_eq_false_iff_ne.mpr c56
                              have c56b1 : ((strOfNums t291).toList != (strOfNums t273).toList) = true := bne_iff_ne.mpr c56
                              have H' := Aside0.mk H
                              clear H
                              (try clear hcut31)
                              (try clear hcut38)
                              (try clear hcut40)
                              (try clear hcut42)
                              (try clear hcut51)
                              (try clear hcut59)
                              (try clear hcut74)
                              have q83 : ((l0.length : Int) : Int) ≤ ((x5_1.length : Int) : Int) := of_decide_eq_true (by first | (with_reducible assumption) | assumption)
                              obtain ⟨i083, hi083, _, hsz83, _⟩ := info_parts info2
                              have hroom83 : x5_1.length ≤ co32 := (Kd.R_reads' HO_5.out).2.1
                              have hC83 : Kd.C (Kd.int .i64) _ Ao32 x5_1.length x5_1 := (Kd.R_reads' HO_5.out).2.2
                              have hcut83 := cut_to (P := Try.prog) 29 2 .i64 Try.underlying29 hi083 Ao32 x5_1.length co32 (l0.length : Int) (of_decide_eq_true (by first | (with_reducible assumption) | assumption)) q83 hroom83
                              have hr83 := Kd.C_take (m := ((l0.length : Int) : Int).toNat) hC83 (by omega)
                              have hy83 : y303.length = ((l0.length : Int) : Int).toNat := (by rw [Ny303.out, List.length_take]; omega)
                              rw [← Ny303.out] at hr83
                              rw [← hy83] at hcut83
                              have HR306 := Aside0.mk hr83
                              have HC306 := Aside0.mk (show y303.length ≤ co32 from by omega)
                              clear hr83 hC83 hroom83 hi083 hsz83
                              have KY83 := Aside0.mk hy83
                              clear hy83
                              have KL83 := Aside0.mk (show ((l0.length : Int) : Int).toNat ≤ x5_1.length from by omega)
                              replace q83 := eq_true q83
                              go_wp2_with (first | ((with_reducible refine gate_callee (f := 31) rfl ?_); refine goesL_ (some 83) rfl rfl Try.func31 (by kernel_rfl) rfl #[.slice Ao32 y303.length co32] rfl (by (try simp only [List.map_toArray, List.map_cons, List.map_nil]); first | done | rfl | (simp only [List.length_drop, List.length_take]; rfl)) ?_; (with_reducible refine (frame_FrameWidth.calls k1 _ _ y303 t307 _ ?side1 ?side2 A46.out).mono ?_); (case side1 => repeat (first | exact (by repeat (first | (with_reducible exact HR306.out) | (with_reducible refine Kd.C_alloc ?_ _) | (with_reducible refine Kd.C_drewN ?_ _) | (with_reducible refine Kd.C_drew ?_) | exact HR306.out)) | (with_reducible refine Kd.C_alloc ?_ _) | (with_reducible refine Kd.C_drewN ?_ _) | (with_reducible refine Kd.C_drew ?_))); (case side2 => exact HC306.out); rintro e w84 ⟨rfl, hb⟩; refine ⟨_, rfl, ?_⟩; have n0_ := Aside0.mk (Kd.R_below (by (with_reducible repeat (first | apply Kd.R_alloc | apply Kd.R_drewN | apply Kd.R_drew)); exact HO_5.out) hb); have n1_ := Aside0.mk (Kd.R_below (by (with_reducible repeat (first | apply Kd.R_alloc | apply Kd.R_drewN | apply Kd.R_drew)); exact HO270.out) hb); have n2_ := Aside0.mk (Kd.R_below (by (with_reducible repeat (first | apply Kd.R_alloc | apply Kd.R_drewN | apply Kd.R_drew)); exact HO276.out) hb); have n3_ := Aside0.mk (Kd.R_below (by (with_reducible repeat (first | apply Kd.R_alloc | apply Kd.R_drewN | apply Kd.R_drew)); exact HO280.out) hb); have n4_ := Aside0.mk (Kd.R_below (by (with_reducible repeat (first | apply Kd.R_alloc | apply Kd.R_drewN | apply Kd.R_drew)); exact HO294.out) hb); have n5_ := Aside0.mk (Kd.R_below (by (with_reducible repeat (first | apply Kd.R_alloc | apply Kd.R_drewN | apply Kd.R_drew)); exact HO302.out) hb); have n6_ := Aside0.mk (Kd.C_below (by repeat (first | (with_reducible exact HR267.out) | (with_reducible refine Kd.C_alloc ?_ _) | (with_reducible refine Kd.C_drewN ?_ _) | (with_reducible refine Kd.C_drew ?_) | exact HR267.out)) hb); have n7_ := Aside0.mk (Kd.C_below (by repeat (first | (with_reducible exact HR284.out) | (with_reducible refine Kd.C_alloc ?_ _) | (with_reducible refine Kd.C_drewN ?_ _) | (with_reducible refine Kd.C_drew ?_) | exact HR284.out)) hb); have n8_ := Aside0.mk (Kd.C_below (by repeat (first | (with_reducible exact HR290.out) | (with_reducible refine Kd.C_alloc ?_ _) | (with_reducible refine Kd.C_drewN ?_ _) | (with_reducible refine Kd.C_drew ?_) | exact HR290.out)) hb); have n9_ := Aside0.mk (Kd.C_below (by repeat (first | (with_reducible exact HR298.out) | (with_reducible refine Kd.C_alloc ?_ _) | (with_reducible refine Kd.C_drewN ?_ _) | (with_reducible refine Kd.C_drew ?_) | exact HR298.out)) hb); have n10_ := Aside0.mk (Kd.C_below (by repeat (first | (with_reducible exact HR306.out) | (with_reducible refine Kd.C_alloc ?_ _) | (with_reducible refine Kd.C_drewN ?_ _) | (with_reducible refine Kd.C_drew ?_) | exact HR306.out)) hb); have n11_ := Aside0.mk (below_step (by repeat (first | (with_reducible first | exact HB.out | apply below_alloc | apply pw_below_drewN | apply below_drew1) | exact HB.out)) hb); clear HO_5; clear HO270; clear HO276; clear HO280; clear HO294; clear HO302; clear HR267; clear HR284; clear HR290; clear HR298; clear HR306; clear HB; have HO_5 := n0_; have HO270 := n1_; have HO276 := n2_; have HO280 := n3_; have HO294 := n4_; have HO302 := n5_; have HR267 := n6_; have HR284 := n7_; have HR290 := n8_; have HR298 := n9_; have HR306 := n10_; have HB := n11_; clear n0_ n1_ n2_ n3_ n4_ n5_ n6_ n7_ n8_ n9_ n10_ n11_; (try clear hb); (try clear hb2); (try clear hk); (try clear hi)) | ((with_reducible refine gate_callee (f := 32) rfl ?_); refine goesL_ (some 85) rfl rfl Try.func32 (by kernel_rfl) rfl #[.slice Ao34 y268.length co34] rfl (by (try simp only [List.map_toArray, List.map_cons, List.map_nil]); first | done | rfl | (simp only [List.length_drop, List.length_take]; rfl)) ?_; (with_reducible refine (colonnaderef11_FrameWidth.calls k1 _ _ y268 t308 _ ?side1 ?side2 A47.out).mono ?_); (case side1 => repeat (first | exact (Kd.R_reads' HO270.out).2.2 | (with_reducible refine Kd.C_alloc ?_ _) | (with_reducible refine Kd.C_drewN ?_ _) | (with_reducible refine Kd.C_drew ?_))); (case side2 => exact (Kd.R_reads' HO270.out).2.1); rintro e w85 ⟨rfl, hb⟩; refine ⟨_, rfl, ?_⟩; have n0_ := Aside0.mk (Kd.R_below (by (with_reducible repeat (first | apply Kd.R_alloc | apply Kd.R_drewN | apply Kd.R_drew)); exact HO_5.out) hb); have n1_ := Aside0.mk (Kd.R_below (by (with_reducible repeat (first | apply Kd.R_alloc | apply Kd.R_drewN | apply Kd.R_drew)); exact HO270.out) hb); have n2_ := Aside0.mk (Kd.R_below (by (with_reducible repeat (first | apply Kd.R_alloc | apply Kd.R_drewN | apply Kd.R_drew)); exact HO276.out) hb); have n3_ := Aside0.mk (Kd.R_below (by (with_reducible repeat (first | apply Kd.R_alloc | apply Kd.R_drewN | apply Kd.R_drew)); exact HO280.out) hb); have n4_ := Aside0.mk (Kd.R_below (by (with_reducible repeat (first | apply Kd.R_alloc | apply Kd.R_drewN | apply Kd.R_drew)); exact HO294.out) hb); have n5_ := Aside0.mk (Kd.R_below (by (with_reducible repeat (first | apply Kd.R_alloc | apply Kd.R_drewN | apply Kd.R_drew)); exact HO302.out) hb); have n6_ := Aside0.mk (Kd.C_below (by repeat (first | (with_reducible exact HR267.out) | (with_reducible refine Kd.C_alloc ?_ _) | (with_reducible refine Kd.C_drewN ?_ _) | (with_reducible refine Kd.C_drew ?_) | exact HR267.out)) hb); have n7_ := Aside0.mk (Kd.C_below (by repeat (first | (with_reducible exact HR284.out) | (with_reducible refine Kd.C_alloc ?_ _) | (with_reducible refine Kd.C_drewN ?_ _) | (with_reducible refine Kd.C_drew ?_) | exact HR284.out)) hb); have n8_ := Aside0.mk (Kd.C_below (by repeat (first | (with_reducible exact HR290.out) | (with_reducible refine Kd.C_alloc ?_ _) | (with_reducible refine Kd.C_drewN ?_ _) | (with_reducible refine Kd.C_drew ?_) | exact HR290.out)) hb); have n9_ := Aside0.mk (Kd.C_below (by repeat (first | (with_reducible exact HR298.out) | (with_reducible refine Kd.C_alloc ?_ _) | (with_reducible refine Kd.C_drewN ?_ _) | (with_reducible refine Kd.C_drew ?_) | exact HR298.out)) hb); have n10_ := Aside0.mk (Kd.C_below (by repeat (first | (with_reducible exact HR306.out) | (with_reducible refine Kd.C_alloc ?_ _) | (with_reducible refine Kd.C_drewN ?_ _) | (with_reducible refine Kd.C_drew ?_) | exact HR306.out)) hb); have n11_ := Aside0.mk (below_step (by repeat (first | (with_reducible first | exact HB.out | apply below_alloc | apply pw_below_drewN | apply below_drew1) | exact HB.out)) hb); clear HO_5; clear HO270; clear HO276; clear HO280; clear HO294; clear HO302; clear HR267; clear HR284; clear HR290; clear HR298; clear HR306; clear HB; have HO_5 := n0_; have HO270 := n1_; have HO276 := n2_; have HO280 := n3_; have HO294 := n4_; have HO302 := n5_; have HR267 := n6_; have HR284 := n7_; have HR290 := n8_; have HR298 := n9_; have HR306 := n10_; have HB := n11_; clear n0_ n1_ n2_ n3_ n4_ n5_ n6_ n7_ n8_ n9_ n10_ n11_; (try clear hb); (try clear hb2); (try clear hk); (try clear hi)) | (go_at_call 18; (with_reducible refine (colonnadelaw11_num.calls t292 t309 _ A54.out).mono ?_); rintro e w' ⟨rfl, ⟨nd, rfl⟩⟩; have hcv86 := own_string (P := Try.prog) Try.underlying27 Try.underlying5 Try.underlying9 (Kd.own_of_R HO294.out); have hcv87 := fun nd_ : Nat => own_string (P := Try.prog) Try.underlying27 Try.underlying5 Try.underlying9 (Kd.own_of_R (Kd.R_drewN HO294.out nd_)); have hcv88 := fun nd_ ne_ : Nat => own_string (P := Try.prog) Try.underlying27 Try.underlying5 Try.underlying9 (Kd.own_of_R (Kd.R_drewN (Kd.R_drewN HO294.out nd_) ne_)); have hcv89 := own_string (P := Try.prog) Try.underlying27 Try.underlying5 Try.underlying9 (Kd.own_of_R HO276.out); have hcv90 := fun nd_ : Nat => own_string (P := Try.prog) Try.underlying27 Try.underlying5 Try.underlying9 (Kd.own_of_R (Kd.R_drewN HO276.out nd_)); have hcv91 := fun nd_ ne_ : Nat => own_string (P := Try.prog) Try.underlying27 Try.underlying5 Try.underlying9 (Kd.own_of_R (Kd.R_drewN (Kd.R_drewN HO276.out nd_) ne_))))
                              go_meet
                              case rel => exact ⟨_, (true), (by first | rfl | (simp; done) | (simp [*]; done)), H', ⟨by have := HK1.out; first | omega | exact Nat.le_refl _⟩, ⟨by (with_reducible repeat (first | apply Kd.R_alloc | apply Kd.R_drewN | apply Kd.R_drew)); exact Kd.R_mono HO_5.out (fun _ hk => hk.2)⟩, ⟨by (with_reducible repeat (first | apply Kd.R_alloc | apply Kd.R_drewN | apply Kd.R_drew)); exact HO270.out⟩, ⟨by repeat (first | (with_reducible first | exact HB.out | apply below_alloc | apply pw_below_drewN | apply below_drew1) | exact HB.out)⟩⟩
                          · rw [if_neg c55] at H
                            have c55b0 : (t309 == t274) = false := beq_eq_false_iff_ne.mpr c55
                            have c55b1 : (t309 != t274) = true := bne_iff_ne.mpr c55
                            have H' := Aside0.mk H
                            clear H
                            (try clear hcut31)
                            (try clear hcut38)
                            (try clear hcut40)
                            (try clear hcut42)
                            (try clear hcut51)
                            (try clear hcut59)
                            (try clear hcut74)
                            (try clear hcut83)
                            have q92 : ((l0.length : Int) : Int) ≤ ((x5_1.length : Int) : Int) := of_decide_eq_true (by first | (with_reducible assumption) | assumption)
                            obtain ⟨i092, hi092, _, hsz92, _⟩ := info_parts info2
                            have hroom92 : x5_1.length ≤ co32 := (Kd.R_reads' HO_5.out).2.1
                            have hC92 : Kd.C (Kd.int .i64) _ Ao32 x5_1.length x5_1 := (Kd.R_reads' HO_5.out).2.2
                            have hcut92 := cut_to (P := Try.prog) 29 2 .i64 Try.underlying29 hi092 Ao32 x5_1.length co32 (l0.length : Int) (of_decide_eq_true (by first | (with_reducible assumption) | assumption)) q92 hroom92
                            have hr92 := Kd.C_take (m := ((l0.length : Int) : Int).toNat) hC92 (by omega)
                            have hy92 : y303.length = ((l0.length : Int) : Int).toNat := (by rw [Ny303.out, List.length_take]; omega)
                            rw [← Ny303.out] at hr92
                            rw [← hy92] at hcut92
                            have HR306 := Aside0.mk hr92
                            have HC306 := Aside0.mk (show y303.length ≤ co32 from by omega)
                            clear hr92 hC92 hroom92 hi092 hsz92
                            have KY92 := Aside0.mk hy92
                            clear hy92
                            have KL92 := Aside0.mk (show ((l0.length : Int) : Int).toNat ≤ x5_1.length from by omega)
                            replace q92 := eq_true q92
                            go_wp2_with (first | ((with_reducible refine gate_callee (f := 31) rfl ?_); refine goesL_ (some 83) rfl rfl Try.func31 (by kernel_rfl) rfl #[.slice Ao32 y303.length co32] rfl (by (try simp only [List.map_toArray, List.map_cons, List.map_nil]); first | done | rfl | (simp only [List.length_drop, List.length_take]; rfl)) ?_; (with_reducible refine (frame_FrameWidth.calls k1 _ _ y303 t307 _ ?side1 ?side2 A46.out).mono ?_); (case side1 => repeat (first | exact (by repeat (first | (with_reducible exact HR306.out) | (with_reducible refine Kd.C_alloc ?_ _) | (with_reducible refine Kd.C_drewN ?_ _) | (with_reducible refine Kd.C_drew ?_) | exact HR306.out)) | (with_reducible refine Kd.C_alloc ?_ _) | (with_reducible refine Kd.C_drewN ?_ _) | (with_reducible refine Kd.C_drew ?_))); (case side2 => exact HC306.out); rintro e w93 ⟨rfl, hb⟩; refine ⟨_, rfl, ?_⟩; have n0_ := Aside0.mk (Kd.R_below (by (with_reducible repeat (first | apply Kd.R_alloc | apply Kd.R_drewN | apply Kd.R_drew)); exact HO_5.out) hb); have n1_ := Aside0.mk (Kd.R_below (by (with_reducible repeat (first | apply Kd.R_alloc | apply Kd.R_drewN | apply Kd.R_drew)); exact HO270.out) hb); have n2_ := Aside0.mk (Kd.R_below (by (with_reducible repeat (first | apply Kd.R_alloc | apply Kd.R_drewN | apply Kd.R_drew)); exact HO276.out) hb); have n3_ := Aside0.mk (Kd.R_below (by (with_reducible repeat (first | apply Kd.R_alloc | apply Kd.R_drewN | apply Kd.R_drew)); exact HO280.out) hb); have n4_ := Aside0.mk (Kd.R_below (by (with_reducible repeat (first | apply Kd.R_alloc | apply Kd.R_drewN | apply Kd.R_drew)); exact HO294.out) hb); have n5_ := Aside0.mk (Kd.R_below (by (with_reducible repeat (first | apply Kd.R_alloc | apply Kd.R_drewN | apply Kd.R_drew)); exact HO302.out) hb); have n6_ := Aside0.mk (Kd.C_below (by repeat (first | (with_reducible exact HR267.out) | (with_reducible refine Kd.C_alloc ?_ _) | (with_reducible refine Kd.C_drewN ?_ _) | (with_reducible refine Kd.C_drew ?_) | exact HR267.out)) hb); have n7_ := Aside0.mk (Kd.C_below (by repeat (first | (with_reducible exact HR284.out) | (with_reducible refine Kd.C_alloc ?_ _) | (with_reducible refine Kd.C_drewN ?_ _) | (with_reducible refine Kd.C_drew ?_) | exact HR284.out)) hb); have n8_ := Aside0.mk (Kd.C_below (by repeat (first | (with_reducible exact HR290.out) | (with_reducible refine Kd.C_alloc ?_ _) | (with_reducible refine Kd.C_drewN ?_ _) | (with_reducible refine Kd.C_drew ?_) | exact HR290.out)) hb); have n9_ := Aside0.mk (Kd.C_below (by repeat (first | (with_reducible exact HR298.out) | (with_reducible refine Kd.C_alloc ?_ _) | (with_reducible refine Kd.C_drewN ?_ _) | (with_reducible refine Kd.C_drew ?_) | exact HR298.out)) hb); have n10_ := Aside0.mk (Kd.C_below (by repeat (first | (with_reducible exact HR306.out) | (with_reducible refine Kd.C_alloc ?_ _) | (with_reducible refine Kd.C_drewN ?_ _) | (with_reducible refine Kd.C_drew ?_) | exact HR306.out)) hb); have n11_ := Aside0.mk (below_step (by repeat (first | (with_reducible first | exact HB.out | apply below_alloc | apply pw_below_drewN | apply below_drew1) | exact HB.out)) hb); clear HO_5; clear HO270; clear HO276; clear HO280; clear HO294; clear HO302; clear HR267; clear HR284; clear HR290; clear HR298; clear HR306; clear HB; have HO_5 := n0_; have HO270 := n1_; have HO276 := n2_; have HO280 := n3_; have HO294 := n4_; have HO302 := n5_; have HR267 := n6_; have HR284 := n7_; have HR290 := n8_; have HR298 := n9_; have HR306 := n10_; have HB := n11_; clear n0_ n1_ n2_ n3_ n4_ n5_ n6_ n7_ n8_ n9_ n10_ n11_; (try clear hb); (try clear hb2); (try clear hk); (try clear hi)) | ((with_reducible refine gate_callee (f := 32) rfl ?_); refine goesL_ (some 85) rfl rfl Try.func32 (by kernel_rfl) rfl #[.slice Ao34 y268.length co34] rfl (by (try simp only [List.map_toArray, List.map_cons, List.map_nil]); first | done | rfl | (simp only [List.length_drop, List.length_take]; rfl)) ?_; (with_reducible refine (colonnaderef11_FrameWidth.calls k1 _ _ y268 t308 _ ?side1 ?side2 A47.out).mono ?_); (case side1 => repeat (first | exact (Kd.R_reads' HO270.out).2.2 | (with_reducible refine Kd.C_alloc ?_ _) | (with_reducible refine Kd.C_drewN ?_ _) | (with_reducible refine Kd.C_drew ?_))); (case side2 => exact (Kd.R_reads' HO270.out).2.1); rintro e w94 ⟨rfl, hb⟩; refine ⟨_, rfl, ?_⟩; have n0_ := Aside0.mk (Kd.R_below (by (with_reducible repeat (first | apply Kd.R_alloc | apply Kd.R_drewN | apply Kd.R_drew)); exact HO_5.out) hb); have n1_ := Aside0.mk (Kd.R_below (by (with_reducible repeat (first | apply Kd.R_alloc | apply Kd.R_drewN | apply Kd.R_drew)); exact HO270.out) hb); have n2_ := Aside0.mk (Kd.R_below (by (with_reducible repeat (first | apply Kd.R_alloc | apply Kd.R_drewN | apply Kd.R_drew)); exact HO276.out) hb); have n3_ := Aside0.mk (Kd.R_below (by (with_reducible repeat (first | apply Kd.R_alloc | apply Kd.R_drewN | apply Kd.R_drew)); exact HO280.out) hb); have n4_ := Aside0.mk (Kd.R_below (by (with_reducible repeat (first | apply Kd.R_alloc | apply Kd.R_drewN | apply Kd.R_drew)); exact HO294.out) hb); have n5_ := Aside0.mk (Kd.R_below (by (with_reducible repeat (first | apply Kd.R_alloc | apply Kd.R_drewN | apply Kd.R_drew)); exact HO302.out) hb); have n6_ := Aside0.mk (Kd.C_below (by repeat (first | (with_reducible exact HR267.out) | (with_reducible refine Kd.C_alloc ?_ _) | (with_reducible refine Kd.C_drewN ?_ _) | (with_reducible refine Kd.C_drew ?_) | exact HR267.out)) hb); have n7_ := Aside0.mk (Kd.C_below (by repeat (first | (with_reducible exact HR284.out) | (with_reducible refine Kd.C_alloc ?_ _) | (with_reducible refine Kd.C_drewN ?_ _) | (with_reducible refine Kd.C_drew ?_) | exact HR284.out)) hb); have n8_ := Aside0.mk (Kd.C_below (by repeat (first | (with_reducible exact HR290.out) | (with_reducible refine Kd.C_alloc ?_ _) | (with_reducible refine Kd.C_drewN ?_ _) | (with_reducible refine Kd.C_drew ?_) | exact HR290.out)) hb); have n9_ := Aside0.mk (Kd.C_below (by repeat (first | (with_reducible exact HR298.out) | (with_reducible refine Kd.C_alloc ?_ _) | (with_reducible refine Kd.C_drewN ?_ _) | (with_reducible refine Kd.C_drew ?_) | exact HR298.out)) hb); have n10_ := Aside0.mk (Kd.C_below (by repeat (first | (with_reducible exact HR306.out) | (with_reducible refine Kd.C_alloc ?_ _) | (with_reducible refine Kd.C_drewN ?_ _) | (with_reducible refine Kd.C_drew ?_) | exact HR306.out)) hb); have n11_ := Aside0.mk (below_step (by repeat (first | (with_reducible first | exact HB.out | apply below_alloc | apply pw_below_drewN | apply below_drew1) | exact HB.out)) hb); clear HO_5; clear HO270; clear HO276; clear HO280; clear HO294; clear HO302; clear HR267; clear HR284; clear HR290; clear HR298; clear HR306; clear HB; have HO_5 := n0_; have HO270 := n1_; have HO276 := n2_; have HO280 := n3_; have HO294 := n4_; have HO302 := n5_; have HR267 := n6_; have HR284 := n7_; have HR290 := n8_; have HR298 := n9_; have HR306 := n10_; have HB := n11_; clear n0_ n1_ n2_ n3_ n4_ n5_ n6_ n7_ n8_ n9_ n10_ n11_; (try clear hb); (try clear hb2); (try clear hk); (try clear hi)) | (go_at_call 18; (with_reducible refine (colonnadelaw11_num.calls t292 t309 _ A54.out).mono ?_); rintro e w' ⟨rfl, ⟨nd, rfl⟩⟩))
                            go_meet
                            case rel => exact ⟨_, (true), (by first | rfl | (simp; done) | (simp [*]; done)), H', ⟨by have := HK1.out; first | omega | exact Nat.le_refl _⟩, ⟨by (with_reducible repeat (first | apply Kd.R_alloc | apply Kd.R_drewN | apply Kd.R_drew)); exact Kd.R_mono HO_5.out (fun _ hk => hk.2)⟩, ⟨by (with_reducible repeat (first | apply Kd.R_alloc | apply Kd.R_drewN | apply Kd.R_drew)); exact HO270.out⟩, ⟨by repeat (first | (with_reducible first | exact HB.out | apply below_alloc | apply pw_below_drewN | apply below_drew1) | exact HB.out)⟩⟩
                      · rw [if_neg c49] at H
                        have c49b0 : (t285 == t271) = false := beq_eq_false_iff_ne.mpr c49
                        have c49b1 : (t285 != t271) = true := bne_iff_ne.mpr c49
                        have H' := Aside0.mk H
                        clear H
                        (try clear hcut31)
                        (try clear hcut38)
                        (try clear hcut40)
                        (try clear hcut42)
                        (try clear hcut51)
                        (try clear hcut59)
                        (try clear hcut74)
                        (try clear hcut83)
                        (try clear hcut92)
                        have q95 : ((l0.length : Int) : Int) ≤ ((x5_1.length : Int) : Int) := of_decide_eq_true (by first | (with_reducible assumption) | assumption)
                        obtain ⟨i095, hi095, _, hsz95, _⟩ := info_parts info2
                        have hroom95 : x5_1.length ≤ co32 := (Kd.R_reads' HO_5.out).2.1
                        have hC95 : Kd.C (Kd.int .i64) _ Ao32 x5_1.length x5_1 := (Kd.R_reads' HO_5.out).2.2
                        have hcut95 := cut_to (P := Try.prog) 29 2 .i64 Try.underlying29 hi095 Ao32 x5_1.length co32 (l0.length : Int) (of_decide_eq_true (by first | (with_reducible assumption) | assumption)) q95 hroom95
                        have hr95 := Kd.C_take (m := ((l0.length : Int) : Int).toNat) hC95 (by omega)
                        have hy95 : y303.length = ((l0.length : Int) : Int).toNat := (by rw [Ny303.out, List.length_take]; omega)
                        rw [← Ny303.out] at hr95
                        rw [← hy95] at hcut95
                        have HR306 := Aside0.mk hr95
                        have HC306 := Aside0.mk (show y303.length ≤ co32 from by omega)
                        clear hr95 hC95 hroom95 hi095 hsz95
                        have KY95 := Aside0.mk hy95
                        clear hy95
                        have KL95 := Aside0.mk (show ((l0.length : Int) : Int).toNat ≤ x5_1.length from by omega)
                        replace q95 := eq_true q95
                        go_wp2_with (first | ((with_reducible refine gate_callee (f := 31) rfl ?_); refine goesL_ (some 83) rfl rfl Try.func31 (by kernel_rfl) rfl #[.slice Ao32 y303.length co32] rfl (by (try simp only [List.map_toArray, List.map_cons, List.map_nil]); first | done | rfl | (simp only [List.length_drop, List.length_take]; rfl)) ?_; (with_reducible refine (frame_FrameWidth.calls k1 _ _ y303 t307 _ ?side1 ?side2 A46.out).mono ?_); (case side1 => repeat (first | exact (by repeat (first | (with_reducible exact HR306.out) | (with_reducible refine Kd.C_alloc ?_ _) | (with_reducible refine Kd.C_drewN ?_ _) | (with_reducible refine Kd.C_drew ?_) | exact HR306.out)) | (with_reducible refine Kd.C_alloc ?_ _) | (with_reducible refine Kd.C_drewN ?_ _) | (with_reducible refine Kd.C_drew ?_))); (case side2 => exact HC306.out); rintro e w96 ⟨rfl, hb⟩; refine ⟨_, rfl, ?_⟩; have n0_ := Aside0.mk (Kd.R_below (by (with_reducible repeat (first | apply Kd.R_alloc | apply Kd.R_drewN | apply Kd.R_drew)); exact HO_5.out) hb); have n1_ := Aside0.mk (Kd.R_below (by (with_reducible repeat (first | apply Kd.R_alloc | apply Kd.R_drewN | apply Kd.R_drew)); exact HO270.out) hb); have n2_ := Aside0.mk (Kd.R_below (by (with_reducible repeat (first | apply Kd.R_alloc | apply Kd.R_drewN | apply Kd.R_drew)); exact HO276.out) hb); have n3_ := Aside0.mk (Kd.R_below (by (with_reducible repeat (first | apply Kd.R_alloc | apply Kd.R_drewN | apply Kd.R_drew)); exact HO280.out) hb); have n4_ := Aside0.mk (Kd.R_below (by (with_reducible repeat (first | apply Kd.R_alloc | apply Kd.R_drewN | apply Kd.R_drew)); exact HO294.out) hb); have n5_ := Aside0.mk (Kd.R_below (by (with_reducible repeat (first | apply Kd.R_alloc | apply Kd.R_drewN | apply Kd.R_drew)); exact HO302.out) hb); have n6_ := Aside0.mk (Kd.C_below (by repeat (first | (with_reducible exact HR267.out) | (with_reducible refine Kd.C_alloc ?_ _) | (with_reducible refine Kd.C_drewN ?_ _) | (with_reducible refine Kd.C_drew ?_) | exact HR267.out)) hb); have n7_ := Aside0.mk (Kd.C_below (by repeat (first | (with_reducible exact HR284.out) | (with_reducible refine Kd.C_alloc ?_ _) | (with_reducible refine Kd.C_drewN ?_ _) | (with_reducible refine Kd.C_drew ?_) | exact HR284.out)) hb); have n8_ := Aside0.mk (Kd.C_below (by repeat (first | (with_reducible exact HR290.out) | (with_reducible refine Kd.C_alloc ?_ _) | (with_reducible refine Kd.C_drewN ?_ _) | (with_reducible refine Kd.C_drew ?_) | exact HR290.out)) hb); have n9_ := Aside0.mk (Kd.C_below (by repeat (first | (with_reducible exact HR298.out) | (with_reducible refine Kd.C_alloc ?_ _) | (with_reducible refine Kd.C_drewN ?_ _) | (with_reducible refine Kd.C_drew ?_) | exact HR298.out)) hb); have n10_ := Aside0.mk (Kd.C_below (by repeat (first | (with_reducible exact HR306.out) | (with_reducible refine Kd.C_alloc ?_ _) | (with_reducible refine Kd.C_drewN ?_ _) | (with_reducible refine Kd.C_drew ?_) | exact HR306.out)) hb); have n11_ := Aside0.mk (below_step (by repeat (first | (with_reducible first | exact HB.out | apply below_alloc | apply pw_below_drewN | apply below_drew1) | exact HB.out)) hb); clear HO_5; clear HO270; clear HO276; clear HO280; clear HO294; clear HO302; clear HR267; clear HR284; clear HR290; clear HR298; clear HR306; clear HB; have HO_5 := n0_; have HO270 := n1_; have HO276 := n2_; have HO280 := n3_; have HO294 := n4_; have HO302 := n5_; have HR267 := n6_; have HR284 := n7_; have HR290 := n8_; have HR298 := n9_; have HR306 := n10_; have HB := n11_; clear n0_ n1_ n2_ n3_ n4_ n5_ n6_ n7_ n8_ n9_ n10_ n11_; (try clear hb); (try clear hb2); (try clear hk); (try clear hi)) | ((with_reducible refine gate_callee (f := 32) rfl ?_); refine goesL_ (some 85) rfl rfl Try.func32 (by kernel_rfl) rfl #[.slice Ao34 y268.length co34] rfl (by (try simp only [List.map_toArray, List.map_cons, List.map_nil]); first | done | rfl | (simp only [List.length_drop, List.length_take]; rfl)) ?_; (with_reducible refine (colonnaderef11_FrameWidth.calls k1 _ _ y268 t308 _ ?side1 ?side2 A47.out).mono ?_); (case side1 => repeat (first | exact (Kd.R_reads' HO270.out).2.2 | (with_reducible refine Kd.C_alloc ?_ _) | (with_reducible refine Kd.C_drewN ?_ _) | (with_reducible refine Kd.C_drew ?_))); (case side2 => exact (Kd.R_reads' HO270.out).2.1); rintro e w97 ⟨rfl, hb⟩; refine ⟨_, rfl, ?_⟩; have n0_ := Aside0.mk (Kd.R_below (by (with_reducible repeat (first | apply Kd.R_alloc | apply Kd.R_drewN | apply Kd.R_drew)); exact HO_5.out) hb); have n1_ := Aside0.mk (Kd.R_below (by (with_reducible repeat (first | apply Kd.R_alloc | apply Kd.R_drewN | apply Kd.R_drew)); exact HO270.out) hb); have n2_ := Aside0.mk (Kd.R_below (by (with_reducible repeat (first | apply Kd.R_alloc | apply Kd.R_drewN | apply Kd.R_drew)); exact HO276.out) hb); have n3_ := Aside0.mk (Kd.R_below (by (with_reducible repeat (first | apply Kd.R_alloc | apply Kd.R_drewN | apply Kd.R_drew)); exact HO280.out) hb); have n4_ := Aside0.mk (Kd.R_below (by (with_reducible repeat (first | apply Kd.R_alloc | apply Kd.R_drewN | apply Kd.R_drew)); exact HO294.out) hb); have n5_ := Aside0.mk (Kd.R_below (by (with_reducible repeat (first | apply Kd.R_alloc | apply Kd.R_drewN | apply Kd.R_drew)); exact HO302.out) hb); have n6_ := Aside0.mk (Kd.C_below (by repeat (first | (with_reducible exact HR267.out) | (with_reducible refine Kd.C_alloc ?_ _) | (with_reducible refine Kd.C_drewN ?_ _) | (with_reducible refine Kd.C_drew ?_) | exact HR267.out)) hb); have n7_ := Aside0.mk (Kd.C_below (by repeat (first | (with_reducible exact HR284.out) | (with_reducible refine Kd.C_alloc ?_ _) | (with_reducible refine Kd.C_drewN ?_ _) | (with_reducible refine Kd.C_drew ?_) | exact HR284.out)) hb); have n8_ := Aside0.mk (Kd.C_below (by repeat (first | (with_reducible exact HR290.out) | (with_reducible refine Kd.C_alloc ?_ _) | (with_reducible refine Kd.C_drewN ?_ _) | (with_reducible refine Kd.C_drew ?_) | exact HR290.out)) hb); have n9_ := Aside0.mk (Kd.C_below (by repeat (first | (with_reducible exact HR298.out) | (with_reducible refine Kd.C_alloc ?_ _) | (with_reducible refine Kd.C_drewN ?_ _) | (with_reducible refine Kd.C_drew ?_) | exact HR298.out)) hb); have n10_ := Aside0.mk (Kd.C_below (by repeat (first | (with_reducible exact HR306.out) | (with_reducible refine Kd.C_alloc ?_ _) | (with_reducible refine Kd.C_drewN ?_ _) | (with_reducible refine Kd.C_drew ?_) | exact HR306.out)) hb); have n11_ := Aside0.mk (below_step (by repeat (first | (with_reducible first | exact HB.out | apply below_alloc | apply pw_below_drewN | apply below_drew1) | exact HB.out)) hb); clear HO_5; clear HO270; clear HO276; clear HO280; clear HO294; clear HO302; clear HR267; clear HR284; clear HR290; clear HR298; clear HR306; clear HB; have HO_5 := n0_; have HO270 := n1_; have HO276 := n2_; have HO280 := n3_; have HO294 := n4_; have HO302 := n5_; have HR267 := n6_; have HR284 := n7_; have HR290 := n8_; have HR298 := n9_; have HR306 := n10_; have HB := n11_; clear n0_ n1_ n2_ n3_ n4_ n5_ n6_ n7_ n8_ n9_ n10_ n11_; (try clear hb); (try clear hb2); (try clear hk); (try clear hi)))
                        go_meet
                        case rel => exact ⟨_, (true), (by first | rfl | (simp; done) | (simp [*]; done)), H', ⟨by have := HK1.out; first | omega | exact Nat.le_refl _⟩, ⟨by (with_reducible repeat (first | apply Kd.R_alloc | apply Kd.R_drewN | apply Kd.R_drew)); exact Kd.R_mono HO_5.out (fun _ hk => hk.2)⟩, ⟨by (with_reducible repeat (first | apply Kd.R_alloc | apply Kd.R_drewN | apply Kd.R_drew)); exact HO270.out⟩, ⟨by repeat (first | (with_reducible first | exact HB.out | apply below_alloc | apply pw_below_drewN | apply below_drew1) | exact HB.out)⟩⟩
                    · rw [if_neg c48] at H
                      have c48b0 : (t307 == t308) = false := beq_eq_false_iff_ne.mpr c48
                      have c48b1 : (t307 != t308) = true := bne_iff_ne.mpr c48
                      (first | rw [c48b0] | (simp only [i64_w, i32_w]; rw [c48b0]) | skip)
                      have H' := Aside0.mk H
                      clear H
                      (try clear hcut31)
                      (try clear hcut38)
                      (try clear hcut40)
                      (try clear hcut42)
                      (try clear hcut51)
                      (try clear hcut59)
                      (try clear hcut74)
                      (try clear hcut83)
                      (try clear hcut92)
                      (try clear hcut95)
                      have q98 : ((l0.length : Int) : Int) ≤ ((x5_1.length : Int) : Int) := of_decide_eq_true (by first | (with_reducible assumption) | assumption)
                      obtain ⟨i098, hi098, _, hsz98, _⟩ := info_parts info2
                      have hroom98 : x5_1.length ≤ co32 := (Kd.R_reads' HO_5.out).2.1
                      have hC98 : Kd.C (Kd.int .i64) _ Ao32 x5_1.length x5_1 := (Kd.R_reads' HO_5.out).2.2
                      have hcut98 := cut_to (P := Try.prog) 29 2 .i64 Try.underlying29 hi098 Ao32 x5_1.length co32 (l0.length : Int) (of_decide_eq_true (by first | (with_reducible assumption) | assumption)) q98 hroom98
                      have hr98 := Kd.C_take (m := ((l0.length : Int) : Int).toNat) hC98 (by omega)
                      have hy98 : y303.length = ((l0.length : Int) : Int).toNat := (by rw [Ny303.out, List.length_take]; omega)
                      rw [← Ny303.out] at hr98
                      rw [← hy98] at hcut98
                      have HR306 := Aside0.mk hr98
                      have HC306 := Aside0.mk (show y303.length ≤ co32 from by omega)
                      clear hr98 hC98 hroom98 hi098 hsz98
                      have KY98 := Aside0.mk hy98
                      clear hy98
                      have KL98 := Aside0.mk (show ((l0.length : Int) : Int).toNat ≤ x5_1.length from by omega)
                      replace q98 := eq_true q98
                      go_wp2_with (first | ((with_reducible refine gate_callee (f := 31) rfl ?_); refine goesL_ (some 83) rfl rfl Try.func31 (by kernel_rfl) rfl #[.slice Ao32 y303.length co32] rfl (by (try simp only [List.map_toArray, List.map_cons, List.map_nil]); first | done | rfl | (simp only [List.length_drop, List.length_take]; rfl)) ?_; (with_reducible refine (frame_FrameWidth.calls k1 _ _ y303 t307 _ ?side1 ?side2 A46.out).mono ?_); (case side1 => repeat (first | exact (by repeat (first | (with_reducible exact HR306.out) | (with_reducible refine Kd.C_alloc ?_ _) | (with_reducible refine Kd.C_drewN ?_ _) | (with_reducible refine Kd.C_drew ?_) | exact HR306.out)) | (with_reducible refine Kd.C_alloc ?_ _) | (with_reducible refine Kd.C_drewN ?_ _) | (with_reducible refine Kd.C_drew ?_))); (case side2 => exact HC306.out); rintro e w99 ⟨rfl, hb⟩; refine ⟨_, rfl, ?_⟩; have n0_ := Aside0.mk (Kd.R_below (by (with_reducible repeat (first | apply Kd.R_alloc | apply Kd.R_drewN | apply Kd.R_drew)); exact HO_5.out) hb); have n1_ := Aside0.mk (Kd.R_below (by (with_reducible repeat (first | apply Kd.R_alloc | apply Kd.R_drewN | apply Kd.R_drew)); exact HO270.out) hb); have n2_ := Aside0.mk (Kd.R_below (by (with_reducible repeat (first | apply Kd.R_alloc | apply Kd.R_drewN | apply Kd.R_drew)); exact HO276.out) hb); have n3_ := Aside0.mk (Kd.R_below (by (with_reducible repeat (first | apply Kd.R_alloc | apply Kd.R_drewN | apply Kd.R_drew)); exact HO280.out) hb); have n4_ := Aside0.mk (Kd.R_below (by (with_reducible repeat (first | apply Kd.R_alloc | apply Kd.R_drewN | apply Kd.R_drew)); exact HO294.out) hb); have n5_ := Aside0.mk (Kd.R_below (by (with_reducible repeat (first | apply Kd.R_alloc | apply Kd.R_drewN | apply Kd.R_drew)); exact HO302.out) hb); have n6_ := Aside0.mk (Kd.C_below (by repeat (first | (with_reducible exact HR267.out) | (with_reducible refine Kd.C_alloc ?_ _) | (with_reducible refine Kd.C_drewN ?_ _) | (with_reducible refine Kd.C_drew ?_) | exact HR267.out)) hb); have n7_ := Aside0.mk (Kd.C_below (by repeat (first | (with_reducible exact HR284.out) | (with_reducible refine Kd.C_alloc ?_ _) | (with_reducible refine Kd.C_drewN ?_ _) | (with_reducible refine Kd.C_drew ?_) | exact HR284.out)) hb); have n8_ := Aside0.mk (Kd.C_below (by repeat (first | (with_reducible exact HR290.out) | (with_reducible refine Kd.C_alloc ?_ _) | (with_reducible refine Kd.C_drewN ?_ _) | (with_reducible refine Kd.C_drew ?_) | exact HR290.out)) hb); have n9_ := Aside0.mk (Kd.C_below (by repeat (first | (with_reducible exact HR298.out) | (with_reducible refine Kd.C_alloc ?_ _) | (with_reducible refine Kd.C_drewN ?_ _) | (with_reducible refine Kd.C_drew ?_) | exact HR298.out)) hb); have n10_ := Aside0.mk (Kd.C_below (by repeat (first | (with_reducible exact HR306.out) | (with_reducible refine Kd.C_alloc ?_ _) | (with_reducible refine Kd.C_drewN ?_ _) | (with_reducible refine Kd.C_drew ?_) | exact HR306.out)) hb); have n11_ := Aside0.mk (below_step (by repeat (first | (with_reducible first | exact HB.out | apply below_alloc | apply pw_below_drewN | apply below_drew1) | exact HB.out)) hb); clear HO_5; clear HO270; clear HO276; clear HO280; clear HO294; clear HO302; clear HR267; clear HR284; clear HR290; clear HR298; clear HR306; clear HB; have HO_5 := n0_; have HO270 := n1_; have HO276 := n2_; have HO280 := n3_; have HO294 := n4_; have HO302 := n5_; have HR267 := n6_; have HR284 := n7_; have HR290 := n8_; have HR298 := n9_; have HR306 := n10_; have HB := n11_; clear n0_ n1_ n2_ n3_ n4_ n5_ n6_ n7_ n8_ n9_ n10_ n11_; (try clear hb); (try clear hb2); (try clear hk); (try clear hi)) | ((with_reducible refine gate_callee (f := 32) rfl ?_); refine goesL_ (some 85) rfl rfl Try.func32 (by kernel_rfl) rfl #[.slice Ao34 y268.length co34] rfl (by (try simp only [List.map_toArray, List.map_cons, List.map_nil]); first | done | rfl | (simp only [List.length_drop, List.length_take]; rfl)) ?_; (with_reducible refine (colonnaderef11_FrameWidth.calls k1 _ _ y268 t308 _ ?side1 ?side2 A47.out).mono ?_); (case side1 => repeat (first | exact (Kd.R_reads' HO270.out).2.2 | (with_reducible refine Kd.C_alloc ?_ _) | (with_reducible refine Kd.C_drewN ?_ _) | (with_reducible refine Kd.C_drew ?_))); (case side2 => exact (Kd.R_reads' HO270.out).2.1); rintro e w100 ⟨rfl, hb⟩; refine ⟨_, rfl, ?_⟩; have n0_ := Aside0.mk (Kd.R_below (by (with_reducible repeat (first | apply Kd.R_alloc | apply Kd.R_drewN | apply Kd.R_drew)); exact HO_5.out) hb); have n1_ := Aside0.mk (Kd.R_below (by (with_reducible repeat (first | apply Kd.R_alloc | apply Kd.R_drewN | apply Kd.R_drew)); exact HO270.out) hb); have n2_ := Aside0.mk (Kd.R_below (by (with_reducible repeat (first | apply Kd.R_alloc | apply Kd.R_drewN | apply Kd.R_drew)); exact HO276.out) hb); have n3_ := Aside0.mk (Kd.R_below (by (with_reducible repeat (first | apply Kd.R_alloc | apply Kd.R_drewN | apply Kd.R_drew)); exact HO280.out) hb); have n4_ := Aside0.mk (Kd.R_below (by (with_reducible repeat (first | apply Kd.R_alloc | apply Kd.R_drewN | apply Kd.R_drew)); exact HO294.out) hb); have n5_ := Aside0.mk (Kd.R_below (by (with_reducible repeat (first | apply Kd.R_alloc | apply Kd.R_drewN | apply Kd.R_drew)); exact HO302.out) hb); have n6_ := Aside0.mk (Kd.C_below (by repeat (first | (with_reducible exact HR267.out) | (with_reducible refine Kd.C_alloc ?_ _) | (with_reducible refine Kd.C_drewN ?_ _) | (with_reducible refine Kd.C_drew ?_) | exact HR267.out)) hb); have n7_ := Aside0.mk (Kd.C_below (by repeat (first | (with_reducible exact HR284.out) | (with_reducible refine Kd.C_alloc ?_ _) | (with_reducible refine Kd.C_drewN ?_ _) | (with_reducible refine Kd.C_drew ?_) | exact HR284.out)) hb); have n8_ := Aside0.mk (Kd.C_below (by repeat (first | (with_reducible exact HR290.out) | (with_reducible refine Kd.C_alloc ?_ _) | (with_reducible refine Kd.C_drewN ?_ _) | (with_reducible refine Kd.C_drew ?_) | exact HR290.out)) hb); have n9_ := Aside0.mk (Kd.C_below (by repeat (first | (with_reducible exact HR298.out) | (with_reducible refine Kd.C_alloc ?_ _) | (with_reducible refine Kd.C_drewN ?_ _) | (with_reducible refine Kd.C_drew ?_) | exact HR298.out)) hb); have n10_ := Aside0.mk (Kd.C_below (by repeat (first | (with_reducible exact HR306.out) | (with_reducible refine Kd.C_alloc ?_ _) | (with_reducible refine Kd.C_drewN ?_ _) | (with_reducible refine Kd.C_drew ?_) | exact HR306.out)) hb); have n11_ := Aside0.mk (below_step (by repeat (first | (with_reducible first | exact HB.out | apply below_alloc | apply pw_below_drewN | apply below_drew1) | exact HB.out)) hb); clear HO_5; clear HO270; clear HO276; clear HO280; clear HO294; clear HO302; clear HR267; clear HR284; clear HR290; clear HR298; clear HR306; clear HB; have HO_5 := n0_; have HO270 := n1_; have HO276 := n2_; have HO280 := n3_; have HO294 := n4_; have HO302 := n5_; have HR267 := n6_; have HR284 := n7_; have HR290 := n8_; have HR298 := n9_; have HR306 := n10_; have HB := n11_; clear n0_ n1_ n2_ n3_ n4_ n5_ n6_ n7_ n8_ n9_ n10_ n11_; (try clear hb); (try clear hb2); (try clear hk); (try clear hi)))
                      go_meet
                      case rel => exact ⟨_, (true), (by first | rfl | (simp; done) | (simp [*]; done)), H', ⟨by have := HK1.out; first | omega | exact Nat.le_refl _⟩, ⟨by (with_reducible repeat (first | apply Kd.R_alloc | apply Kd.R_drewN | apply Kd.R_drew)); exact Kd.R_mono HO_5.out (fun _ hk => hk.2)⟩, ⟨by (with_reducible repeat (first | apply Kd.R_alloc | apply Kd.R_drewN | apply Kd.R_drew)); exact HO270.out⟩, ⟨by repeat (first | (with_reducible first | exact HB.out | apply below_alloc | apply pw_below_drewN | apply below_drew1) | exact HB.out)⟩⟩
                  case rest =>
                    clear HC28
                    try clear c1
                    try clear c2
                    try clear p2
                    try clear c3
                    try clear q3
                    try clear c4
                    try clear q4
                    try clear c5
                    try clear q5
                    try clear c6
                    try clear hcv6
                    try clear q7
                    try clear hcv7
                    try clear q8
                    try clear hcv8
                    try clear q9
                    try clear hcv9
                    try clear c12
                    try clear c12b0
                    try clear c13
                    try clear c13b0
                    try clear c13b1
                    try clear c14
                    try clear c14b0
                    try clear c14b1
                    try clear c15
                    try clear c19
                    try clear c19b0
                    try clear c20
                    try clear c20b0
                    try clear c22
                    try clear c22b0
                    try clear c23
                    try clear c23b0
                    try clear c25
                    try clear c25b0
                    try clear c26
                    try clear c26b0
                    try clear c27
                    try clear c28
                    try clear c29
                    try clear c30
                    try clear c31
                    try clear q31
                    try clear c32
                    try clear q38
                    try clear q40
                    try clear q42
                    try clear c44
                    try clear c44b0
                    try clear c45
                    try clear c45b0
                    try clear c48
                    try clear c48b0
                    try clear c48b1
                    try clear c49
                    try clear c49b0
                    try clear c49b1
                    try clear c50
                    try clear c50b0
                    try clear c50b1
                    try clear c50b2
                    try clear q51
                    try clear c55
                    try clear c55b0
                    try clear c55b1
                    try clear c56
                    try clear c56b0
                    try clear c56b1
                    try clear c58
                    try clear c58b0
                    try clear c58b1
                    try clear q59
                    try clear hcv62
                    try clear hcv63
                    try clear hcv64
                    try clear hcv65
                    try clear hcv66
                    try clear hcv67
                    try clear hcv68
                    try clear hcv69
                    try clear hcv70
                    try clear hcv71
                    try clear hcv72
                    try clear hcv73
                    try clear q74
                    try clear hcv77
                    try clear hcv78
                    try clear hcv79
                    try clear hcv80
                    try clear hcv81
                    try clear hcv82
                    try clear q83
                    try clear hcv86
                    try clear hcv87
                    try clear hcv88
                    try clear hcv89
                    try clear hcv90
                    try clear hcv91
                    try clear q92
                    try clear q95
                    try clear q98
                    try clear p2
                    try clear q31
                    try clear q38
                    try clear q40
                    try clear q42
                    try clear q51
                    try clear q59
                    try clear q74
                    try clear q83
                    try clear q92
                    try clear q95
                    try clear q98
                    obtain ⟨kq, x122_27, rfl, HA, HJ27, HO_5, HO_7, HB⟩ := hcut
                    cases kq with
                    | zero => exact absurd HA.out (by simp [colonnadelaw11_FramePuts.j1])
                    | succ kj27 =>
                      have H := HA.out
                      clear HA
                      simp only [colonnadelaw11_FramePuts.j1] at H
                      by_cases c101 : x122_27 = true
                      · subst c101
                        have H1 : (some false) = some r := by rw [if_pos rfl] at H; exact H
                        clear H
                        have H := H1
                        clear H1
                        obtain rfl := Option.some.inj H
                        go_wp2
                        go_ret
                        exact ⟨by first | rfl | (simp [errW_none, errW_some] <;> rfl) | (simp [*, errW_none, errW_some] <;> rfl), by repeat (first | (with_reducible first | exact HB.out | apply below_alloc | apply pw_below_drewN | apply below_drew1) | exact HB.out)⟩
                      · replace c101 := Bool.eq_false_iff.mpr c101
                        subst c101
                        have H1 : (if 0 ≤ (l0.length : Int) then (if (l0.length : Int) ≤ (x5_1.length : Int) then ((colonnaderef08_SameInts.f kj27 (x5_1.take ((l0.length : Int) : Int).toNat) y268).bind fun t315 => (if t315 = true then (if (l0.length : Int) < (x5_1.length : Int) then (if (rd x5_1 (l0.length : Int)) = 71 then (if 0 ≤ (wrap64 ((l0.length : Int) + 1)) then (if (wrap64 ((l0.length : Int) + 1)) < (x5_1.length : Int) then (colonnadelaw11_FramePuts.j2 kj27 l0 a1 x5_1 x6_1 ((rd x5_1 (wrap64 ((l0.length : Int) + 1))) != 72)) else (none)) else (none)) else (colonnadelaw11_FramePuts.j2 kj27 l0 a1 x5_1 x6_1 true)) else (none)) else (colonnadelaw11_FramePuts.j2 kj27 l0 a1 x5_1 x6_1 true))) else (none)) else (none)) = some r := by rw [if_neg (show ¬ (false = true) by decide)] at H; exact H
                        clear H
                        have H := H1
                        clear H1
                        have HC102 := Aside0.mk H
                        clear H
                        go_upto_region 14 with (fail)
                        go_cut [146] (fun v146 wc => ∃ (kq : Nat) (x146_101 : Bool), v146 = .bool x146_101 ∧ Aside0 (colonnadelaw11_FramePuts.j2 kq l0 a1 x5_1 x6_1 x146_101 = some r) ∧ Aside0 (kq ≤ kj27) ∧ Aside0 (Kd.R (Kd.int .i64) 2 wc w.heap.size (fun _ => True) (.slice Ao32 x5_1.length co32) x5_1) ∧ Aside0 (Below w.heap.size w wc))
                        case first =>
                          have H := HC102.out
                          clear HC102
                          by_cases c103 : 0 ≤ (l0.length : Int)
                          · rw [if_pos c103] at H
                            have c103b0 := eq_true c103
                            have c103b1 : decide (0 ≤ (l0.length : Int)) = true := decide_eq_true c103
                            clear c103
                            by_cases c104 : (l0.length : Int) ≤ (x5_1.length : Int)
                            · rw [if_pos c104] at H
                              have c104b0 := eq_true c104
                              have c104b1 : decide ((l0.length : Int) ≤ (x5_1.length : Int)) = true := decide_eq_true c104
                              clear c104
                              obtain ⟨y311, hy311⟩ : ∃ y_ : List Int, y_ = (x5_1.take ((l0.length : Int) : Int).toNat) := ⟨_, rfl⟩
                              replace H : ((colonnaderef08_SameInts.f kj27 y311 y268).bind fun t315 => (if t315 = true then (if (l0.length : Int) < (x5_1.length : Int) then (if (rd x5_1 (l0.length : Int)) = 71 then (if 0 ≤ (wrap64 ((l0.length : Int) + 1)) then (if (wrap64 ((l0.length : Int) + 1)) < (x5_1.length : Int) then (colonnadelaw11_FramePuts.j2 kj27 l0 a1 x5_1 x6_1 ((rd x5_1 (wrap64 ((l0.length : Int) + 1))) != 72)) else (none)) else (none)) else (colonnadelaw11_FramePuts.j2 kj27 l0 a1 x5_1 x6_1 true)) else (none)) else (colonnadelaw11_FramePuts.j2 kj27 l0 a1 x5_1 x6_1 true))) = some r := by first | (rw [hy311]; with_reducible exact H) | (have H2_ := (Option.bind_some _ _).symm.trans H; rw [hy311]; with_reducible exact H2_) | (have H2_ := (Option.bind_some _ _).symm.trans H; with_reducible exact H2_) | with_reducible exact H | (rw [hy311]; exact H) | exact H
                              have Ny311 := Aside0.mk hy311
                              clear hy311
                              replace H := Option.bind_eq_some_iff.mp H
                              obtain ⟨t315, A1050, H⟩ := H
                              replace H : (if t315 = true then (if (l0.length : Int) < (x5_1.length : Int) then (if (rd x5_1 (l0.length : Int)) = 71 then (if 0 ≤ (wrap64 ((l0.length : Int) + 1)) then (if (wrap64 ((l0.length : Int) + 1)) < (x5_1.length : Int) then (colonnadelaw11_FramePuts.j2 kj27 l0 a1 x5_1 x6_1 ((rd x5_1 (wrap64 ((l0.length : Int) + 1))) != 72)) else (none)) else (none)) else (colonnadelaw11_FramePuts.j2 kj27 l0 a1 x5_1 x6_1 true)) else (none)) else (colonnadelaw11_FramePuts.j2 kj27 l0 a1 x5_1 x6_1 true)) = some r := H
                              have A105 := Aside0.mk A1050
                              clear A1050
                              by_cases c106 : t315 = true
                              · subst c106
                                have H1 : (if (l0.length : Int) < (x5_1.length : Int) then (if (rd x5_1 (l0.length : Int)) = 71 then (if 0 ≤ (wrap64 ((l0.length : Int) + 1)) then (if (wrap64 ((l0.length : Int) + 1)) < (x5_1.length : Int) then (colonnadelaw11_FramePuts.j2 kj27 l0 a1 x5_1 x6_1 ((rd x5_1 (wrap64 ((l0.length : Int) + 1))) != 72)) else (none)) else (none)) else (colonnadelaw11_FramePuts.j2 kj27 l0 a1 x5_1 x6_1 true)) else (none)) = some r := by rw [if_pos rfl] at H; exact H
                                clear H
                                have H := H1
                                clear H1
                                by_cases c107 : (l0.length : Int) < (x5_1.length : Int)
                                · rw [if_pos c107] at H
                                  have c107b0 : decide ((l0.length : Int) < (x5_1.length : Int)) = true := decide_eq_true c107
                                  have c107b1 : decide (l0.length < x5_1.length) = true := decide_eq_true (Int.ofNat_lt.mp c107)
                                  clear c107
                                  (first | rw [c107b0] | (simp only [i64_w, i32_w]; rw [c107b0]) | skip)
                                  by_cases c108 : (rd x5_1 (l0.length : Int)) = 71
                                  · rw [if_pos c108] at H
                                    have c108b0 : ((rd x5_1 (l0.length : Int)) == 71) = true := beq_iff_eq.mpr c108
                                    have c108b1 : ((rd x5_1 (l0.length : Int)) != 71) = false := bne_eq_false_iff_eq.mpr c108
                                    clear c108
                                    obtain ⟨ji109, hji109⟩ : ∃ j_ : Int, (wrap64 ((l0.length : Int) + 1)) = j_ := ⟨_, rfl⟩
                                    replace H : (if 0 ≤ (ji109) then (if (ji109) < (x5_1.length : Int) then (colonnadelaw11_FramePuts.j2 kj27 l0 a1 x5_1 x6_1 ((rd x5_1 (ji109)) != 72)) else (none)) else (none)) = some r := by first | (rw [hji109] at H; exact H) | (simp only [hji109] at H ⊢; exact H)
                                    (try rw [hji109] at A105)
                                    have hji109w : (IntKind.i64.wrap ((l0.length : Int) + 1)) = ji109 := (i64_w _).trans hji109
                                    by_cases c110 : 0 ≤ (ji109)
                                    · rw [if_pos c110] at H
                                      have c110b0 : decide (0 ≤ (ji109)) = true := decide_eq_true c110
                                      clear c110
                                      by_cases c111 : (ji109) < (x5_1.length : Int)
                                      · rw [if_pos c111] at H
                                        have c111b0 : decide ((ji109) < (x5_1.length : Int)) = true := decide_eq_true c111
                                        clear c111
                                        have H' := Aside0.mk H
                                        clear H
                                        (try clear hcut31)
                                        (try clear hcut38)
                                        (try clear hcut40)
                                        (try clear hcut42)
                                        (try clear hcut51)
                                        (try clear hcut59)
                                        (try clear hcut74)
                                        (try clear hcut83)
                                        (try clear hcut92)
                                        (try clear hcut95)
                                        (try clear hcut98)
                                        have q112 : ((l0.length : Int) : Int) ≤ ((x5_1.length : Int) : Int) := of_decide_eq_true (by first | (with_reducible assumption) | assumption)
                                        obtain ⟨i0112, hi0112, _, hsz112, _⟩ := info_parts info2
                                        have hroom112 : x5_1.length ≤ co32 := (Kd.R_reads' HO_5.out).2.1
                                        have hC112 : Kd.C (Kd.int .i64) _ Ao32 x5_1.length x5_1 := (Kd.R_reads' HO_5.out).2.2
                                        have hcut112 := cut_to (P := Try.prog) 29 2 .i64 Try.underlying29 hi0112 Ao32 x5_1.length co32 (l0.length : Int) (of_decide_eq_true (by first | (with_reducible assumption) | assumption)) q112 hroom112
                                        have hr112 := Kd.C_take (m := ((l0.length : Int) : Int).toNat) hC112 (by omega)
                                        have hy112 : y311.length = ((l0.length : Int) : Int).toNat := (by rw [Ny311.out, List.length_take]; omega)
                                        rw [← Ny311.out] at hr112
                                        rw [← hy112] at hcut112
                                        have HR314 := Aside0.mk hr112
                                        have HC314 := Aside0.mk (show y311.length ≤ co32 from by omega)
                                        clear hr112 hC112 hroom112 hi0112 hsz112
                                        have KY112 := Aside0.mk hy112
                                        clear hy112
                                        have KL112 := Aside0.mk (show ((l0.length : Int) : Int).toNat ≤ x5_1.length from by omega)
                                        replace q112 := eq_true q112
                                        go_wp2_with (first | ((with_reducible refine gate_callee (f := 19) rfl ?_); refine goesL_ (some 128) rfl rfl Try.func19 (by kernel_rfl) rfl #[.slice Ao32 y311.length co32, .slice Ao34 y268.length co34] rfl (by (try simp only [List.map_toArray, List.map_cons, List.map_nil]); first | done | rfl | (simp only [List.length_drop, List.length_take]; rfl)) ?_; (with_reducible refine (colonnaderef08_SameInts.calls kj27 _ _ y311 _ _ y268 true _ ?side1 ?side2 ?side3 ?side4 A105.out).mono ?_); (case side1 => repeat (first | exact (by repeat (first | (with_reducible exact HR314.out) | (with_reducible refine Kd.C_alloc ?_ _) | (with_reducible refine Kd.C_drewN ?_ _) | (with_reducible refine Kd.C_drew ?_) | exact HR314.out)) | (with_reducible refine Kd.C_alloc ?_ _) | (with_reducible refine Kd.C_drewN ?_ _) | (with_reducible refine Kd.C_drew ?_))); (case side2 => exact HC314.out); (case side3 => repeat (first | exact (Kd.R_reads' HO_7.out).2.2 | (with_reducible refine Kd.C_alloc ?_ _) | (with_reducible refine Kd.C_drewN ?_ _) | (with_reducible refine Kd.C_drew ?_))); (case side4 => exact (Kd.R_reads' HO_7.out).2.1); rintro e w' ⟨rfl, ⟨nd, rfl⟩⟩; refine ⟨_, rfl, ?_⟩; have p316 : 0 ≤ ((l0.length : Int) : Int) := of_decide_eq_true (by first | (with_reducible assumption) | assumption); have q316 : (l0.length : Int) < (x5_1.length : Int) := of_decide_eq_true (by first | (with_reducible assumption) | assumption); obtain ⟨ad316, e316, hx316_0⟩ := Kd.at_int (Kd.R_reads' HO_5.out).2.2 (l0.length : Int) p316 q316; cases e316; (try simp only [Go.IntWalk.toNatUp] at hx316_0); replace p316 := eq_true p316; replace q316 := eq_true q316; have p317 : 0 ≤ ((ji109) : Int) := of_decide_eq_true (by first | (with_reducible assumption) | assumption); have q317 : (ji109) < (x5_1.length : Int) := of_decide_eq_true (by first | (with_reducible assumption) | assumption); obtain ⟨ad317, e317, hx317_0⟩ := Kd.at_int (Kd.R_reads' HO_5.out).2.2 (ji109) p317 q317; obtain rfl : ad316 = ad317 := (by injection e317); replace p317 := eq_true p317; replace q317 := eq_true q317))
                                        go_meet
                                        case rel => exact ⟨_, (((rd x5_1 (ji109)) != 72)), (by first | rfl | (simp; done) | (simp only [← hji109] <;> (first | rfl | simp)) | (simp [*]; done)), H', ⟨by have := HK1.out; have := HJ27.out; first | omega | exact Nat.le_refl _⟩, ⟨by (with_reducible repeat (first | apply Kd.R_alloc | apply Kd.R_drewN | apply Kd.R_drew)); exact Kd.R_mono HO_5.out (fun _ hk => trivial)⟩, ⟨by repeat (first | (with_reducible first | exact HB.out | apply below_alloc | apply pw_below_drewN | apply below_drew1) | exact HB.out)⟩⟩
                                      · rw [if_neg c111] at H
                                        exact absurd H (by simp)
                                    · rw [if_neg c110] at H
                                      exact absurd H (by simp)
                                  · rw [if_neg c108] at H
                                    have c108b0 : ((rd x5_1 (l0.length : Int)) == 71) = false := beq_eq_false_iff_ne.mpr c108
                                    have c108b1 : ((rd x5_1 (l0.length : Int)) != 71) = true := bne_iff_ne.mpr c108
                                    have H' := Aside0.mk H
                                    clear H
                                    (try clear hcut31)
                                    (try clear hcut38)
                                    (try clear hcut40)
                                    (try clear hcut42)
                                    (try clear hcut51)
                                    (try clear hcut59)
                                    (try clear hcut74)
                                    (try clear hcut83)
                                    (try clear hcut92)
                                    (try clear hcut95)
                                    (try clear hcut98)
                                    (try clear hcut112)
                                    have q113 : ((l0.length : Int) : Int) ≤ ((x5_1.length : Int) : Int) := of_decide_eq_true (by first | (with_reducible assumption) | assumption)
                                    obtain ⟨i0113, hi0113, _, hsz113, _⟩ := info_parts info2
                                    have hroom113 : x5_1.length ≤ co32 := (Kd.R_reads' HO_5.out).2.1
                                    have hC113 : Kd.C (Kd.int .i64) _ Ao32 x5_1.length x5_1 := (Kd.R_reads' HO_5.out).2.2
                                    have hcut113 := cut_to (P := Try.prog) 29 2 .i64 Try.underlying29 hi0113 Ao32 x5_1.length co32 (l0.length : Int) (of_decide_eq_true (by first | (with_reducible assumption) | assumption)) q113 hroom113
                                    have hr113 := Kd.C_take (m := ((l0.length : Int) : Int).toNat) hC113 (by omega)
                                    have hy113 : y311.length = ((l0.length : Int) : Int).toNat := (by rw [Ny311.out, List.length_take]; omega)
                                    rw [← Ny311.out] at hr113
                                    rw [← hy113] at hcut113
                                    have HR314 := Aside0.mk hr113
                                    have HC314 := Aside0.mk (show y311.length ≤ co32 from by omega)
                                    clear hr113 hC113 hroom113 hi0113 hsz113
                                    have KY113 := Aside0.mk hy113
                                    clear hy113
                                    have KL113 := Aside0.mk (show ((l0.length : Int) : Int).toNat ≤ x5_1.length from by omega)
                                    replace q113 := eq_true q113
                                    go_wp2_with (first | ((with_reducible refine gate_callee (f := 19) rfl ?_); refine goesL_ (some 128) rfl rfl Try.func19 (by kernel_rfl) rfl #[.slice Ao32 y311.length co32, .slice Ao34 y268.length co34] rfl (by (try simp only [List.map_toArray, List.map_cons, List.map_nil]); first | done | rfl | (simp only [List.length_drop, List.length_take]; rfl)) ?_; (with_reducible refine (colonnaderef08_SameInts.calls kj27 _ _ y311 _ _ y268 true _ ?side1 ?side2 ?side3 ?side4 A105.out).mono ?_); (case side1 => repeat (first | exact (by repeat (first | (with_reducible exact HR314.out) | (with_reducible refine Kd.C_alloc ?_ _) | (with_reducible refine Kd.C_drewN ?_ _) | (with_reducible refine Kd.C_drew ?_) | exact HR314.out)) | (with_reducible refine Kd.C_alloc ?_ _) | (with_reducible refine Kd.C_drewN ?_ _) | (with_reducible refine Kd.C_drew ?_))); (case side2 => exact HC314.out); (case side3 => repeat (first | exact (Kd.R_reads' HO_7.out).2.2 | (with_reducible refine Kd.C_alloc ?_ _) | (with_reducible refine Kd.C_drewN ?_ _) | (with_reducible refine Kd.C_drew ?_))); (case side4 => exact (Kd.R_reads' HO_7.out).2.1); rintro e w' ⟨rfl, ⟨nd, rfl⟩⟩; refine ⟨_, rfl, ?_⟩; have p316 : 0 ≤ ((l0.length : Int) : Int) := of_decide_eq_true (by first | (with_reducible assumption) | assumption); have q316 : (l0.length : Int) < (x5_1.length : Int) := of_decide_eq_true (by first | (with_reducible assumption) | assumption); obtain ⟨ad316, e316, hx316_0⟩ := Kd.at_int (Kd.R_reads' HO_5.out).2.2 (l0.length : Int) p316 q316; cases e316; (try simp only [Go.IntWalk.toNatUp] at hx316_0); replace p316 := eq_true p316; replace q316 := eq_true q316))
                                    go_meet
                                    case rel => exact ⟨_, (true), (by first | rfl | (simp; done) | (simp [*]; done)), H', ⟨by have := HK1.out; have := HJ27.out; first | omega | exact Nat.le_refl _⟩, ⟨by (with_reducible repeat (first | apply Kd.R_alloc | apply Kd.R_drewN | apply Kd.R_drew)); exact Kd.R_mono HO_5.out (fun _ hk => trivial)⟩, ⟨by repeat (first | (with_reducible first | exact HB.out | apply below_alloc | apply pw_below_drewN | apply below_drew1) | exact HB.out)⟩⟩
                                · rw [if_neg c107] at H
                                  exact absurd H (by simp)
                              · replace c106 := Bool.eq_false_iff.mpr c106
                                subst c106
                                have H1 : (colonnadelaw11_FramePuts.j2 kj27 l0 a1 x5_1 x6_1 true) = some r := by rw [if_neg (show ¬ (false = true) by decide)] at H; exact H
                                clear H
                                have H := H1
                                clear H1
                                have H' := Aside0.mk H
                                clear H
                                (try clear hcut31)
                                (try clear hcut38)
                                (try clear hcut40)
                                (try clear hcut42)
                                (try clear hcut51)
                                (try clear hcut59)
                                (try clear hcut74)
                                (try clear hcut83)
                                (try clear hcut92)
                                (try clear hcut95)
                                (try clear hcut98)
                                (try clear hcut112)
                                (try clear hcut113)
                                have q114 : ((l0.length : Int) : Int) ≤ ((x5_1.length : Int) : Int) := of_decide_eq_true (by first | (with_reducible assumption) | assumption)
                                obtain ⟨i0114, hi0114, _, hsz114, _⟩ := info_parts info2
                                have hroom114 : x5_1.length ≤ co32 := (Kd.R_reads' HO_5.out).2.1
                                have hC114 : Kd.C (Kd.int .i64) _ Ao32 x5_1.length x5_1 := (Kd.R_reads' HO_5.out).2.2
                                have hcut114 := cut_to (P := Try.prog) 29 2 .i64 Try.underlying29 hi0114 Ao32 x5_1.length co32 (l0.length : Int) (of_decide_eq_true (by first | (with_reducible assumption) | assumption)) q114 hroom114
                                have hr114 := Kd.C_take (m := ((l0.length : Int) : Int).toNat) hC114 (by omega)
                                have hy114 : y311.length = ((l0.length : Int) : Int).toNat := (by rw [Ny311.out, List.length_take]; omega)
                                rw [← Ny311.out] at hr114
                                rw [← hy114] at hcut114
                                have HR314 := Aside0.mk hr114
                                have HC314 := Aside0.mk (show y311.length ≤ co32 from by omega)
                                clear hr114 hC114 hroom114 hi0114 hsz114
                                have KY114 := Aside0.mk hy114
                                clear hy114
                                have KL114 := Aside0.mk (show ((l0.length : Int) : Int).toNat ≤ x5_1.length from by omega)
                                replace q114 := eq_true q114
                                go_wp2_with (first | ((with_reducible refine gate_callee (f := 19) rfl ?_); refine goesL_ (some 128) rfl rfl Try.func19 (by kernel_rfl) rfl #[.slice Ao32 y311.length co32, .slice Ao34 y268.length co34] rfl (by (try simp only [List.map_toArray, List.map_cons, List.map_nil]); first | done | rfl | (simp only [List.length_drop, List.length_take]; rfl)) ?_; (with_reducible refine (colonnaderef08_SameInts.calls kj27 _ _ y311 _ _ y268 false _ ?side1 ?side2 ?side3 ?side4 A105.out).mono ?_); (case side1 => repeat (first | exact (by repeat (first | (with_reducible exact HR314.out) | (with_reducible refine Kd.C_alloc ?_ _) | (with_reducible refine Kd.C_drewN ?_ _) | (with_reducible refine Kd.C_drew ?_) | exact HR314.out)) | (with_reducible refine Kd.C_alloc ?_ _) | (with_reducible refine Kd.C_drewN ?_ _) | (with_reducible refine Kd.C_drew ?_))); (case side2 => exact HC314.out); (case side3 => repeat (first | exact (Kd.R_reads' HO_7.out).2.2 | (with_reducible refine Kd.C_alloc ?_ _) | (with_reducible refine Kd.C_drewN ?_ _) | (with_reducible refine Kd.C_drew ?_))); (case side4 => exact (Kd.R_reads' HO_7.out).2.1); rintro e w' ⟨rfl, ⟨nd, rfl⟩⟩; refine ⟨_, rfl, ?_⟩))
                                go_meet
                                case rel => exact ⟨_, (true), (by first | rfl | (simp; done) | (simp [*]; done)), H', ⟨by have := HK1.out; have := HJ27.out; first | omega | exact Nat.le_refl _⟩, ⟨by (with_reducible repeat (first | apply Kd.R_alloc | apply Kd.R_drewN | apply Kd.R_drew)); exact Kd.R_mono HO_5.out (fun _ hk => trivial)⟩, ⟨by repeat (first | (with_reducible first | exact HB.out | apply below_alloc | apply pw_below_drewN | apply below_drew1) | exact HB.out)⟩⟩
                            · rw [if_neg c104] at H
                              exact absurd H (by simp)
                          · rw [if_neg c103] at H
                            exact absurd H (by simp)
                        case rest =>
                          clear HC102
                          try clear c1
                          try clear q1
                          try clear c2
                          try clear p2
                          try clear c3
                          try clear p3
                          try clear q3
                          try clear hx3
                          try clear c4
                          try clear q4
                          try clear c5
                          try clear q5
                          try clear c6
                          try clear p6
                          try clear hcv6
                          try clear q7
                          try clear hcv7
                          try clear q8
                          try clear hcv8
                          try clear q9
                          try clear hcv9
                          try clear c10
                          try clear c11
                          try clear q11
                          try clear c12
                          try clear c12b0
                          try clear c13
                          try clear c13b0
                          try clear c13b1
                          try clear c14
                          try clear c14b0
                          try clear c14b1
                          try clear c15
                          try clear c19
                          try clear c19b0
                          try clear c20
                          try clear c20b0
                          try clear c22
                          try clear c22b0
                          try clear c23
                          try clear c23b0
                          try clear c25
                          try clear c25b0
                          try clear c26
                          try clear c26b0
                          try clear c27
                          try clear c28
                          try clear c29
                          try clear c30
                          try clear c31
                          try clear p31
                          try clear q31
                          try clear hx31
                          try clear c32
                          try clear q38
                          try clear q40
                          try clear q42
                          try clear c44
                          try clear c44b0
                          try clear c45
                          try clear c45b0
                          try clear c48
                          try clear c48b0
                          try clear c48b1
                          try clear c49
                          try clear c49b0
                          try clear c49b1
                          try clear c50
                          try clear c50b0
                          try clear c50b1
                          try clear c50b2
                          try clear q51
                          try clear c55
                          try clear c55b0
                          try clear c55b1
                          try clear c56
                          try clear c56b0
                          try clear c56b1
                          try clear c58
                          try clear c58b0
                          try clear c58b1
                          try clear q59
                          try clear hcv62
                          try clear hcv63
                          try clear p64
                          try clear hcv64
                          try clear hcv65
                          try clear hcv66
                          try clear hcv67
                          try clear hcv68
                          try clear hcv69
                          try clear hcv70
                          try clear hcv71
                          try clear hcv72
                          try clear hcv73
                          try clear q74
                          try clear hcv77
                          try clear hcv78
                          try clear hcv79
                          try clear hcv80
                          try clear hcv81
                          try clear hcv82
                          try clear q83
                          try clear hcv86
                          try clear hcv87
                          try clear hcv88
                          try clear hcv89
                          try clear hcv90
                          try clear hcv91
                          try clear q92
                          try clear q95
                          try clear q98
                          try clear c101
                          try clear c103
                          try clear c103b0
                          try clear c103b1
                          try clear c104
                          try clear c104b0
                          try clear c104b1
                          try clear c106
                          try clear c107
                          try clear c107b0
                          try clear c107b1
                          try clear c108
                          try clear c108b0
                          try clear c108b1
                          try clear c110
                          try clear c110b0
                          try clear c111
                          try clear c111b0
                          try clear q112
                          try clear q113
                          try clear q114
                          try clear hx316_0
                          try clear hx317_0
                          try clear p2
                          try clear p316
                          try clear p317
                          try clear q112
                          try clear q113
                          try clear q114
                          try clear q3
                          try clear q31
                          try clear q316
                          try clear q317
                          try clear q38
                          try clear q4
                          try clear q40
                          try clear q42
                          try clear q5
                          try clear q51
                          try clear q59
                          try clear q7
                          try clear q74
                          try clear q8
                          try clear q83
                          try clear q9
                          try clear q92
                          try clear q95
                          try clear q98
                          obtain ⟨kq, x146_101, rfl, HA, HJ101, HO_5, HB⟩ := hcut
                          cases kq with
                          | zero => exact absurd HA.out (by simp [colonnadelaw11_FramePuts.j2])
                          | succ kj101 =>
                            have H := HA.out
                            clear HA
                            simp only [colonnadelaw11_FramePuts.j2] at H
                            by_cases c115 : x146_101 = true
                            · subst c115
                              have H1 : (some false) = some r := by rw [if_pos rfl] at H; exact H
                              clear H
                              have H := H1
                              clear H1
                              obtain rfl := Option.some.inj H
                              go_wp2
                              go_ret
                              exact ⟨by first | rfl | (simp [errW_none, errW_some] <;> rfl) | (simp [*, errW_none, errW_some] <;> rfl), by repeat (first | (with_reducible first | exact HB.out | apply below_alloc | apply pw_below_drewN | apply below_drew1) | exact HB.out)⟩
                            · replace c115 := Bool.eq_false_iff.mpr c115
                              subst c115
                              have H1 : (colonnadelaw11_FramePuts.l1 kj101 l0 a1 x5_1 x6_1 0) = some r := by rw [if_neg (show ¬ (false = true) by decide)] at H; exact H
                              clear H
                              have H := H1
                              clear H1
                              have H' := Aside0.mk H
                              clear H
                              go_wp2
                              go_loopg [20] kj101 (fun kq v20 w' => ∃ (x5_4 : List Int) (x20_4 : Int), v20 = .int .i64 x20_4 ∧ Aside0 (colonnadelaw11_FramePuts.l1 kq l0 a1 x5_4 x6_1 x20_4 = some r) ∧ Aside0 (kq ≤ kj101) ∧ Aside0 (Kd.R (Kd.int .i64) 2 w' w.heap.size (fun _ => True) (.slice Ao32 x5_1.length co32) x5_4) ∧ Aside0 (Below w.heap.size w w'))
                              case atStart => exact ⟨(x5_1), (0), (by first | rfl | (simp; done) | (simp [*]; done)), H', ⟨Nat.le_refl _⟩, ⟨by (with_reducible repeat (first | apply Kd.R_alloc | apply Kd.R_drewN | apply Kd.R_drew)); exact HO_5.out⟩, ⟨by repeat (first | (with_reducible first | exact HB.out | apply below_alloc | apply pw_below_drewN | apply below_drew1) | exact HB.out)⟩⟩
                              case round =>
                                clear H'
                                try clear c1
                                try clear q1
                                try clear c2
                                try clear p2
                                try clear c3
                                try clear p3
                                try clear q3
                                try clear hx3
                                try clear c4
                                try clear q4
                                try clear c5
                                try clear q5
                                try clear c6
                                try clear p6
                                try clear hcv6
                                try clear q7
                                try clear hcv7
                                try clear q8
                                try clear hcv8
                                try clear q9
                                try clear hcv9
                                try clear c10
                                try clear c11
                                try clear q11
                                try clear c12
                                try clear c12b0
                                try clear c13
                                try clear c13b0
                                try clear c13b1
                                try clear c14
                                try clear c14b0
                                try clear c14b1
                                try clear c15
                                try clear c19
                                try clear c19b0
                                try clear c20
                                try clear c20b0
                                try clear c22
                                try clear c22b0
                                try clear c23
                                try clear c23b0
                                try clear c25
                                try clear c25b0
                                try clear c26
                                try clear c26b0
                                try clear c27
                                try clear c28
                                try clear c29
                                try clear c30
                                try clear c31
                                try clear p31
                                try clear q31
                                try clear hx31
                                try clear c32
                                try clear q38
                                try clear q40
                                try clear q42
                                try clear c44
                                try clear c44b0
                                try clear c45
                                try clear c45b0
                                try clear c48
                                try clear c48b0
                                try clear c48b1
                                try clear c49
                                try clear c49b0
                                try clear c49b1
                                try clear c50
                                try clear c50b0
                                try clear c50b1
                                try clear c50b2
                                try clear q51
                                try clear c55
                                try clear c55b0
                                try clear c55b1
                                try clear c56
                                try clear c56b0
                                try clear c56b1
                                try clear c58
                                try clear c58b0
                                try clear c58b1
                                try clear q59
                                try clear hcv62
                                try clear hcv63
                                try clear p64
                                try clear hcv64
                                try clear hcv65
                                try clear hcv66
                                try clear hcv67
                                try clear hcv68
                                try clear hcv69
                                try clear hcv70
                                try clear hcv71
                                try clear hcv72
                                try clear hcv73
                                try clear q74
                                try clear hcv77
                                try clear hcv78
                                try clear hcv79
                                try clear hcv80
                                try clear hcv81
                                try clear hcv82
                                try clear q83
                                try clear hcv86
                                try clear hcv87
                                try clear hcv88
                                try clear hcv89
                                try clear hcv90
                                try clear hcv91
                                try clear q92
                                try clear q95
                                try clear q98
                                try clear c101
                                try clear c103
                                try clear c103b0
                                try clear c103b1
                                try clear c104
                                try clear c104b0
                                try clear c104b1
                                try clear c106
                                try clear c107
                                try clear c107b0
                                try clear c107b1
                                try clear c108
                                try clear c108b0
                                try clear c108b1
                                try clear c110
                                try clear c110b0
                                try clear c111
                                try clear c111b0
                                try clear q112
                                try clear q113
                                try clear q114
                                try clear c115
                                try clear hx316_0
                                try clear hx317_0
                                try clear p2
                                try clear p3
                                try clear p31
                                try clear p316
                                try clear p317
                                try clear p6
                                try clear p64
                                try clear q1
                                try clear q11
                                try clear q112
                                try clear q113
                                try clear q114
                                try clear q3
                                try clear q31
                                try clear q316
                                try clear q317
                                try clear q38
                                try clear q4
                                try clear q40
                                try clear q42
                                try clear q5
                                try clear q51
                                try clear q59
                                try clear q7
                                try clear q74
                                try clear q8
                                try clear q83
                                try clear q9
                                try clear q92
                                try clear q95
                                try clear q98
                                obtain ⟨x5_4, x20_4, rfl, HA, HK4, HO_5, HB⟩ := hrel
                                have hl5_4 := (Kd.R_reads' HO_5.out).1
                                rw [hl5_4] at HO_5
                                (try simp only [hl5_4])
                                cases gk with
                                | zero => exact absurd HA.out (by simp [colonnadelaw11_FramePuts.l1])
                                | succ k4 =>
                                  have H := HA.out
                                  clear HA
                                  simp only [colonnadelaw11_FramePuts.l1] at H
                                  by_cases c116 : x20_4 < (l0.length : Int)
                                  · rw [if_pos c116] at H
                                    have c116b0 : decide (x20_4 < (l0.length : Int)) = true := decide_eq_true c116
                                    clear c116
                                    (try (have c116k0 := c116b0; rw [hl5_4] at c116k0))
                                    (try (have c116k1 := c116b1; rw [hl5_4] at c116k1))
                                    (try (have c116k2 := c116b2; rw [hl5_4] at c116k2))
                                    (try (have c116k3 := c116b3; rw [hl5_4] at c116k3))
                                    by_cases c117 : 0 ≤ x20_4
                                    · rw [if_pos c117] at H
                                      have c117b0 : decide (0 ≤ x20_4) = true := decide_eq_true c117
                                      clear c117
                                      (try (have c117k0 := c117b0; rw [hl5_4] at c117k0))
                                      (try (have c117k1 := c117b1; rw [hl5_4] at c117k1))
                                      (try (have c117k2 := c117b2; rw [hl5_4] at c117k2))
                                      (try (have c117k3 := c117b3; rw [hl5_4] at c117k3))
                                      by_cases c118 : x20_4 < (x5_4.length : Int)
                                      · rw [if_pos c118] at H
                                        have c118b0 : decide (x20_4 < (x5_4.length : Int)) = true := decide_eq_true c118
                                        clear c118
                                        (try (have c118k0 := c118b0; rw [hl5_4] at c118k0))
                                        (try (have c118k1 := c118b1; rw [hl5_4] at c118k1))
                                        (try (have c118k2 := c118b2; rw [hl5_4] at c118k2))
                                        (try (have c118k3 := c118b3; rw [hl5_4] at c118k3))
                                        obtain ⟨y319, hy319⟩ : ∃ y_ : List Int, y_ = (x5_4.set (x20_4 : Int).toNat (Go.bits .xor .i64 (wrap64 (Int.tdiv (rd x5_4 x20_4) 8)) (Int.tmod x20_4 3))) := ⟨_, rfl⟩
                                        replace H : (if ((l0.length : Int) % 3) = 2 then (colonnadelaw11_FramePuts.l1 k4 l0 a1 (y319.set (x20_4 : Int).toNat (wrap64 (-(rd y319 x20_4)))) x6_1 (wrap64 (x20_4 + 1))) else (colonnadelaw11_FramePuts.l1 k4 l0 a1 y319 x6_1 (wrap64 (x20_4 + 1)))) = some r := by first | (rw [hy319]; with_reducible exact H) | (have H2_ := (Option.bind_some _ _).symm.trans H; rw [hy319]; with_reducible exact H2_) | (have H2_ := (Option.bind_some _ _).symm.trans H; with_reducible exact H2_) | with_reducible exact H | (rw [hy319]; exact H) | exact H
                                        have Ny319 := Aside0.mk hy319
                                        clear hy319
                                        by_cases c120 : ((l0.length : Int) % 3) = 2
                                        · rw [if_pos c120] at H
                                          have c120b0 : (((l0.length : Int) % 3) == 2) = true := beq_iff_eq.mpr c120
                                          have c120b1 : (((l0.length : Int) % 3) != 2) = false := bne_eq_false_iff_eq.mpr c120
                                          clear c120
                                          (try (have c120k0 := c120b0; rw [hl5_4] at c120k0))
                                          (try (have c120k1 := c120b1; rw [hl5_4] at c120k1))
                                          (try (have c120k2 := c120b2; rw [hl5_4] at c120k2))
                                          (try (have c120k3 := c120b3; rw [hl5_4] at c120k3))
                                          obtain ⟨y321, hy321⟩ : ∃ y_ : List Int, y_ = (y319.set (x20_4 : Int).toNat (wrap64 (-(rd y319 x20_4)))) := ⟨_, rfl⟩
                                          replace H : (colonnadelaw11_FramePuts.l1 k4 l0 a1 y321 x6_1 (wrap64 (x20_4 + 1))) = some r := by first | (rw [hy321]; with_reducible exact H) | (have H2_ := (Option.bind_some _ _).symm.trans H; rw [hy321]; with_reducible exact H2_) | (have H2_ := (Option.bind_some _ _).symm.trans H; with_reducible exact H2_) | with_reducible exact H | (rw [hy321]; exact H) | exact H
                                          have Ny321 := Aside0.mk hy321
                                          clear hy321
                                          have H' := Aside0.mk H
                                          clear H
                                          have p318 : 0 ≤ (x20_4 : Int) := of_decide_eq_true (by first | (with_reducible assumption) | assumption)
                                          have q318 : x20_4 < (x5_4.length : Int) := of_decide_eq_true (by first | (with_reducible assumption) | assumption)
                                          obtain ⟨ad318, e318, hx318_0⟩ := Kd.at_int (Kd.R_reads' HO_5.out).2.2 x20_4 p318 q318
                                          cases e318
                                          replace p318 := eq_true p318
                                          replace q318 := eq_true q318
                                          have p119 : 0 ≤ (x20_4 : Int) := of_decide_eq_true (by first | (with_reducible assumption) | assumption)
                                          have q119 : (x20_4 : Int) < ((x5_4.length : Int) : Int) := of_decide_eq_true (by first | (with_reducible assumption) | assumption)
                                          obtain ⟨go119, co119, eo119, gb119, gl119, cl119, HG119⟩ := Kd.R_form HO_5.out (by omega)
                                          (first | cases eo119 | (injection eo119 with ea_ en_ ec_; (first | subst ea_ | (injection ea_ with ea_; subst ea_)); subst ec_; clear en_))
                                          have GB119 := Aside0.mk gb119
                                          have GG119 := Aside0.mk HG119
                                          clear gb119 gl119 HG119
                                          (first | simp only [add_plain] at hx318_0 | skip)
                                          obtain ⟨hx119_0, hf119_0⟩ := Kd.R_celln 0 HO_5.out (x20_4 : Int) p119 q119
                                          replace p119 := eq_true p119
                                          replace q119 := eq_true q119
                                          have HP122 := Kd.R_putg HO_5.out (x20_4 : Int) (Go.bits .xor .i64 (wrap64 (Int.tdiv (rd x5_4 x20_4) 8)) (Int.tmod x20_4 3))
                                          go_wp2_with (first | ((with_reducible refine gate_store (t := 2) (p := 163) rfl ?_); refine store_event (t := 2) (p := 163) (v := ?vo_w123) (w1 := (wr.setCell ⟨go119, (x20_4 : Int).toNat, none⟩ (.int .i64 (Go.bits .xor .i64 (wrap64 (Int.tdiv (rd x5_4 x20_4) 8)) (Int.tmod x20_4 3))))) ?hg ?ho ?hn ?hr ?_; (case ho => rfl); (case hg => rfl); (case hn => rfl); (case hr => first | (go_simp; done) | (go_simp; rfl)); intro w123 hw; have hg : wr.grownBy w123 (some go119) := (by rw [hw]; exact HP122.2); have hp_ : Kd.R (Kd.int .i64) 2 w123 w.heap.size (fun _ => True) (.slice (some ⟨go119, 0, none⟩) x5_4.length co32) y319 := (by rw [hw, Ny319.out]; exact HP122.1); clear HP122; have n0_ := Aside0.mk (hp_); have n1_ := Aside0.mk ((by rw [hw]; exact below_set (HB.out) GB119.out : Below w.heap.size w w123)); clear HO_5; clear HB; have HO_5 := n0_; have HB := n1_; clear n0_ n1_; clear hg hw hp_; have p320 : 0 ≤ (x20_4 : Int) := of_decide_eq_true (by first | (with_reducible assumption) | assumption); have q320 : x20_4 < (y319.length : Int) := (by have h_ : (x20_4 : Int) < ((x5_4.length : Int) : Int) := of_decide_eq_true (by first | (with_reducible assumption) | assumption); first | (have e_ := (Kd.R_reads' HO_5.out).1; omega) | simpa only [Ny319.out, List.length_set] using h_); have ql320 : ((x20_4 : Int) < ((x5_4.length : Int) : Int)) = True := eq_true (of_decide_eq_true (by first | (with_reducible assumption) | assumption)); obtain ⟨ad320, e320, hx320_0⟩ := Kd.at_int (Kd.R_reads' HO_5.out).2.2 x20_4 p320 q320; obtain rfl : (⟨go119, 0, none⟩ : Addr) = ad320 := (by injection e320); (first | simp only [add_plain] at hx320_0 | simp only [add_at] at hx320_0 | simp only [Addr.add, Nat.zero_add] at hx320_0 | skip); replace p320 := eq_true p320; replace q320 := eq_true q320; have p121 : 0 ≤ (x20_4 : Int) := of_decide_eq_true (by first | (with_reducible assumption) | assumption); have q121 : (x20_4 : Int) < ((x5_4.length : Int) : Int) := of_decide_eq_true (by first | (with_reducible assumption) | assumption); obtain ⟨hx121_0, hf121_0⟩ := Kd.R_celln 0 HO_5.out (x20_4 : Int) p121 q121; replace p121 := eq_true p121; replace q121 := eq_true q121; obtain ⟨hy124_, hz124_⟩ := Kd.R_celln 0 HO_5.out (x20_4 : Int) (of_decide_eq_true (by first | (with_reducible assumption) | assumption)) (of_decide_eq_true (by first | (with_reducible assumption) | assumption)); have HP124 := Kd.R_putg HO_5.out (x20_4 : Int) (wrap64 (-(rd y319 x20_4)))) | ((with_reducible refine gate_store (t := 2) (p := 175) rfl ?_); refine store_event (t := 2) (p := 175) (v := ?vo_w125) (w1 := (w123.setCell ⟨go119, (x20_4 : Int).toNat, none⟩ (.int .i64 (wrap64 (-(rd y319 x20_4)))))) ?hg ?ho ?hn ?hr ?_; (case ho => rfl); (case hg => rfl); (case hn => rfl); (case hr => first | (go_simp; done) | (go_simp; rfl)); intro w125 hw; have hg : w123.grownBy w125 (some go119) := (by rw [hw]; exact HP124.2); have hp_ : Kd.R (Kd.int .i64) 2 w125 w.heap.size (fun _ => True) (.slice (some ⟨go119, 0, none⟩) x5_4.length co32) y321 := (by rw [hw, Ny321.out]; exact HP124.1); clear HP124; have n0_ := Aside0.mk (hp_); have n1_ := Aside0.mk ((by rw [hw]; exact below_set (HB.out) GB119.out : Below w.heap.size w w125)); clear HO_5; clear HB; have HO_5 := n0_; have HB := n1_; clear n0_ n1_; clear hg hw hp_))
                                          (try simp only [← hl5_4])
                                          go_roundg k4
                                          case measure => have := HK1.out; have := HJ27.out; have := HJ101.out; have := HK4.out; omega
                                          case rel => exact ⟨(y321), (wrap64 (x20_4 + 1)), (by first | rfl | (simp; done) | (simp [*]; done)), H', ⟨by have := HK1.out; have := HJ27.out; have := HJ101.out; have := HK4.out; omega⟩, ⟨by (try simp only [hl5_4]); (with_reducible repeat (first | apply Kd.R_alloc | apply Kd.R_drewN | apply Kd.R_drew)); exact HO_5.out⟩, ⟨by repeat (first | (with_reducible first | exact HB.out | apply below_alloc | apply pw_below_drewN | apply below_drew1) | exact HB.out)⟩⟩
                                        · rw [if_neg c120] at H
                                          have c120b0 : (((l0.length : Int) % 3) == 2) = false := beq_eq_false_iff_ne.mpr c120
                                          have c120b1 : (((l0.length : Int) % 3) != 2) = true := bne_iff_ne.mpr c120
                                          (try (have c120k0 := c120b0; rw [hl5_4] at c120k0))
                                          (try (have c120k1 := c120b1; rw [hl5_4] at c120k1))
                                          (try (have c120k2 := c120b2; rw [hl5_4] at c120k2))
                                          (try (have c120k3 := c120b3; rw [hl5_4] at c120k3))
                                          have H' := Aside0.mk H
                                          clear H
                                          have p318 : 0 ≤ (x20_4 : Int) := of_decide_eq_true (by first | (with_reducible assumption) | assumption)
                                          have q318 : x20_4 < (x5_4.length : Int) := of_decide_eq_true (by first | (with_reducible assumption) | assumption)
                                          obtain ⟨ad318, e318, hx318_0⟩ := Kd.at_int (Kd.R_reads' HO_5.out).2.2 x20_4 p318 q318
                                          cases e318
                                          replace p318 := eq_true p318
                                          replace q318 := eq_true q318
                                          have p119 : 0 ≤ (x20_4 : Int) := of_decide_eq_true (by first | (with_reducible assumption) | assumption)
                                          have q119 : (x20_4 : Int) < ((x5_4.length : Int) : Int) := of_decide_eq_true (by first | (with_reducible assumption) | assumption)
                                          obtain ⟨go119, co119, eo119, gb119, gl119, cl119, HG119⟩ := Kd.R_form HO_5.out (by omega)
                                          (first | cases eo119 | (injection eo119 with ea_ en_ ec_; (first | subst ea_ | (injection ea_ with ea_; subst ea_)); subst ec_; clear en_))
                                          have GB119 := Aside0.mk gb119
                                          have GG119 := Aside0.mk HG119
                                          clear gb119 gl119 HG119
                                          (first | simp only [add_plain] at hx318_0 | skip)
                                          obtain ⟨hx119_0, hf119_0⟩ := Kd.R_celln 0 HO_5.out (x20_4 : Int) p119 q119
                                          replace p119 := eq_true p119
                                          replace q119 := eq_true q119
                                          have HP126 := Kd.R_putg HO_5.out (x20_4 : Int) (Go.bits .xor .i64 (wrap64 (Int.tdiv (rd x5_4 x20_4) 8)) (Int.tmod x20_4 3))
                                          go_wp2_with (first | ((with_reducible refine gate_store (t := 2) (p := 163) rfl ?_); refine store_event (t := 2) (p := 163) (v := ?vo_w127) (w1 := (wr.setCell ⟨go119, (x20_4 : Int).toNat, none⟩ (.int .i64 (Go.bits .xor .i64 (wrap64 (Int.tdiv (rd x5_4 x20_4) 8)) (Int.tmod x20_4 3))))) ?hg ?ho ?hn ?hr ?_; (case ho => rfl); (case hg => rfl); (case hn => rfl); (case hr => first | (go_simp; done) | (go_simp; rfl)); intro w127 hw; have hg : wr.grownBy w127 (some go119) := (by rw [hw]; exact HP126.2); have hp_ : Kd.R (Kd.int .i64) 2 w127 w.heap.size (fun _ => True) (.slice (some ⟨go119, 0, none⟩) x5_4.length co32) y319 := (by rw [hw, Ny319.out]; exact HP126.1); clear HP126; have n0_ := Aside0.mk (hp_); have n1_ := Aside0.mk ((by rw [hw]; exact below_set (HB.out) GB119.out : Below w.heap.size w w127)); clear HO_5; clear HB; have HO_5 := n0_; have HB := n1_; clear n0_ n1_; clear hg hw hp_))
                                          (try simp only [← hl5_4])
                                          go_roundg k4
                                          case measure => have := HK1.out; have := HJ27.out; have := HJ101.out; have := HK4.out; omega
                                          case rel => exact ⟨(y319), (wrap64 (x20_4 + 1)), (by first | rfl | (simp; done) | (simp [*]; done)), H', ⟨by have := HK1.out; have := HJ27.out; have := HJ101.out; have := HK4.out; omega⟩, ⟨by (try simp only [hl5_4]); (with_reducible repeat (first | apply Kd.R_alloc | apply Kd.R_drewN | apply Kd.R_drew)); exact HO_5.out⟩, ⟨by repeat (first | (with_reducible first | exact HB.out | apply below_alloc | apply pw_below_drewN | apply below_drew1) | exact HB.out)⟩⟩
                                      · rw [if_neg c118] at H
                                        exact absurd H (by simp)
                                    · rw [if_neg c117] at H
                                      exact absurd H (by simp)
                                  · rw [if_neg c116] at H
                                    have c116b0 : decide (x20_4 < (l0.length : Int)) = false := decide_eq_false c116
                                    clear c116
                                    (try (have c116k0 := c116b0; rw [hl5_4] at c116k0))
                                    (try (have c116k1 := c116b1; rw [hl5_4] at c116k1))
                                    (try (have c116k2 := c116b2; rw [hl5_4] at c116k2))
                                    (try (have c116k3 := c116b3; rw [hl5_4] at c116k3))
                                    have H' := Aside0.mk H
                                    clear H
                                    go_wp2
                                    (try simp only [← hl5_4])
                                    go_roundg k4
                                    case measure => have := HK1.out; have := HJ27.out; have := HJ101.out; have := HK4.out; omega
                                    case rel => exact ⟨(x5_4), (wrap64 (x6_1 + 1)), (by first | rfl | (simp; done) | (simp [*]; done)), H', ⟨by have := HK1.out; have := HJ27.out; have := HJ101.out; have := HK4.out; omega⟩, ⟨by (try simp only [hl5_4]); (with_reducible repeat (first | apply Kd.R_alloc | apply Kd.R_drewN | apply Kd.R_drew)); exact HO_5.out⟩, ⟨by repeat (first | (with_reducible first | exact HB.out | apply below_alloc | apply pw_below_drewN | apply below_drew1) | exact HB.out)⟩⟩
                · rw [if_neg c15] at H
                  exact absurd H (by simp)
              · rw [if_neg c14] at H
                exact absurd H (by simp)
            · rw [if_neg c13] at H
              exact absurd H (by simp)
          · rw [if_neg c12] at H
            have c12b0 : decide (x6_1 < 2) = false := decide_eq_false c12
            clear c12
            obtain rfl := Option.some.inj H
            go_wp2
            go_ret
            exact ⟨by first | rfl | (simp [errW_none, errW_some] <;> rfl) | (simp [*, errW_none, errW_some] <;> rfl), by repeat (first | (with_reducible first | exact HB.out | apply below_alloc | apply pw_below_drewN | apply below_drew1) | exact HB.out)⟩
    · rw [if_neg c4] at H
      exact absurd H (by simp)
  · rw [if_neg c3] at H
    exact absurd H (by simp)

/-- THE ONE PURE STATEMENT of colonnadelaw11_FramePuts: yours. -/
def colonnadelaw11_FramePuts.Pure : Prop := ∀ (l0 : List Int) (a1 : Int), l0.length ≤ maxLen → l0.length * 8 ≤ 140737488351232 → (∀ x ∈ l0, (Lit.int .i64 x).wf = true) → (Lit.int .i64 a1).wf = true → ∃ k, colonnadelaw11_FramePuts.f k l0 a1 = some true
theorem colonnadelaw11_FramePuts.walk (P : colonnadelaw11_FramePuts.Pure) (a0 : Option Addr) (len0 cap0 : Nat) (z0 : List Int) (a1 : Int) (w : World) (w0 : (a0 = none ∧ len0 = 0 ∧ cap0 = 0 ∧ z0 = []) ∨ ∃ x, a0 = some x ∧ len0 ≤ cap0 ∧ cap0 ≤ maxLen ∧ z0.length = cap0 ∧ (∀ i, i < z0.length → w.cell? (x.add i) = some (.int .i64 (z0.getD i 0))) ∧ ∀ n ∈ z0, (Lit.int .i64 n).wf = true) (y0 : len0 * 8 ≤ 140737488351232) (w1 : (Lit.int .i64 a1).wf = true) :
    Calls Try.prog 6 #[.slice a0 len0 cap0, .int .i64 a1] w fun e w' => e = .returned (.bool true) ∧ Below w.heap.size w w' := by
  obtain ⟨l0, rfl, hr0, hm0, hw0, hc0⟩ := ReadsInt.ofRowC w0
  obtain ⟨k, h⟩ := P l0 a1 hm0 y0 hw0 w1
  refine (colonnadelaw11_FramePuts.calls k _ _ l0 a1 true w (Kd.C_of_reads (d := (0 : Int)) (h1 := fun _ => rfl) hr0) hc0 h).mono ?_
  rintro e w' ⟨rfl, hd⟩
  exact ⟨rfl, hd⟩

end Go.Proofs.Ythfgelbbcdgopaa.S
