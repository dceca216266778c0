/- Seat lanes: the law of widths. -/
import Derived.Test.YtffakcgcemaokaaZL
namespace Go.Ax
open Go.Proofs
set_option linter.unusedVariables false
set_option linter.unusedSimpArgs false

theorem list_agg (vL vOf : Value) (width : Int) (c lo hi : BitVec 64) : (#[vL, .int .i64 width, .int .u64 (wi c), .int .u64 (wi lo), .int .u64 (wi hi), vOf] : Array Value) = (listC vL vOf width c lo hi).toArray := rfl

theorem widths_spec {h : Heap} {vL vOf : Value} {cs os : List (BitVec 64)} (rL : ArgS h vL (cs.map wv)) (rO : ArgS h vOf (os.map wv)) (hcs : cs.length * 8 ≤ 140737488351232) (hos : os.length * 8 ≤ 140737488351232) (width more : Int) (c lo hi : BitVec 64) :
    Gives P T (.fn F_colonnadelaw03_LanesWidths) [.agg (listC vL vOf width c lo hi).toArray, .int .i64 more] h fun r _ => r = .bool true := by
  refine gives_by t_colonnadelaw03_LanesWidths (by simp [c_colonnadelaw03_LanesWidths]) fun Q hQ => ?_
  obtain ⟨w, hw⟩ : ∃ w : Nat, width % 65 = w := ⟨(width % 65).toNat, by have := Int.emod_nonneg width (show (65 : Int) ≠ 0 by omega); omega⟩
  have hw65 : w < 65 := by have := Int.emod_lt_of_pos width (show (0 : Int) < 65 by omega); omega
  simp [c_colonnadelaw03_LanesWidths]
  have gb := Grow.new h (listC vL vOf width c lo hi) 0
  have rb := RowAt.new h (listC vL vOf width c lo hi) 0
  refine got_call known_spec ?_
  rintro _ h2 ⟨rfl, g2⟩
  have r2 := rb.grow g2
  have l2 := loadN_row_all r2 (n := 6) rfl
  simp [l2]
  refine got_call (fit_spec ((rL.reads.grow gb).grow g2) hcs width c lo hi hw) ?_
  rintro _ h3 ⟨u, q, rfl, o3, g3, hq3⟩
  have r3 := r2.grow g3
  have O3 := ((rO.reads.grow gb).grow g2).grow g3
  obtain ⟨ds, hds⟩ : ∃ ds, cs.map (maskB w) = ds := ⟨_, rfl⟩
  have hfit : allFit ds w := by rw [← hds]; exact fit_all (by omega)
  rw [hds] at o3
  obtain ⟨n, hn⟩ : ∃ n, ds.length = n := ⟨_, rfl⟩
  have hul : ∀ h, lenR h u = some (.int .i64 n, h) := fun h => by
    obtain ⟨b, cc, e, _⟩ := o3.shape
    rw [e]; simp [hn]
  simp [hul]
  by_cases hlg : 16777216 < n
  · have : (16777216 : Int) < n := by omega
    simp [this]
    exact hQ _ _ rfl
  have hlg' : ¬ (16777216 : Int) < n := by omega
  -- the wider width
  have f1 : IntKind.i64.wrap (65 - (w : Int)) = ((65 - w : Nat) : Int) := by rw [wrap_i64 (by omega) (by omega)]; omega
  obtain ⟨d, hd⟩ : ∃ d, 65 - w = d := ⟨_, rfl⟩
  rw [hd] at f1
  have hd0 : ¬ (d : Int) = 0 := by omega
  have hd0' : ¬ d = 0 := by omega
  obtain ⟨t1, t2, t3⟩ := tmod_range more (n := d) (by omega)
  obtain ⟨tm, htm⟩ : ∃ z, more.tmod d = z := ⟨_, rfl⟩
  rw [htm] at t1 t2 t3
  have f2 : IntKind.i64.wrap (tm + 65) = tm + 65 := wrap_i64 (by omega) (by omega)
  have f3 : IntKind.i64.wrap (tm + 65 - (w : Int)) = tm + d := by rw [wrap_i64 (by omega) (by omega)]; omega
  obtain ⟨tp, htp⟩ : ∃ z : Nat, tm + d = z := ⟨(tm + d).toNat, by omega⟩
  rw [htp] at f3
  have f4 := tmod_nat tp d
  obtain ⟨dw, hdw⟩ : ∃ z, tp % d = z := ⟨_, rfl⟩
  have hdwlt : dw < d := by rw [← hdw]; exact Nat.mod_lt _ (by omega)
  rw [hdw] at f4
  have f5 : IntKind.i64.wrap ((w : Int) + dw) = ((w + dw : Nat) : Int) := by rw [wrap_i64 (by omega) (by omega)]; omega
  obtain ⟨w2, hw2⟩ : ∃ z, w + dw = z := ⟨_, rfl⟩
  rw [hw2] at f5
  have hfit2 : allFit ds w2 := allFit_mono hfit (by omega)
  simp [hlg', f1, hd0, hd0', htm, f2, f3, f4, f5]
  refine got_call (Pack_uint64_spec (cs := ds) (w := w) (wvkv ds ▸ o3.reads) (by omega) (by omega)) ?_
  rintro _ h4 ⟨g4, ⟨hnf, _⟩ | ⟨u4, q4, b4, _, rfl, o4, hq4, p4, _⟩⟩
  · exact absurd hfit hnf
  have r4 := r3.grow g4
  simp
  refine got_call (Pack_uint64_spec (cs := ds) (w := w2) (wvkv ds ▸ (o3.reads.grow g4)) (by omega) (by omega)) ?_
  rintro _ h5 ⟨g5, ⟨hnf, _⟩ | ⟨u5, q5, b5, _, rfl, o5, hq5, p5, _⟩⟩
  · exact absurd hfit2 hnf
  have r5 := r4.grow g5
  have B4 := o4.bytes.grow g5
  have B5 := o5.bytes
  have F4 := packs_fine p4 (by omega) (by omega : w ≤ 64)
  have F5 := packs_fine p5 (by omega) (by omega : w2 ≤ 64)
  rw [hn] at F4 F5
  have hlane : ∀ i, i < n → laneB b4 w i = laneB b5 w2 i := fun i hi => by rw [packs_lane p4 (by omega) hfit (by omega), packs_lane p5 (by omega) hfit2 (by omega)]
  simp
  refine go_loopK (fun k ks h6 => ∃ (op : Nat), k = 7 - op ∧ 1 ≤ op ∧ op ≤ 7 ∧ ks = [(2, .pointer (some ⟨h.dyn.length, 0, some 0⟩)), (6, .int .i64 w), (7, .int .i64 n), (8, .int .i64 w2), (9, u4), (11, u5), (13, .int .i64 op)] ∧ Grow h5 h6) (n := 6)
    ⟨1, rfl, by omega, by omega, rfl, Chg.refl _⟩ (by simp) ?_
  rintro I hI k ks e h6 ⟨op, rfl, ho1, ho7, rfl, g6⟩
  have r6 := r5.grow g6
  simp
  refine branch_dec (fun hlt => ?_) (fun hge => ?_)
  · have ho6 : op ≤ 6 := by omega
    have e4 : IntKind.i64.wrap ((op : Int) + 1) = ((op + 1 : Nat) : Int) := by rw [wrap_i64 (by omega) (by omega)]; omega
    have lc6 := r6.get (i := 2) (x := .int .u64 (wi c)) rfl
    simp [lc6]
    refine got_call (Test_spec (c := c) (op := op) (B4.grow g6) F4 (by omega) (by omega)) ?_
    rintro _ h7 ⟨p7, rfl, s7, g7⟩
    have lc7 := (r6.grow g7).get (i := 2) (x := .int .u64 (wi c)) rfl
    simp [lc7]
    refine got_call (Test_spec (c := c) (op := op) ((B5.grow g6).grow g7) F5 (by omega) (by omega)) ?_
    rintro _ h8 ⟨p8, rfl, s8, g8⟩
    simp
    refine got_call (same_says (s7.grow g8) s8 (fun i hi => by rw [hlane i hi])) ?_
    rintro _ _ ⟨rfl, rfl⟩
    simp [e4]
    exact ⟨7 - (op + 1), by omega, hI _ _ _ _ ⟨op + 1, rfl, by omega, by omega, rfl, (g6.trans g7).trans g8⟩ (by simp)⟩
  · have lo6 := r6.get (i := 5) (x := vOf) rfl
    simp [lo6]
    refine got_call (In_spec (B4.grow g6) (((O3.grow g4).grow g5).grow g6) F4 (by omega)) ?_
    rintro _ h7 ⟨p7, rfl, s7, g7⟩
    have lo7 := (r6.grow g7).get (i := 5) (x := vOf) rfl
    simp [lo7]
    refine got_call (In_spec ((B5.grow g6).grow g7) ((((O3.grow g4).grow g5).grow g6).grow g7) F5 (by omega)) ?_
    rintro _ h8 ⟨p8, rfl, s8, g8⟩
    have G8 := (g6.trans g7).trans g8
    simp
    refine got_call (Sum_spec (B4.grow G8) F4) ?_
    rintro _ _ ⟨rfl, rfl⟩
    rename_i h8
    simp
    refine got_call (Sum_spec (B5.grow G8) F5) ?_
    rintro _ _ ⟨rfl, rfl⟩
    rename_i h8
    rw [sum_congr hlane]
    simp
    refine got_call (Ends_spec (B4.grow G8) F4) ?_
    rintro _ _ ⟨rfl, rfl⟩
    rename_i h8
    rw [(ends_any (bs := b4)).1, (ends_any (bs := b4)).2, min_congr hlane, max_congr hlane]
    simp
    refine got_call (Ends_spec (B5.grow G8) F5) ?_
    rintro _ _ ⟨rfl, rfl⟩
    rename_i h8
    rw [(ends_any (bs := b5)).1, (ends_any (bs := b5)).2]
    simp
    refine got_call (same_says (s7.grow g8) s8 (fun i hi => by rw [hlane i hi])) ?_
    rintro _ _ ⟨rfl, rfl⟩
    simp
    exact hQ _ _ rfl

theorem widths_law {h : Heap} {vL vOf : Value} {cs os : List (BitVec 64)} {nL nO : Nat} (rL : ArgS h vL (cs.map wv)) (rO : ArgS h vOf (os.map wv)) (eL : cs.length = nL) (eO : os.length = nO) (yL : nL * 8 ≤ 140737488351232) (yO : nO * 8 ≤ 140737488351232) (width more : Int) {c lo hi : Int} (wc : (Lit.int .u64 c).wf = true) (wl : (Lit.int .u64 lo).wf = true) (wh : (Lit.int .u64 hi).wf = true) :
    Gives P T (.fn F_colonnadelaw03_LanesWidths) [.agg #[vL, .int .i64 width, .int .u64 c, .int .u64 lo, .int .u64 hi, vOf], .int .i64 more] h fun r _ => r = .bool true := by
  obtain ⟨c, rfl⟩ := u64_of wc
  obtain ⟨lo, rfl⟩ := u64_of wl
  obtain ⟨hi, rfl⟩ := u64_of wh
  exact widths_spec rL rO (by omega) (by omega) width more c lo hi

end Go.Ax
