/- Seat bits: three, awake. -/
import Derived.Test.YtpemffaclmpnnaaDoorYF
import Derived.Test.YtpemffaclmpnnaaDoorYT
import Derived.Test.YtpemffaclmpnnaaDoorMH
namespace Go.Ax
set_option linter.unusedVariables false
set_option linter.unusedSimpArgs false
set_option maxRecDepth 1000000

theorem awake_run (L : Nat → Nat → Option Value) : (acallN P T 60 (.fn F_colonnadelaw01_awake) [] (heap0 (roBlk tabG L))).map (fun r => (r.1, r.2.ro)) = some (.bool true, roBlk tabG L) := by kernel_rfl

theorem awake_spec (L : Nat → Nat → Option Value) : Gives P T (.fn F_colonnadelaw01_awake) [] (heap0 (roBlk tabG L)) fun v h' => v = .bool true ∧ h'.ro = roBlk tabG L := by
  have h := awake_run L
  rw [Option.map_eq_some_iff] at h
  obtain ⟨r, h1, h2⟩ := h
  simp only [Prod.mk.injEq] at h2
  exact gives_closed h1 h2

theorem mm_min3 {h : Heap} {a b c : Int} : mmR P h false [.int .i64 a, .int .i64 b, .int .i64 c] = some (.int .i64 (min (min a b) c), h) := by
  have : pures P (Builtin.min_ #[] 0 #[.int .i64 a, .int .i64 b, .int .i64 c]) = some (.int .i64 (min (min a b) c)) := by
    have e : Builtin.min_ #[] 0 #[.int .i64 a, .int .i64 b, .int .i64 c] = Sem.pure (.int .i64 (min (min a b) c)) := by
      simp only [Builtin.min_, List.foldlM, Builtin.min2]
      show Sem.pure _ = Sem.pure _
      congr 2
      split <;> split <;> omega
    rw [e]; rfl
  simp [mmR, this, plain, plainN]

theorem three_spec {h : Heap} {v0 v1 v2 : Value} {a b c : List Bool} (r0 : ArgS h v0 (a.map .bool)) (r1 : ArgS h v1 (b.map .bool)) (r2 : ArgS h v2 (c.map .bool)) {n : Nat} (hn : min (min a.length b.length) c.length = n) (hb : n ≤ 16777216) :
    Gives P T (.fn F_colonnadelaw01_three) [v0, v1, v2] h fun v h' => ∃ p0 q0 w0 p1 q1 w1 p2 q2 w2, v = .tuple #[ptr p0, ptr p1, ptr p2] ∧ SetAt h' p0 q0 n w0 ∧ SetAt h' p1 q1 n w1 ∧ SetAt h' p2 q2 n w2 ∧ Canon n w0 ∧ Canon n w1 ∧ Canon n w2 ∧
      h'.ro = h.ro := by
  refine gives_by t_colonnadelaw01_three (by simp [c_colonnadelaw01_three]) fun Q hQ => ?_
  obtain ⟨b0, c0, e0, _⟩ := r0.reads.shape
  obtain ⟨b1, c1, e1, _⟩ := r1.reads.shape
  obtain ⟨b2, c2, e2, _⟩ := r2.reads.shape
  simp only [List.length_map] at e0 e1 e2
  obtain ⟨x0, k0, z0⟩ := r0.cut (n := n) (by rw [List.length_map]; omega)
  obtain ⟨x1, k1, z1⟩ := r1.cut (n := n) (by rw [List.length_map]; omega)
  obtain ⟨x2, k2, z2⟩ := r2.cut (n := n) (by rw [List.length_map]; omega)
  have hm : min (min (a.length : Int) b.length) c.length = n := by omega
  have n0 : (a.take n).length = n := by rw [List.length_take]; omega
  have n1 : (b.take n).length = n := by rw [List.length_take]; omega
  have n2 : (c.take n).length = n := by rw [List.length_take]; omega
  rw [← List.map_take] at x0 x1 x2
  have l0 : ∀ h, lenR h v0 = some (.int .i64 a.length, h) := fun h => by rw [e0]; rfl
  have l1 : ∀ h, lenR h v1 = some (.int .i64 b.length, h) := fun h => by rw [e1]; rfl
  have l2 : ∀ h, lenR h v2 = some (.int .i64 c.length, h) := fun h => by rw [e2]; rfl
  simp [c_colonnadelaw01_three, l0, l1, l2, mm_min3, hm, k0]
  refine got_call (Of_spec x0.reads (by omega)) ?_
  rintro _ h1 ⟨p0, q0, w0, rfl, s0, cn0, _, g0, _, _⟩
  rw [n0] at s0 cn0
  simp [k1, z1]
  refine got_call (Of_spec (x1.ro g0.ro).reads (by omega)) ?_
  rintro _ h2 ⟨p1, q1, w1, rfl, s1, cn1, _, g1, _, _⟩
  rw [n1] at s1 cn1
  simp [k2, z2]
  refine got_call (Of_spec (x2.ro (g1.ro.trans g0.ro)).reads (by omega)) ?_
  rintro _ h3 ⟨p2, q2, w2, rfl, s2, cn2, _, g2, _, _⟩
  rw [n2] at s2 cn2
  simp
  exact hQ _ _ ⟨p0, q0, w0, p1, q1, w1, p2, q2, w2, rfl, (s0.grow g1).grow g2, s1.grow g2, s2, cn0, cn1, cn2, g2.ro.trans (g1.ro.trans g0.ro)⟩

theorem three_big {h : Heap} {v0 v1 v2 : Value} {a b c : List Bool} (r0 : ArgS h v0 (a.map .bool)) (r1 : ArgS h v1 (b.map .bool)) (r2 : ArgS h v2 (c.map .bool)) {n : Nat} (hn : min (min a.length b.length) c.length = n) (hb : 16777216 < n) :
    Gives P T (.fn F_colonnadelaw01_three) [v0, v1, v2] h fun v h' => v = .tuple #[.pointer none, .pointer none, .pointer none] ∧ h' = h := by
  refine gives_by t_colonnadelaw01_three (by simp [c_colonnadelaw01_three]) fun Q hQ => ?_
  obtain ⟨b0, c0, e0, _⟩ := r0.reads.shape
  obtain ⟨b1, c1, e1, _⟩ := r1.reads.shape
  obtain ⟨b2, c2, e2, _⟩ := r2.reads.shape
  simp only [List.length_map] at e0 e1 e2
  obtain ⟨x0, k0, z0⟩ := r0.cut (n := n) (by rw [List.length_map]; omega)
  obtain ⟨x1, k1, z1⟩ := r1.cut (n := n) (by rw [List.length_map]; omega)
  obtain ⟨x2, k2, z2⟩ := r2.cut (n := n) (by rw [List.length_map]; omega)
  have hm : min (min (a.length : Int) b.length) c.length = n := by omega
  have n0 : (a.take n).length = n := by rw [List.length_take]; omega
  have n1 : (b.take n).length = n := by rw [List.length_take]; omega
  have n2 : (c.take n).length = n := by rw [List.length_take]; omega
  rw [← List.map_take] at x0 x1 x2
  have l0 : ∀ h, lenR h v0 = some (.int .i64 a.length, h) := fun h => by rw [e0]; rfl
  have l1 : ∀ h, lenR h v1 = some (.int .i64 b.length, h) := fun h => by rw [e1]; rfl
  have l2 : ∀ h, lenR h v2 = some (.int .i64 c.length, h) := fun h => by rw [e2]; rfl
  simp [c_colonnadelaw01_three, l0, l1, l2, mm_min3, hm, k0]
  refine got_call (Of_big x0.reads (by omega)) ?_
  rintro _ _ ⟨rfl, rfl⟩
  simp [k1, z1]
  refine got_call (Of_big x1.reads (by omega)) ?_
  rintro _ _ ⟨rfl, rfl⟩
  simp [k2, z2]
  refine got_call (Of_big x2.reads (by omega)) ?_
  rintro _ _ ⟨rfl, rfl⟩
  simp
  exact hQ _ _ ⟨rfl, rfl⟩
end Go.Ax
