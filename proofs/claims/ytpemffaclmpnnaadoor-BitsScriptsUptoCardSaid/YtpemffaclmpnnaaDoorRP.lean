/- Seat bits: the steps of a script, opened. -/
import Derived.Test.YtpemffaclmpnnaaDoorRL
import Derived.Test.YtpemffaclmpnnaaDoorMO
import Derived.Test.YtpemffaclmpnnaaDoorRows
import Derived.Test.YtpemffaclmpnnaaDoorTie
import Derived.ProofKit
namespace Go.Ax
open Go.Proofs Go.Proofs.YtpemffaclmpnnaaDoor
open Go.ChangeShapes Go.WideShapes Go.ChangeAt Go.RowKit
set_option linter.unusedVariables false
set_option linter.unusedSimpArgs false
set_option maxRecDepth 100000

theorem bulk_one {H : Type} (d : DataW H) : 1 ≤ Rows.uptoBulk d := by
  cases d with
  | lit l => cases l <;> simp [Rows.uptoBulk]
  | nil => simp [Rows.uptoBulk]
  | ptr d => simp [Rows.uptoBulk]
  | slice elems spare => simp [Rows.uptoBulk]
  | agg parts => simp [Rows.uptoBulk]
  | iface t d => simp [Rows.uptoBulk]
  | map entries => simp [Rows.uptoBulk]
  | held h => simp [Rows.uptoBulk]

theorem bulk_part {H : Type} {d : DataW H} {l : List (DataW H)} (h : d ∈ l) : Rows.uptoBulk d ≤ Rows.uptoBulkAll l := by
  induction l with
  | nil => cases h
  | cons x r ih =>
    simp only [Rows.uptoBulkAll]
    cases List.mem_cons.1 h with
    | inl e => subst e; omega
    | inr e => have := ih e; omega

theorem bulk_len {H : Type} (l : List (DataW H)) : l.length ≤ Rows.uptoBulkAll l := by
  induction l with
  | nil => simp
  | cons x r ih => have := bulk_one x; simp only [Rows.uptoBulkAll, List.length_cons]; omega

section
variable {H : Type} {enc : TypeId × Value → H} {P : Program} {W : World}

/-- A slice in a cell, opened. -/
theorem open_in {α : Type} (val : α → Value) (hp : ∀ a, plain (val a) = true) {t e : TypeId} {n : Nat} {c : Value} {y : DataW H × List MemPlace} (ht : P.underlying t = some (.slice e)) (hc : P.cellsOf e = 1)
    (one : ∀ n cs y, DataW.trod enc P W 0 (fun _ => true) true n e cs = some y → ∃ a, cs = [val a]) (hd : DataW.trod enc P W 0 (fun _ => true) true n t [c] = some y) (g : Nat → Nat → Option Value) :
    ∃ (x : Value) (zs : List α), absC c = some x ∧ (∀ h : Heap, h.ro = roBlk g (memW W) → Reads h x (zs.map val)) ∧ zs.length ≤ Rows.uptoBulk y.1 := by
  rcases DataW.trod_slice ht hd with ⟨h1, _⟩ | ⟨a, len, cap, elems, rest, m, _, h1, hy, _, hle, _, hlen, hel, _, _⟩
  · simp at h1
    subst h1
    exact ⟨.slice none 0 0, [], absC_plain (by rfl), fun h _ => .inl ⟨rfl, rfl⟩, by simp⟩
  · simp at h1
    subst h1
    by_cases h0 : len = 0
    · subst h0
      exact ⟨.slice (some ⟨0, 0, none⟩) 0 (gcap + 1), [], by simp [absC], fun h _ => .inr ⟨_, _, rfl, fun i x hx => by simp at hx⟩, by simp⟩
    · have each : ∀ i, i < len → ∃ z : α, W.cell? (a.add i) = some (val z) := by
        intro i hi
        have h2 := hel i hi
        rw [hc, Nat.mul_one, List.getElem?_eq_getElem (by omega), Option.bind_eq_some_iff] at h2
        obtain ⟨cs', hcs, hy⟩ := h2
        obtain ⟨z, rfl⟩ := one _ _ _ hy
        exact ⟨z, cell_of_cells?_one hcs⟩
      obtain ⟨zs, hz, hcell⟩ := pick_list len each
      have hs : a.spot = none := by
        obtain ⟨z, hz⟩ := each 0 (by omega)
        have : a.add 0 = a := by simp [Addr.add]
        rw [this] at hz
        unfold World.cell? at hz
        split at hz
        · split at hz
          · cases hz
          · rename_i k; cases hh : a.spot with
            | none => rfl
            | some _ => rw [hh] at k; simp at k
        · cases hz
      refine ⟨.slice (some (absA a)) len gcap, zs, by simp [absC, h0, hs, hle], fun h hh => .inr ⟨absA a, gcap, by simp [hz], fun i x hx => ?_⟩, ?_⟩
      · rw [List.getElem?_map, Option.map_eq_some_iff] at hx
        obtain ⟨z, hzi, rfl⟩ := hx
        obtain ⟨z', h3, h4⟩ := hcell i (by rw [← hz]; exact (List.getElem?_eq_some_iff.1 hzi).1)
        rw [hzi] at h3
        obtain rfl := Option.some.inj h3
        rw [addr_add a hs] at h4
        have := mem_get (g := g) hs h4 (absC_plain (hp z))
        simp [aadd, absA, hload, hh, enc2] at this ⊢
        exact this
      · rw [hy]
        simp only [Rows.uptoBulk]
        have := bulk_len (elems.map (·.1))
        simp only [List.length_map] at this
        omega

theorem take_get (cs : List Value) {i : Nat} (h : i < cs.length) : (cs.drop i).take 1 = [cs[i]] := by
  rw [List.drop_eq_getElem_cons h]; rfl

theorem map_wv (z : List (IntOf .u64)) : ∃ ws : List (BitVec 64), z.map IntOf.val = ws.map wv ∧ ws.length = z.length := ⟨_, words_of z, by simp⟩

end

section
variable {H : Type} {enc : TypeId × Value → H} {W : World}

theorem step_fs (i : Nat) (hi : i < 10) : ∃ f : Field, (match Tryd.prog.underlying 68 with | some (.struct fs) => fs[i]? | _ => none) = some f ∧ f.offset = i ∧ Tryd.prog.cellsOf f.type = 1 ∧ f.type = [3, 3, 3, 3, 3, 3, 4, 43, 22, 32][i]! := by
  rw [Tryd.underlying68]
  have h3 : Tryd.prog.cellsOf 3 = 1 := by kernel_rfl
  have h4 : Tryd.prog.cellsOf 4 = 1 := by kernel_rfl
  have h43 : Tryd.prog.cellsOf 43 = 1 := by kernel_rfl
  have h22 : Tryd.prog.cellsOf 22 = 1 := by kernel_rfl
  have h32 : Tryd.prog.cellsOf 32 = 1 := by kernel_rfl
  rcases i with _ | _ | _ | _ | _ | _ | _ | _ | _ | _ | i
  · exact ⟨_, rfl, rfl, h3, rfl⟩
  · exact ⟨_, rfl, rfl, h3, rfl⟩
  · exact ⟨_, rfl, rfl, h3, rfl⟩
  · exact ⟨_, rfl, rfl, h3, rfl⟩
  · exact ⟨_, rfl, rfl, h3, rfl⟩
  · exact ⟨_, rfl, rfl, h3, rfl⟩
  · exact ⟨_, rfl, rfl, h4, rfl⟩
  · exact ⟨_, rfl, rfl, h43, rfl⟩
  · exact ⟨_, rfl, rfl, h22, rfl⟩
  · exact ⟨_, rfl, rfl, h32, rfl⟩
  · omega

/-- A step, opened: what its cells hold. -/
theorem open_step {n : Nat} {cs : List Value} {y : DataW H × List MemPlace} (hd : DataW.trod enc Tryd.prog W 0 (fun _ => true) true n 68 cs = some y) (hb : Rows.uptoBulk y.1 ≤ 1048576) (g : Nat → Nat → Option Value) :
    ∃ s : StD, s.ok (roBlk g (memW W)) ∧ ∀ (j : Nat) (x : Value), s.cells[j]? = some x → ∃ c, cs[j]? = some c ∧ absC c = some x := by
  obtain ⟨xs, m, _, hy, hl, hxl, hel⟩ := DataW.trod_struct Tryd.underlying68 hd
  have cell : ∀ i, i < 10 → ∃ (c : Value) (z : DataW H × List MemPlace), cs[i]? = some c ∧ DataW.trod enc Tryd.prog W 0 (fun _ => true) true m ([3, 3, 3, 3, 3, 3, 4, 43, 22, 32][i]!) [c] = some z ∧ Rows.uptoBulk z.1 ≤ 1048576 := by
    intro i hi
    obtain ⟨f, h1, h2, h3, h4⟩ := step_fs i hi
    rw [Tryd.underlying68] at h1
    have h5 := hel i f h1
    rw [h2, h3, h4] at h5
    have hcl : cs.length = 10 := hl.trans (by kernel_rfl)
    have hxl' : xs.length = 10 := hxl
    have e2 : (cs.drop i).take 1 = [cs[i]] := take_get cs (by omega)
    rw [e2, List.getElem?_eq_getElem (by omega)] at h5
    refine ⟨cs[i], xs[i], List.getElem?_eq_getElem (by omega), h5, ?_⟩
    have : Rows.uptoBulk xs[i].1 ≤ Rows.uptoBulkAll (xs.map (·.1)) := bulk_part (List.mem_map.2 ⟨xs[i], List.getElem_mem _, rfl⟩)
    rw [hy] at hb
    simp only [Rows.uptoBulk] at hb
    omega
  have int : ∀ i, i < 6 → ∃ z : IntOf .i64, cs[i]? = some z.val := by
    intro i hi
    obtain ⟨c, z, h1, h2, _⟩ := cell i (by omega)
    have e : [3, 3, 3, 3, 3, 3, 4, 43, 22, 32][i]! = 3 := by rcases i with _ | _ | _ | _ | _ | _ | i <;> first | rfl | omega
    rw [e] at h2
    obtain ⟨a, ha⟩ := one_int Tryd.underlying3 _ _ _ h2
    simp at ha
    exact ⟨a, by rw [h1, ha]⟩
  obtain ⟨z0, i0⟩ := int 0 (by omega)
  obtain ⟨z1, i1⟩ := int 1 (by omega)
  obtain ⟨z2, i2⟩ := int 2 (by omega)
  obtain ⟨z3, i3⟩ := int 3 (by omega)
  obtain ⟨z4, i4⟩ := int 4 (by omega)
  obtain ⟨z5, i5⟩ := int 5 (by omega)
  obtain ⟨c6, y6, i6, t6, _⟩ := cell 6 (by omega)
  obtain ⟨c7, y7, i7, t7, b7⟩ := cell 7 (by omega)
  obtain ⟨c8, y8, i8, t8, b8⟩ := cell 8 (by omega)
  obtain ⟨c9, y9, i9, t9, b9⟩ := cell 9 (by omega)
  obtain ⟨o, ho⟩ := one_bool Tryd.underlying4 _ _ _ t6
  simp at ho
  subst ho
  obtain ⟨x7, z7, a7, r7, l7⟩ := open_in (IntOf.val (k := .u64)) (fun _ => rfl) Tryd.underlying43 (show Tryd.prog.cellsOf 77 = 1 by kernel_rfl) (one_int Tryd.underlying77) t7 g
  obtain ⟨x8, z8, a8, r8, l8⟩ := open_in Value.bool (fun _ => rfl) Tryd.underlying22 (show Tryd.prog.cellsOf 4 = 1 by kernel_rfl) (one_bool Tryd.underlying4) t8 g
  obtain ⟨x9, z9, a9, r9, l9⟩ := open_in (IntOf.val (k := .i64)) (fun _ => rfl) Tryd.underlying32 (show Tryd.prog.cellsOf 3 = 1 by kernel_rfl) (one_int Tryd.underlying3) t9 g
  obtain ⟨ws, hw, hwl⟩ := map_wv z7
  have rng : ∀ z : IntOf .i64, -9223372036854775808 ≤ z.1 ∧ z.1 < 9223372036854775808 := by
    rintro ⟨z, hz⟩
    simp [Lit.wf, IntKind.min, IntKind.max, IntKind.signed, IntKind.bits] at hz
    simp only
    omega
  refine ⟨⟨z0.1, z1.1, z2.1, z3.1, z4.1, z5.1, o, x7, x8, x9, ws, z8, z9.map (·.1)⟩, ⟨fun h hh => hw ▸ r7 h hh, r8, fun h hh => ?_, ?_, ?_, ?_, rng _, rng _⟩, fun j x hj => ?_⟩
  · have := r9 h hh
    rw [List.map_map]
    exact this
  · show ws.length ≤ _; omega
  · show z8.length ≤ _; omega
  · show (z9.map _).length ≤ _; rw [List.length_map]; omega
  · simp only [StD.cells] at hj
    rcases j with _ | _ | _ | _ | _ | _ | _ | _ | _ | _ | j
    · simp at hj; subst hj; exact ⟨_, i0, absC_plain rfl⟩
    · simp at hj; subst hj; exact ⟨_, i1, absC_plain rfl⟩
    · simp at hj; subst hj; exact ⟨_, i2, absC_plain rfl⟩
    · simp at hj; subst hj; exact ⟨_, i3, absC_plain rfl⟩
    · simp at hj; subst hj; exact ⟨_, i4, absC_plain rfl⟩
    · simp at hj; subst hj; exact ⟨_, i5, absC_plain rfl⟩
    · simp at hj; subst hj; exact ⟨_, i6, absC_plain rfl⟩
    · simp at hj; subst hj; exact ⟨_, i7, a7⟩
    · simp at hj; subst hj; exact ⟨_, i8, a8⟩
    · simp at hj; subst hj; exact ⟨_, i9, a9⟩
    · simp at hj

/-- A script, opened. -/
theorem open_script {v : Value} {base : Nat} {d : DataW H} {p : List MemPlace} (hval : Value.okWide Tryd.prog W .any base 58 v) (hd : DataW.Trod enc Tryd.prog W 0 (fun _ => true) true 58 v d p) (hb : Rows.uptoBulk d ≤ 1048576) (g : Nat → Nat → Option Value) :
    ∃ (b : Option Addr) (len cap : Nat) (stp : Nat → StD), v = .slice b len cap ∧ len ≤ 1048576 ∧ VRel (ghost0 AW) (argW b len) v ∧
      (∀ h : Heap, h.ro = roBlk g (memW W) → ∀ i, i < len → ∃ a, (match argW b len with | .slice b _ _ => b | _ => none) = some a ∧ loadN h (aadd a (i * 10)) 10 = some (stp i).cells) ∧ ∀ i, i < len → (stp i).ok (roBlk g (memW W)) := by
  obtain ⟨b, len, cap, rfl⟩ := okWide_slice Tryd.underlying58 hval
  obtain ⟨fuel, hf⟩ := hd
  have hc10 : Tryd.prog.cellsOf 68 = 10 := by kernel_rfl
  rcases DataW.trod_slice Tryd.underlying58 hf with ⟨h1, _⟩ | ⟨a, len', cap', elems, rest, n, _, h1, hx, _, hle, _, hlen, hel, _, _⟩
  · simp [Value.cells] at h1
    obtain ⟨rfl, rfl, rfl⟩ := h1
    exact ⟨none, 0, 0, fun _ => ⟨0, 0, 0, 0, 0, 0, false, .bool false, .bool false, .bool false, [], [], []⟩, rfl, by omega, .sliN 0 0, fun _ _ i hi => by omega, fun i hi => by omega⟩
  · simp [Value.cells] at h1
    obtain ⟨rfl, rfl, rfl⟩ := h1
    have hs : a.spot = none := by
      simp only [Value.okWide, Tryd.underlying58, Cell.okWide, Cell.ok] at hval
      exact hval.2.2.2.1
    obtain ⟨rfl, rfl⟩ := Prod.mk.inj hx
    simp only [Rows.uptoBulk] at hb
    have hln := bulk_len (elems.map (·.1))
    simp only [List.length_map] at hln
    have each : ∀ i, i < len → ∃ s : StD, s.ok (roBlk g (memW W)) ∧ ∀ (j : Nat) (x : Value), s.cells[j]? = some x → roBlk g (memW W) (absA a).block (i * 10 + j) = some x := by
      intro i hi
      have h2 := hel i hi
      rw [hc10, List.getElem?_eq_getElem (by omega), Option.bind_eq_some_iff] at h2
      obtain ⟨cs, hcs, hy⟩ := h2
      have hbi : Rows.uptoBulk elems[i].1 ≤ 1048576 := by
        have : Rows.uptoBulk elems[i].1 ≤ Rows.uptoBulkAll (elems.map (·.1)) := bulk_part (List.mem_map.2 ⟨elems[i], List.getElem_mem _, rfl⟩)
        omega
      obtain ⟨s, h3, h4⟩ := open_step hy hbi g
      refine ⟨s, h3, fun j x hj => ?_⟩
      obtain ⟨c, h5, h6⟩ := h4 j x hj
      have hj10 : j < 10 := by
        have := (List.getElem?_eq_some_iff.1 hj).1
        simpa [StD.cells] using this
      have h7 := (World.cells?_some hcs).2.2 j hj10
      rw [h5, addr_add_add a hs, addr_add a hs] at h7
      exact mem_get hs h7 h6
    obtain ⟨ss, hsl, hss⟩ := pick_list len each
    refine ⟨some a, len, cap, fun i => ss[i]?.getD ⟨0, 0, 0, 0, 0, 0, false, .bool false, .bool false, .bool false, [], [], []⟩, rfl, by omega, absS_rel hs hle, fun h hh i hi => ⟨absA a, rfl, ?_⟩, fun i hi => ?_⟩
    · obtain ⟨s, h1, h2, h3⟩ := hss i hi
      show _ = some (ss[i]?.getD _).cells
      rw [h1]
      show _ = some s.cells
      have get : ∀ j x, s.cells[j]? = some x → hload h ⟨(absA a).block, i * 10 + j, none⟩ = some x := by
        intro j x hj
        simp only [hload, hh]
        exact h3 j x hj
      simp only [absA] at get
      have g0 := get 0 _ rfl
      rw [Nat.add_zero] at g0
      simp [loadN, g0, aadd, absA, get 1 _ rfl, get 2 _ rfl, get 3 _ rfl, get 4 _ rfl, get 5 _ rfl, get 6 _ rfl, get 7 _ rfl, get 8 _ rfl, get 9 _ rfl, StD.cells]
    · obtain ⟨s, h1, h2, h3⟩ := hss i hi
      show (ss[i]?.getD _).ok _
      rw [h1]
      exact h2
end
end Go.Ax
