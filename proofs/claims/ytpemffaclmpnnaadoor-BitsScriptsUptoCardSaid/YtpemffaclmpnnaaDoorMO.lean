/- An abstract machine for Go programs: structs that come in, opened. -/
import Derived.Test.YtpemffaclmpnnaaDoorMR
import Derived.Test.YtpemffaclmpnnaaDoorMQ
namespace Go.Ax
open Go.ChangeShapes Go.WideShapes Go.ChangeAt Go.RowKit
set_option linter.unusedVariables false
set_option linter.unusedSimpArgs false

/-- A word as a value. -/
abbrev wvA (x : BitVec 64) : Value := .int .u64 (wi x)

section
variable {H : Type} {enc : TypeId × Value → H} {P : Program} {W : World}

def notAgg (P : Program) (t : TypeId) : Bool :=
  match P.underlying t with
  | some (.struct _) | some (.array _ _) => false
  | _ => true

def fieldsOk (P : Program) (ts : List TypeId) (fs : List Field) : Nat → Bool
  | i => match fs with
    | [] => true
    | f :: r => f.offset == i && P.cellsOf f.type == 1 && ts[i]? == some f.type && notAgg P f.type && fieldsOk P ts r (i + 1)

theorem fieldsOk_get {ts : List TypeId} : ∀ {fs : List Field} {k : Nat}, fieldsOk P ts fs k = true → ∀ (i : Nat) (f : Field), fs[i]? = some f → f.offset = k + i ∧ P.cellsOf f.type = 1 ∧ ts[k + i]? = some f.type ∧ notAgg P f.type = true
  | [], _, _, i, f, hf => by simp at hf
  | g :: r, k, h, i, f, hf => by
    unfold fieldsOk at h
    simp only [Bool.and_eq_true, beq_iff_eq] at h
    obtain ⟨⟨⟨⟨h1, h2⟩, h3⟩, h4⟩, h5⟩ := h
    cases i with
    | zero => simp at hf; subst hf; exact ⟨h1, h2, h3, h4⟩
    | succ i =>
      have := fieldsOk_get h5 i f (by simpa using hf)
      rw [show k + (i + 1) = k + 1 + i by omega]
      exact this

theorem okWide_cell {r : Reach} {base : Nat} {t : TypeId} {v : Value} (h : notAgg P t = true) (hc : Cell.okWide P W r base t v) : Value.okWide P W r base t v := by
  unfold Value.okWide
  unfold notAgg at h
  split
  · rename_i e; rw [e] at h; cases h
  · rename_i e; rw [e] at h; cases h
  · exact hc

theorem open_struct {t : TypeId} {fs : Array Field} {base : Nat} {v : Value} {d : DataW H} {p : List MemPlace} (hu : P.underlying t = some (.struct fs)) {ts : List TypeId} (hts : P.cellTypes P.depth t = some ts)
    (hn : ts.length = fs.size) (hc : P.cellsOf t = fs.size) (hf : fieldsOk P ts fs.toList 0 = true) (hval : Value.okWide P W .any base t v) (hd : DataW.Trod enc P W 0 (fun _ => true) true t v d p) :
    ∃ (cs : List Value) (ds : List (DataW H)), v = .agg cs.toArray ∧ cs.length = fs.size ∧ d = .agg ds ∧ ds.length = fs.size ∧
      ∀ (i : Nat) (f : Field), fs[i]? = some f → ∃ c di pi n, cs[i]? = some c ∧ ds[i]? = some di ∧ Value.okWide P W .any base f.type c ∧ DataW.trod enc P W 0 (fun _ => true) true n f.type [c] = some (di, pi) := by
  have hval' := hval
  unfold Value.okWide at hval'
  rw [hu] at hval'
  obtain ⟨cs, rfl, hsz, ts', e1, _, hcell⟩ := hval'
  obtain rfl : ts = ts' := Option.some.inj (hts.symm.trans e1)
  obtain ⟨fuel, ht⟩ := hd
  obtain ⟨xs, n, _, hx, hl, hxl, hel⟩ := DataW.trod_struct hu ht
  obtain ⟨rfl, rfl⟩ := Prod.mk.inj hx
  refine ⟨cs.toList, xs.map (·.1), rfl, by rw [Array.length_toList, hsz, hc], rfl, by simpa using hxl, fun i f hif => ?_⟩
  obtain ⟨q1, q2, q3, q4⟩ := fieldsOk_get hf i f (by rw [← hif]; simp)
  simp only [Nat.zero_add] at q1 q3
  have hi : i < fs.size := by
    apply Classical.byContradiction
    intro h
    rw [Array.getElem?_eq_none (by omega)] at hif
    cases hif
  have hics : i < cs.size := by omega
  have h1 := hel i f hif
  rw [q1, q2] at h1
  have e2 : ((Value.agg cs).cells.toList.drop i).take 1 = [cs[i]] := by
    show (cs.toList.drop i).take 1 = _
    rw [List.drop_eq_getElem_cons (by simpa using hics)]; simp
  rw [e2] at h1
  have hxi : xs[i]? = some xs[i] := List.getElem?_eq_getElem (by omega)
  rw [hxi] at h1
  refine ⟨cs[i], xs[i].1, xs[i].2, n, by simp, by rw [List.getElem?_map, hxi]; rfl, okWide_cell q4 ?_, h1⟩
  obtain ⟨u, hu1, hu2⟩ := hcell i cs[i] (by simp)
  rw [Nat.mod_eq_of_lt (by omega), q3] at hu1
  obtain rfl := Option.some.inj hu1
  exact hu2

theorem trod_cell_slice {t e : TypeId} {r : Reach} {base b0 n : Nat} {sp : Nat → Bool} {held : Bool} {c : Value} {d : DataW H} {p : List MemPlace} (hu : P.underlying t = some (.slice e)) (ho : Value.okWide P W r base t c) (ht : DataW.trod enc P W b0 sp held n t [c] = some (d, p)) :
    DataW.Trod enc P W b0 sp held t c d p := by
  obtain ⟨a, l, cp, rfl⟩ := okWide_slice hu ho
  exact ⟨n, ht⟩

theorem list_of {α : Type} {l m : List α} {n : Nat} (hl : l.length = n) (hm : m.length = n) (h : ∀ i, i < n → l[i]? = m[i]?) : l = m := by
  apply List.ext_getElem?
  intro i
  by_cases hi : i < n
  · exact h i hi
  · rw [List.getElem?_eq_none (by omega), List.getElem?_eq_none (by omega)]

theorem weights_in {ts : List TypeId} {ds : List (DataW H)} {j : Nat} {t : TypeId} {fs : Array Field} {parts : List (DataW H)} {x : Nat} (ht : ts[j]? = some t) (hd : ds[j]? = some (.agg parts)) (hu : P.underlying t = some (.struct fs))
    (hx : x ∈ DataW.weightsEach P (fs.toList.map (·.type)) parts) : x ∈ DataW.weightsEach P ts ds :=
  DataW.weights_mem_each ht hd x (by simp only [DataW.weights, hu]; exact hx)

theorem bytes_of (z : List (IntOf .u8)) : z.map IntOf.val = (z.map fun a => BitVec.ofInt 8 a.1).map bv := by
  rw [List.map_map]
  apply List.map_congr_left
  intro a _
  obtain ⟨n, h⟩ := a
  simp [Lit.wf, IntKind.min, IntKind.max, IntKind.signed, IntKind.bits] at h
  show Value.int .u8 n = Value.int .u8 (bi (BitVec.ofInt 8 n))
  congr 1
  unfold bi
  rw [BitVec.toNat_ofInt]
  omega

theorem words_of (z : List (IntOf .u64)) : z.map IntOf.val = (z.map fun a => BitVec.ofInt 64 a.1).map wvA := by
  rw [List.map_map]
  apply List.map_congr_left
  intro a _
  obtain ⟨n, h⟩ := a
  simp [Lit.wf, IntKind.min, IntKind.max, IntKind.signed, IntKind.bits] at h
  show Value.int .u64 n = Value.int .u64 (wi (BitVec.ofInt 64 n))
  congr 1
  unfold wi
  rw [BitVec.toNat_ofInt]
  omega

theorem vrel_agg {g : Ghost} : ∀ {as cs : List Value}, LR g as cs → VRel g (.agg as.toArray) (.agg cs.toArray) := by
  intro as cs h
  refine .agg (by simpa using h.1) fun i x y hx hy => ?_
  simp only [List.getElem?_toArray] at hx hy
  exact h.2 i x y hx hy

end
end Go.Ax
