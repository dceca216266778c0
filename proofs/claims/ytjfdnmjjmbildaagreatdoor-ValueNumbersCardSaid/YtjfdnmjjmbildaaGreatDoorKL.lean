/- Seat valuec: the package variables' cells, as the rows lay them. -/
import Derived.Test.YtjfdnmjjmbildaaGreatDoorRows
import Derived.Test.YtjfdnmjjmbildaaGreatDoorKA
import Derived.Test.YtjfdnmjjmbildaaGreatDoorXKf
import Derived.ProofKit
import Derived.LaidLaws
import Derived.Handed
import Derived.Lay
import Derived.OpenShut
import Derived.ChangeArms
namespace Go.Proofs.YtjfdnmjjmbildaaGreatDoor
open Go.ChangeShapes Go.WideShapes Go.ChangeAt Go.RowKit
open Go.Ax (roV roA ghost0 VRel ARel)
set_option maxRecDepth 1000000
set_option linter.unusedVariables false
set_option linter.unusedSimpArgs false

theorem own : ownKnob Tryz.prog.godebug = none := by kernel_rfl
theorem laidOut : laidOutB Tryz.prog = true := by kernel_rfl

def litV : Lit → Value
  | .bool b => .bool b
  | .int k n => .int k n
  | .float k n => .float k n
  | .string s => .string ⟨s.toArray⟩
  | _ => .nilFunc

section
variable {P : Program} {w : World} {base : Nat} {sp : Nat → Bool}

theorem trod_lit {fuel : Nat} {t : TypeId} {cs : List Value} {l : Lit} {p : List MemPlace} (h : DataW.trod (fun _ => ()) P w base sp false fuel t cs = some (.lit l, p)) : cs = [litV l] := by
  cases fuel with
  | zero => simp [DataW.trod] at h
  | succ m =>
    unfold DataW.trod at h
    split at h
    all_goals try (simp only [Option.some.injEq, Prod.mk.injEq, DataW.lit.injEq, reduceCtorEq, false_and] at h; done)
    · simp only [Option.some.injEq, Prod.mk.injEq, DataW.lit.injEq] at h
      obtain ⟨rfl, -⟩ := h; rfl
    · split at h
      · rename_i hk
        simp only [Option.some.injEq, Prod.mk.injEq, DataW.lit.injEq] at h
        obtain ⟨rfl, -⟩ := h
        obtain ⟨rfl, -⟩ := hk; rfl
      · simp at h
    · split at h
      · rename_i hk
        simp only [Option.some.injEq, Prod.mk.injEq, DataW.lit.injEq] at h
        obtain ⟨rfl, -⟩ := h
        obtain ⟨rfl, -⟩ := hk; rfl
      · simp at h
    · split at h
      · simp only [Option.some.injEq, Prod.mk.injEq, DataW.lit.injEq] at h
        obtain ⟨rfl, -⟩ := h
        simp [litV]
      · simp at h
    all_goals first
      | (simp at h; done)
      | (split at h <;> simp at h; done)
      | (obtain ⟨x, _, e⟩ := Option.map_eq_some_iff.1 h; simp at e; done)
      | (split at h
         · obtain ⟨x, _, e⟩ := Option.bind_eq_some_iff.1 h
           obtain ⟨y, _, e2⟩ := Option.map_eq_some_iff.1 e
           simp at e2
         · simp at h)
      | (split at h
         · obtain ⟨x, _, e⟩ := Option.map_eq_some_iff.1 h
           simp at e
         · simp at h)
      | (split at h
         · simp at h
         · obtain ⟨x, _, e⟩ := Option.map_eq_some_iff.1 h
           simp at e
         · simp at h)
      | (split at h
         · split at h
           · obtain ⟨x, _, e⟩ := Option.bind_eq_some_iff.1 h
             simp only at e
             split at e <;> simp at e
           · simp at h
         · simp at h)

theorem drop_take1 {α : Type} {l : List α} {i : Nat} {x : α} (h : (l.drop i).take 1 = [x]) : l[i]? = some x := by
  have := congrArg (fun l => l[0]?) h
  simpa [List.getElem?_take, List.getElem?_drop] using this

theorem arr_lit {n : Nat} {e t : TypeId} {fuel : Nat} {cs : List Value} {dl : List (DataW Unit)} {p : List MemPlace} (ht : P.underlying t = some (.array n e)) (hc : P.cellsOf e = 1)
    (h : DataW.trod (fun _ => ()) P w base sp false fuel t cs = some (.agg dl, p)) {i : Nat} {l : Lit} (hi : dl[i]? = some (.lit l)) : cs[i]? = some (litV l) := by
  obtain ⟨xs, m, -, ex, -, hl, hel⟩ := DataW.trod_array ht h
  have e1 := DataW.agg.inj (Prod.mk.inj ex).1
  rw [e1, List.getElem?_map, Option.map_eq_some_iff] at hi
  obtain ⟨y, hy, e2⟩ := hi
  have hin : i < n := by rw [← hl]; exact (List.getElem?_eq_some_iff.1 hy).1
  have k := hel i hin
  rw [hc, Nat.mul_one, hy] at k
  obtain ⟨y1, y2⟩ := y
  simp only at e2
  subst e2
  exact drop_take1 (trod_lit k)

theorem struct_lit {fs : Array Field} {t : TypeId} {fuel : Nat} {cs : List Value} {dl : List (DataW Unit)} {p : List MemPlace} (ht : P.underlying t = some (.struct fs))
    (h : DataW.trod (fun _ => ()) P w base sp false fuel t cs = some (.agg dl, p)) {i : Nat} {l : Lit} {f : Field} (hf : fs[i]? = some f) (hc : P.cellsOf f.type = 1) (hi : dl[i]? = some (.lit l)) : cs[f.offset]? = some (litV l) := by
  cases fuel with
  | zero => simp [DataW.trod] at h
  | succ m =>
    unfold DataW.trod at h
    rw [ht] at h
    simp only at h
    split at h
    · obtain ⟨xs, hx, e⟩ := Option.map_eq_some_iff.1 h
      simp only [Prod.mk.injEq, DataW.agg.injEq] at e
      obtain ⟨e1, -⟩ := e
      rw [← e1, List.getElem?_map, Option.map_eq_some_iff] at hi
      obtain ⟨y, hy, e2⟩ := hi
      have k := mapM_some_get hx i f (by simpa using hf)
      rw [hc, hy] at k
      obtain ⟨y1, y2⟩ := y
      simp only at e2
      subst e2
      exact drop_take1 (trod_lit k)
    · simp at h

theorem laid_in : ∀ {l : List (String × DataW Unit)} {ps : List MemPlace}, DataW.LaidVars P w l ps → ∀ {n : String} {d : DataW Unit}, (n, d) ∈ l →
    ∃ g t cs fuel p, P.globalNamed n = some g ∧ (P.globals[g]?).map (·.type) = some t ∧ w.var? P n = some cs ∧ DataW.trod (fun _ => ()) P w 0 (fun _ => true) false fuel t cs.toList = some (d, p) ∧
      (∀ x ∈ MemPlace.row ⟨g, 0, none⟩ cs.size, x ∈ ps) ∧ ∀ x ∈ p, x ∈ ps
  | [], ps, h, n, d, hm => by simp at hm
  | (n', d') :: r, ps, h, n, d, hm => by
    obtain ⟨g, t, cs, fuel, p, q, h1, h2, h3, h4, h5, rfl⟩ := h
    rw [List.mem_cons] at hm
    rcases hm with e | hm
    · cases e
      exact ⟨g, t, cs, fuel, p, h1, h2, h3, h4, fun x hx => by simp [hx], fun x hx => by simp [hx]⟩
    · obtain ⟨g2, t2, cs2, fuel2, p2, k1, k2, k3, k4, k5, k6⟩ := laid_in h5 hm
      exact ⟨g2, t2, cs2, fuel2, p2, k1, k2, k3, k4, fun x hx => by simp [k5 x hx], fun x hx => by simp [k6 x hx]⟩
end

def toV : DataW Unit → Value
  | .lit l => litV l
  | _ => .nilFunc
def isLit : DataW Unit → Bool
  | .lit _ => true
  | _ => false

theorem tab_lit {dl : List (DataW Unit)} {L : List Value} (e : dl.map toV = L) (ha : dl.all isLit = true) {o : Nat} {x : Value} (hx : L[o]? = some x) : ∃ l, dl[o]? = some (.lit l) ∧ litV l = x := by
  rw [← e, List.getElem?_map, Option.map_eq_some_iff] at hx
  obtain ⟨d, hd, e2⟩ := hx
  have := List.all_eq_true.1 ha d (List.mem_of_getElem? hd)
  cases d <;> simp [isLit] at this
  exact ⟨_, hd, e2⟩

theorem plain_lit (l : Lit) : Go.Ax.plain (litV l) = true := by cases l <;> rfl

def aggL : DataW Unit → List (DataW Unit)
  | .agg l => l
  | .slice l _ => l
  | _ => []

theorem cell_lt {W : World} {b o : Nat} {x : Value} (h : W.cell? ⟨b, o, none⟩ = some x) : b < W.heap.size := by
  by_cases hb : b < W.heap.size
  · exact hb
  · exfalso
    simp [World.cell?, Array.getElem?_eq_none (Nat.le_of_not_lt hb)] at h

theorem cell_spot {W : World} {a : Addr} {x : Value} (h : W.cell? a = some x) : a.spot = none := by
  unfold World.cell? at h
  split at h
  · split at h
    · simp at h
    · rename_i hs; simpa using hs
  · simp at h

def laidL : List (String × DataW Unit) := Rows.valueKleeneRow.laid

theorem gcell {W : World} {ps : List MemPlace} (h : DataW.LaidVars Tryz.prog W laidL ps) {n : String} {d : DataW Unit} (hm : (n, d) ∈ laidL) {g0 : Nat} {t0 : TypeId} (hg : Tryz.prog.globalNamed n = some g0) (ht : (Tryz.prog.globals[g0]?).map (·.type) = some t0) :
    ∃ (cs : List Value) (fuel : Nat) (p : List MemPlace), DataW.trod (fun _ => ()) Tryz.prog W 0 (fun _ => true) false fuel t0 cs = some (d, p) ∧ (∀ i, W.cell? ⟨g0, i, none⟩ = cs[i]?) ∧ (∀ x ∈ MemPlace.row ⟨g0, 0, none⟩ cs.length, x ∈ ps) ∧ ∀ x ∈ p, x ∈ ps := by
  obtain ⟨g, t, cs, fuel, p, h1, h2, h3, h4, h5, h6⟩ := laid_in h hm
  obtain rfl := Option.some.inj (hg.symm.trans h1)
  obtain rfl := Option.some.inj (ht.symm.trans h2)
  exact ⟨cs.toList, fuel, p, h4, fun i => by rw [World.var?_cell h1 h3 i]; simp, by simpa using h5, h6⟩

section
variable {W : World} {ps : List MemPlace}

theorem c_pow (h : DataW.LaidVars Tryz.prog W laidL ps) {o : Nat} {x : Value} (hx : Go.Ax.pow64L[o]? = some x) : W.cell? ⟨2, o, none⟩ = some x ∧ Go.Ax.plain x = true := by
  obtain ⟨cs, fuel, p, k, c, -, -⟩ := gcell h (n := "internal/strconv.uint64pow10") (d := Rows.laid_internal_strconv_uint64pow10) (by simp [laidL, Rows.valueKleeneRow]) (show _ = some 2 by kernel_rfl) (show _ = some 106 by kernel_rfl)
  obtain ⟨l, hl, rfl⟩ := tab_lit (dl := aggL Rows.laid_internal_strconv_uint64pow10) (L := Go.Ax.pow64L) (by kernel_rfl) (by kernel_rfl) hx
  exact ⟨by rw [c]; exact arr_lit (dl := aggL Rows.laid_internal_strconv_uint64pow10) Tryz.underlying106 (by kernel_rfl) k hl, plain_lit _⟩

theorem c_db (h : DataW.LaidVars Tryz.prog W laidL ps) {o : Nat} {x : Value} (hx : Go.Ax.tabL[o]? = some x) : W.cell? ⟨9, o, none⟩ = some x ∧ Go.Ax.plain x = true := by
  obtain ⟨cs, fuel, p, k, c, -, -⟩ := gcell h (n := "math/bits.deBruijn64tab") (d := Rows.laid_math_bits_deBruijn64tab) (by simp [laidL, Rows.valueKleeneRow]) (show _ = some 9 by kernel_rfl) (show _ = some 160 by kernel_rfl)
  obtain ⟨l, hl, rfl⟩ := tab_lit (dl := aggL Rows.laid_math_bits_deBruijn64tab) (L := Go.Ax.tabL) (by kernel_rfl) (by kernel_rfl) hx
  exact ⟨by rw [c]; exact arr_lit (dl := aggL Rows.laid_math_bits_deBruijn64tab) Tryz.underlying160 (by kernel_rfl) k hl, plain_lit _⟩

theorem c_opt (h : DataW.LaidVars Tryz.prog W laidL ps) : W.cell? ⟨5, 0, none⟩ = some (.bool true) := by
  obtain ⟨cs, fuel, p, k, c, -, -⟩ := gcell h (n := "internal/strconv.optimize") (d := Rows.laid_internal_strconv_optimize) (by simp [laidL, Rows.valueKleeneRow]) (show _ = some 5 by kernel_rfl) (show _ = some 4 by kernel_rfl)
  have := trod_lit (l := .bool true) k
  rw [c, this]; rfl

theorem c_info (h : DataW.LaidVars Tryz.prog W laidL ps) {o : Nat} {x : Value} (hx : Go.Ax.infoL[o]? = some x) : W.cell? ⟨7, o, none⟩ = some x ∧ Go.Ax.plain x = true := by
  obtain ⟨cs, fuel, p, k, c, -, -⟩ := gcell h (n := "internal/strconv.float64info") (d := Rows.laid_internal_strconv_float64info) (by simp [laidL, Rows.valueKleeneRow]) (show _ = some 7 by kernel_rfl) (show _ = some 148 by kernel_rfl)
  obtain ⟨l, hl, rfl⟩ := tab_lit (dl := aggL Rows.laid_internal_strconv_float64info) (L := Go.Ax.infoL) (by kernel_rfl) (by kernel_rfl) hx
  refine ⟨?_, plain_lit _⟩
  rw [c]
  have hu := Tryz.underlying148
  have hl3 : o < 3 := (List.getElem?_eq_some_iff.1 hl).1
  have : o = 0 ∨ o = 1 ∨ o = 2 := by omega
  rcases this with rfl | rfl | rfl
  · exact struct_lit (dl := aggL Rows.laid_internal_strconv_float64info) hu k (i := 0) rfl (by kernel_rfl) hl
  · exact struct_lit (dl := aggL Rows.laid_internal_strconv_float64info) hu k (i := 1) rfl (by kernel_rfl) hl
  · exact struct_lit (dl := aggL Rows.laid_internal_strconv_float64info) hu k (i := 2) rfl (by kernel_rfl) hl

theorem c_tab (h : DataW.LaidVars Tryz.prog W laidL ps) {o : Nat} {x : Value} (hx : Go.Ax.pow10At o = some x) : W.cell? ⟨13, o, none⟩ = some x ∧ Go.Ax.plain x = true := by
  obtain ⟨cs, fuel, p, k, c, -, -⟩ := gcell h (n := "internal/strconv.pow10Tab") (d := Rows.laid_internal_strconv_pow10Tab) (by simp [laidL, Rows.valueKleeneRow]) (show _ = some 13 by kernel_rfl) (show _ = some 185 by kernel_rfl)
  unfold Go.Ax.pow10At at hx
  rw [Option.map_eq_some_iff] at hx
  obtain ⟨z, hz, rfl⟩ := hx
  refine ⟨?_, by split <;> rfl⟩
  rw [c]
  have hu := Tryz.underlying185
  obtain ⟨xs, m, -, ex, -, hl, hel⟩ := DataW.trod_array hu k
  have e1 := DataW.agg.inj (Prod.mk.inj ex).1
  have hc : Tryz.prog.cellsOf 184 = 2 := by kernel_rfl
  have hlen : Go.Pinned.pow10Rows.length = xs.length := by
    have := congrArg List.length e1
    simpa using this
  have hi : o / 2 < xs.length := by rw [← hlen]; exact (List.getElem?_eq_some_iff.1 hz).1
  have kk := hel (o / 2) (by omega)
  rw [hc, List.getElem?_eq_getElem hi] at kk
  have e2 := congrArg (fun l => l[o / 2]?) e1
  simp only [List.getElem?_map, hz, Option.map_some, List.getElem?_eq_getElem hi, Option.some.injEq] at e2
  obtain ⟨y, hy⟩ : ∃ y, xs[o / 2] = y := ⟨_, rfl⟩
  rw [hy] at kk e2
  obtain ⟨y1, y2⟩ := y
  simp only at e2
  subst e2
  have hu2 := Tryz.underlying184
  have hr : o % 2 = 0 ∨ o % 2 = 1 := by omega
  rcases hr with hr | hr
  · have := struct_lit hu2 kk (i := 0) (l := .int .u64 z.1) rfl (by kernel_rfl) rfl
    rw [if_pos hr]
    have e3 : o / 2 * 2 + 0 = o := by omega
    simp only [List.getElem?_take, List.getElem?_drop] at this
    split at this
    · rw [← e3]; exact this
    · simp at this
  · have := struct_lit hu2 kk (i := 1) (l := .int .u64 z.2) rfl (by kernel_rfl) rfl
    rw [if_neg (by omega)]
    have e3 : o / 2 * 2 + 1 = o := by omega
    simp only [List.getElem?_take, List.getElem?_drop] at this
    split at this
    · rw [← e3]; exact this
    · simp at this

theorem cells_one {w : World} {a : Addr} {cs : List Value} (h : w.cells? 0 a 1 = some cs) : ∃ v, cs = [v] ∧ w.cell? (a.add 0) = some v := by
  unfold World.cells? at h
  rw [if_pos (Nat.zero_le _)] at h
  have e : (List.range 1) = [0] := rfl
  rw [e] at h
  cases hv : w.cell? (a.add 0) with
  | none => simp [hv] at h
  | some v => simp [hv] at h; exact ⟨v, h.symm, rfl⟩

theorem slice_lit {P : Program} {w : World} {e t : TypeId} {fuel : Nat} {cs : List Value} {dl : List (DataW Unit)} {p : List MemPlace} (ht : P.underlying t = some (.slice e)) (hc : P.cellsOf e = 1)
    (h : DataW.trod (fun _ => ()) P w 0 (fun _ => true) false fuel t cs = some (.slice dl [], p)) : ∃ a, cs = [.slice (some a) dl.length dl.length] ∧ ∀ i l, dl[i]? = some (.lit l) → w.cell? ((a.add (i * 1)).add 0) = some (litV l) := by
  rcases DataW.trod_slice ht h with ⟨_, e⟩ | ⟨a, len, cap, elems, rest, n, -, rfl, ex, -, hlc, -, hel, he, hr, -⟩
  · simp at e
  · simp only [Prod.mk.injEq, DataW.slice.injEq] at ex
    obtain ⟨⟨h4, h5⟩, -⟩ := ex
    have hrl : rest = [] := by simpa using h5
    obtain ⟨hr1, -⟩ := hr rfl
    rw [hrl] at hr1
    simp only [List.length_nil] at hr1
    have hcl : cap = len := by omega
    have hdl : dl.length = len := by rw [h4, List.length_map, hel]
    refine ⟨a, by rw [hdl, hcl], fun i l hi => ?_⟩
    have hil : i < len := by rw [← hdl]; exact (List.getElem?_eq_some_iff.1 hi).1
    have k := he i hil
    rw [h4, List.getElem?_map, Option.map_eq_some_iff] at hi
    obtain ⟨y, hy, e2⟩ := hi
    rw [hy, hc] at k
    obtain ⟨cs', k1, k2⟩ := Option.bind_eq_some_iff.1 k
    obtain ⟨v, rfl, hv⟩ := cells_one k1
    obtain ⟨y1, y2⟩ := y
    simp only at e2
    subst e2
    have := trod_lit k2
    simp only [List.cons.injEq, and_true] at this
    rw [← this]
    exact hv

theorem c_fpow (h : DataW.LaidVars Tryz.prog W laidL ps) : ∃ a : Addr, a.spot = none ∧ W.cell? ⟨12, 0, none⟩ = some (.slice (some a) 23 23) ∧ ∀ o x, Go.Ax.fpowL[o]? = some x → W.cell? ⟨a.block, a.off + o, none⟩ = some x ∧ Go.Ax.plain x = true := by
  obtain ⟨cs, fuel, p, k, c, -, -⟩ := gcell h (n := "internal/strconv.float64pow10") (d := Rows.laid_internal_strconv_float64pow10) (by simp [laidL, Rows.valueKleeneRow]) (show _ = some 12 by kernel_rfl) (show _ = some 181 by kernel_rfl)
  obtain ⟨a, rfl, hel⟩ := slice_lit (dl := aggL Rows.laid_internal_strconv_float64pow10) Tryz.underlying181 (by kernel_rfl) k
  have h0 := hel 0 (.float .f64 4607182418800017408) rfl
  have hs : a.spot = none := cell_spot h0
  refine ⟨a, hs, by rw [c]; rfl, fun o x hx => ?_⟩
  obtain ⟨l, hl, rfl⟩ := tab_lit (dl := aggL Rows.laid_internal_strconv_float64pow10) (L := Go.Ax.fpowL) (by kernel_rfl) (by kernel_rfl) hx
  have h1 := hel o l hl
  refine ⟨?_, plain_lit _⟩
  obtain ⟨b, f, sp⟩ := a
  simp only at hs
  subst hs
  have e : (((⟨b, f, none⟩ : Addr).add (o * 1)).add 0) = ⟨b, f + o, none⟩ := by
    unfold Addr.add
    simp
  rw [e] at h1
  exact h1

theorem c_syn (h : DataW.LaidVars Tryz.prog W laidL ps) : ∃ u v, W.cell? ⟨3, 0, none⟩ = some (.iface u v) := by
  obtain ⟨cs, fuel, p, k, c, -, -⟩ := gcell h (n := "strconv.ErrSyntax") (d := Rows.laid_strconv_ErrSyntax) (by simp [laidL, Rows.valueKleeneRow]) (show _ = some 3 by kernel_rfl) (show _ = some 75 by kernel_rfl)
  cases fuel with
  | zero => simp [DataW.trod] at k
  | succ m =>
    unfold DataW.trod at k
    rw [Tryz.underlying75] at k
    obtain ⟨D, hD⟩ : ∃ D : DataW Unit, D = .ptr (.agg [.lit (.string [105, 110, 118, 97, 108, 105, 100, 32, 115, 121, 110, 116, 97, 120])]) := ⟨_, rfl⟩
    have hE : (Rows.laid_strconv_ErrSyntax : DataW Unit) = .iface "*errors.errorString" D := by rw [hD]; rfl
    rw [hE] at k
    split at k
    all_goals try (simp at k; done)
    all_goals rename_i heq
    all_goals try (simp at heq; done)
    rename_i u v
    exact ⟨u, v, by rw [c]; rfl⟩

/-- What is only read is as the abstract machine has it. -/
theorem ro_laid (hL : laidMet Tryz.prog laidL W) : ∃ A : Nat → Addr, ∀ b o x, roV b o = some x → (roA (ghost0 A) b).block < W.heap.size ∧ ∃ y, W.cell? ⟨(roA (ghost0 A) b).block, (roA (ghost0 A) b).off + o, none⟩ = some y ∧ VRel (ghost0 A) x y := by
  obtain ⟨ps, h, -, -⟩ := hL
  obtain ⟨u, v, hsyn⟩ := c_syn h
  obtain ⟨a, has, hsl, hfp⟩ := c_fpow h
  refine ⟨fun _ => a, fun b o x hx => ?_⟩
  have lo : ∀ g, g < 4294967296 → roA (ghost0 fun _ => a) g = ⟨g, 0, none⟩ := fun g hg => by unfold roA; rw [if_pos hg]
  have hi : roA (ghost0 fun _ => a) 4294967296 = a := by unfold roA; rw [if_neg (by omega)]; rfl
  have fin : ∀ g, g < 4294967296 → W.cell? ⟨g, o, none⟩ = some x ∧ Go.Ax.plain x = true → (roA (ghost0 fun _ => a) g).block < W.heap.size ∧ ∃ y, W.cell? ⟨(roA (ghost0 fun _ => a) g).block, (roA (ghost0 fun _ => a) g).off + o, none⟩ = some y ∧ VRel (ghost0 fun _ => a) x y := fun g hg ⟨h1, h2⟩ => by
    rw [lo g hg]
    exact ⟨cell_lt h1, x, by simpa using h1, Go.Ax.plain_refl h2⟩
  unfold roV at hx
  split at hx
  · rename_i e; subst e; exact fin 2 (by omega) (c_pow h hx)
  split at hx
  · rename_i e; subst e
    split at hx
    · rename_i e; subst e
      simp only [Option.some.injEq] at hx
      subst hx
      rw [lo 3 (by omega)]
      exact ⟨cell_lt hsyn, _, hsyn, .cell _ rfl⟩
    · simp at hx
  split at hx
  · rename_i e; subst e
    split at hx
    · rename_i e; subst e
      simp only [Option.some.injEq] at hx
      subst hx
      exact fin 5 (by omega) ⟨c_opt h, rfl⟩
    · simp at hx
  split at hx
  · rename_i e; subst e; exact fin 7 (by omega) (c_info h hx)
  split at hx
  · rename_i e; subst e; exact fin 9 (by omega) (c_db h hx)
  split at hx
  · rename_i e; subst e
    split at hx
    · rename_i e; subst e
      simp only [Option.some.injEq] at hx
      subst hx
      rw [lo 12 (by omega)]
      refine ⟨cell_lt hsl, _, hsl, .sliK 23 23 ⟨has, ?_⟩ (by unfold Go.Ax.gcap; omega)⟩
      simp only
      rw [hi]
      exact ⟨rfl, rfl⟩
    · simp at hx
  split at hx
  · rename_i e; subst e; exact fin 13 (by omega) (c_tab h hx)
  split at hx
  · rename_i e; subst e
    rw [hi]
    obtain ⟨h1, h2⟩ := hfp o x hx
    exact ⟨cell_lt h1, x, h1, Go.Ax.plain_refl h2⟩
  · simp at hx

theorem laid_met (os : Os) (args : Array Value) : laidMet Tryz.prog laidL ((World.laidAll Tryz.prog os laidL).forCall (fun _ _ => 0) ⟨#[], args, []⟩).memory :=
  laidMet_laidAll _ (by kernel_rfl) (by kernel_rfl)

end
end Go.Proofs.YtjfdnmjjmbildaaGreatDoor
