/- An abstract machine for Go programs: its operations against the model's (conversions, cuts, literals). -/
import Derived.Test.YtpemffaclmpnnaaDoorXQ
namespace Go.Ax
set_option linter.unusedVariables false
set_option linter.unusedSimpArgs false

section
variable {P : Program} {B : Nat} {g : Ghost} {h : Heap} {w : World} {ρ ρ' : Operand → Value}

theorem u8Elem_some {e : TypeId} (h : u8Elem P e = true) : P.underlying e = some (.int .u8) := by
  unfold u8Elem at h; split at h <;> simp_all

theorem Rel.freeze {r : Nat} {c : Array Value} {e : TypeId} (R : Rel P B g h w) (hr : w.heap[r]? = some (.cells c e (0, 0))) (hn : ¬ InR g r) (hB : B ≤ r) (hl : r < w.heap.size) :
    Rel P B g h (w.freeze ⟨r, c.size, none⟩ 1) ∧ (w.freeze ⟨r, c.size, none⟩ 1).heap[r]? = some (.cells c e (c.size, c.size + 1)) ∧ (∀ i, i ≠ r → (w.freeze ⟨r, c.size, none⟩ 1).heap[i]? = w.heap[i]?) ∧ (w.freeze ⟨r, c.size, none⟩ 1).heap.size = w.heap.size := by
  have h1 : (w.freeze ⟨r, c.size, none⟩ 1).heap[r]? = some (.cells c e (c.size, c.size + 1)) := by
    simp [World.freeze, Array.getElem?_modify, hr]
  have h2 : ∀ i, i ≠ r → (w.freeze ⟨r, c.size, none⟩ 1).heap[i]? = w.heap[i]? := by
    intro i hi
    simp only [World.freeze, Nat.one_ne_zero, if_false, Array.getElem?_modify]
    rw [if_neg (by omega)]
  have h3 : (w.freeze ⟨r, c.size, none⟩ 1).heap.size = w.heap.size := by simp [World.freeze]
  refine ⟨R.of_same (by omega) fun q hq => h2 q ?_, h1, h2, h3⟩
  rintro rfl
  rcases hq with hq | hq
  · exact hn hq
  · omega

theorem byteCells_get {l : List UInt8} {j : Nat} {x : Value} (h : (byteCells l)[j]? = some x) : ∃ b, l[j]? = some b ∧ x = .int .u8 b.toNat := by
  unfold byteCells at h
  rw [List.getElem?_map] at h
  cases e : l[j]? with
  | none => simp [e] at h
  | some b => simp [e] at h; exact ⟨b, rfl, h.symm⟩

theorem os_s2b (R : Rel P B g h w) {s d e : TypeId} {x : Operand} (hs : P.underlying s = some .string) (hd : P.underlying d = some (.slice e)) (hu : u8Elem P e = true) (hx : VRel g (ρ x) (ρ' x)) {res : ARes}
    (he : aop P h ρ (.s2b x) = some res) : OpS P B g w (do pure (.value (← convert s d (ρ' x)))) res := by
  simp only [aop] at he
  split at he
  · rename_i str e1
    rw [e1] at hx
    rw [rel_string hx]
    simp only [Option.some.injEq] at he; subst he
    -- the run
    let t := (Question.appendCap str.size 0 e).cut (w.tape w.drawn (.appendCap str.size 0 e))
    have ht : str.size ≤ t := by show str.size ≤ str.size + _; omega
    let w1 : World := { w with drawn := w.drawn + 1 }
    let c : Array Value := str.data.map (fun b => .int .u8 b.toNat) ++ Array.replicate (t - str.size) (.int .u8 0)
    have hc : c.size = t := by simp only [c, Array.size_append, Array.size_map, Array.size_replicate]; show str.size + _ = _; omega
    let w2 := w1.alloc (.cells c e)
    have hw2 : w2.heap[w.heap.size]? = some (.cells c e (0, 0)) := alloc_at w1 _
    have R1 : Rel P B g h w1 := R.drew
    obtain ⟨R2, E2⟩ := R1.push (.cells c e)
    have hn : ¬ InR g w.heap.size := fun hi => by have := hi.lt R; omega
    obtain ⟨R3, h31, h32, h33⟩ := R2.freeze hw2 hn R.base (by simp [w1])
    have hrun : (convert s d (.string str)).run P w = .ok (.slice (some ⟨w.heap.size, 0, none⟩) str.size t) (w2.freeze ⟨w.heap.size, c.size, none⟩ 1) := by
      unfold convert
      rw [run_bindE (run_und hs), run_bindE (run_und hd)]
      simp only
      rw [run_bindE (run_und (u8Elem_some hu))]
      simp only
      unfold Conv.stringToBytes
      rw [run_bindE (a := t) (w' := w1) (by simp [choose, Sem.run, Question.forced, t, w1])]
      rw [run_bindE run_newRow]
      have hm : (markStringish ⟨w.heap.size, 0, none⟩).run P w2 = .ok () (w2.freeze ⟨w.heap.size, c.size, none⟩ 1) := by
        unfold markStringish
        rw [run_bindE (run_shape P w2 _)]
        simp [World.shape?, hw2]
      rw [run_bindE hm]
      rfl
    have hcs : (byteCells str.data.toList).length ≤ c.size := by simp [byteCells, hc]; exact ht
    obtain ⟨g', R', G, hin, ha, hroom, hes⟩ := fresh_sound R3 h31 hn R.base (by rw [h33]; simp [w1, w2]) (byteCells str.data.toList) 1
      ⟨fun i hi => by simp only; omega, fun h => by simp at h⟩ hcs (fun j x hj => by
        obtain ⟨b, hb, rfl⟩ := byteCells_get hj
        refine ⟨.int .u8 b.toNat, ?_, .int _ _⟩
        have hj' : j < str.data.size := by
          rcases Nat.lt_or_ge j str.data.size with h' | h'
          · exact h'
          · rw [List.getElem?_eq_none (by simpa using h')] at hb; simp at hb
        have hb' : str.data[j]? = some b := by simpa using hb
        simp only [c]
        rw [Array.getElem?_append_left (by simpa using hj'), Array.getElem?_map, hb']
        rfl)
    refine ⟨_, _, g', .inl (run_v hrun), .sliU str.size t ha ht (fun v hv => ?_), R', ?_⟩
    · show 0 + t * g'.es h.dyn.length = g'.room h.dyn.length v
      have : v = 0 := by simpa [hnext] using hv.symm
      subst this
      rw [hes, hroom, hc]; omega
    · refine ⟨G, fun r hr => ?_, ?_, fun r hr hnr => ?_, rfl, rfl, rfl⟩
      · rcases hin r hr with h1 | h1
        · exact .inl h1
        · exact .inr (by omega)
      · rw [h33]; simp [w1, w2]
      · rw [h32 r (by omega)]; exact E2.same r (by simpa [w1] using hr) hnr
  · simp at he

theorem bytesOf_rel : ∀ {l ys : List Value} {b : List UInt8}, bytesOf l = some b → LR g l ys → ys = l := by
  intro l
  induction l with
  | nil => intro ys b _ hl; rw [hl.nil_inv]
  | cons x l ih =>
    intro ys b hb hl
    obtain ⟨y, ys', rfl, hxy, hl'⟩ := hl.cons_inv
    cases x with
    | int k n =>
      rw [rel_int hxy]
      cases k <;> simp only [bytesOf] at hb <;> try (simp at hb; done)
      cases hb' : bytesOf l with
      | none => simp [hb'] at hb
      | some b' => rw [ih hb' hl']
    | _ => simp [bytesOf] at hb

theorem run_b2s : ∀ {l : List Value} {b : List UInt8} (hb : bytesOf l = some b) (acc : ByteArray) (F : Value → ByteArray → Sem (ForInStep ByteArray))
    (hF : ∀ n s w, (F (.int .u8 n) s).run P w = .ok (.yield (s.push (UInt8.ofNat n.toNat))) w), (forIn l acc F).run P w = .ok ⟨acc.data ++ b.toArray⟩ w := by
  intro l
  induction l with
  | nil => intro b hb acc F hF; simp [bytesOf] at hb; subst hb; simp
  | cons x l ih =>
    intro b hb acc F hF
    cases x with
    | int k n =>
      cases k <;> simp only [bytesOf] at hb <;> try (simp at hb; done)
      cases hb' : bytesOf l with
      | none => simp [hb'] at hb
      | some b' =>
        simp [hb'] at hb; subst hb
        rw [List.forIn_cons, run_bindE (hF n acc w)]
        simp only
        rw [ih hb' _ F hF]
        simp [ByteArray.push]
    | _ => simp [bytesOf] at hb

theorem os_b2s (R : Rel P B g h w) {s d e : TypeId} {x : Operand} (hs : P.underlying s = some (.slice e)) (hd : P.underlying d = some .string) (hu : u8Elem P e = true) (hx : VRel g (ρ x) (ρ' x)) {res : ARes}
    (he : aop P h ρ (.b2s x) = some res) : OpS P B g w (do pure (.value (← convert s d (ρ' x)))) res := by
  simp only [aop] at he
  split at he
  · rename_i l c e1
    rw [e1] at hx; rw [rel_none_slice hx]
    simp only [Option.some.injEq] at he; subst he
    refine OpS.sameV R ?_ (.string _)
    unfold convert
    rw [run_bindE (run_und hs), run_bindE (run_und hd)]
    simp only
    rw [run_bindE (run_und (u8Elem_some hu))]
    rfl
  · rename_i a len c e1
    rw [e1] at hx
    obtain ⟨r, rc, hr, h1, _, _⟩ := rel_slice hx
    split at he
    · rename_i l hl
      split at he
      · rename_i b hb
        simp only [Option.some.injEq] at he; subst he
        have hcells : ∃ ys : List Value, LR g l ys ∧ l.length = len ∧ (∀ i, i < len → ∃ y, ys[i]? = some y ∧ w.cell? (r.add i) = some y) := by
          rcases h1 with ⟨rfl, _⟩ | h1
          · simp [loadN] at hl; subst hl; exact ⟨[], LR.nil g, rfl, fun i hi => by omega⟩
          · exact loadN_sound R len h1 hl
        obtain ⟨ys, hlr, hlen, hc⟩ := hcells
        have hys := bytesOf_rel hb hlr
        subst hys
        refine OpS.sameV R (y := .string ⟨b.toArray⟩) ?_ (.string _)
        rw [hr]
        unfold convert
        rw [run_bindE (run_und hs), run_bindE (run_und hd)]
        simp only
        rw [run_bindE (run_und (u8Elem_some hu))]
        simp only
        unfold Conv.bytesToString
        simp only
        rw [run_bindE (run_loadCells hc hlen)]
        have := run_b2s (P := P) (w := w) hb ByteArray.empty
        simp only [Array.forIn_toList, ← Array.forIn_toList] 
        rw [run_bindE (this _ (fun n s w => by simp))]
        simp [ByteArray.empty, ByteArray.emptyWithCapacity]
        rfl
      · simp at he
    · simp at he
  · simp at he

theorem os_convert (R : Rel P B g h w) {s d : TypeId} {x : Operand} (hx : VRel g (ρ x) (ρ' x)) {res : ARes} (he : aop P h ρ (compOp P (.convert s d x)) = some res) :
    OpS P B g w (do pure (.value (← convert s d (ρ' x)))) res := by
  have gen : ∀ v, plain (ρ x) = true → pures P (convert s d (ρ x)) = some v → OpS P B g w (do pure (.value (← convert s d (ρ' x)))) (.val v h) := by
    intro v hp hv
    rw [plain_eq hp hx]
    obtain ⟨hr, hpl⟩ := pures_run (w := w) hv
    exact OpS.sameV R hr (plain_refl hpl)
  simp only [compOp] at he
  split at he
  · rename_i sd k hs hd
    simp only [aop] at he
    split at he
    · rename_i k' n e
      rw [e] at hx; rw [rel_int hx]
      simp only [Option.some.injEq] at he; subst he
      refine OpS.sameV R ?_ (.int _ _)
      unfold convert
      rw [run_bindE (run_und hs), run_bindE (run_und hd)]
      cases sd <;> rfl
    · split at he
      · rename_i hp
        obtain ⟨v, hv, rfl⟩ := toVal_some he
        exact gen v hp hv
      · simp at he
  · rename_i e hs hd
    split at he
    · rename_i hu; exact os_s2b R hs hd hu hx he
    · simp [aop] at he
  · rename_i e hs hd
    split at he
    · rename_i hu; exact os_b2s R hs hd hu hx he
    · simp [aop] at he
  · simp only [aop] at he
    split at he
    · rename_i hp
      obtain ⟨v, hv, rfl⟩ := toVal_some he
      exact gen v hp hv
    · simp at he
  · simp [aop] at he

theorem os_mkF (R : Rel P B g h w) {fn : Fn} {a b : Array Operand} (hf : ∀ l, fn ≠ .yield l) (ha : ∀ x ∈ a, VRel g (ρ x) (ρ' x)) (hb : ∀ x ∈ b, VRel g (ρ x) (ρ' x)) {res : ARes}
    (he : aop P h ρ (.mkF fn a.toList b.toList) = some res) : OpS P B g w (do pure (.value (← Instr.makeFunc fn (a.map ρ') (b.map ρ')))) res := by
  simp only [aop, Option.some.injEq] at he; subst he
  refine OpS.sameV R (y := .func fn (a.map ρ') (b.map ρ')) rfl (.func fn hf (by simp) (by simp) ?_ ?_)
  · intro i x y hx hy
    have h1 := LR.map a.toList ρ ρ' (g := g) (fun z hz => ha z (by simpa using hz))
    exact h1.2 i x y (by simpa using hx) (by simpa using hy)
  · intro i x y hx hy
    have h1 := LR.map b.toList ρ ρ' (g := g) (fun z hz => hb z (by simpa using hz))
    exact h1.2 i x y (by simpa using hx) (by simpa using hy)

/-- The cells of a new row, as the model lays them. -/
theorem rows_get (z : Array Value) (n : Nat) (j : Nat) : ((List.replicate n z.toList).flatten)[j]? = if j < n * z.size then some z[j % z.size]! else none := by
  induction n generalizing j with
  | zero => simp
  | succ n ih =>
    rw [List.replicate_succ, List.flatten_cons]
    by_cases hj : j < z.size
    · rw [List.getElem?_append_left (by simpa using hj), if_pos (by rw [Nat.succ_mul]; omega), Nat.mod_eq_of_lt hj]
      simp [hj]
    · rw [List.getElem?_append_right (by simpa using hj), ih]
      simp only [Array.length_toList]
      have h1 : (j - z.size < n * z.size) = (j < (n + 1) * z.size) := by rw [Nat.succ_mul]; apply propext; omega
      have h2 : (j - z.size) % z.size = j % z.size := by
        conv => rhs; rw [show j = (j - z.size) + z.size by omega]
        simp
      simp only [h1, h2]

theorem rows_len (z : Array Value) (n : Nat) : ((List.replicate n z.toList).flatten).length = n * z.size := by
  simp

theorem os_mkS (R : Rel P B g h w) {t : TypeId} {l c : Operand} (hl : VRel g (ρ l) (ρ' l)) (hc : VRel g (ρ c) (ρ' c)) {res : ARes} (he : aop P h ρ (compOp P (.makeSlice t l c)) = some res) :
    OpS P B g w (do pure (.value (← Instr.makeSlice t (ρ' l) (ρ' c)))) res := by
  simp only [compOp] at he
  split at he
  · rename_i e hu
    split at he
    · rename_i i zl hi hz
      simp only [aop] at he
      split at he
      · rename_i ln cp e1 e2
        split at he
        · rename_i hcnd
          obtain ⟨h0, hle, hb, hcap, hzl⟩ := hcnd
          rw [e1] at hl; rw [e2] at hc
          rw [rel_int hl, rel_int hc]
          simp only [Option.some.injEq] at he; subst he
          obtain ⟨i', z, hi', hzz, rfl, hp⟩ := zeroOf_some hz
          rw [hi] at hi'; simp only [Option.some.injEq] at hi'; subst hi'
          have hw : ∀ n : Int, 0 ≤ n → n ≤ 140737488355328 → IntKind.i64.wrap n = n := by
            intro n h0 h1
            simp [IntKind.wrap, IntKind.bits, IntKind.signed]; omega
          have hsz : z.cells.size = i.size := by simpa using hzl
          let row : Array Value := (Array.range (cp.toNat * i.size)).map (z.cells[· % z.cells.size]!)
          have hrun : (Instr.makeSlice t (.int .i64 ln) (.int .i64 cp)).run P w = .ok (.slice (some ⟨w.heap.size, 0, none⟩) ln.toNat cp.toNat) (w.alloc (.cells row e)) := by
            unfold Instr.makeSlice
            rw [run_bindE (run_und hu)]
            simp only
            rw [run_bindE (a := ln) (w' := w) rfl, run_bindE (a := cp) (w' := w) rfl, run_bindE (run_info hi)]
            simp only [hw ln h0 (by omega), hw cp (by omega) hcap]
            have c1 : ¬ (cp < 0 ∨ (i.bytes : Int) * cp > 2 ^ 48) := by
              rw [not_or]; constructor
              · omega
              · rw [Int.mul_comm]; omega
            have c2 : (((decide (cp < 0) || decide ((i.bytes : Int) * cp > 2 ^ 48)) || decide (ln < 0)) || decide (ln > cp)) = false := by
              simp only [Bool.or_eq_false_iff, decide_eq_false_iff_not]
              rw [not_or] at c1
              exact ⟨⟨c1, by omega⟩, by omega⟩
            rw [if_neg (by simpa using c2)]
            rw [run_bindE (run_askRoom P w _), run_bindE (run_size (n := i.size) (by simp [asize, hi]))]
            by_cases hn : cp.toNat * i.size = 0
            · have : row = #[] := by simp [row, hn]
              simp only [hn, if_true]
              rw [run_bindE (a := #[]) (w' := w) rfl]
              rw [run_bindE run_newRow, this]; simp [show Array.range 0 = #[] from rfl]
            · rw [if_neg hn]
              rw [run_bindE (run_zero hi hzz), run_bindE (a := z.cells) (w' := w) rfl]
              rw [run_bindE run_newRow]; rfl
          have hlen : ((List.replicate cp.toNat z.cells.toList).flatten).length = row.size := by
            rw [rows_len]; simp [row, hsz]
          obtain ⟨g', R', E', ha, hroom, hes⟩ := new_sound R row e (List.replicate cp.toNat z.cells.toList).flatten i.size (by omega) (fun j x hj => by
            rw [rows_get] at hj
            split at hj
            · rename_i hlt
              simp only [Option.some.injEq] at hj; subst hj
              have hlt' : j < cp.toNat * i.size := by rw [← hsz]; exact hlt
              refine ⟨z.cells[j % z.cells.size]!, by simp [row, hlt'], ?_⟩
              have hm : j % z.cells.size < z.cells.size := Nat.mod_lt _ (by
                rcases Nat.eq_zero_or_pos z.cells.size with h0 | h0
                · rw [h0] at hlt; simp at hlt
                · exact h0)
              exact (allPlain_LR hp).2 (j % z.cells.size) _ _ (by simp [hm]) (by simp [hm])
            · simp at hj)
          refine ⟨_, _, g', .inl (run_v hrun), .sliK _ _ ha (by unfold gcap; omega), R', E'⟩
        · simp at he
      · simp at he
    · simp [aop] at he
  · simp [aop] at he

/-! cutting -/

theorem asliceBound_some {x y : Value} {n l : Nat} (hx : VRel g x y) (hb : asliceBound x n = some l) : ∃ k i, y = .int k i ∧ 0 ≤ i ∧ i ≤ (n : Int) ∧ i.toNat = l := by
  unfold asliceBound at hb
  split at hb
  · rename_i k i
    split at hb
    · rename_i hc
      simp only [Option.some.injEq] at hb
      exact ⟨k, i, rel_int hx, hc.1, hc.2, hb⟩
    · simp at hb
  · simp at hb

theorem run_sliceBound {k : IntKind} {i : Int} {n : Nat} {code : BoundsCode} (h0 : 0 ≤ i) (h1 : i ≤ (n : Int)) : (Instr.sliceBound (.int k i) n code).run P w = .ok i.toNat w := by
  unfold Instr.sliceBound
  rw [run_bindE (a := (k, i)) (w' := w) rfl]
  simp only [h0, h1, and_self, if_true]
  rfl

def ORel (g : Ghost) : Option Value → Option Value → Prop
  | none, none => True
  | some x, some y => VRel g x y
  | _, _ => False

theorem ORel.map {o : Option Operand} (hh : ∀ x, o = some x → VRel g (ρ x) (ρ' x)) : ORel g (o.map ρ) (o.map ρ') := by
  cases o with
  | none => trivial
  | some x => exact hh x rfl

theorem run_bounds {b : Bool} {len cap m u l : Nat} {lo hi mx lo' hi' mx' : Option Value} (hlo : ORel g lo lo') (hhi : ORel g hi hi') (hmx : ORel g mx mx') (h3 : ¬ (mx.isSome && hi.isNone) = true)
    (hm : optBound mx cap cap = some m) (hu : optBound hi m len = some u) (hl : optBound lo u 0 = some l) :
    (Instr.sliceBounds b len cap lo' hi' mx').run P w = .ok (l, u, m) w := by
  have key : ∀ {x x' : Option Value} {n d z : Nat}, ORel g x x' → optBound x n d = some z → (x = none ∧ x' = none ∧ z = d) ∨ ∃ k i, x.isSome = true ∧ x' = some (.int k i) ∧ 0 ≤ i ∧ i ≤ (n : Int) ∧ i.toNat = z := by
    intro x x' n d z hr hb
    cases x <;> cases x' <;> simp only [ORel] at hr
    · simp [optBound] at hb; exact .inl ⟨rfl, rfl, hb.symm⟩
    · simp only [optBound] at hb
      obtain ⟨k, i, rfl, h0, h1, h2⟩ := asliceBound_some hr hb
      exact .inr ⟨k, i, rfl, rfl, h0, h1, h2⟩
  unfold Instr.sliceBounds
  rcases key hmx hm with ⟨e1, rfl, rfl⟩ | ⟨k1, i1, e1, rfl, a1, b1, c1⟩ <;> rcases key hhi hu with ⟨e2, rfl, rfl⟩ | ⟨k2, i2, e2, rfl, a2, b2, c2⟩ <;> rcases key hlo hl with ⟨e3, rfl, rfl⟩ | ⟨k3, i3, e3, rfl, a3, b3, c3⟩
  all_goals first
    | (exfalso; subst e2; rw [e1] at h3; simp at h3; done)
    | simp_all [run_sliceBound]

theorem os_slcStr (R : Rel P B g h w) {t : TypeId} {x : Operand} {lo hi : Option Operand} (hu : P.underlying t = some .string) (hx : VRel g (ρ x) (ρ' x)) (hlo : ORel g (lo.map ρ) (lo.map ρ')) (hhi : ORel g (hi.map ρ) (hi.map ρ')) {res : ARes}
    (he : aop P h ρ (.slcStr t x lo hi) = some res) : OpS P B g w (do pure (.value (← Instr.sliceAt t (ρ' x) (lo.map ρ') (hi.map ρ') none))) res := by
  simp only [aop] at he
  split at he
  · rename_i s e
    rw [e] at hx; rw [rel_string hx]
    split at he
    · simp at he
    · rename_i u hub
      split at he
      · simp at he
      · rename_i l hlb
        simp only [Option.some.injEq] at he; subst he
        refine OpS.sameV R (y := .string (s.extract l u)) ?_ (.string _)
        unfold Instr.sliceAt
        rw [run_bindE (run_und hu)]
        simp only
        unfold Instr.slice
        rw [run_bindE (run_und hu)]
        simp only [Option.isSome_none, Bool.false_eq_true, if_false]
        have := run_bounds (P := P) (w := w) (b := false) (cap := s.size) (mx := none) (mx' := none) hlo hhi trivial (by simp) rfl hub hlb
        rw [run_bindE this]; rfl
  · simp at he

theorem os_slcArr (R : Rel P B g h w) {t e : TypeId} {n es : Nat} {x : Operand} {lo hi mx : Option Operand} (hu : P.underlying t = some (.array n e)) (hs : asize P e = some es) (hx : VRel g (ρ x) (ρ' x)) (hlo : ORel g (lo.map ρ) (lo.map ρ')) (hhi : ORel g (hi.map ρ) (hi.map ρ')) (hmx : ORel g (mx.map ρ) (mx.map ρ')) {res : ARes}
    (hn : n < gcap) (he : aop P h ρ (.slcArr n es x lo hi mx) = some res) : OpS P B g w (do pure (.value (← Instr.sliceAt t (ρ' x) (lo.map ρ') (hi.map ρ') (mx.map ρ')))) res := by
  simp only [aop] at he
  split at he
  · rename_i a e1
    rw [e1] at hx; obtain ⟨r, hr, har⟩ := rel_ptr hx
    obtain ⟨v, hv, rfl⟩ := toVal_some he
    unfold cutK at hv
    split at hv
    · simp at hv
    · rename_i m hm
      split at hv
      · simp at hv
      · rename_i h3
        split at hv
        · simp at hv
        · rename_i u hub
          split at hv
          · simp at hv
          · rename_i l hlb
            simp only [Option.some.injEq] at hv; subst hv
            have hmn : m ≤ n := by
              cases hmx' : mx with
              | none => rw [hmx'] at hm; simp [optBound] at hm; omega
              | some z =>
                rw [hmx'] at hm hmx; simp only [Option.map_some, optBound] at hm
                obtain ⟨k, i, _, h0, h1, h2⟩ := asliceBound_some (y := ρ' z) hmx hm
                omega
            refine OpS.sameV R (y := .slice (some (if m = l then r else r.add (l * es))) (u - l) (m - l)) ?_ ?_
            · rw [hr]; unfold Instr.sliceAt
              rw [run_bindE (run_und hu)]
              simp only
              rw [run_bindE (a := r) (w' := w) rfl]
              have := run_bounds (P := P) (w := w) (b := false) (len := n) hlo hhi hmx (by simpa using h3) hm hub hlb
              rw [run_bindE this]
              simp only
              rw [run_bindE (run_size hs)]; rfl
            · split
              · exact .sliK _ _ har (by omega)
              · exact .sliK _ _ (har.add _) (by omega)
  · simp at he

theorem run_slice {t e : TypeId} {es : Nat} (hu : P.underlying t = some (.slice e)) (hs : asize P e = some es) {a : Option Addr} {len cap m u l : Nat} {lo hi mx lo' hi' mx' : Option Value} (hlo : ORel g lo lo') (hhi : ORel g hi hi') (hmx : ORel g mx mx') (h3 : ¬ (mx.isSome && hi.isNone) = true)
    (hm : optBound mx cap cap = some m) (hub : optBound hi m len = some u) (hl : optBound lo u 0 = some l) :
    (Instr.sliceAt t (.slice a len cap) lo' hi' mx').run P w = .ok (.slice (if m = l then a else a.map (·.add (l * es))) (u - l) (m - l)) w := by
  unfold Instr.sliceAt
  rw [run_bindE (run_und hu)]
  simp only
  unfold Instr.slice
  rw [run_bindE (run_und hu)]
  simp only
  rw [run_bindE (run_bounds hlo hhi hmx h3 hm hub hl)]
  simp only
  rw [run_bindE (run_size hs)]
  rfl

theorem cutK_some {es : Nat} {a : Option Addr} {len cap : Nat} {lo hi mx : Option Value} {v : Value} (hv : cutK es a len cap lo hi mx = some v) :
    ∃ m u l, optBound mx cap cap = some m ∧ ¬ (mx.isSome && hi.isNone) = true ∧ optBound hi m len = some u ∧ optBound lo u 0 = some l ∧ v = .slice (if m = l then a else a.map (aadd · (l * es))) (u - l) (m - l) := by
  unfold cutK at hv
  split at hv
  · simp at hv
  · rename_i m hm
    split at hv
    · simp at hv
    · rename_i h3
      split at hv
      · simp at hv
      · rename_i u hub
        split at hv
        · simp at hv
        · rename_i l hlb
          simp only [Option.some.injEq] at hv
          exact ⟨m, u, l, hm, h3, hub, hlb, hv.symm⟩

theorem optBound_le {x x' : Option Value} (hr : ORel g x x') {n d z : Nat} (hd : d ≤ n) (hb : optBound x n d = some z) : z ≤ n := by
  cases x with
  | none => simp [optBound] at hb; omega
  | some v =>
    cases x' with
    | none => exact hr.elim
    | some v' =>
      simp only [optBound] at hb
      obtain ⟨k, i, _, h0, h1, h2⟩ := asliceBound_some hr hb
      omega

theorem asliceBound_mono {x : Value} {n n' z : Nat} (hb : asliceBound x n = some z) (hz : z ≤ n') : asliceBound x n' = some z := by
  unfold asliceBound at hb ⊢
  split at hb
  · split at hb
    · rename_i hc
      simp only [Option.some.injEq] at hb
      rw [if_pos ⟨hc.1, by omega⟩, hb]
    · simp at hb
  · simp at hb

theorem topOf_le (R : Rel P B g h w) {a r : Addr} (ha : ARel g a r) {es len rc : Nat} (hl : len ≤ rc) (hr : ∀ v, a.spot = some v → a.off + rc * g.es a.block = g.room a.block v) : topOf h es a len ≤ rc := by
  unfold topOf
  split
  · exact hl
  · rename_i v hv
    split
    · rename_i k hk
      split
      · rename_i hc
        obtain ⟨h1, h2, h3, h4⟩ := hc
        have K := R.blk _ _ hk
        have hsz : k.sizes[v]? = some k.cells.length := by rw [← K.last]; congr 1; omega
        obtain ⟨r', c, e, f, hm, hh, hf, hroom, hle, _⟩ := K.at_ v _ h4 hsz
        have e1 := hr v hv
        rw [K.es, h2] at e1
        have : k.cells.length - a.off ≤ rc * es := by omega
        exact Nat.div_le_of_le_mul (by rw [Nat.mul_comm]; exact this)
      · exact hl
    · exact hl

theorem os_slc (R : Rel P B g h w) {t e : TypeId} {es : Nat} {x : Operand} {lo hi mx : Option Operand} (hu : P.underlying t = some (.slice e)) (hs : asize P e = some es) (hx : VRel g (ρ x) (ρ' x)) (hlo : ORel g (lo.map ρ) (lo.map ρ')) (hhi : ORel g (hi.map ρ) (hi.map ρ')) (hmx : ORel g (mx.map ρ) (mx.map ρ')) {res : ARes}
    (he : aop P h ρ (.slc es x lo hi mx) = some res) : OpS P B g w (do pure (.value (← Instr.sliceAt t (ρ' x) (lo.map ρ') (hi.map ρ') (mx.map ρ')))) res := by
  simp only [aop] at he
  obtain ⟨v, hv, rfl⟩ := toVal_some he
  unfold aslice at hv
  split at hv
  · rename_i len cap e1
    rw [e1] at hx; rw [rel_none_slice hx]
    split at hv
    · rename_i h0
      obtain ⟨m, u, l, hm, h3, hub, hl, rfl⟩ := cutK_some hv
      refine OpS.sameV R (run_slice hu hs hlo hhi hmx h3 hm hub hl) ?_
      have : (if m = l then (none : Option Addr) else none.map (aadd · (l * es))) = none := by split <;> rfl
      rw [this]
      have : (if m = l then (none : Option Addr) else none.map (fun z : Addr => z.add (l * es))) = none := by split <;> rfl
      rw [this]
      exact .sliN _ _
    · simp at hv
  · rename_i a len cap e1
    rw [e1] at hx
    obtain ⟨r, rc, hr, h1, h2, hg⟩ := rel_slice hx
    rw [hr]
    split at hv
    · rename_i hc
      have har : ARel g a r := by rcases h1 with ⟨_, h1⟩ | h1; omega; exact h1
      have := h2 hc; subst this
      obtain ⟨m, u, l, hm, h3, hub, hl, rfl⟩ := cutK_some hv
      refine OpS.sameV R (run_slice hu hs hlo hhi hmx h3 hm hub hl) ?_
      have hmn := optBound_le hmx (Nat.le_refl _) hm
      split
      · exact .sliK _ _ har (by omega)
      · exact .sliK _ _ (har.add _) (by omega)
    · rename_i hc
      split at hv
      · simp at hv
      · rename_i hmn
        have hmx0 : mx = none := by cases mx <;> simp_all
        subst hmx0
        split at hv
        · rename_i hne
          split at hv
          · rename_i hno
            simp only [Option.some.injEq] at hv; subst hv
            have hi0 : hi = none := by cases hi <;> simp_all
            have lo0 : lo = none := by cases lo <;> simp_all
            subst hi0; subst lo0
            refine OpS.sameV R (run_slice (g := g) (lo := none) (hi := none) (mx := none) hu hs trivial trivial trivial (by simp) (m := rc) (u := len) (l := 0) rfl rfl rfl) ?_
            have e5 : (if rc = 0 then some r else (some r).map (·.add (0 * es))) = some r := by split <;> simp [Addr.add]
            rw [e5]
            simp only [Nat.sub_zero]
            rw [hr] at hx
            rw [e1]; exact hx
          · simp at hv
        · rename_i hge
          have hcg : cap = gcap := by simpa using hge
          obtain ⟨hlen, hroom⟩ := hg hcg
          have har : ARel g a r := by rcases h1 with ⟨_, h1⟩ | h1; omega; exact h1
          split at hv
          · simp at hv
          · rename_i u hub
            split at hv
            · simp at hv
            · rename_i l hl
              have hur : optBound (hi.map ρ) rc len = some u ∧ u ≤ rc := by
                cases hi with
                | none => simp [optBound] at hub; subst hub; exact ⟨rfl, hlen⟩
                | some z =>
                  simp only [Option.map_some, optBound, Option.isNone_some, Bool.false_eq_true, if_false] at hub ⊢
                  obtain ⟨k, i, _, h0, h1', h2'⟩ := asliceBound_some (hhi : VRel g (ρ z) (ρ' z)) hub
                  have ht := topOf_le R har (es := es) hlen hroom
                  have : u ≤ rc := by omega
                  exact ⟨asliceBound_mono hub this, this⟩
              have hlu := optBound_le hlo (Nat.zero_le _) hl
              refine OpS.sameV R (run_slice (g := g) (mx := none) hu hs hlo hhi trivial (by simp) (m := rc) rfl hur.1 hl) ?_
              split at hv
              · rename_i hl0
                simp only [Option.some.injEq] at hv; subst hv; subst hl0
                have : (if rc = 0 then some r else (some r).map (·.add (0 * es))) = some r := by split <;> simp [Addr.add]
                rw [this]
                exact .sliU _ _ har (by omega) (by simpa using hroom)
              · rename_i hl0
                split at hv
                · rename_i hlt
                  split at hv
                  · rename_i hes
                    simp only [Option.some.injEq] at hv; subst hv
                    rw [if_neg (by omega)]
                    refine .sliU _ _ (har.add _) (by omega) fun v hv => ?_
                    have hv' : a.spot = some v := hv
                    have e2 := hroom v hv'
                    have e3 : g.es a.block = es := by
                      unfold esOk at hes
                      rw [hv'] at hes
                      simp only at hes
                      cases hk : h.dyn[a.block]? with
                      | none => simp [hk] at hes
                      | some k => simp [hk] at hes; rw [(R.blk _ _ hk).es, hes]
                    show a.off + l * es + (rc - l) * g.es a.block = g.room a.block v
                    rw [e3] at e2 ⊢
                    rw [← e2, Nat.sub_mul]
                    have : l * es ≤ rc * es := Nat.mul_le_mul_right _ (by omega)
                    omega
                  · simp at hv
                · rename_i hlt
                  simp only [Option.some.injEq] at hv; subst hv
                  have : u - l = 0 := by omega
                  rw [this]
                  split
                  · exact .sliE _ _
                  · exact .sliE _ _
  · simp at hv

end

end Go.Ax
