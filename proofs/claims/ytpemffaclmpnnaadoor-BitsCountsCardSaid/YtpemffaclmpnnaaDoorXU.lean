/- An abstract machine for Go programs: its operations against the model's (literals, asserted types, builtins). -/
import Derived.Test.YtpemffaclmpnnaaDoorXT
namespace Go.Ax
set_option linter.unusedVariables false
set_option linter.unusedSimpArgs false

section
variable {P : Program} {B : Nat} {g : Ghost} {h : Heap} {w : World} {ρ ρ' : Operand → Value}

theorem fold_get (off : Nat) : ∀ (l : List Value) (k : Nat) (cells : Array Value) (i : Nat),
    ((l.zipIdx k).foldl (fun cs (c, j) => cs.setIfInBounds (off + j) c) cells)[i]? = if off + k ≤ i ∧ i < off + k + l.length ∧ i < cells.size then l[i - off - k]? else cells[i]? := by
  intro l
  induction l with
  | nil => intro k cells i; simp; intro h1 h2; omega
  | cons x l ih =>
    intro k cells i
    rw [List.zipIdx_cons, List.foldl_cons, ih]
    simp only [Array.size_setIfInBounds, List.length_cons]
    by_cases h1 : off + (k + 1) ≤ i ∧ i < off + (k + 1) + l.length ∧ i < cells.size
    · rw [if_pos h1, if_pos ⟨by omega, by omega, h1.2.2⟩]
      have : i - off - k = (i - off - (k + 1)) + 1 := by omega
      rw [this]; simp
    · rw [if_neg h1, Array.getElem?_setIfInBounds]
      by_cases h2 : off + k = i
      · rw [if_pos h2]
        by_cases h3 : i < cells.size
        · rw [if_pos (by omega), if_pos ⟨by omega, by omega, h3⟩]
          have : i - off - k = 0 := by omega
          rw [this]; rfl
        · rw [if_neg (by omega), if_neg (by omega), Array.getElem?_eq_none (by omega)]
      · rw [if_neg h2, if_neg (by omega)]

theorem fold_size (off : Nat) : ∀ (l : List Value) (k : Nat) (cells : Array Value), ((l.zipIdx k).foldl (fun cs (c, j) => cs.setIfInBounds (off + j) c) cells).size = cells.size := by
  intro l
  induction l with
  | nil => intro k cells; rfl
  | cons x l ih => intro k cells; rw [List.zipIdx_cons, List.foldl_cons, ih]; simp

theorem fill_sound {place : Nat → Option (Nat × Nat)} : ∀ (parts : List (Nat × Operand)) (l : List (Nat × Nat × Operand)) (hp : partsOf place parts = some l) (hρ : ∀ p ∈ parts, VRel g (ρ p.2) (ρ' p.2))
    (cells : List Value) (cells' : Array Value) (hc : LR g cells cells'.toList) (r : List Value) (hf : fillL cells (l.map fun (o, s, x) => (o, s, ρ x)) = some r),
    ∃ r', Instr.fill place cells' (parts.map fun (i, x) => (i, ρ' x)) = some r' ∧ LR g r r'.toList := by
  intro parts
  induction parts with
  | nil =>
    intro l hp hρ cells cells' hc r hf
    simp [partsOf] at hp; subst hp
    simp [fillL] at hf; subst hf
    exact ⟨cells', rfl, hc⟩
  | cons p parts ih =>
    intro l hp hρ cells cells' hc r hf
    obtain ⟨i, x⟩ := p
    unfold partsOf at hp
    split at hp
    · rename_i o s l' h1 h2
      simp only [Option.some.injEq] at hp; subst hp
      simp only [List.map_cons, fillL] at hf
      split at hf
      · simp at hf
      · rename_i hn
        simp only [not_or, Bool.not_eq_false, ne_eq, Decidable.not_not] at hn
        obtain ⟨n1, n2, n3⟩ := hn
        have hv : VRel g (ρ x) (ρ' x) := hρ (i, x) (by simp)
        have hl := cells_rel hv n1
        have hs : (ρ' x).cells.size = s := by have := hl.1; simp at this; omega
        have hcs : cells'.size = cells.length := by have := hc.1; simp at this; omega
        let c2 := ((ρ' x).cells.toList.zipIdx 0).foldl (fun cs (c, j) => cs.setIfInBounds (o + j) c) cells'
        have hc2 : LR g (cells.take o ++ (ρ x).cells.toList ++ cells.drop (o + s)) c2.toList := by
          have hlen : (cells.take o ++ (ρ x).cells.toList ++ cells.drop (o + s)).length = c2.toList.length := by
            simp only [List.length_append, List.length_take, List.length_drop, Array.length_toList, c2, fold_size]; omega
          refine ⟨hlen, fun j a b ha hb => ?_⟩
          have hb' : c2[j]? = some b := by simpa using hb
          rw [fold_get] at hb'
          simp only [Array.length_toList, Nat.add_zero, Nat.sub_zero] at hb'
          by_cases hj : j < o
          · rw [if_neg (by omega)] at hb'
            rw [List.append_assoc, List.getElem?_append_left (by simp; omega), List.getElem?_take_of_lt hj] at ha
            exact hc.2 j a b ha (by simpa using hb')
          · by_cases hj2 : j < o + s
            · rw [if_pos ⟨by omega, by omega, by omega⟩] at hb'
              rw [List.append_assoc, List.getElem?_append_right (by simp; omega), List.getElem?_append_left (by simp; omega)] at ha
              simp only [List.length_take] at ha
              rw [show min o cells.length = o by omega] at ha
              exact hl.2 _ a b ha hb'
            · rw [if_neg (by omega)] at hb'
              rw [List.getElem?_append_right (by simp; omega), List.getElem?_drop] at ha
              simp only [List.length_append, List.length_take, Array.length_toList] at ha
              rw [show o + s + (j - (min o cells.length + (ρ x).cells.size)) = j by omega] at ha
              exact hc.2 j a b ha (by simpa using hb')
        obtain ⟨r', hr', hlr⟩ := ih l' h2 (fun p hp => hρ p (List.mem_cons_of_mem _ hp)) _ c2 hc2 r hf
        refine ⟨r', ?_, hlr⟩
        simp only [List.map_cons, Instr.fill, h1]
        rw [if_neg (by simp [hs]; omega)]
        rw [← hr']
        congr 1
        simp only [c2, ← Array.foldl_toList, Array.toList_zipIdx]
    · simp at hp

theorem run_places : ∀ {fs : List Field} {pl : List (Nat × Nat)}, placesOf P fs = some pl → (fs.mapM fun f => (do pure (f.offset, ← sizeOf f.type) : Sem (Nat × Nat))).run P w = .ok pl w := by
  intro fs
  induction fs with
  | nil => intro pl hp; simp [placesOf] at hp; subst hp; simp
  | cons f fs ih =>
    intro pl hp
    unfold placesOf at hp
    split at hp
    · rename_i s l h1 h2
      simp only [Option.some.injEq] at hp; subst hp
      rw [List.mapM_cons, run_bindE (a := (f.offset, s)) (w' := w) (by rw [run_bindE (run_size h1)]; rfl), run_bindE (ih h2)]
      rfl
    · simp at hp

theorem os_build (R : Rel P B g h w) {t : TypeId} {parts : Array (Nat × Operand)} (hρ : ∀ p ∈ parts, VRel g (ρ p.2) (ρ' p.2)) {res : ARes} (he : aop P h ρ (compOp P (.build t parts)) = some res) :
    OpS P B g w (do pure (.value (← Instr.build t (parts.map fun (i, x) => (i, ρ' x))))) res := by
  simp only [compOp] at he
  have hρ' : ∀ p ∈ parts.toList, VRel g (ρ p.2) (ρ' p.2) := fun p hp => hρ p (by simpa using hp)
  have hpl : (parts.map fun (i, x) => (i, ρ' x)).toList = parts.toList.map fun (i, x) => (i, ρ' x) := by simp
  split at he
  · rename_i fields zl hu hz
    obtain ⟨i, z, hi, hzz, rfl, hp⟩ := zeroOf_some hz
    split at he
    · rename_i pl hpl'
      split at he
      · rename_i l hl
        simp only [aop] at he
        split at he
        · rename_i r hr
          simp only [Option.some.injEq] at he; subst he
          obtain ⟨r', hr', hlr⟩ := fill_sound parts.toList l hl hρ' _ z.cells (allPlain_LR hp) r hr
          refine OpS.sameV R (y := .agg r') ?_ (.agg (by simpa using hlr.1) fun j a b ha hb => hlr.2 j a b (by simpa using ha) (by simpa using hb))
          unfold Instr.build
          rw [run_bindE (run_zero hi hzz), run_bindE (run_und hu)]
          simp only
          have : (fields.mapM fun f => (do pure (f.offset, ← sizeOf f.type) : Sem (Nat × Nat))).run P w = .ok pl.toArray w := by
            rw [Array.mapM_eq_mapM_toList, Sem.run_map, run_places hpl']; rfl
          rw [run_bindE this, hpl]
          simp only [List.getElem?_toArray, hr']
          rfl
        · simp at he
      · simp [aop] at he
    · simp [aop] at he
  · rename_i n e zl hu hz
    obtain ⟨i, z, hi, hzz, rfl, hp⟩ := zeroOf_some hz
    split at he
    · rename_i s hs
      split at he
      · rename_i l hl
        simp only [aop] at he
        split at he
        · rename_i r hr
          simp only [Option.some.injEq] at he; subst he
          obtain ⟨r', hr', hlr⟩ := fill_sound parts.toList l hl hρ' _ z.cells (allPlain_LR hp) r hr
          refine OpS.sameV R (y := .agg r') ?_ (.agg (by simpa using hlr.1) fun j a b ha hb => hlr.2 j a b (by simpa using ha) (by simpa using hb))
          unfold Instr.build
          rw [run_bindE (run_zero hi hzz), run_bindE (run_und hu)]
          simp only
          rw [run_bindE (run_size hs), hpl, hr']
          rfl
        · simp at he
      · simp [aop] at he
    · simp [aop] at he
  · simp [aop] at he

theorem os_lit (R : Rel P B g h w) {t : TypeId} {len : Nat} {parts : Array (Nat × Operand)} (hρ : ∀ p ∈ parts, VRel g (ρ p.2) (ρ' p.2)) {res : ARes} (he : aop P h ρ (compOp P (.buildSlice t len parts)) = some res) :
    OpS P B g w (do pure (.value (← Instr.buildSlice t len (parts.map fun (i, x) => (i, ρ' x))))) res := by
  simp only [compOp] at he
  have hρ' : ∀ p ∈ parts.toList, VRel g (ρ p.2) (ρ' p.2) := fun p hp => hρ p (by simpa using hp)
  have hpl : (parts.map fun (i, x) => (i, ρ' x)).toList = parts.toList.map fun (i, x) => (i, ρ' x) := by simp
  split at he
  · rename_i e hu
    split at he
    · rename_i s zl hs hz
      obtain ⟨i, z, hi, hzz, rfl, hp⟩ := zeroOf_some hz
      split at he
      · rename_i hcnd
        have hsz : z.cells.size = s := by simpa using hcnd.2.1
        split at he
        · rename_i l hl
          simp only [aop] at he
          split at he
          · rename_i r hr
            simp only [Option.some.injEq] at he; subst he
            let row : Array Value := (Array.range (len * s)).map (z.cells[· % z.cells.size]!)
            have hrow : LR g (List.replicate len z.cells.toList).flatten row.toList := by
              refine ⟨by rw [rows_len]; simp [row, hsz], fun j a b ha hb => ?_⟩
              rw [rows_get] at ha
              split at ha
              · rename_i hlt
                simp only [Option.some.injEq] at ha; subst ha
                have hlt' : j < len * s := by rw [← hsz]; exact hlt
                have hb' : row[j]? = some b := by simpa using hb
                simp [row, hlt'] at hb'
                subst hb'
                have hm : j % z.cells.size < z.cells.size := Nat.mod_lt _ (by
                  rcases Nat.eq_zero_or_pos z.cells.size with h0 | h0
                  · rw [h0] at hlt; simp at hlt
                  · exact h0)
                exact (allPlain_LR hp).2 (j % z.cells.size) _ _ (by simp [hm]) (by simp [hm])
              · simp at ha
            obtain ⟨r', hr', hlr⟩ := fill_sound parts.toList l hl hρ' _ row hrow r hr
            obtain ⟨g', R', E', ha, _, _⟩ := new_sound R r' e r s (by have := hlr.1; simp at this; omega) hlr.getc
            have hrun : (Instr.buildSlice t len (parts.map fun (i, x) => (i, ρ' x))).run P w = .ok (.slice (some ⟨w.heap.size, 0, none⟩) len len) (w.alloc (.cells r' e)) := by
              unfold Instr.buildSlice
              rw [run_bindE (run_und hu)]
              simp only
              rw [run_bindE (run_size hs)]
              rw [if_neg (by omega)]
              by_cases hn : len * s = 0
              · simp only [hn, if_true]
                rw [run_bindE (a := #[]) (w' := w) rfl]
                have h0 : row = #[] := by simp [row, hn]
                rw [h0] at hr'
                rw [hpl]
                simp only [show Array.range 0 = #[] from rfl, Array.map_empty, hr']
                rw [run_bindE run_newRow]; rfl
              · rw [if_neg hn, run_bindE (run_zero hi hzz), run_bindE (a := z.cells) (w' := w) rfl, hpl]
                have : Instr.fill (fun i => some (i * s, s)) ((Array.range (len * s)).map fun x => z.cells[x % z.cells.size]!) (parts.toList.map fun (i, x) => (i, ρ' x)) = some r' := hr'
                simp only [this]
                rw [run_bindE run_newRow]; rfl
            refine ⟨_, _, g', .inl (run_v hrun), .sliK _ _ ha ?_, R', E'⟩
            have := hcnd.2.2
            exact this
          · simp at he
        · simp [aop] at he
      · simp [aop] at he
    · simp [aop] at he
  · simp [aop] at he

end

end Go.Ax
