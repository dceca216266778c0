/- An abstract machine for Go programs: append and copy against the model's. -/
import Derived.Test.YtpemffaclmpnnaaDoorXW
namespace Go.Ax
set_option linter.unusedVariables false
set_option linter.unusedSimpArgs false

section
variable {P : Program} {B : Nat} {g : Ghost} {h : Heap} {w : World} {ρ ρ' : Operand → Value}

theorem addr_mk {a : Addr} {v : Nat} (h1 : a.off = 0) (h2 : a.spot = some v) : a = ⟨a.block, 0, some v⟩ := by
  cases a; simp only at h1 h2; subst h1; subst h2; rfl

theorem loadN_blk {h : Heap} {b v : Nat} {k : Blk} (hk : h.dyn[b]? = some k) (hd : k.dead ≤ v) {s : Nat} (hs : k.sizes.getD v 0 = s) (hle : s ≤ k.cells.length) :
    ∀ (n o : Nat), o + n ≤ s → loadN h ⟨b, o, some v⟩ n = some ((k.cells.drop o).take n) := by
  intro n
  induction n with
  | zero => intro o _; simp [loadN]
  | succ n ih =>
    intro o ho
    unfold loadN
    have hlt : o < k.cells.length := by omega
    have h1 : hload h ⟨b, o, some v⟩ = some k.cells[o] := by
      unfold hload
      simp only [hk, hs]
      rw [if_pos ⟨hd, by omega⟩, List.getElem?_eq_getElem hlt]
    have h2 : loadN h (aadd ⟨b, o, some v⟩ 1) n = some ((k.cells.drop (o + 1)).take n) := ih (o + 1) (by omega)
    simp only [h1, h2]
    rw [List.drop_eq_getElem_cons hlt]
    rfl

/-- The model's append in place. -/
theorem run_app_in {st xt elem ty : TypeId} {xd : TypeDesc} {i : TypeInfo} {base : Option Addr} {sLen sCap n : Nat} {x : Value} {new : Array Value} {w' : World} (hst : P.underlying st = some (.slice elem)) (hxt : P.underlying xt = some xd) (hxd : isIntD xd = false)
    (hi : P.info? elem = some i) (hn : (Builtin.lenOf x).run P w = .ok n w) (hc : sLen + n ≤ sCap) (hf : (Builtin.firstCells i.size n x).run P w = .ok new w)
    (hs : match base with | some a => (storeCells (a.add (sLen * i.size)) new.toList).run P w = .ok () w' | none => w' = w) :
    (Builtin.append_ #[st, xt] ty #[.slice base sLen sCap, x]).run P w = .ok (.slice base (sLen + n) sCap) w' := by
  have hs' : asize P elem = some i.size := by simp [asize, hi]
  unfold Builtin.append_
  simp only [List.getElem?_toArray, List.getElem?_cons_zero, List.getElem?_cons_succ]
  rw [run_bindE (run_und hst)]
  simp only
  rw [run_bindE (run_size hs'), run_bindE (run_und hxt), run_bindE (a := false) (w' := w) (by cases xd <;> first | rfl | simp [isIntD] at hxd)]
  simp only [Bool.false_eq_true, if_false, Bool.not_false, if_true]
  rw [run_bindE hn, if_pos hc, run_bindE hf]
  cases base with
  | none => simp only at hs ⊢; subst hs; rfl
  | some a => simp only at hs ⊢; rw [run_bindE hs]; rfl

/-- The model's append into a new block. -/
theorem run_app_out {st xt elem ty : TypeId} {xd : TypeDesc} {i : TypeInfo} {z : Value} {base : Option Addr} {sLen sCap n : Nat} {x : Value} {old new : Array Value} (hst : P.underlying st = some (.slice elem)) (hxt : P.underlying xt = some xd) (hxd : isIntD xd = false)
    (hi : P.info? elem = some i) (hz : i.zero = some z) (hn : (Builtin.lenOf x).run P w = .ok n w) (hc : ¬ sLen + n ≤ sCap) (hb : (sLen + n) * i.bytes ≤ 140737488355328) (hnb : sLen + n ≤ 140737488355328)
    (ho : (Builtin.firstCells i.size sLen (.slice base sLen sCap)).run P w.drew = .ok old w.drew) (hf : (Builtin.firstCells i.size n x).run P w.drew = .ok new w.drew) :
    ∃ newCap, sLen + n ≤ newCap ∧ (Builtin.append_ #[st, xt] ty #[.slice base sLen sCap, x]).run P w =
      .ok (.slice (some ⟨w.heap.size, 0, none⟩) (sLen + n) newCap) (w.drew.alloc (.cells (old ++ new ++ Builtin.zeroCells z.cells (newCap - (sLen + n))) elem)) := by
  have hs' : asize P elem = some i.size := by simp [asize, hi]
  let newCap := (Question.appendCap (sLen + n) sCap elem).cut (w.tape w.drawn (.appendCap (sLen + n) sCap elem))
  refine ⟨newCap, by show _ ≤ sLen + n + _; omega, ?_⟩
  unfold Builtin.append_
  simp only [List.getElem?_toArray, List.getElem?_cons_zero, List.getElem?_cons_succ]
  rw [run_bindE (run_und hst)]
  simp only
  rw [run_bindE (run_size hs'), run_bindE (run_und hxt), run_bindE (a := false) (w' := w) (by cases xd <;> first | rfl | simp [isIntD] at hxd)]
  simp only [Bool.false_eq_true, if_false, Bool.not_false, if_true]
  rw [run_bindE hn, if_neg hc, run_bindE (run_info hi)]
  have hmax : IntKind.i64.max = 9223372036854775807 := by decide
  rw [if_neg (by rw [hmax]; omega), run_bindE (run_info hi)]
  have hnc := nextcap_le (need := sLen + n) (old := sCap) (by omega)
  have hb2 : ¬ Builtin.nextslicecap (sLen + n) sCap * i.bytes > 2 ^ 48 := by
    have : Builtin.nextslicecap (sLen + n) sCap * i.bytes ≤ 2 * (sLen + n) * i.bytes := Nat.mul_le_mul_right _ hnc
    rw [Nat.mul_assoc] at this
    omega
  rw [if_neg hb2]
  rw [run_bindE (a := newCap) (w' := w.drew) rfl]
  rw [run_bindE (run_info hi), run_bindE (run_askRoom P w.drew _), run_bindE ho, run_bindE hf, run_bindE (run_zero hi hz), run_bindE run_newRow]
  rfl

theorem firstN_drew {w : World} {es n : Nat} {x : Value} {l : Array Value} (hl : ∀ w0 : World, w0.heap = w.heap → (Builtin.firstCells es n x).run P w0 = .ok l w0) : (Builtin.firstCells es n x).run P w.drew = .ok l w.drew := hl _ rfl

theorem old_sound (R : Rel P B g h w) {a r : Addr} (ha : ARel g a r) {len rc es : Nat} {old : List Value} (ho : loadN h a (len * es) = some old) :
    ∃ ys, (Builtin.firstCells es len (.slice (some r) len rc)).run P w = .ok ys.toArray w ∧ LR g old ys := by
  obtain ⟨ys, hlr, hlen, hc⟩ := loadN_sound R (len * es) ha ho
  exact ⟨ys, run_loadCells hc (by rw [← hlr.1]; exact hlen), hlr⟩

theorem os_app (R : Rel P B g h w) {st xt ty : TypeId} {xd : TypeDesc} {elem : TypeId} {i : TypeInfo} {zl : List Value} {s x : Operand} (hst : P.underlying st = some (.slice elem)) (hxt : P.underlying xt = some xd) (hxd : isIntD xd = false)
    (hi : P.info? elem = some i) (hz : zeroOf P elem = some zl) (hs : VRel g (ρ s) (ρ' s)) (hx : VRel g (ρ x) (ρ' x)) {res : ARes}
    (he : aop P h ρ (.app i.size i.bytes zl s x) = some res) : OpS P B g w (do pure (.value (← Builtin.append_ #[st, xt] ty #[ρ' s, ρ' x]))) res := by
  simp only [aop] at he
  obtain ⟨i', z, hi', hzz, rfl, hp⟩ := zeroOf_some hz
  rw [hi] at hi'; simp only [Option.some.injEq] at hi'; subst hi'
  unfold toRes at he
  split at he
  case h_2 => simp at he
  rename_i v h' ha
  simp only [Option.some.injEq] at he; subst he
  unfold aappend at ha
  split at ha
  case h_2 => simp at ha
  rename_i base len cap n e1 e2
  rw [e1] at hs
  have hlen : (Builtin.lenOf (ρ' x)).run P w = .ok n w := slen_rel hx e2
  split at ha
  · simp at ha
  rename_i new hnw
  have hfirst : ∀ (w0 : World), Rel P B g h w0 → ∃ ys, (Builtin.firstCells i.size n (ρ' x)).run P w0 = .ok ys.toArray w0 ∧ LR g new ys := fun w0 R0 => firstN_sound R0 hx e2 (Nat.le_refl _) hnw
  -- a new block
  have fresh : ∀ (s' : Value) (base' : Option Addr) (rc : Nat) (oldl : List Value), s' = .slice base' len rc → ¬ len + n ≤ rc → (len + n) * i.bytes ≤ 140737488355328 → len + n ≤ 140737488355328 → z.cells.toList.length = i.size → new.length = n * i.size → oldl.length = len * i.size →
      (∀ w0 : World, Rel P B g h w0 → ∃ ys, (Builtin.firstCells i.size len (.slice base' len rc)).run P w0 = .ok ys.toArray w0 ∧ LR g oldl ys) →
      OpS P B g w (do pure (.value (← Builtin.append_ #[st, xt] ty #[s', ρ' x]))) (.val (.slice (some (hnext h)) (len + n) gcap) (hnew h (oldl ++ new) i.size)) := by
    intro s' base' rc oldl hs' hcap hb hnb hzl hnl hol hold
    subst hs'
    have R1 : Rel P B g h w.drew := R.drew
    obtain ⟨ys, hys, hlr⟩ := hfirst _ R1
    obtain ⟨os, hos, hlo⟩ := hold _ R1
    obtain ⟨newCap, hnc, hrun⟩ := run_app_out (ty := ty) hst hxt hxd hi hzz hlen hcap hb hnb hos hys
    let c : Array Value := os.toArray ++ ys.toArray ++ Builtin.zeroCells z.cells (newCap - (len + n))
    have hcs : c.size = newCap * i.size := by
      have h1 := hlr.1; have h2 := hlo.1
      have h3 : z.cells.size = i.size := by simpa using hzl
      simp only [c, Array.size_append, List.size_toArray, zeroCells_size, h3]
      rw [← h1, ← h2, hnl, hol, ← Nat.add_mul, ← Nat.add_mul]
      congr 1; omega
    have hall : LR g (oldl ++ new) (os ++ ys) := hlo.append hlr
    obtain ⟨g', R', E', hadr, hroom, hes⟩ := new_sound R1 c elem (oldl ++ new) i.size (by
        rw [hcs, List.length_append, hol, hnl, ← Nat.add_mul]; exact Nat.mul_le_mul_right _ hnc) (fun j y hj => by
      obtain ⟨y', hy', hv'⟩ := hall.get hj
      refine ⟨y', ?_, hv'⟩
      have hlt : j < (os ++ ys).length := by
        rcases Nat.lt_or_ge j (os ++ ys).length with h1 | h1
        · exact h1
        · rw [List.getElem?_eq_none h1] at hy'; simp at hy'
      simp only [c]
      rw [Array.getElem?_append_left (by simpa using hlt)]
      simpa using hy')
    refine ⟨_, _, g', .inl (run_v hrun), .sliU _ _ hadr hnc (fun v hv => ?_), R', ⟨E'.le, E'.new, E'.size, E'.same, E'.os, E'.tape, E'.output⟩⟩
    have : v = 0 := by simpa [hnext] using hv.symm
    subst this
    show 0 + newCap * g'.es h.dyn.length = g'.room h.dyn.length 0
    rw [hes, hroom, hcs]; omega
  split at ha
  · -- nothing is appended
    rename_i hn0
    subst hn0
    split at ha
    · simp at ha
    · rename_i hcl
      simp only [Option.some.injEq, Prod.mk.injEq] at ha
      obtain ⟨rfl, rfl⟩ := ha
      obtain ⟨ys, hys, hlr⟩ := hfirst w R
      have hys0 : ys.toArray = #[] := by
        have : new = [] := by
          unfold firstN at hnw
          split at hnw <;> simp_all [loadN, byteCells]
        subst this
        rw [hlr.nil_inv]
      rw [hys0] at hys
      cases base with
      | none =>
        have := rel_none_slice hs
        rw [this]
        refine OpS.sameV R (run_app_in (w' := w) hst hxt hxd hi hlen (by omega) hys rfl) ?_
        rw [← this]; simpa [this] using hs
      | some a =>
        obtain ⟨r, rc, hr, h1, h2, h3⟩ := rel_slice hs
        rw [hr]
        have hle : len ≤ rc := by
          by_cases hg : cap < gcap
          · rw [h2 hg]; omega
          · by_cases hg2 : cap = gcap
            · exact (h3 hg2).1
            · rcases h1 with ⟨h1, _⟩ | h1
              · omega
              · cases hs' : ρ' s <;> rw [hs'] at hs <;> cases hs <;> simp_all
        refine OpS.sameV R (run_app_in (w' := w) hst hxt hxd hi hlen (by omega) hys (by simp [storeCells])) ?_
        rw [hr] at hs; exact hs
  · rename_i hn0
    split at ha
    · simp at ha
    · rename_i hcond
      simp only [not_or, ne_eq, Decidable.not_not, Bool.not_eq_false] at hcond
      obtain ⟨hzl, hnl, hgood⟩ := hcond
      cases base with
      | none =>
        simp only at ha
        split at ha
        · rename_i h0
          obtain ⟨rfl, rfl⟩ := h0
          unfold appNew at ha
          split at ha
          · rename_i hb
            simp only [Option.some.injEq, Prod.mk.injEq] at ha
            obtain ⟨rfl, rfl⟩ := ha
            have := fresh (ρ' s) none 0 [] (rel_none_slice hs) (by omega) (by simpa using hb.1) (by simpa using hb.2) hzl hnl (by simp) (fun w0 _ => ⟨[], rfl, LR.nil g⟩)
            simpa using this
          · simp at ha
        · simp at ha
      | some a =>
        obtain ⟨r, rc, hr, h1, h2, h3⟩ := rel_slice hs
        simp only at ha
        split at ha
        · rename_i hg
          have har : ARel g a r := by rcases h1 with ⟨_, h1⟩ | h1; omega; exact h1
          have := h2 hg; subst this
          split at ha
          · rename_i hle
            split at ha
            · rename_i h'' hst'
              simp only [Option.some.injEq, Prod.mk.injEq] at ha
              obtain ⟨rfl, rfl⟩ := ha
              obtain ⟨ys, hys, hlr⟩ := hfirst w R
              obtain ⟨w', hrun, R', E'⟩ := storeN_sound _ R (har.add (len * i.size)) hlr hst' 0
              have hrun' := hrun (r.add (len * i.size)) (har.add _).spot (by simp [Addr.add])
              rw [hr]
              exact ⟨_, w', g, .inl (run_v (run_app_in hst hxt hxd hi hlen hle hys (by simpa using hrun'))), .sliK _ _ har hg, R', E'⟩
            · simp at ha
          · rename_i hle
            split at ha
            · rename_i old hold
              unfold appNew at ha
              split at ha
              · rename_i hb
                simp only [Option.some.injEq, Prod.mk.injEq] at ha
                obtain ⟨rfl, rfl⟩ := ha
                exact fresh (ρ' s) (some r) rc old hr hle hb.1 hb.2 hzl hnl (by
                  obtain ⟨ys, _, hl, _⟩ := loadN_sound R _ har hold; exact hl) (fun w0 R0 => old_sound R0 har hold)
              · simp at ha
            · simp at ha
        · rename_i hg
          split at ha
          · rename_i hc
            obtain ⟨hcg, hoff, hb, hnb⟩ := hc
            subst hcg
            have har : ARel g a r := by rcases h1 with ⟨_, h1⟩ | h1; omega; exact h1
            obtain ⟨hlrc, hroom⟩ := h3 rfl
            split at ha
            · simp at ha
            · rename_i v hv
              split at ha
              · rename_i k hk
                split at ha
                · rename_i hkc
                  obtain ⟨k1, k2, k3, k4⟩ := hkc
                  simp only [Option.some.injEq, Prod.mk.injEq] at ha
                  obtain ⟨rfl, rfl⟩ := ha
                  have hg0 : g.m a.block v = some r.block ∧ r.off = a.off := by have := har.2; rw [hv] at this; exact this
                  have K := R.blk _ _ hk
                  have hsz : k.sizes[v]? = some k.cells.length := by rw [← K.last]; congr 1; omega
                  obtain ⟨r', c, e, f, hm, hh, hf, hroomc, hle, hcell⟩ := K.at_ v _ k4 hsz
                  have hrr : r' = r.block := by rw [hg0.1] at hm; exact (Option.some.inj hm).symm
                  subst hrr
                  have hB := (R.dom _ _ _ hm).2
                  have hrm := hroom v hv
                  rw [K.es, k2, hoff, Nat.zero_add, ← hroomc] at hrm
                  have hr0 : r = ⟨r.block, 0, none⟩ := by have := har.1; have := hg0.2; cases r; simp_all
                  by_cases hin : len + n ≤ rc
                  · -- in place
                    obtain ⟨ys, hys, hlr⟩ := hfirst w R
                    have hyl : ys.length = n * i.size := by rw [← hlr.1]; exact hnl
                    have hfit : len * i.size + 0 + ys.length ≤ c.size := by
                      rw [hyl, ← hrm, Nat.add_zero, ← Nat.add_mul]; exact Nat.mul_le_mul_right _ hin
                    have hyg : ys.all goodC = true := by
                      rw [List.all_eq_true] at hgood ⊢
                      intro y hy
                      obtain ⟨j, hj, rfl⟩ := List.getElem_of_mem hy
                      have hj' : j < new.length := by rw [hlr.1]; exact hj
                      exact goodC_rel (hlr.2 j new[j] ys[j] (List.getElem?_eq_getElem hj') (List.getElem?_eq_getElem hj)) (hgood _ (List.getElem_mem hj'))
                    obtain ⟨w', c', hrun, hh', hcs, hcg, hoth, hws, q1, q2, q3⟩ := storeCells_raw (P := P) ys w c (len * i.size) 0 hh hf.1 hfit hyg
                    have hcl : (k.cells ++ new).length ≤ c'.size := by rw [hcs, List.length_append, ← k3, hnl, ← hyl]; simpa using hfit
                    obtain ⟨g', R', E', gm, groom, ges⟩ := extend_sound R hk k1 k4 (w' := w') (by omega) (fun q hq _ => hoth q hq) hh' (by rw [hcs]; exact hf) hB.1 (by omega)
                      (.inr ⟨hm, c, e, f, hh, rfl, hcs, fun j hj => by rw [hcg, if_neg (by omega)]⟩) new hcl (fun j y hj => by
                        rw [hcg]
                        by_cases hjl : j < k.cells.length
                        · rw [if_neg (by omega)]
                          rw [List.getElem?_append_left hjl] at hj
                          exact hcell j y hjl hj
                        · rw [List.getElem?_append_right (by omega)] at hj
                          obtain ⟨y', hy', hv'⟩ := hlr.get hj
                          have hlt : j - k.cells.length < ys.length := by
                            rcases Nat.lt_or_ge (j - k.cells.length) ys.length with h1 | h1
                            · exact h1
                            · rw [List.getElem?_eq_none h1] at hy'; simp at hy'
                          rw [if_pos (by omega)]
                          exact ⟨y', by rw [show j - (len * i.size + 0) = j - k.cells.length by omega]; exact hy', hv'⟩) q1 q2 q3
                    have hadd : r.add (len * i.size) = ⟨r.block, len * i.size, none⟩ := by rw [addr_add r har.1, hg0.2, hoff]; simp
                    have hrun' : (Builtin.append_ #[st, xt] ty #[ρ' s, ρ' x]).run P w = .ok (.slice (some r) (len + n) rc) w' := by
                      rw [hr]
                      exact run_app_in hst hxt hxd hi hlen hin hys (by simp only; rw [hadd]; simpa using hrun)
                    rw [show (len + n) * i.size = (k.cells ++ new).length by rw [List.length_append, ← k3, hnl, ← Nat.add_mul]]
                    refine ⟨_, w', g', .inl (run_v hrun'), .sliU _ _ ⟨har.1, ?_⟩ hin (fun v' hv' => ?_), R', E'⟩
                    · show g'.m a.block (v + 1) = some r.block ∧ r.off = 0
                      exact ⟨gm, by rw [hg0.2, hoff]⟩
                    · have : v' = v + 1 := by simpa using hv'.symm
                      subst this
                      show 0 + rc * g'.es a.block = g'.room a.block (v + 1)
                      rw [ges, groom, k2, hcs, Nat.zero_add, hrm]
                  · -- in new memory
                    have R1 : Rel P B g h w.drew := R.drew
                    obtain ⟨ys, hys, hlr⟩ := hfirst _ R1
                    have hyl : ys.length = n * i.size := by rw [← hlr.1]; exact hnl
                    have hold : loadN h a (len * i.size) = some k.cells := by
                      have ha0 : a = ⟨a.block, 0, some v⟩ := addr_mk hoff hv
                      rw [ha0, loadN_blk hk k4 (getD_some hsz) (Nat.le_refl _) _ _ (by omega), k3]
                      simp
                    obtain ⟨os, hos, hlo⟩ := old_sound R1 har (rc := rc) hold
                    obtain ⟨newCap, hnc, hrun⟩ := run_app_out (ty := ty) hst hxt hxd hi hzz hlen hin hb hnb hos hys
                    let c2 : Array Value := os.toArray ++ ys.toArray ++ Builtin.zeroCells z.cells (newCap - (len + n))
                    have hcs : c2.size = newCap * i.size := by
                      have h1 := hlr.1; have h2 := hlo.1
                      have h3 : z.cells.size = i.size := by simpa using hzl
                      simp only [c2, Array.size_append, List.size_toArray, zeroCells_size, h3]
                      rw [← h1, ← h2, hnl, ← k3, ← Nat.add_mul, ← Nat.add_mul]
                      congr 1; omega
                    have hall : LR g (k.cells ++ new) (os ++ ys) := hlo.append hlr
                    obtain ⟨g', R', E', gm, groom, ges⟩ := extend_sound R1 hk k1 k4 (w' := w.drew.alloc (.cells c2 elem)) (by simp) (fun q _ hq => Go.RowKit.Below.heap_alloc _ _ q hq) (alloc_at _ _)
                      ⟨fun j _ => by omega, fun _ => rfl⟩ R.base (by simp) (.inl (Nat.le_refl _)) new (by rw [hcs, List.length_append, ← k3, hnl, ← Nat.add_mul]; exact Nat.mul_le_mul_right _ hnc) (fun j y hj => by
                        obtain ⟨y', hy', hv'⟩ := hall.get hj
                        refine ⟨y', ?_, hv'⟩
                        have hlt : j < (os ++ ys).length := by
                          rcases Nat.lt_or_ge j (os ++ ys).length with h1 | h1
                          · exact h1
                          · rw [List.getElem?_eq_none h1] at hy'; simp at hy'
                        simp only [c2]
                        rw [Array.getElem?_append_left (by simpa using hlt)]
                        simpa using hy') rfl rfl rfl
                    rw [show (len + n) * i.size = (k.cells ++ new).length by rw [List.length_append, ← k3, hnl, ← Nat.add_mul]]
                    rw [← hr] at hrun
                    refine ⟨_, _, g', .inl (run_v hrun), .sliU _ _ ⟨rfl, ?_⟩ hnc (fun v' hv' => ?_), R', ⟨E'.le, E'.new, E'.size, E'.same, E'.os, E'.tape, E'.output⟩⟩
                    · show g'.m a.block (v + 1) = some w.heap.size ∧ 0 = 0
                      exact ⟨gm, rfl⟩
                    · have : v' = v + 1 := by simpa using hv'.symm
                      subst this
                      show 0 + newCap * g'.es a.block = g'.room a.block (v + 1)
                      rw [ges, groom, k2, hcs, Nat.zero_add]
                · simp at ha
              · simp at ha
          · simp at ha

theorem os_copy (R : Rel P B g h w) {dt ty : TypeId} {elem : TypeId} {rest : List TypeId} {es : Nat} {d s : Operand} (hdt : P.underlying dt = some (.slice elem)) (hes : asize P elem = some es)
    (hd : VRel g (ρ d) (ρ' d)) (hs : VRel g (ρ s) (ρ' s)) {res : ARes}
    (he : aop P h ρ (.copy es d s) = some res) : OpS P B g w (do pure (.value (← Builtin.copy_ (dt :: rest).toArray ty #[ρ' d, ρ' s]))) res := by
  simp only [aop] at he
  unfold toRes at he
  split at he
  case h_2 => simp at he
  rename_i v h' ha
  simp only [Option.some.injEq] at he; subst he
  unfold acopy at ha
  split at ha
  case h_2 => simp at ha
  rename_i base dl dc sl e1 e2
  rw [e1] at hd
  have hlen : (Builtin.lenOf (ρ' s)).run P w = .ok sl w := slen_rel hs e2
  split at ha
  · simp at ha
  rename_i new hnw
  obtain ⟨ys, hys, hlr⟩ := firstN_sound R hs e2 (Nat.min_le_left _ _) hnw
  have pre : ∀ {base' : Option Addr} {rc : Nat}, ρ' d = .slice base' dl rc → (Builtin.copy_ (dt :: rest).toArray ty #[ρ' d, ρ' s]).run P w = (do
      if let some a := base' then storeCells a ys.toArray.toList
      pure (goInt (min sl dl : Nat)) : Sem Value).run P w := by
    intro base' rc hr
    rw [hr]
    unfold Builtin.copy_
    simp only [List.getElem?_toArray, List.getElem?_cons_zero, List.getElem?_cons_succ]
    rw [run_bindE (run_und hdt)]
    simp only
    rw [run_bindE hlen, run_bindE (run_size hes)]
    have : Nat.min sl dl = min sl dl := rfl
    rw [this, run_bindE hys]
    cases base' <;> rfl
  cases base with
  | none =>
    simp only [Option.some.injEq, Prod.mk.injEq] at ha
    obtain ⟨rfl, rfl⟩ := ha
    exact OpS.sameV R (pre (rel_none_slice hd)) (.int _ _)
  | some a =>
    obtain ⟨r, rc, hr, h1, h2, h3⟩ := rel_slice hd
    simp only at ha
    split at ha
    · rename_i h'' hst
      simp only [Option.some.injEq, Prod.mk.injEq] at ha
      obtain ⟨rfl, rfl⟩ := ha
      rcases h1 with ⟨h1, h1'⟩ | har
      · subst h1
        have hn0 : new = [] := by
          unfold firstN at hnw
          split at hnw <;> simp_all [loadN, byteCells]
        subst hn0
        have := hlr.nil_inv; subst this
        simp [storeN] at hst; subst hst
        refine OpS.sameV R ((pre hr).trans ?_) (.int _ _)
        simp [storeCells, goInt]
      · obtain ⟨w', hrun, R', E'⟩ := storeN_sound _ R har hlr hst 0
        have hrun' := hrun r har.spot (by simp [Addr.add])
        refine ⟨_, w', g, .inl (run_v (w' := w') (y := .int .i64 (min sl dl : Nat)) ((pre hr).trans ?_)), .int _ _, R', E'⟩
        simp only
        rw [run_bindE (by simpa using hrun')]
        rfl
    · simp at ha

end

end Go.Ax
