/- Seat sel: the set of a selection; how several stand to each other. -/
import Derived.Test.YtahllahgeldjcaaDoorSD
import Derived.Test.YtahllahgeldjcaaDoorYR
namespace Go.Ax
open Go.Proofs
set_option linter.unusedVariables false
set_option linter.unusedSimpArgs false
set_option maxRecDepth 100000

section
variable {h : Heap} {ty s : TypeId} {x y : Operand} {v : Value} {lit : Bool}
@[simp] theorem eq_ifc_nil : abinop P h .eql ty (.iface lit) x y (.iface s v) .nilIface = some (.bool false) := by kernel_rfl
@[simp] theorem eq_nil_ifc : abinop P h .eql ty (.iface lit) x y .nilIface (.iface s v) = some (.bool false) := by kernel_rfl
@[simp] theorem eq_ifc_nils : abinop P h .eql ty (.iface true) x y .nilIface .nilIface = some (.bool true) := by kernel_rfl
end

theorem SelV.isI {h : Heap} {v : Value} {n p q : Nat} {ws : List (BitVec 64)} {f : Bool} (S : SelV h v n ws f p q) : ∃ s c, v = .iface s c := by
  rcases S with ⟨_, e, _⟩ | ⟨_, _, sl, e, _⟩ <;> exact ⟨_, _, e⟩

@[simp] theorem store_agg1 {h : Heap} {a : Addr} {x : Value} : storeR h 1 (.pointer (some a)) (.agg #[x]) = (storeN h a [x]).map fun h' => (undef, h') := store_agg (cs := #[x])
@[simp] theorem store_agg2 {h : Heap} {a : Addr} {x y : Value} : storeR h 2 (.pointer (some a)) (.agg #[x, y]) = (storeN h a [x, y]).map fun h' => (undef, h') := store_agg (cs := #[x, y])
theorem storeN_one {h h' : Heap} {a : Addr} {x : Value} (e : hstore h a x = some h') : storeN h a [x] = some h' := by simp [storeN, e]

theorem SelV.good {h : Heap} {v : Value} {n p q : Nat} {ws : List (BitVec 64)} {f : Bool} (S : SelV h v n ws f p q) : goodC v = true := by
  rcases S with ⟨_, rfl, _⟩ | ⟨_, _, sl, rfl, o⟩
  · simp [ptr]
  · obtain ⟨b, c, rfl, _⟩ := o.shape
    simp

/-- The set that a list of numbers tells. -/
theorem sparse_bits {h : Heap} {sl : Value} {n q : Nat} {ws : List (BitVec 64)} (cn : Canon n ws) (o : Own h sl q (iL (filt (bit ws) n))) :
    Gives P T (.fn F_sel_Sparse_Bits) [.agg #[.int .i64 n, sl]] h fun v h' => ∃ p2 q2, v = ptr p2 ∧ SetAt h' p2 q2 n ws ∧ Grow h h' ∧ h.dyn.length ≤ p2 ∧ h.dyn.length ≤ q2 := by
  have hn := cn.le
  have hfl := filt_le (bit ws) n
  have hg := o.good
  obtain ⟨b, c, rfl, _⟩ := o.shape
  obtain ⟨F, hF⟩ : ∃ F, filt (bit ws) n = F := ⟨_, rfl⟩
  rw [hF] at o hg hfl
  simp only [hF]
  refine gives_by t_sel_Sparse_Bits (by simp [c_sel_Sparse_Bits]) fun Q hQ => ?_
  obtain ⟨h1, hh1⟩ : ∃ x, x = hnew h [.int .i64 n, .slice b (iL F).length c] 0 := ⟨_, rfl⟩
  have g1 : Grow h h1 := by rw [hh1]; exact Grow.new _ _ _
  have row : RowAt h1 h.dyn.length 0 0 [.int .i64 n, .slice b (iL F).length c] := by rw [hh1]; exact RowAt.new _ _ _
  simp [c_sel_Sparse_Bits, hg, ← hh1, row.get (i := 0) rfl]
  refine got_call (new_spec hn) ?_
  rintro _ h2 ⟨p2, q2, rfl, s2, g2, hp2, hq2⟩
  obtain ⟨cz, bz⟩ := canon_zero hn
  have l1 := g1.len
  simp [(row.grow g2).get (i := 1) rfl]
  have o2 := (o.grow g1).grow g2
  refine go_loopK (fun kk ks h3 => ∃ (i : Nat) (wi : List (BitVec 64)), kk = F.length - i ∧ i ≤ F.length ∧ ks = [(3, ptr p2), (10, .slice b (iL F).length c), (11, .int .i64 F.length), (12, .int .i64 i)] ∧ SetAt h3 p2 q2 n wi ∧ Canon n wi ∧ (∀ j, bit wi j = decide (j ∈ F.take i)) ∧ Grow h h3) (n := F.length)
    ⟨0, _, rfl, by omega, rfl, s2, cz, fun j => by rw [bz]; simp, g1.trans g2⟩ (by simp [iL_len, ptr]) ?_
  rintro I hI kk ks e h3 ⟨i, wi, rfl, hi, rfl, s3, c3, hb3, g3⟩
  simp
  refine branch_dec (fun hlt => ?_) (fun hge => ?_)
  · have hiF : i < F.length := by omega
    have e4 : IntKind.i64.wrap ((i : Int) + 1) = ((i + 1 : Nat) : Int) := by rw [wrap_i64 (by omega) (by omega)]; omega
    obtain ⟨x, hx⟩ : ∃ x, F[i]? = some x := ⟨_, List.getElem?_eq_getElem hiF⟩
    obtain ⟨a, c', ea, _, ld⟩ := (o.grow g3).get (i := i) (x := .int .i64 (x : Nat)) (by unfold iL; rw [List.getElem?_map, hx]; rfl)
    simp only [Value.slice.injEq] at ea
    obtain ⟨rfl, -, rfl⟩ := ea
    have hxm : x ∈ filt (bit ws) n := by rw [hF]; exact List.mem_of_getElem? hx
    have hxn := (filt_mem.1 hxm).1
    simp [iL_len, hiF, ld]
    refine got_call (Put_spec s3 c3 hxn true) ?_
    rintro _ h4 ⟨rfl, w4, s4, c4, hb4, ch4⟩
    have htk : F.take (i + 1) = F.take i ++ [x] := by rw [List.take_add_one, hx]; rfl
    simp [e4]
    refine ⟨F.length - (i + 1), by omega, hI _ _ _ _ ⟨i + 1, w4, rfl, by omega, rfl, s4, c4, fun j => ?_, g3.after ch4 fun n hn e => by omega⟩ (by simp [iL_len, ptr])⟩
    rw [hb4, hb3, htk]
    by_cases hj : j = x
    · subst hj; simp
    · simp [hj]
  have hiF : i = F.length := by omega
  have hw : wi = ws := c3.ext cn fun j hj => by
    rw [hb3, hiF, List.take_length, ← hF]
    by_cases hb : bit ws j = true
    · rw [hb]; exact decide_eq_true (filt_mem.2 ⟨hj, hb⟩)
    · have : ¬ j ∈ filt (bit ws) n := fun h => hb (filt_mem.1 h).2
      rw [decide_eq_false this]
      cases h : bit ws j
      · rfl
      · exact absurd h hb
  subst hw
  simp
  exact hQ _ _ ⟨p2, q2, rfl, s3, g3, by omega, by omega⟩

section
variable {h : Heap} {v : Value} {n p q : Nat} {ws : List (BitVec 64)} {f : Bool} {K : Value → Heap → Prop}

theorem got_bits (S : SelV h v n ws f p q) (cn : Canon n ws) (i : ∀ p2 q2 h', SetAt h' p2 q2 n ws → Grow h h' → h.dyn.length ≤ p2 → h.dyn.length ≤ q2 → K (ptr p2) h') : got (callR (acallW P T) h (inv P h "Bits" v [])) K := by
  rcases S with ⟨_, rfl, s⟩ | ⟨_, _, sl, rfl, o⟩
  · simp [ptr]
    refine got_call (R := fun v h' => ∃ p2 q2, v = ptr p2 ∧ SetAt h' p2 q2 n ws ∧ Grow h h' ∧ h.dyn.length ≤ p2 ∧ h.dyn.length ≤ q2) ?_ ?_
    · refine gives_by t_sel_Dense_Bits (by simp [c_sel_Dense_Bits]) fun Q hQ => ?_
      have r := (RowAt.new h [ptr p] 0).get (i := 0) rfl
      have g1 := Grow.new h [ptr p] 0
      have hl := cn.len
      have hn := cn.le
      simp only [ptr] at r
      simp [c_sel_Dense_Bits, ptr, r]
      refine got_call (Clone_spec (s.grow g1) (by omega)) ?_
      rintro _ h' ⟨p2, q2, rfl, s2, g2, hp2, hq2⟩
      simp at hp2 hq2
      simp
      exact hQ _ _ ⟨p2, q2, rfl, s2, g1.trans g2, by omega, by omega⟩
    · rintro _ h' ⟨p2, q2, rfl, s2, g2, hp2, hq2⟩
      exact i p2 q2 h' s2 g2 hp2 hq2
  · simp
    refine got_call (sparse_bits cn o) ?_
    rintro _ h' ⟨p2, q2, rfl, s2, g2, hp2, hq2⟩
    exact i p2 q2 h' s2 g2 hp2 hq2

theorem set_spec (S : SelV h v n ws f p q) (cn : Canon n ws) : Gives P T (.fn F_sel_set) [v] h fun r h' => ∃ p2 q2, r = ptr p2 ∧ SetAt h' p2 q2 n ws ∧ Grow h h' := by
  refine gives_by t_sel_set (by simp [c_sel_set]) fun Q hQ => ?_
  by_cases hf : f = false
  · rcases S with ⟨_, rfl, s⟩ | ⟨e, _⟩
    · have g1 := Grow.new h [.pointer none] 0
      obtain ⟨h2, e2, rb2, c2, n2⟩ := (RowAt.new h [.pointer none] 0).put (y := ptr p) (by simp [ptr])
      simp only [ptr] at e2 rb2
      have g2 : Grow h h2 := g1.after c2 fun b hb e => by omega
      simp [c_sel_set, ptr, storeN_one e2, rb2.get (i := 0) rfl]
      exact hQ _ _ ⟨p, q, rfl, s.grow g2, g2⟩
    · rw [hf] at e; cases e
  · rcases S with ⟨e, _⟩ | ⟨e1, e2, sl, rfl, o⟩
    · exact absurd e hf
    · have S' : SelV h (.iface 80 (.agg #[.int .i64 n, sl])) n ws f p q := .inr ⟨e1, e2, sl, rfl, o⟩
      have h80 : (80 : TypeId) ≠ 53 := by decide
      have am : ∀ (cf : CF) (t : List Value) (h : Heap) (x : Operand) (z v : Value), evalT t x = .iface 80 v → runOp P cf (.asrt x 53 none z true) t h = some (.tuple #[z, .bool false], h) := fun cf t h x z v hx => asrt_miss hx h80
      simp [c_sel_set, am, -s_bits]
      refine got_bits S' cn fun p2 q2 h' s2 g2 _ _ => ?_
      simp
      exact hQ _ _ ⟨p2, q2, rfl, s2, g2⟩
end

structure SelD where
  v : Value
  n : Nat
  ws : List (BitVec 64)
  f : Bool
  p : Nat
  q : Nat

def SelD.ok (h : Heap) (d : SelD) : Prop := SelV h d.v d.n d.ws d.f d.p d.q ∧ Canon d.n d.ws

theorem SelD.growL {h h' : Heap} {d : SelD} (k : d.ok h) (g : GrowL h h') : d.ok h' := ⟨k.1.growL g, k.2⟩

theorem index_nil {h : Heap} {vm : Value} {l : List SelD} (r : Reads h vm (l.map (·.v))) (hs : ∀ d ∈ l, d.ok h) (hl : l.length ≤ 1000000000) :
    Gives P T (.fn F_slices_Contains_sel_Sel_sel_Sel) [vm, .nilIface] h fun v h' => v = .bool false ∧ h' = h := by
  obtain ⟨b, c, rfl, hr⟩ := r.shape
  simp only [List.length_map] at hr ⊢
  obtain ⟨N, hN⟩ : ∃ N, l.length = N := ⟨_, rfl⟩
  rw [hN] at hr hl ⊢
  refine gives_by t_slices_Contains_sel_Sel_sel_Sel (by simp [c_slices_Contains_sel_Sel_sel_Sel]) fun Q hQ => ?_
  simp [c_slices_Contains_sel_Sel_sel_Sel]
  refine got_call (R := fun v h' => v = .int .i64 (-1) ∧ h' = h) ?_ ?_
  · refine gives_by t_slices_Index_sel_Sel_sel_Sel (by simp [c_slices_Index_sel_Sel_sel_Sel]) fun Q hQ => ?_
    simp [c_slices_Index_sel_Sel_sel_Sel]
    refine go_loopK (fun kk ks h2 => ∃ (i : Nat), kk = N - i ∧ i ≤ N ∧ ks = [(0, .slice b N c), (1, .nilIface), (7, .int .i64 N), (8, .int .i64 i)] ∧ h2 = h) (n := N) ⟨0, rfl, by omega, rfl, rfl⟩ (by simp) ?_
    rintro I hI kk ks e h2 ⟨i, rfl, hi, rfl, rfl⟩
    simp
    refine branch_dec (fun hlt => ?_) (fun hge => ?_)
    · have hiN : i < N := by omega
      have e4 : IntKind.i64.wrap ((i : Int) + 1) = ((i + 1 : Nat) : Int) := by rw [wrap_i64 (by omega) (by omega)]; omega
      obtain ⟨a, rfl, hla⟩ := hr i (by omega)
      obtain ⟨d, hd⟩ : ∃ d, l[i]? = some d := ⟨_, List.getElem?_eq_getElem (by omega)⟩
      have ld := hla i d.v (by rw [List.getElem?_map, hd]; rfl)
      obtain ⟨s, cc, ev⟩ := (hs d (List.mem_of_getElem? hd)).1.isI
      rw [ev] at ld
      simp [hiN, ld, e4]
      exact ⟨N - (i + 1), by omega, hI _ _ _ _ ⟨i + 1, rfl, by omega, rfl, rfl⟩ (by simp)⟩
    simp
    exact hQ _ _ ⟨rfl, rfl⟩
  · rintro _ _ ⟨rfl, rfl⟩
    simp
    exact hQ _ _ ⟨rfl, rfl⟩

theorem look_spec {h : Heap} {v vm : Value} {n p q : Nat} {ws : List (BitVec 64)} {f : Bool} (S : SelV h v n ws f p q) {l : List SelD} (r : Reads h vm (l.map (·.v))) (hs : ∀ d ∈ l, d.ok h) (hl : l.length ≤ 1000000000) (hn : ∀ d ∈ l, d.n = n) :
    Gives P T (.fn F_sel_look) [v, vm] h fun v h' => v = .int .i64 0 ∧ Grow h h' := by
  obtain ⟨b, c, rfl, hr⟩ := r.shape
  simp only [List.length_map] at hr r ⊢
  obtain ⟨N, hN⟩ : ∃ N, l.length = N := ⟨_, rfl⟩
  have hix := index_nil r hs hl
  rw [hN] at hr hl hix ⊢
  obtain ⟨s0, c0, ev⟩ := S.isI
  refine gives_by t_sel_look (by simp [c_sel_look]) fun Q hQ => ?_
  have en : ∀ x y, abinop P h .eql 25 (.iface true) x y v .nilIface = some (.bool false) := fun x y => by rw [ev]; simp
  simp [c_sel_look, en]
  refine got_call hix ?_
  rintro _ _ ⟨rfl, rfl⟩
  rename_i h
  simp
  refine go_loopK (fun kk ks h2 => ∃ (i : Nat), kk = N - i ∧ i ≤ N ∧ ks = [(0, v), (13, .slice b N c), (14, .int .i64 N), (15, .int .i64 i)] ∧ Grow h h2) (n := N) ⟨0, rfl, by omega, rfl, Chg.refl _⟩ (by simp) ?_
  rintro I hI kk ks e h2 ⟨i, rfl, hi, rfl, g2⟩
  simp
  refine branch_dec (fun hlt => ?_) (fun hge => ?_)
  · have hiN : i < N := by omega
    have e4 : IntKind.i64.wrap ((i : Int) + 1) = ((i + 1 : Nat) : Int) := by rw [wrap_i64 (by omega) (by omega)]; omega
    obtain ⟨a, rfl, hla⟩ := hr i (by omega)
    obtain ⟨d, hd⟩ : ∃ d, l[i]? = some d := ⟨_, List.getElem?_eq_getElem (by omega)⟩
    have ld := hload_grow g2 (hla i d.v (by rw [List.getElem?_map, hd]; rfl))
    have hm := List.mem_of_getElem? hd
    simp [hiN, ld]
    refine got_len ((hs d hm).1.growL g2.l) fun h3 g3 => ?_
    simp
    refine got_len (S.growL (g2.trans g3).l) fun h4 g4 => ?_
    simp [hn d hm, e4]
    exact ⟨N - (i + 1), by omega, hI _ _ _ _ ⟨i + 1, rfl, by omega, rfl, (g2.trans g3).trans g4⟩ (by simp)⟩
  simp
  exact hQ _ _ ⟨rfl, g2⟩

end Go.Ax
