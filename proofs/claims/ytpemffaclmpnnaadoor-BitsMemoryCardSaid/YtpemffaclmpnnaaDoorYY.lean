/- Seat bits: sets apart from each other, and the lists kept of them. -/
import Derived.Test.YtpemffaclmpnnaaDoorYX
namespace Go.Ax
open Go.Proofs
set_option linter.unusedVariables false
set_option linter.unusedSimpArgs false
set_option maxRecDepth 100000

structure Fam (h : Heap) (n lo x : Nat) (D : List SetD) : Prop where
  ok : ∀ d ∈ D, d.n = n ∧ SetAt h d.p d.q n d.ws ∧ Canon n d.ws ∧ lo ≤ d.p ∧ lo ≤ d.q ∧ d.p < h.dyn.length ∧ d.q < h.dyn.length ∧ d.q ≠ x
  ap : D.Pairwise fun a b => a.q ≠ b.q ∧ a.q ≠ b.p ∧ b.q ≠ a.p

theorem Fam.zero (h : Heap) (n lo x : Nat) : Fam h n lo x [] := ⟨by simp, .nil⟩

theorem Fam.grow {h h' : Heap} {n lo x : Nat} {D : List SetD} (F : Fam h n lo x D) (g : Grow h h') : Fam h' n lo x D :=
  ⟨fun d hd => by
    obtain ⟨h1, h2, h3, h4, h5, h6, h7, h8⟩ := F.ok d hd
    have := g.len
    exact ⟨h1, h2.grow g, h3, h4, h5, by omega, by omega, h8⟩, F.ap⟩

theorem Fam.add {h h' : Heap} {n lo x p q : Nat} {ws : List (BitVec 64)} {D : List SetD} (F : Fam h n lo x D) (g : Grow h h') (s : SetAt h' p q n ws) (c : Canon n ws) (hp : h.dyn.length ≤ p) (hq : h.dyn.length ≤ q) (hlo : lo ≤ h.dyn.length) (hx : x < h.dyn.length) :
    ∃ q', Fam h' n lo x (D ++ [⟨p, q', n, ws⟩]) := by
  obtain ⟨q', s', hl, hq'⟩ := s.norm'
  have pl := s.pl
  refine ⟨q', ?_, ?_⟩
  · intro d hd
    rw [List.mem_append, List.mem_singleton] at hd
    rcases hd with hd | rfl
    · exact (F.grow g).ok d hd
    · exact ⟨rfl, s', c, by simp only; omega, by simp only; omega, by simp only; omega, by simp only; omega, by simp only; omega⟩
  · rw [List.pairwise_append]
    refine ⟨F.ap, by simp, fun a ha b hb => ?_⟩
    rw [List.mem_singleton] at hb
    subst hb
    obtain ⟨-, -, -, h4, h5, h6, h7, -⟩ := F.ok a ha
    exact ⟨by simp only; omega, by simp only; omega, by simp only; omega⟩

theorem Fam.mark {h : Heap} {n lo x x' : Nat} {D : List SetD} (F : Fam h n lo x D) (hx : h.dyn.length ≤ x' ∨ x' < lo) : Fam h n lo x' D :=
  ⟨fun d hd => by
    obtain ⟨h1, h2, h3, h4, h5, h6, h7, h8⟩ := F.ok d hd
    exact ⟨h1, h2, h3, h4, h5, h6, h7, by omega⟩, F.ap⟩

theorem Fam.perm {h : Heap} {n lo x : Nat} {D D' : List SetD} (F : Fam h n lo x D) (hp : D.Perm D') : Fam h n lo x D' :=
  ⟨fun d hd => F.ok d (hp.mem_iff.2 hd), (hp.pairwise_iff fun {a b} hab => ⟨fun e => hab.1 e.symm, hab.2.2, hab.2.1⟩).1 F.ap⟩

/-- The same, by place. -/
structure FamW (h : Heap) (N n : Nat) (p q : Nat → Nat) (W : Nat → List (BitVec 64)) : Prop where
  s : ∀ j, j < N → SetAt h (p j) (q j) n (W j) ∧ Canon n (W j)
  ap : ∀ i j, i < N → j < N → i ≠ j → q i ≠ q j ∧ q i ≠ p j

theorem Fam.byPlace {h : Heap} {n lo x : Nat} {D : List SetD} (F : Fam h n lo x D) : ∃ (p q : Nat → Nat) (W : Nat → List (BitVec 64)), D.map (fun s => ptr s.p) = (List.range D.length).map (fun j => ptr (p j)) ∧ FamW h D.length n p q W ∧ ∀ j, j < D.length → lo ≤ q j ∧ q j < h.dyn.length ∧ q j ≠ x := by
  have mem : ∀ j, (hj : j < D.length) → D.getD j ⟨0, 0, 0, []⟩ = D[j] ∧ D[j] ∈ D := fun j hj => ⟨by rw [List.getD_eq_getElem?_getD, List.getElem?_eq_getElem hj]; rfl, List.getElem_mem hj⟩
  refine ⟨fun j => (D.getD j ⟨0, 0, 0, []⟩).p, fun j => (D.getD j ⟨0, 0, 0, []⟩).q, fun j => (D.getD j ⟨0, 0, 0, []⟩).ws, ?_, ⟨fun j hj => ?_, fun i j hi hj hij => ?_⟩, fun j hj => ?_⟩
  · apply List.ext_getElem?
    intro i
    by_cases hi : i < D.length
    · rw [List.getElem?_map, List.getElem?_map, List.getElem?_range hi, List.getElem?_eq_getElem hi]
      simp [hi]
    · rw [List.getElem?_eq_none (by simp; omega), List.getElem?_eq_none (by simp; omega)]
  · obtain ⟨h1, h2⟩ := mem j hj
    simp only [h1]
    obtain ⟨-, h3, h4, -⟩ := F.ok _ h2
    exact ⟨h3, h4⟩
  · obtain ⟨h1, h2⟩ := mem i hi
    obtain ⟨h3, h4⟩ := mem j hj
    simp only [h1, h3]
    have key := List.pairwise_iff_getElem.1 F.ap
    rcases Nat.lt_or_gt_of_ne hij with h | h
    · have := key i j hi hj h
      exact ⟨this.1, this.2.1⟩
    · have := key j i hj hi h
      exact ⟨fun e => this.1 e.symm, this.2.2⟩
  · obtain ⟨h1, h2⟩ := mem j hj
    simp only [h1]
    obtain ⟨-, -, -, -, h5, -, h7, h8⟩ := F.ok _ h2
    exact ⟨h5, h7, h8⟩

theorem FamW.grow {h h' : Heap} {N n : Nat} {p q : Nat → Nat} {W : Nat → List (BitVec 64)} (F : FamW h N n p q W) (g : Grow h h') : FamW h' N n p q W :=
  ⟨fun j hj => ⟨(F.s j hj).1.grow g, (F.s j hj).2⟩, F.ap⟩

theorem FamW.put {h h' : Heap} {N n : Nat} {p q : Nat → Nat} {W : Nat → List (BitVec 64)} (F : FamW h N n p q W) {i : Nat} (hi : i < N) {ws : List (BitVec 64)} (s : SetAt h' (p i) (q i) n ws) (c : Canon n ws) (k : Chg (· = q i) h h') :
    FamW h' N n p q (fun j => if j = i then ws else W j) := by
  refine ⟨fun j hj => ?_, F.ap⟩
  by_cases hji : j = i
  · subst hji; simp only [if_true]; exact ⟨s, c⟩
  · simp only [if_neg hji]
    obtain ⟨a1, a2⟩ := F.ap i j hi hj (fun e => hji e.symm)
    exact ⟨(F.s j hj).1.chg k (fun e => a2 e.symm) (fun e => a1 e.symm), (F.s j hj).2⟩

/-- The lists kept, up to i. -/
structure Kept (h : Heap) (i lo : Nat) (W : Nat → List (BitVec 64)) (u : Value) (qu : Nat) (kv : Nat → Value) : Prop where
  own : Own h u qu ((List.range i).map kv)
  ql : u ≠ nilS → lo ≤ qu
  it : ∀ j, j < i → (kv j = nilS ∧ W j = []) ∨ ∃ q, Own h (kv j) q ((W j).map wv) ∧ lo ≤ q ∧ q ≠ qu ∧ q < h.dyn.length

theorem Kept.zero (h : Heap) (lo : Nat) (W : Nat → List (BitVec 64)) (kv : Nat → Value) : Kept h 0 lo W nilS 0 kv := ⟨.inl ⟨rfl, rfl⟩, fun h => absurd rfl h, fun j hj => absurd hj (Nat.not_lt_zero _)⟩

theorem Kept.chg {S : Nat → Prop} {h h' : Heap} {i lo qu : Nat} {W : Nat → List (BitVec 64)} {u : Value} {kv : Nat → Value} (K : Kept h i lo W u qu kv) (k : Chg S h h') (hS : ∀ b, S b → b < lo) : Kept h' i lo W u qu kv := by
  have := k.len
  refine ⟨K.own.chgN k fun hu e => ?_, K.ql, fun j hj => ?_⟩
  · have := hS _ e; have := K.ql hu; omega
  · rcases K.it j hj with h1 | ⟨q, o, h2, h3, h4⟩
    · exact .inl h1
    · exact .inr ⟨q, o.chg k fun e => by have := hS _ e; omega, h2, h3, by omega⟩

theorem Kept.reads {h : Heap} {i lo qu : Nat} {W : Nat → List (BitVec 64)} {u : Value} {kv : Nat → Value} (K : Kept h i lo W u qu kv) {j : Nat} (hj : j < i) : Reads h (kv j) ((W j).map wv) := by
  rcases K.it j hj with ⟨h1, h2⟩ | ⟨q, o, _⟩
  · exact .inl ⟨h1, by rw [h2]; rfl⟩
  · exact o.reads

theorem Kept.step {h h1 : Heap} {i lo qu : Nat} {W : Nat → List (BitVec 64)} {u : Value} {kv : Nat → Value} (K : Kept h i lo W u qu kv) (g : Grow h h1) {v : Value} {q' : Nat} (o : Own h1 v q' ((W i).map wv)) (hq : h.dyn.length ≤ q') (hv : v ≠ nilS → q' < h1.dyn.length) (hlo : lo ≤ h.dyn.length) (hi : i ≤ 1000) :
    ∃ u' h2 qu' kv', aappend (hnew h1 [v] 1) 1 24 [.slice none 0 0] u (.slice (some ⟨h1.dyn.length, 0, some 0⟩) 1 1) = some (u', h2) ∧ Kept h2 (i + 1) lo W u' qu' kv' ∧ Chg (fun b => b = qu ∧ u ≠ nilS) h1 h2 := by
  have gl := g.len
  have hul : u ≠ nilS → qu < h.dyn.length := fun hu => K.own.lt' hu
  obtain ⟨u', h2, qu', e, o2, c2, l2, d2⟩ := (K.own.grow g).push (bytes := 24) (z := .slice none 0 0) (x := v) o.good (by simp; omega) (by simp; omega)
  have cl := c2.len
  refine ⟨u', h2, qu', fun j => if j = i then v else kv j, e, ⟨?_, fun hu => ?_, fun j hj => ?_⟩, c2⟩
  · have : (List.range (i + 1)).map (fun j => if j = i then v else kv j) = (List.range i).map kv ++ [v] := by
      rw [List.range_succ, List.map_append]
      congr 1
      · apply List.map_congr_left
        intro j hj
        rw [List.mem_range] at hj
        rw [if_neg (by omega)]
      · simp
    rw [this]; exact o2
  · rcases d2 with ⟨h3, h4⟩ | h3
    · have := K.ql h4; omega
    · omega
  · by_cases hji : j = i
    · subst hji
      simp only [if_true]
      by_cases hn : v = nilS
      · refine .inl ⟨hn, ?_⟩
        rcases o with ⟨_, e⟩ | ⟨u, e, _⟩ | ⟨u, rest, e, _⟩
        · simpa using e
        · rw [hn] at e; simp [nilS] at e
        · rw [hn] at e; simp [nilS] at e
      · have hv := hv hn
        refine .inr ⟨q', o.chg c2 fun e => by have := hul e.2; omega, by omega, ?_, by omega⟩
        rcases d2 with ⟨h3, h4⟩ | h3
        · have := hul h4; omega
        · omega
    · simp only [if_neg hji]
      rcases K.it j (by omega) with h3 | ⟨q, oq, h4, h5, h6⟩
      · exact .inl h3
      · refine .inr ⟨q, (oq.grow g).chg c2 fun e => h5 e.1, h4, ?_, by omega⟩
        rcases d2 with ⟨h3, _⟩ | h3 <;> omega

end Go.Ax
