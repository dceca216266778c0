/- Slices that read as lists; small laws. -/
import Derived.Test.YtpemffaclmpnnaaDoorMH
namespace Go.Ax
set_option linter.unusedVariables false
set_option linter.unusedSimpArgs false

theorem tmod_nat (n k : Nat) : ((n : Int).tmod (k : Int)) = ((n % k : Nat) : Int) := by
  rw [Int.tmod_eq_emod_of_nonneg (by omega)]; simp

theorem tdiv_nat (n k : Nat) : ((n : Int).tdiv (k : Int)) = ((n / k : Nat) : Int) := by
  rw [Int.tdiv_eq_ediv_of_nonneg (by omega)]; simp

theorem mask_bit (k j : Nat) (hk : k < 64) (hj : j < 64) : ((1#64 <<< k) - 1#64).getLsbD j = decide (j < k) := by
  have h1 : ((1#64 <<< k) - 1#64).toNat = 2 ^ k - 1 := by
    have h2 : (1#64 <<< k).toNat = 2 ^ k := by
      rw [BitVec.toNat_shiftLeft, Nat.shiftLeft_eq]
      simp
      exact Nat.pow_lt_pow_right (by omega) hk
    rw [BitVec.toNat_sub, h2]
    have := Nat.pow_lt_pow_right (show 1 < 2 by omega) hk
    have := Nat.two_pow_pos k
    simp
    omega
  show ((1#64 <<< k) - 1#64).toNat.testBit j = _
  rw [h1, Nat.testBit_two_pow_sub_one]

theorem one_bit (m j : Nat) (hm : m < 64) (hj : j < 64) : (1#64 <<< m).getLsbD j = decide (j = m) := by
  rw [BitVec.getLsbD_shiftLeft]
  by_cases h : j < m
  · simp [h]; omega
  · by_cases h2 : j = m
    · subst h2; simp [hj]
    · have : ¬ (j - m = 0) := by omega
      simp [h, h2, this]

theorem dec_succ {i j : Nat} (h : ¬ j = i) : decide (j < i + 1) = decide (j < i) := by
  have : j < i + 1 ↔ j < i := by omega
  simp only [this]

theorem tmod_range (k : Int) {n : Nat} (hn : 0 < n) : -(n : Int) < k.tmod n ∧ k.tmod n < n ∧ (if k.tmod n < 0 then k.tmod n + n else k.tmod n) = k % n := by
  have h1 := Int.tmod_lt_of_pos k (show (0 : Int) < n by omega)
  have h2 := Int.lt_tmod_of_pos k (show (0 : Int) < n by omega)
  refine ⟨h2, h1, ?_⟩
  have h3 := Int.mul_tdiv_add_tmod k n
  have h4 : k % n = (k.tmod n) % n := by
    conv => lhs; rw [← h3]
    rw [Int.add_comm, Int.add_mul_emod_self_left]
  rw [h4]
  split
  · rw [← Int.add_emod_right, Int.emod_eq_of_lt (by omega) (by omega)]
  · rw [Int.emod_eq_of_lt (by omega) (by omega)]

theorem hload_grow {h h' : Heap} (g : Grow h h') {a : Addr} {x : Value} (e : hload h a = some x) : hload h' a = some x := by
  unfold hload at e ⊢
  cases ha : a.spot with
  | none => rw [ha] at e; simp only at e ⊢; rw [g.ro]; exact e
  | some v =>
    rw [ha] at e
    simp only at e ⊢
    cases hk : h.dyn[a.block]? with
    | none => rw [hk] at e; simp at e
    | some k =>
      rw [hk] at e
      rw [g.same _ (List.getElem?_eq_some_iff.1 hk).1 id, hk]
      exact e

/-- What a list of bools says at i. -/
def hold (bs : List Bool) (i : Nat) : Bool := bs.getD i false

theorem hold_get {bs : List Bool} {i : Nat} (h : i < bs.length) : (bs.map Value.bool)[i]? = some (.bool (hold bs i)) := by
  unfold hold
  rw [List.getElem?_map, List.getElem?_eq_getElem h, List.getD_eq_getElem?_getD, List.getElem?_eq_getElem h]; rfl

theorem hold_out {bs : List Bool} {i : Nat} (h : bs.length ≤ i) : hold bs i = false := by
  unfold hold
  rw [List.getD_eq_getElem?_getD, List.getElem?_eq_none h]; rfl

/-- A slice that reads as l. -/
def Reads (h : Heap) (v : Value) (l : List Value) : Prop :=
  (v = .slice none 0 0 ∧ l = []) ∨ ∃ a c, v = .slice (some a) l.length c ∧ ∀ i x, l[i]? = some x → hload h (aadd a i) = some x

theorem Reads.chg {S : Nat → Prop} {h h' : Heap} {v : Value} {l : List Value} (r : Reads h v l) (g : Chg S h h') (hs : ∀ a n c, v = .slice (some a) n c → a.spot = none ∨ ¬ S a.block) : Reads h' v l := by
  rcases r with r | ⟨a, c, h1, h2⟩
  · exact .inl r
  · exact .inr ⟨a, c, h1, fun i x hx => hload_chg g (h2 i x hx) (by have := hs a _ c h1; simpa [aadd] using this)⟩

theorem Reads.grow {h h' : Heap} {v : Value} {l : List Value} (r : Reads h v l) (g : Grow h h') : Reads h' v l := by
  rcases r with r | ⟨a, c, h1, h2⟩
  · exact .inl r
  · exact .inr ⟨a, c, h1, fun i x hx => hload_grow g (h2 i x hx)⟩

theorem Reads.shape {h : Heap} {v : Value} {l : List Value} (r : Reads h v l) : ∃ b c, v = .slice b l.length c ∧ ∀ i, i < l.length → ∃ a, b = some a ∧ ∀ j x, l[j]? = some x → hload h (aadd a j) = some x := by
  rcases r with ⟨rfl, rfl⟩ | ⟨a, c, rfl, h2⟩
  · exact ⟨none, 0, rfl, fun i hi => by simp at hi⟩
  · exact ⟨some a, c, rfl, fun i hi => ⟨a, rfl, h2⟩⟩

theorem ArgS.reads {h : Heap} {v : Value} {l : List Value} (r : ArgS h v l) : Reads h v l := by
  rcases r with r | ⟨b, o, h1, h2⟩
  · exact .inl r
  · exact .inr ⟨_, _, h1, fun i x hx => h2 i x hx⟩

theorem ArgS.ro {h h' : Heap} {v : Value} {l : List Value} (r : ArgS h v l) (e : h'.ro = h.ro) : ArgS h' v l := by
  unfold ArgS; rw [e]; exact r

def cutA (v : Value) (n : Nat) : Value := match v with | .slice (some a) _ c => .slice (some a) n c | v => v

theorem ArgS.cut {h : Heap} {v : Value} {l : List Value} (r : ArgS h v l) {n : Nat} (hn : n ≤ l.length) : ArgS h (cutA v n) (l.take n) ∧ (∀ h2, aslice h2 1 v none (some (.int .i64 n)) none = some (cutA v n)) ∧ vsame (cutA v n) (some (cutA v n)) = true := by
  rcases r with ⟨rfl, rfl⟩ | ⟨b, o, rfl, h2⟩
  · have : n = 0 := by simpa using hn
    subst this
    exact ⟨.inl ⟨rfl, rfl⟩, fun h2 => rfl, by simp [cutA]⟩
  · refine ⟨.inr ⟨b, o, ?_, fun i x hx => ?_⟩, fun h3 => ?_, by simp [cutA]⟩
    · simp only [cutA, List.length_take]; rw [Nat.min_eq_left hn]
    · rw [List.getElem?_take] at hx
      split at hx
      · exact h2 i x hx
      · cases hx
    · simp only [aslice, cutA, Option.isSome_none, Option.isNone_some, optBound, asliceBound, topOf]
      rw [if_neg (by omega)]
      simp
      rw [if_pos (by omega)]

theorem ArgS.at {h h' : Heap} {v : Value} {l : List Value} (r : ArgS h v l) (e : h'.ro = h.ro) {i : Nat} {x : Value} (hx : l[i]? = some x) : ∃ a c, v = .slice (some a) l.length c ∧ hload h' (aadd a i) = some x := by
  rcases r with ⟨rfl, rfl⟩ | ⟨b, o, rfl, h2⟩
  · simp at hx
  · refine ⟨_, _, rfl, ?_⟩
    show h'.ro b (o + i) = some x
    rw [e]; exact h2 i x hx

theorem Own.reads {h : Heap} {v : Value} {q : Nat} {l : List Value} (o : Own h v q l) : Reads h v l := by
  rcases o with o | ⟨u, rfl, r⟩ | ⟨u, rest, rfl, hc, r⟩
  · exact .inl o
  · exact .inr ⟨_, _, rfl, fun i x hx => by simpa using r.get hx⟩
  · exact .inr ⟨_, _, rfl, fun i x hx => by simpa using r.get (i := i) (x := x) (by rw [List.getElem?_append_left (List.getElem?_eq_some_iff.1 hx).1]; exact hx)⟩

theorem ne_nil_slice {a : Addr} {n c : Nat} : Value.slice (some a) n c ≠ .slice none 0 0 := by simp

/-- No package variables. -/
def noG (_ _ : Nat) : Option Value := none

theorem u64_of {n : Int} (h : (Lit.int .u64 n).wf = true) : ∃ x : BitVec 64, n = wi x := by
  simp [Lit.wf, IntKind.min, IntKind.max, IntKind.signed, IntKind.bits] at h
  exact ⟨BitVec.ofInt 64 n, by unfold wi; rw [BitVec.toNat_ofInt]; omega⟩

@[simp] theorem box_one {h : Heap} {v : Value} (hg : goodC v = true) : boxR h v = some (.pointer (some (hnext h)), hnew h [v] 0) := by
  have hc : v.cells = #[v] := by cases v <;> first | rfl | simp [goodC] at hg
  have hg' : good v = true := by cases v <;> first | rfl | simp [goodC] at hg
  simp [boxR, hg', hc]

theorem forget_some {N keep : Nat} (front back : List Nat) (hk : ((List.range N).all fun i => keep.testBit i == (front ++ back).contains i) = true) (l : List (Nat × Value)) :
    ∃ e, forget keep (envT N l) = envT N ((front.map fun k => (k, slot l k)) ++ e) :=
  ⟨back.map fun k => (k, slot l k), by rw [envT_forget (front ++ back) hk, List.map_append]⟩

@[simp] theorem wanted_skip {N d : Nat} (h : d < N) (b : Bool) (l : List (Nat × Value)) (hs : slot l d = skipV) : wantedA (envT N l) (some (some d, b)) = some false := by
  rw [wanted_env h, hs]; rfl

end Go.Ax
