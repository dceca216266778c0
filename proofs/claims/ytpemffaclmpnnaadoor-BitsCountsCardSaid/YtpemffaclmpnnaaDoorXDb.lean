/- An abstract machine for Go programs: orders of a region's operations, counted. -/
import Derived.Test.YtpemffaclmpnnaaDoorXDa
namespace Go.Ax
set_option linter.unusedVariables false
set_option linter.unusedSimpArgs false

/-! what must be done before -/

def befStep (acc : List Nat) (o : Oper) : Nat := o.after.toList.foldl (fun s e => if Region.binds .any e then s ||| 2 ^ e.on ||| acc.getD e.on 0 else s) 0

theorem befores_eq (ops : List Oper) : befores ops = ops.foldl (fun acc o => acc ++ [befStep acc o]) [] := rfl

theorem bef_ext : ∀ (l : List Oper) (acc : List Nat), ∃ x, l.foldl (fun acc o => acc ++ [befStep acc o]) acc = acc ++ x ∧ x.length = l.length := by
  intro l
  induction l with
  | nil => intro acc; exact ⟨[], by simp, rfl⟩
  | cons o l ih =>
    intro acc
    obtain ⟨x, h1, h2⟩ := ih (acc ++ [befStep acc o])
    exact ⟨befStep acc o :: x, by rw [List.foldl_cons, h1]; simp, by simp [h2]⟩

theorem bef_at {ops : List Oper} {i : Nat} {o : Oper} (ho : ops[i]? = some o) : ∃ acc, acc.length = i ∧ (∀ j, j < i → acc.getD j 0 = (befores ops).getD j 0) ∧ (befores ops).getD i 0 = befStep acc o := by
  have hlt : i < ops.length := by
    rcases Nat.lt_or_ge i ops.length with h | h
    · exact h
    · rw [List.getElem?_eq_none h] at ho; simp at ho
  have hsplit : ops = ops.take i ++ o :: ops.drop (i + 1) := by
    have h1 : ops[i] = o := by rw [List.getElem?_eq_getElem hlt] at ho; exact Option.some.inj ho
    conv => lhs; rw [← List.take_append_drop i ops, List.drop_eq_getElem_cons hlt, h1]
  obtain ⟨x1, a1, a2⟩ := bef_ext (ops.take i) []
  simp only [List.nil_append] at a1
  have hl1 : x1.length = i := by rw [a2, List.length_take]; omega
  obtain ⟨x2, b1, b2⟩ := bef_ext (ops.drop (i + 1)) (x1 ++ [befStep x1 o])
  have hb : befores ops = (x1 ++ [befStep x1 o]) ++ x2 := by
    rw [befores_eq]
    conv => lhs; rw [hsplit]
    rw [List.foldl_append, a1, List.foldl_cons, b1]
  refine ⟨x1, hl1, fun j hj => ?_, ?_⟩
  · rw [hb, List.getD_eq_getElem?_getD, List.getD_eq_getElem?_getD, List.append_assoc, List.getElem?_append_left (by omega)]
  · rw [hb, List.getD_eq_getElem?_getD, List.append_assoc, List.getElem?_append_right (by omega)]
    simp [hl1]

theorem befStep_bit (acc : List Nat) (o : Oper) (j : Nat) (h : (befStep acc o).testBit j = true) : ∃ e ∈ o.after.toList, Region.binds .any e = true ∧ (j = e.on ∨ (acc.getD e.on 0).testBit j = true) := by
  unfold befStep at h
  have key : ∀ (l : List Edge) (s : Nat), (l.foldl (fun s e => if Region.binds .any e then s ||| 2 ^ e.on ||| acc.getD e.on 0 else s) s).testBit j = true → s.testBit j = true ∨ ∃ e ∈ l, Region.binds .any e = true ∧ (j = e.on ∨ (acc.getD e.on 0).testBit j = true) := by
    intro l
    induction l with
    | nil => intro s h; exact .inl h
    | cons e l ih =>
      intro s h
      rw [List.foldl_cons] at h
      rcases ih _ h with h1 | ⟨e', he', h1⟩
      · split at h1
        · rename_i hb
          rw [Nat.testBit_or, Nat.testBit_or, Bool.or_eq_true, Bool.or_eq_true] at h1
          rcases h1 with (h1 | h1) | h1
          · exact .inl h1
          · rw [Nat.testBit_two_pow] at h1
            exact .inr ⟨e, by simp, hb, .inl (by simpa using (of_decide_eq_true h1).symm)⟩
          · exact .inr ⟨e, by simp, hb, .inr h1⟩
        · exact .inl h1
      · exact .inr ⟨e', by simp [he'], h1⟩
  rcases key _ _ h with h1 | h1
  · simp at h1
  · exact h1

/-! effects counted -/

def cE (f : Nat → Bool) (i : Nat) : Nat := ((List.range i).filter f).length

theorem cE_succ (f : Nat → Bool) (i : Nat) : cE f (i + 1) = cE f i + if f i then 1 else 0 := by
  unfold cE
  rw [List.range_succ, List.filter_append]
  cases h : f i <;> simp [h]

theorem cE_mono (f : Nat → Bool) {i j : Nat} (h : i ≤ j) : cE f i ≤ cE f j := by
  induction j with
  | zero => have : i = 0 := by omega
            subst this; exact Nat.le_refl _
  | succ j ih =>
    rcases Nat.lt_or_ge i (j + 1) with h1 | h1
    · rw [cE_succ]; have := ih (by omega); omega
    · have : i = j + 1 := by omega
      subst this; exact Nat.le_refl _

theorem cE_lt (f : Nat → Bool) {i j : Nat} (hi : f i = true) (h : i < j) : cE f i < cE f j := by
  have := cE_mono f (i := i + 1) (j := j) (by omega)
  rw [cE_succ, hi] at this
  simp at this; omega

/-- Two effects of one number are one. -/
theorem cE_inj (f : Nat → Bool) {i j : Nat} (hi : f i = true) (hj : f j = true) (h : cE f i = cE f j) : i = j := by
  rcases Nat.lt_trichotomy i j with h1 | h1 | h1
  · have := cE_lt f hi h1; omega
  · exact h1
  · have := cE_lt f hj h1; omega

theorem filter_get (f : Nat → Bool) : ∀ (n j e : Nat), ((List.range n).filter f)[j]? = some e → f e = true ∧ e < n ∧ cE f e = j := by
  intro n
  induction n with
  | zero => intro j e h; simp at h
  | succ n ih =>
    intro j e h
    rw [List.range_succ, List.filter_append] at h
    by_cases hj : j < ((List.range n).filter f).length
    · rw [List.getElem?_append_left hj] at h
      obtain ⟨h1, h2, h3⟩ := ih j e h
      exact ⟨h1, by omega, h3⟩
    · rw [List.getElem?_append_right (by omega)] at h
      cases hf : f n with
      | false => simp [hf] at h
      | true =>
        simp only [hf, List.filter_cons, if_true, List.filter_nil] at h
        have hz : j - ((List.range n).filter f).length = 0 := by
          rcases Nat.eq_zero_or_pos (j - ((List.range n).filter f).length) with h0 | h0
          · exact h0
          · rw [List.getElem?_eq_none (by simp only [List.length_cons, List.length_nil]; omega)] at h; simp at h
        rw [hz] at h; simp at h; subst h
        refine ⟨hf, by omega, ?_⟩
        show ((List.range n).filter f).length = j
        omega

theorem cE_exists (f : Nat → Bool) {n m : Nat} (h : m < cE f n) : ∃ e, e < n ∧ f e = true ∧ cE f e = m := by
  have hl : m < ((List.range n).filter f).length := h
  obtain ⟨h1, h2, h3⟩ := filter_get f n m _ (List.getElem?_eq_getElem hl)
  exact ⟨_, h2, h1, h3⟩

/-! the last one that writes a slot -/

def lastW (D : Nat → Bool) (dst : Nat → Option Nat) (x : Nat) : Nat → Option Nat
  | 0 => none
  | k + 1 => if D k = true ∧ dst k = some x then some k else lastW D dst x k

theorem lastW_some {D : Nat → Bool} {dst : Nat → Option Nat} {x : Nat} : ∀ {n k : Nat}, lastW D dst x n = some k → k < n ∧ D k = true ∧ dst k = some x := by
  intro n
  induction n with
  | zero => intro k h; simp [lastW] at h
  | succ n ih =>
    intro k h
    simp only [lastW] at h
    split at h
    · rename_i hc
      simp only [Option.some.injEq] at h; subst h
      exact ⟨by omega, hc.1, hc.2⟩
    · obtain ⟨a, b, c⟩ := ih h
      exact ⟨by omega, b, c⟩

theorem lastW_cut {D D' : Nat → Bool} {dst : Nat → Option Nat} {x i : Nat} : ∀ (n : Nat), i ≤ n → (∀ k, k < i → dst k = some x → D k = D' k) → (∀ k, i ≤ k → k < n → dst k = some x → D k = false) → lastW D dst x n = lastW D' dst x i := by
  intro n
  induction n with
  | zero => intro h _ _; have : i = 0 := by omega
            subst this; rfl
  | succ n ih =>
    intro h h1 h2
    rcases Nat.lt_or_ge n i with hn | hn
    · have : i = n + 1 := by omega
      subst this
      clear ih h h2
      -- all below: the same
      have : ∀ m, m ≤ n + 1 → lastW D dst x m = lastW D' dst x m := by
        intro m
        induction m with
        | zero => intro _; rfl
        | succ m ihm =>
          intro hm
          simp only [lastW]
          by_cases hd : dst m = some x
          · rw [h1 m (by omega) hd, ihm (by omega)]
          · rw [if_neg (fun h => hd h.2), if_neg (fun h => hd h.2), ihm (by omega)]
      exact this _ (Nat.le_refl _)
    · simp only [lastW]
      rw [if_neg (fun ⟨a, b⟩ => by rw [h2 n hn (by omega) b] at a; simp at a)]
      exact ih hn h1 fun k a b c => h2 k a (by omega) c

theorem lastW_set {D : Nat → Bool} {dst : Nat → Option Nat} {x i : Nat} (hx : dst i ≠ some x) : ∀ (n : Nat), lastW (fun k => if k = i then true else D k) dst x n = lastW D dst x n := by
  intro n
  induction n with
  | zero => rfl
  | succ n ih =>
    simp only [lastW, ih]
    by_cases h : n = i
    · subst h
      rw [if_neg (fun h => hx h.2), if_neg (fun h => hx h.2)]
    · simp only [h, if_false]

theorem lastW_top {D : Nat → Bool} {dst : Nat → Option Nat} {x i : Nat} (hi : D i = true) (hx : dst i = some x) : ∀ (n : Nat), i < n → (∀ k, i < k → k < n → dst k = some x → D k = false) → lastW D dst x n = some i := by
  intro n
  induction n with
  | zero => intro h; omega
  | succ n ih =>
    intro h h1
    simp only [lastW]
    by_cases hn : n = i
    · subst hn; rw [if_pos ⟨hi, hx⟩]
    · rw [if_neg (fun ⟨a, b⟩ => by rw [h1 n (by omega) (by omega) b] at a; simp at a)]
      exact ih (by omega) fun k a b c => h1 k a (by omega) c

end Go.Ax
