/- An abstract machine for Go programs: a frame's slots as a list of places and values. -/
import Derived.Test.YtpemffaclmpnnaaDoorXL
namespace Go.Ax
set_option linter.unusedVariables false
set_option linter.unusedSimpArgs false

def slot : List (Nat × Value) → Nat → Value
  | [], _ => undef
  | (j, v) :: l, i => if j = i then v else slot l i

def envT (N : Nat) (l : List (Nat × Value)) : List Value := (List.range N).map (slot l)

theorem slot_nil (i : Nat) : slot [] i = undef := rfl
theorem slot_cons (j : Nat) (v : Value) (l : List (Nat × Value)) (i : Nat) : slot ((j, v) :: l) i = if j = i then v else slot l i := rfl

theorem envT_len (N : Nat) (l : List (Nat × Value)) : (envT N l).length = N := by simp [envT]

theorem envT_get {N i : Nat} (h : i < N) (l : List (Nat × Value)) : (envT N l)[i]? = some (slot l i) := by
  simp [envT, h]

theorem envT_tmp {N i : Nat} (h : i < N) (l : List (Nat × Value)) : evalT (envT N l) (.tmp i) = slot l i := by
  simp [evalT, List.getD_eq_getElem?_getD, envT_get h]

theorem envT_getD {N i : Nat} (h : i < N) (l : List (Nat × Value)) : (envT N l).getD i undef = slot l i := by
  simp [List.getD_eq_getElem?_getD, envT_get h]

theorem envT_put (N d : Nat) (v : Value) (l : List (Nat × Value)) : putT (envT N l) (some d) v = envT N ((d, v) :: l) := by
  simp only [putT]
  apply List.ext_getElem?
  intro i
  by_cases hi : i < N
  · rw [List.getElem?_set, envT_len, envT_get hi, envT_get hi, slot_cons]
    by_cases hd : d = i
    · subst hd; simp [hi]
    · simp [hd]
  · rw [List.getElem?_eq_none (by simp [envT_len]; omega), List.getElem?_eq_none (by simp [envT_len]; omega)]

theorem envT_put_none (N : Nat) (v : Value) (l : List (Nat × Value)) : putT (envT N l) none v = envT N l := rfl

theorem slot_map (l : List (Nat × Value)) : ∀ (ks : List Nat) (i : Nat), slot (ks.map fun k => (k, slot l k)) i = if ks.contains i then slot l i else undef
  | [], i => rfl
  | k :: ks, i => by
    simp only [List.map_cons, slot_cons, slot_map l ks i]
    by_cases h : k = i
    · subst h; simp
    · have : ¬ i = k := fun e => h e.symm
      simp [h, this]

theorem envT_forget {N keep : Nat} (ks : List Nat) (hk : ((List.range N).all fun i => keep.testBit i == ks.contains i) = true) (l : List (Nat × Value)) :
    forget keep (envT N l) = envT N (ks.map fun k => (k, slot l k)) := by
  unfold forget
  apply List.ext_getElem?
  intro i
  by_cases hi : i < N
  · rw [List.getElem?_mapIdx, envT_get hi, envT_get hi, slot_map]
    rw [List.all_eq_true] at hk
    have := hk i (by simpa using hi)
    rw [beq_iff_eq] at this
    simp [this]
  · rw [List.getElem?_eq_none (by simp [envT_len]; omega), List.getElem?_eq_none (by simp [envT_len]; omega)]

theorem envT_start : ∀ (args : List Value) (N : Nat), args.length ≤ N → args ++ List.replicate (N - args.length) undef = envT N (args.mapIdx fun i v => (i, v)) := by
  intro args N h
  apply List.ext_getElem?
  intro i
  by_cases hi : i < N
  · rw [envT_get hi]
    by_cases ha : i < args.length
    · rw [List.getElem?_append_left ha]
      have : ∀ (l : List Value) (k i : Nat), i < l.length → slot (l.mapIdx fun j v => (j + k, v)) (i + k) = l.getD i undef := by
        intro l
        induction l with
        | nil => intro k i h; simp at h
        | cons a l ih =>
          intro k i h
          rw [List.mapIdx_cons, slot_cons]
          cases i with
          | zero => simp
          | succ i =>
            rw [if_neg (by omega)]
            have := ih (k + 1) i (by simpa using h)
            rw [show i + 1 + k = i + (k + 1) by omega]
            simp only [List.getD_cons_succ]
            rw [← this]
            congr 2
            funext j v
            simp; omega
      have := this args 0 i ha
      simp only [Nat.add_zero] at this
      rw [this, List.getD_eq_getElem?_getD, List.getElem?_eq_getElem ha]; rfl
    · rw [List.getElem?_append_right (by omega), List.getElem?_replicate, if_pos (by omega)]
      have : ∀ (l : List Value) (k i : Nat), l.length ≤ i → slot (l.mapIdx fun j v => (j + k, v)) (i + k) = undef := by
        intro l
        induction l with
        | nil => intro k i h; rfl
        | cons a l ih =>
          intro k i h
          rw [List.mapIdx_cons, slot_cons]
          simp only [List.length_cons] at h
          rw [if_neg (by omega)]
          obtain ⟨i, rfl⟩ : ∃ j, i = j + 1 := ⟨i - 1, by omega⟩
          have := ih (k + 1) i (by omega)
          rw [show i + 1 + k = i + (k + 1) by omega, ← this]
          congr 2
          funext j v
          simp; omega
      have := this args 0 i (by omega)
      simp only [Nat.add_zero] at this
      rw [this]
  · rw [List.getElem?_eq_none (by simp; omega), List.getElem?_eq_none (by simp [envT_len]; omega)]

section
variable {P : Program} {T : Table}

theorem gives_env {f : FuncId} {a : AFn} (ha : T f = some a) {args : List Value} (hl : args.length ≤ a.ntmps) {h : Heap} {Q : Value → Heap → Prop}
    (k : Does P T a.code (envT a.ntmps (args.mapIdx fun i v => (i, v))) h fun e t' h' => (∀ i, e ≠ .exit i) ∧ ∃ l, resVals t' h' a.results = some l ∧ Q (oneOf l) h') : Gives P T (.fn f) args h Q :=
  gives_fn ha (by rw [envT_start args _ hl]; exact k)

theorem wanted_none (t : List Value) : wantedA t none = some true := rfl
theorem wanted_env {N d : Nat} (h : d < N) (b : Bool) (l : List (Nat × Value)) : wantedA (envT N l) (some (some d, b)) = match slot l d with
    | .bool c => some (c == b)
    | .chan none => some false
    | _ => none := by
  simp only [wantedA, Option.bind_some, envT_get h]
  split <;> simp_all

end
end Go.Ax
