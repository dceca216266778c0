/- The machine: strings of bytes. -/
import Derived.Test.YtpemffaclmpnnaaDoorMQ
import Derived.Test.YtpemffaclmpnnaaDoorMR
namespace Go.Ax
set_option linter.unusedVariables false
set_option linter.unusedSimpArgs false

variable {P : Program} {h : Heap} {cf : CF} {t : List Value}

/-- A string of these bytes. -/
def bstr (bs : List (BitVec 8)) : ByteArray := ⟨(bs.map UInt8.ofBitVec).toArray⟩

theorem bytes_loop (b : ByteArray) : ∀ (n i : Nat) (r : List UInt8), n = b.size - i → i ≤ b.size → ByteArray.toList.loop b i r = r.reverse ++ b.data.toList.drop i := by
  intro n
  induction n with
  | zero =>
    intro i r hn hi
    unfold ByteArray.toList.loop
    have : b.size = b.data.toList.length := by simp
    rw [if_neg (by omega), List.drop_eq_nil_of_le (by omega)]; simp
  | succ n ih =>
    intro i r hn hi
    unfold ByteArray.toList.loop
    have hs : b.size = b.data.toList.length := by simp
    rw [if_pos (by omega), ih (i + 1) _ (by omega) (by omega), List.drop_eq_getElem_cons (i := i) (by omega)]
    simp only [List.reverse_cons, List.append_assoc, List.singleton_append]
    congr 2
    show b.data[i]! = _
    rw [getElem!_pos b.data i (by simpa using (show i < b.size by omega))]
    simp

theorem bytes_toList (b : ByteArray) : b.toList = b.data.toList := by
  unfold ByteArray.toList
  rw [bytes_loop b _ 0 [] rfl (by omega)]; simp

theorem bstr_inj {a b : List (BitVec 8)} : bstr a = bstr b ↔ a = b := by
  constructor
  · intro h
    have h1 : (a.map UInt8.ofBitVec) = b.map UInt8.ofBitVec := by
      have := congrArg (fun x => x.data.toList) h
      simpa [bstr] using this
    exact (List.map_inj_right (fun x y e => by simpa using congrArg UInt8.toBitVec e)).1 h1
  · rintro rfl; rfl

theorem bstr_eq (a b : List (BitVec 8)) : ((bstr a).toList == (bstr b).toList) = decide (a = b) := by
  rw [bytes_toList, bytes_toList]
  by_cases e : a = b
  · subst e; simp
  · rw [decide_eq_false e]
    apply beq_eq_false_iff_ne.2
    intro h
    exact e (bstr_inj.1 (by unfold bstr at h ⊢; simp only [List.toList_toArray] at h; rw [h]))

theorem bstr_app (a b : List (BitVec 8)) : bstr a ++ bstr b = bstr (a ++ b) := by
  unfold bstr
  apply ByteArray.ext
  simp

theorem bstr_size (a : List (BitVec 8)) : (bstr a).size = a.length := by simp [bstr, ByteArray.size]

def b2sR (h : Heap) (v : Value) : Option (Value × Heap) :=
  match v with
  | .slice none _ _ => some (.string .empty, h)
  | .slice (some a) len _ =>
    match loadN h a len with
    | some l => match bytesOf l with | some b => some (.string ⟨b.toArray⟩, h) | none => none
    | none => none
  | _ => none

@[simp] theorem op_b2s {x : Operand} : runOp P cf (.b2s x) t h = b2sR h (evalT t x) := by
  unfold runOp b2sR; simp only [aop]
  generalize evalT t x = u
  cases u with
  | slice b n c =>
    cases b with
    | none => rfl
    | some a =>
      simp only
      cases loadN h a n with
      | none => rfl
      | some l =>
        simp only
        cases bytesOf l <;> rfl
  | _ => rfl

theorem bytesOf_bv : ∀ (bs : List (BitVec 8)), bytesOf (bs.map bv) = some (bs.map UInt8.ofBitVec)
  | [] => rfl
  | b :: bs => by
    simp only [List.map_cons, bv, bytesOf]
    rw [bytesOf_bv bs]
    simp only [Option.map_some]
    congr 2
    unfold bi
    rw [Int.toNat_natCast]
    apply UInt8.toBitVec_inj.1
    apply BitVec.eq_of_toNat_eq
    simp

theorem b2s_reads {v : Value} {bs : List (BitVec 8)} (r : Reads h v (bs.map bv)) : b2sR h v = some (.string (bstr bs), h) := by
  rcases r with ⟨rfl, e⟩ | ⟨a, c, rfl, hl⟩
  · have : bs = [] := by simpa using e
    subst this; rfl
  · unfold b2sR
    simp only
    rw [loadN_of _ _ hl]
    simp only [bytesOf_bv]; rfl

@[simp] theorem neq_str {ty : TypeId} {x y : Operand} {a b : List (BitVec 8)} : abinop P h .neq ty .other x y (.string (bstr a)) (.string (bstr b)) = some (.bool (!decide (a = b))) := by
  rw [← bstr_eq a b]; rfl
@[simp] theorem eql_str {ty : TypeId} {x y : Operand} {a b : List (BitVec 8)} : abinop P h .eql ty .other x y (.string (bstr a)) (.string (bstr b)) = some (.bool (decide (a = b))) := by
  rw [← bstr_eq a b]; rfl
theorem add_str {ty : TypeId} {q : EqK} {x y : Operand} {a b : List (BitVec 8)} (hl : a.length + b.length ≤ 9223372036854775807) : abinop P h .add ty q x y (.string (bstr a)) (.string (bstr b)) = some (.string (bstr (a ++ b))) := by
  have e : abinop P h .add ty q x y (.string (bstr a)) (.string (bstr b)) = pures P (Op.stringOp .add (bstr a) (bstr b)) := by
    cases q <;> rfl
  rw [e]
  unfold Op.stringOp
  simp only
  rw [if_neg (by rw [bstr_size, bstr_size]; show ¬ (9223372036854775807 : Int) < _; omega), bstr_app]
  rfl

end Go.Ax
