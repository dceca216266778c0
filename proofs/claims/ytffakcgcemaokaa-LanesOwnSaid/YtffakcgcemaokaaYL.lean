/- Seat bits: Slice. -/
import Derived.Test.YtffakcgcemaokaaYK
namespace Go.Ax
set_option linter.unusedVariables false
set_option linter.unusedSimpArgs false

/-- A word read across two. -/
theorem across {ws : List (BitVec 64)} {d m b : Nat} (hm : m < 64) (hb : b < 64) : (word ws d >>> m).getLsbD b = (bit ws (64 * d + m + b) && decide (m + b < 64)) := by
  rw [BitVec.getLsbD_ushiftRight]
  by_cases h : m + b < 64
  · rw [word_bit _ _ _ h]; simp [h, Nat.add_assoc]
  · rw [BitVec.getLsbD_of_ge _ _ (by omega)]; simp [h]

theorem across2 {ws : List (BitVec 64)} {d m b : Nat} (hm : m < 64) (hm0 : 0 < m) (hb : b < 64) : (word ws d >>> m ||| word ws (d + 1) <<< (64 - m)).getLsbD b = bit ws (64 * d + m + b) := by
  rw [BitVec.getLsbD_or, across hm hb, BitVec.getLsbD_shiftLeft]
  by_cases h : m + b < 64
  · have : b < 64 - m := by omega
    simp [h, this]
  · have h2 : ¬ b < 64 - m := by omega
    simp only [h, h2, hb, decide_true, decide_false, Bool.and_false, Bool.false_or, Bool.not_false, Bool.true_and]
    rw [word_bit _ _ _ (by omega)]
    congr 1; omega

def keptS : List Nat := [64, 65, 66, 67, 68, 69, 70, 71, 72]

/-- What holds at the head of Slice's loop. -/
def SInv (p f pt qt L n' : Nat) (ws : List (BitVec 64)) (h : Heap) (k : Nat) (t : List Value) (h2 : Heap) : Prop :=
  ∃ (i : Nat) (wsi : List (BitVec 64)) (e : List (Nat × Value)), k = L - i ∧ i ≤ L ∧ t = envT 100 ((0, ptr p) :: (1, .int .i64 f) :: (7, ptr pt) :: (35, .int .i64 L) :: (36, .int .i64 i) :: e) ∧
    wsi.length = L ∧ (∀ j b, j < i → b < 64 → (word wsi j).getLsbD b = bit ws (f + 64 * j + b)) ∧ SetAt h2 pt qt n' wsi ∧ Grow h h2

theorem SInv.mk' {p f pt qt L n' : Nat} {ws : List (BitVec 64)} {h h2 : Heap} {i : Nat} {wsi : List (BitVec 64)} {l : List (Nat × Value)} (hi : i ≤ L) (hl : wsi.length = L)
    (hw : ∀ j b, j < i → b < 64 → (word wsi j).getLsbD b = bit ws (f + 64 * j + b)) (s : SetAt h2 pt qt n' wsi) (g : Grow h h2)
    (q0 : slot l 0 = ptr p) (q1 : slot l 1 = .int .i64 f) (q7 : slot l 7 = ptr pt) (q35 : slot l 35 = .int .i64 L) (q36 : slot l 36 = .int .i64 i) :
    SInv p f pt qt L n' ws h (L - i) (forget 9426286221768660091011 (envT 100 l)) h2 := by
  obtain ⟨e, he⟩ := forget_some [0, 1, 7, 35, 36] keptS (keep := 9426286221768660091011) (N := 100) (by decide) l
  refine ⟨i, wsi, e, rfl, hi, he.trans ?_, hl, hw, s, g⟩
  simp [q0, q1, q7, q35, q36]

end Go.Ax
