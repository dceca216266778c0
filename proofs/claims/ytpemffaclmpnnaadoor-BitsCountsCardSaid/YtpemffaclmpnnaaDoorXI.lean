/- An abstract machine for Go programs: from an abstract run to the model's call, at a world with arguments. -/
import Derived.Test.YtpemffaclmpnnaaDoorXZo
namespace Go.Ax
set_option linter.unusedVariables false
set_option linter.unusedSimpArgs false

def ghost0 (A : Nat → Addr) : Ghost := { m := fun _ _ => none, room := fun _ _ => 0, es := fun _ => 0, ro := A, lp := fun _ => none }
def heap0 (ro : Nat → Nat → Option Value) : Heap := { ro := ro, dyn := [], lps := [] }

section
variable {P : Program} {T : Table}

theorem rel0 {W : World} {A : Nat → Addr} {ro : Nat → Nat → Option Value}
    (hro : ∀ b o x, ro b o = some x → (roA (ghost0 A) b).block < W.heap.size ∧ ∃ y, W.cell? ⟨(roA (ghost0 A) b).block, (roA (ghost0 A) b).off + o, none⟩ = some y ∧ VRel (ghost0 A) x y) :
    Rel P W.heap.size (ghost0 A) (heap0 ro) W where
  base := Nat.le_refl _
  blk := fun b k h => by simp [heap0] at h
  dom := fun b v r h => by simp [ghost0] at h
  inj := fun b v r b' v' h => by simp [ghost0] at h
  ro := hro
  lps := fun l p h => by simp [heap0] at h
  lpdom := fun l r h => by simp [ghost0] at h
  lpinj := fun l l' r h => by simp [ghost0] at h

theorem entry (hT : TableOk P T) (hmix : P.follows .mixedOrders = true) {f : FuncId} (htab : (T f).isSome = true) {args : List Value} {args' : Array Value} {W : World} (A : Nat → Addr) (ro : Nat → Nat → Option Value)
    (hro : ∀ b o x, ro b o = some x → (roA (ghost0 A) b).block < W.heap.size ∧ ∃ y, W.cell? ⟨(roA (ghost0 A) b).block, (roA (ghost0 A) b).off + o, none⟩ = some y ∧ VRel (ghost0 A) x y)
    (hl : LR (ghost0 A) args args'.toList) (G : Gives P T (.fn f) args (heap0 ro) fun v _ => v = .bool true) :
    Calls P f args' W fun e W' => e = .returned (.bool true) ∧ Go.RowKit.Below W.heap.size W W' := by
  obtain ⟨v, h', hr, rfl⟩ := G
  obtain ⟨n, hn⟩ := of_acallW hr
  refine (acall_sound hT hmix hn htab (rel0 (P := P) hro) hl).mono fun e W' h => ?_
  obtain ⟨y, g', rfl, hv, R, E⟩ := h
  have hy := rel_bool hv
  subst hy
  exact ⟨rfl, Ext.below (rel0 (P := P) hro) E⟩

/-- A row of memory that holds l, read as a block of its own. -/
def roBlk (g : Nat → Nat → Option Value) (L : Nat → List Value) (b o : Nat) : Option Value :=
  if b < 4294967296 then g b o else (L (b - 4294967296))[o]?

theorem roBlk_lo {g : Nat → Nat → Option Value} {L : Nat → List Value} {b o : Nat} (h : b < 4294967296) : roBlk g L b o = g b o := by simp [roBlk, h]
theorem roBlk_hi {g : Nat → Nat → Option Value} {L : Nat → List Value} {k o : Nat} : roBlk g L (4294967296 + k) o = (L k)[o]? := by
  unfold roBlk
  rw [if_neg (by omega), Nat.add_sub_cancel_left]

theorem ro_plain {W : World} {B : Nat → Addr} {g : Nat → Nat → Option Value} {L : Nat → List Value}
    (hg : ∀ b o x, g b o = some x → plain x = true ∧ b < W.heap.size ∧ W.cell? ⟨b, o, none⟩ = some x)
    (hL : ∀ k o x, (L k)[o]? = some x → plain x = true ∧ (B k).block < W.heap.size ∧ W.cell? ⟨(B k).block, (B k).off + o, none⟩ = some x) :
    ∀ b o x, roBlk g L b o = some x → (roA (ghost0 fun b => B (b - 4294967296)) b).block < W.heap.size ∧ ∃ y, W.cell? ⟨(roA (ghost0 fun b => B (b - 4294967296)) b).block, (roA (ghost0 fun b => B (b - 4294967296)) b).off + o, none⟩ = some y ∧ VRel (ghost0 fun b => B (b - 4294967296)) x y := by
  intro b o x h
  unfold roBlk at h
  unfold roA
  split at h
  · rename_i hb
    rw [if_pos hb]
    obtain ⟨h1, h2, h3⟩ := hg b o x h
    exact ⟨h2, x, by simpa using h3, plain_refl h1⟩
  · rename_i hb
    rw [if_neg hb]
    obtain ⟨h1, h2, h3⟩ := hL _ o x h
    exact ⟨h2, x, h3, plain_refl h1⟩

end
end Go.Ax
