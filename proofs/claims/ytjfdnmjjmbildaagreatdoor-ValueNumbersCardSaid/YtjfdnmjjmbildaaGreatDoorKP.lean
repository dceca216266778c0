/- Seat valuec: the laws' first calls, three blocks standing already. -/
import Derived.Test.YtjfdnmjjmbildaaGreatDoorXK
import Derived.Test.YtjfdnmjjmbildaaGreatDoorKA
import Derived.Test.YtjfdnmjjmbildaaGreatDoorMK
import Derived.KernelRfl
namespace Go.Ax
set_option linter.unusedVariables false
set_option maxRecDepth 1000000

theorem awake_run3 (x y z : Blk) : (acallE P T 60 F_colonnadelaw05_awake [] ⟨roV, [x, y, z], []⟩).map (fun r => (r.1, r.2.ro, r.2.lps, r.2.dyn.take 3)) = some (.bool true, roV, [], [x, y, z]) := by kernel_rfl

theorem awake_spec3 {h : Heap} (hr : h.ro = roV) (hl : h.lps = []) (hd : h.dyn.length = 3) : Gives P T (.fn F_colonnadelaw05_awake) [] h fun v h' => v = .bool true ∧ Grow h h' := by
  obtain ⟨ro, dyn, lps⟩ := h
  simp only at hr hl hd
  subst hr hl
  match dyn, hd with
  | [x, y, z], _ =>
    have h := awake_run3 x y z
    rw [Option.map_eq_some_iff] at h
    obtain ⟨r, h1, h2⟩ := h
    simp only [Prod.mk.injEq] at h2
    refine gives_closed (acallE_ok h1) ⟨h2.1, h2.2.1, h2.2.2.1, ?_, ?_⟩
    · have := congrArg List.length h2.2.2.2
      simp at this ⊢
      omega
    · intro b hb _
      have : r.2.dyn[b]? = (r.2.dyn.take 3)[b]? := by
        rw [List.getElem?_take]
        simp at hb
        rw [if_pos hb]
      rw [this, h2.2.2.2]

end Go.Ax
