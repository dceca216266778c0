/- The law BitsAlgebra. -/
import Derived.Test.YtpemffaclmpnnaaDoorLB
import Derived.Test.YtpemffaclmpnnaaDoorYH
import Derived.Test.YtpemffaclmpnnaaDoorXIo
import Derived.Test.YtpemffaclmpnnaaDoorTie
import Derived.Test.YtpemffaclmpnnaaDoorCards
import Derived.SevenTiedAt
import Derived.Below
namespace Go.Proofs.YtpemffaclmpnnaaDoor
open Go.ChangeShapes Go.WideShapes Go.ChangeAt Go.RowKit
open Go.Ax (tabL tabG ArgM ArgS argV)
set_option linter.unusedVariables false
set_option maxRecDepth 1000000

theorem args_ro {W : World} {bs : List (Option Addr)} {lens : List Nat} {ls : List (List Value)} {B : Nat → Addr}
    (hall : ∀ k l, ls[k]? = some l → ∃ b n, ArgM W b n l ∧ (∀ x, b = some x → B k = x) ∧ ∀ y ∈ l, Go.Ax.plain y = true) :
    ∀ k o x, (ls.getD k [])[o]? = some x → Go.Ax.plain x = true ∧ (B k).block < W.heap.size ∧ W.cell? ⟨(B k).block, (B k).off + o, none⟩ = some x := by
  intro k o x hx
  rw [List.getD_eq_getElem?_getD] at hx
  cases hl : ls[k]? with
  | none => simp [hl] at hx
  | some l =>
    simp only [hl, Option.getD_some] at hx
    obtain ⟨b, n, m, hB, hp⟩ := hall k l hl
    rcases m with ⟨_, _, rfl⟩ | ⟨a, rfl, hs, hlen, hc⟩
    · simp at hx
    · rw [hB a rfl]
      have := hc o x hx
      exact ⟨hp x (List.mem_of_getElem? hx), cell_lt this, this⟩

theorem argS_of {W : World} {b : Option Addr} {n : Nat} {l : List Value} {k : Nat} {L : Nat → List Value} (m : ArgM W b n l) (hL : L k = l) : ArgS (Go.Ax.heap0 (Go.Ax.roBlk tabG L)) (argV k b n) l := by
  rcases m with ⟨rfl, rfl, rfl⟩ | ⟨a, rfl, hs, rfl, hc⟩
  · exact .inl ⟨rfl, rfl⟩
  · refine .inr ⟨4294967296 + k, 0, rfl, fun i x hx => ?_⟩
    show Go.Ax.roBlk tabG L (4294967296 + k) (0 + i) = some x
    rw [Go.Ax.roBlk_hi, hL, Nat.zero_add]; exact hx

theorem one_bool {H : Type} {enc : TypeId × Value → H} {W : World} {t : TypeId} (ht : Tryd.prog.underlying t = some .bool) : ∀ n cs y, DataW.trod enc Tryd.prog W 0 (fun _ => true) true n t cs = some y → ∃ a : Bool, cs = [.bool a] := by
  intro n cs y h
  obtain ⟨b, h1, _⟩ := DataW.trod_bool ht h
  exact ⟨b, h1⟩

theorem plain_bools (l : List Bool) : ∀ y ∈ l.map Value.bool, Go.Ax.plain y = true := by
  intro y hy
  rw [List.mem_map] at hy
  obtain ⟨b, _, rfl⟩ := hy
  rfl

theorem bitsAlgebra_lifted (os : Os) (started : os.Started) (H : Type) (enc : TypeId × Value → H) :
    ReturnsInHanded {} Tryd.checked os 7 .any (fun w args => (Rows.bitsAlgebraSpec.pre enc Tryd.prog Tryd.f7 Rows.bitsAlgebraRow.domain false w args ∧ laidMet Tryd.prog Rows.bitsAlgebraRow.laid w) ∧ sizedMet enc Tryd.prog Tryd.f7 (OpenSpec.ofChange Rows.bitsAlgebraSpec) false w args)
      (Rows.bitsAlgebraSpec.post enc Tryd.prog Tryd.f7 false true false false) := by
  refine returnsInHanded_of_change_and (C := Tryd.checked) (X := fun w _ => laidMet Tryd.prog Rows.bitsAlgebraRow.laid w) (fun _ _ _ hh h => h.of_heap hh) own started (by kernel_rfl) Tryd.func7
    (ChangeSpec.witness_at (enc := enc) (C := Tryd.checked) (os := os) (X := fun w _ => laidMet Tryd.prog Rows.bitsAlgebraRow.laid w) false (World.laidAll Tryd.prog os laidL) #[.slice none 0 0, .slice none 0 0, .slice none 0 0] 8 (World.laidAll_os _ _ _) (by kernel_rfl) (by kernel_rfl) (by kernel_rfl) (by kernel_rfl) (by kernel_rfl) (laid_met os _)) ?_
  intro W base args ds gs before hval0 hW hcnd0 _ hL _
  have hval : ∀ (j : Nat) t v, Tryd.f7.params[j]? = some t → args[j]? = some v → Value.okWide Tryd.prog W .any base t v := hval0
  have hW' := hW
  obtain ⟨p, q, hA0, hV, rfl, hfz, hnd⟩ := hW
  have hA : DataW.TrodAll enc Tryd.prog W 0 (fun _ => true) true Tryd.f7.params.toList args.toList ds p := hA0
  rw [Tryd.params7] at hA hval
  obtain ⟨v0, vs0, d0, ds0, p0, q0, hargs, rfl, rfl, h0, r0⟩ := trodAll_cons hA
  obtain ⟨v1, vs1, d1, ds1, p1, q1, rfl, rfl, rfl, h1, r1⟩ := trodAll_cons r0
  obtain ⟨v2, vs2, d2, ds2, p2, q2, rfl, rfl, rfl, h2, r2⟩ := trodAll_cons r1
  obtain ⟨rfl, rfl, rfl⟩ := trodAll_nil r2
  obtain rfl : args = #[v0, v1, v2] := by cases args; simp_all
  obtain ⟨rfl, rfl⟩ := trodVars_none hV
  have c4 : Tryd.prog.cellsOf 4 = 1 := by kernel_rfl
  obtain ⟨b0, n0, c0, z0, rfl, e0, k0, m0⟩ := Go.Ax.open_arg Value.bool Tryd.underlying22 c4 (one_bool Tryd.underlying4) (hval 0 22 v0 rfl rfl) h0
  obtain ⟨b1, n1, c1, z1, rfl, e1, k1, m1⟩ := Go.Ax.open_arg Value.bool Tryd.underlying22 c4 (one_bool Tryd.underlying4) (hval 1 22 v1 rfl rfl) h1
  obtain ⟨b2, n2, c2, z2, rfl, e2, k2, m2⟩ := Go.Ax.open_arg Value.bool Tryd.underlying22 c4 (one_bool Tryd.underlying4) (hval 2 22 v2 rfl rfl) h2
  have t0 := h0; have t1 := h1; have t2 := h2
  have lt0 : ∀ x ∈ p0, x.block < W.heap.size := by obtain ⟨m, hm⟩ := t0; exact DataW.trod_lt m _ _ _ hm
  have lt1 : ∀ x ∈ p1, x.block < W.heap.size := by obtain ⟨m, hm⟩ := t1; exact DataW.trod_lt m _ _ _ hm
  have lt2 : ∀ x ∈ p2, x.block < W.heap.size := by obtain ⟨m, hm⟩ := t2; exact DataW.trod_lt m _ _ _ hm
  let L : Nat → List Value := fun k => [z0.map Value.bool, z1.map Value.bool, z2.map Value.bool].getD k []
  let B : Nat → Addr := fun k => ([b0, b1, b2].getD k none).getD ⟨0, 0, none⟩
  have hro := Go.Ax.ro_plain (B := B) (g := tabG) (L := L) (tab_ro hL) (args_ro (bs := []) (lens := []) fun k l hl => by
    rcases k with _ | _ | _ | k
    · simp at hl; subst hl; exact ⟨b0, n0, m0, fun x hx => by simp [B, hx], plain_bools z0⟩
    · simp at hl; subst hl; exact ⟨b1, n1, m1, fun x hx => by simp [B, hx], plain_bools z1⟩
    · simp at hl; subst hl; exact ⟨b2, n2, m2, fun x hx => by simp [B, hx], plain_bools z2⟩
    · simp at hl)
  have g := Go.Ax.algebra_spec L (argS_of (k := 0) m0 rfl) (argS_of (k := 1) m1 rfl) (argS_of (k := 2) m2 rfl)
  refine (Go.Ax.entry Go.Ax.T_ok Go.Ax.mixed_ok (f := 7) rfl (args := [argV 0 b0 n0, argV 1 b1 n1, argV 2 b2 n2]) _ _ hro
    (.cons (Go.Ax.arg_rel (B := B) m0 e0 (fun x hx => by simp [B, hx]) k0) (.cons (Go.Ax.arg_rel (B := B) m1 e1 (fun x hx => by simp [B, hx]) k1) (.cons (Go.Ax.arg_rel (B := B) m2 e2 (fun x hx => by simp [B, hx]) k2) (.nil _)))) g).mono fun e W' ⟨he, bel⟩ => ?_
  subst he
  exact ⟨_, rfl, _, _, _, [], _, [], hW', trodAll_mk1 (shut_bool Tryd.underlying4 _), (trodAll_cons_mk (Below.trod laidOut (by kernel_rfl) (of_decide_eq_true (by kernel_rfl)) h0 bel lt0) (trodAll_cons_mk (Below.trod laidOut (by kernel_rfl) (of_decide_eq_true (by kernel_rfl)) h1 bel lt1) (trodAll_cons_mk (Below.trod laidOut (by kernel_rfl) (of_decide_eq_true (by kernel_rfl)) h2 bel lt2) trodAll_mk0))), rfl, bel.frame _, fun h => by cases h⟩

theorem bitsAlgebra_holds0 : Rows.BitsAlgebraSaid :=
  OpenClaim.holds_of_wide 7 Tryd.f7 rfl rfl rfl rfl rfl rfl rfl ⟨rfl, rfl, rfl, rfl, rfl⟩ rfl rfl rfl rfl rfl (by kernel_rfl) Tryd.func7 (by kernel_rfl)
    (of_decide_eq_true (by kernel_rfl)) (by unfold Func.isWrapper; first | (rw [if_pos (by decide +kernel)]; kernel_rfl) | (rw [if_neg (by decide +kernel)]; exact ⟨rfl, rfl⟩))
    (fun os started H enc _ => bitsAlgebra_lifted os started H enc)

theorem bitsAlgebra_holds : Rows.BitsAlgebraCardSaid :=
  Claim7.holds_tied_plain_at .later [] [.data] true (true, "d6c794fc80adb808b5d5a7682138abd6c4d3757613436974613106213b9933fd") false
    bitsAlgebra_holds0 (fun _ h => by cases h) (by kernel_rfl) (fun _ h => by cases h) bitsAlgebra_row_tie rfl ⟨rfl, rfl⟩ (by kernel_rfl) rfl
    (fun f fn hf hfn => by
      obtain rfl : f = 7 := Option.some.inj ((show Tryd.prog.funcNamed "colonnade/colonnadelaw01.BitsAlgebra" = some 7 by kernel_rfl).symm.trans hf) |>.symm
      obtain rfl : fn = Tryd.f7 := (Option.some.inj (Tryd.func7.symm.trans hfn)).symm
      exact ⟨by kernel_rfl, fun j t ht => by
        rw [Tryd.params7] at ht
        have h22 : t = 22 := by
          rcases j with _ | _ | _ | j
          · simpa using ht.symm
          · simpa using ht.symm
          · simpa using ht.symm
          · simp at ht
        subst h22
        exact (show Tryd.prog.wantsStandIn 22 = false by kernel_rfl)⟩)
    (by kernel_rfl)
#print axioms bitsAlgebra_holds
end Go.Proofs.YtpemffaclmpnnaaDoor
