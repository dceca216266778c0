/- An abstract machine for Go programs: its runs without a bound. -/
import Derived.Test.YtpemffaclmpnnaaDoorXH
namespace Go.Ax
set_option linter.unusedVariables false
set_option linter.unusedSimpArgs false

abbrev Uses := List (Tgt × List Value × Heap × (Value × Heap))

def Agree (cf : CF) (S : Uses) : Prop := ∀ s ∈ S, cf s.1 s.2.1 s.2.2.1 = some s.2.2.2

theorem Agree.nil (cf : CF) : Agree cf [] := fun s h => by simp at h

theorem Agree.app {cf : CF} {S S' : Uses} : Agree cf (S ++ S') ↔ Agree cf S ∧ Agree cf S' := by
  unfold Agree
  constructor
  · intro h; exact ⟨fun s hs => h s (by simp [hs]), fun s hs => h s (by simp [hs])⟩
  · rintro ⟨h, k⟩ s hs; rw [List.mem_append] at hs; exact hs.elim (h s) (k s)

/-- An answer that rests on finitely many answers of the calls. -/
def Fin {α : Type} (F : CF → Nat → Option α) (cf : CF) (n : Nat) (r : α) : Prop := ∃ S, Agree cf S ∧ ∀ cf' n', n ≤ n' → Agree cf' S → F cf' n' = some r

theorem Fin.of {α : Type} {F : CF → Nat → Option α} {cf : CF} {n : Nat} {r : α} (h : ∀ cf' n', n ≤ n' → F cf' n' = some r) : Fin F cf n r := ⟨[], Agree.nil cf, fun cf' n' hn _ => h cf' n' hn⟩

theorem Fin.two {α β : Type} {F : CF → Nat → Option α} {G : CF → Nat → Option β} {cf : CF} {n : Nat} {a : α} {b : β} (h : Fin F cf n a) (k : Fin G cf n b) {H : CF → Nat → Option β}
    (e : ∀ cf' n', n ≤ n' → F cf' n' = some a → G cf' n' = some b → H cf' n' = some b) : Fin H cf n b := by
  obtain ⟨S, h1, h2⟩ := h
  obtain ⟨S', k1, k2⟩ := k
  exact ⟨S ++ S', Agree.app.2 ⟨h1, k1⟩, fun cf' n' hn ha => e cf' n' hn (h2 cf' n' hn (Agree.app.1 ha).1) (k2 cf' n' hn (Agree.app.1 ha).2)⟩

theorem Fin.one {α β : Type} {F : CF → Nat → Option α} {cf : CF} {n : Nat} {a : α} {b : β} (h : Fin F cf n a) {H : CF → Nat → Option β}
    (e : ∀ cf' n', n ≤ n' → F cf' n' = some a → H cf' n' = some b) : Fin H cf n b := by
  obtain ⟨S, h1, h2⟩ := h
  exact ⟨S, h1, fun cf' n' hn ha => e cf' n' hn (h2 cf' n' hn ha)⟩

section
variable {P : Program}

theorem fin_call {cf : CF} {n : Nat} {tg : Tgt} {args : List Value} {h : Heap} {r : Value × Heap} (e : cf tg args h = some r) : Fin (fun cf _ => cf tg args h) cf n r :=
  ⟨[(tg, args, h, r)], fun s hs => by simp at hs; subst hs; exact e, fun cf' n' _ ha => ha (tg, args, h, r) (by simp)⟩

theorem fin_op {cf : CF} {n : Nat} {o : AOp} {t : List Value} {h : Heap} {r : Value × Heap} (e : runOp P cf o t h = some r) : Fin (fun cf _ => runOp P cf o t h) cf n r := by
  unfold runOp at e ⊢
  cases ha : aop P h (evalT t) o with
  | none => simp [ha] at e
  | some q =>
    cases q with
    | val v h' => simp only [ha] at e ⊢; exact .of fun _ _ _ => e
    | call f args => simp only [ha] at e ⊢; exact fin_call e

theorem fin_ops {cf : CF} {n : Nat} : ∀ {l : List AOper} {t : List Value} {h : Heap} {r : List Value × Heap}, runOps P cf l t h = some r → Fin (fun cf _ => runOps P cf l t h) cf n r
  | [], t, h, r, e => .of fun _ _ _ => e
  | o :: l, t, h, r, e => by
    simp only [runOps] at e ⊢
    cases hw : wantedA t o.guard with
    | none => simp [hw] at e
    | some b =>
      cases b with
      | false => simp only [hw] at e ⊢; exact fin_ops e
      | true =>
        simp only [hw] at e ⊢
        cases ho : runOp P cf o.op t h with
        | none => simp [ho] at e
        | some q =>
          obtain ⟨v, h'⟩ := q
          simp only [ho] at e
          exact (fin_op (n := n) ho).two (fin_ops e) fun cf' n' _ h1 h2 => by simp only [h1]; exact h2

theorem fin_drun {cf : CF} {n : Nat} : ∀ {l : List AOper} {past : List Heap} {pend : List (AOper × List Value × Value)} {m : Nat} {t : List Value} {h : Heap} {r : List Value × Heap}, drun P cf l past pend m t h = some r → Fin (fun cf _ => drun P cf l past pend m t h) cf n r
  | [], past, pend, m, t, h, r, e => .of fun _ _ _ => e
  | o :: l, past, pend, m, t, h, r, e => by
    simp only [drun] at e ⊢
    cases hw : wantedA t o.guard with
    | none => simp [hw] at e
    | some b =>
      cases b with
      | false =>
        simp only [hw] at e ⊢
        cases hf : o.eff with
        | true => simp only [hf, if_true] at e ⊢; exact fin_drun e
        | false => simp only [hf] at e ⊢; exact fin_drun e
      | true =>
        simp only [hw] at e ⊢
        cases ho : runOp P cf o.op t h with
        | none => simp [ho] at e
        | some q =>
          obtain ⟨v, h'⟩ := q
          simp only [ho] at e
          split at e
          · rename_i hf
            split at e
            · rename_i hp
              exact (fin_op (n := n) ho).two (fin_drun e) fun cf' n' _ h1 h2 => by simp only [h1]; rw [if_pos hf, if_pos hp]; exact h2
            · simp at e
          · rename_i hf
            split at e
            · rename_i hp
              exact (fin_op (n := n) ho).two (fin_drun e) fun cf' n' _ h1 h2 => by simp only [h1]; rw [if_neg hf, if_pos hp]; exact h2
            · simp at e

theorem loopN_mono {keep : Nat} {b b' : Step} {t : List Value} {h : Heap} : ∀ {n m : Nat} {r}, n ≤ m → (∀ t h r, b t h = some r → b' t h = some r) → ∀ {t h}, loopN keep b n t h = some r → loopN keep b' m t h = some r
  | 0, _, _, _, _, _, _, e => by simp [loopN] at e
  | n + 1, 0, _, hn, _, _, _, _ => by omega
  | n + 1, m + 1, r, hn, hb, t, h, e => by
    simp only [loopN] at e ⊢
    cases hq : b (forget keep t) h with
    | none => simp [hq] at e
    | some q =>
      rw [hb _ _ _ hq]
      simp only [hq] at e
      split at e
      · rename_i t' h' he
        obtain rfl := Option.some.inj he
        exact loopN_mono (t := t') (h := h') (by omega) hb e
      · exact e

theorem fin_exec {cf : CF} : ∀ {c : AC} {n : Nat} {t : List Value} {h : Heap} {r}, aexec P cf n c t h = some r → Fin (fun cf n => aexec P cf n c t h) cf n r := by
  intro c
  induction c with
  | skip => intro n t h r e; simp only [aexec] at e ⊢; exact .of fun _ _ _ => e
  | ops l =>
    intro n t h r e
    simp only [aexec, Option.map_eq_some_iff] at e ⊢
    obtain ⟨q, h1, h2⟩ := e
    exact (fin_ops (n := n) h1).one fun cf' n' _ k => by simp only [k, Option.map_some]; rw [h2]
  | dops l =>
    intro n t h r e
    simp only [aexec, Option.map_eq_some_iff] at e ⊢
    obtain ⟨q, h1, h2⟩ := e
    exact (fin_drun (n := n) h1).one fun cf' n' _ k => by simp only [k, Option.map_some]; rw [h2]
  | seq a b iha ihb =>
    intro n t h r e
    simp only [aexec] at e ⊢
    cases hq : aexec P cf n a t h with
    | none => simp [hq] at e
    | some q =>
      obtain ⟨x, t', h'⟩ := q
      simp only [hq] at e
      cases x with
      | normal => simp only at e; exact (iha hq).two (ihb e) fun cf' n' _ k1 k2 => by simp only [k1]; exact k2
      | exit i => simp only at e; exact (iha hq).one fun cf' n' _ k1 => by simp only [k1]; exact e
      | ret => simp only at e; exact (iha hq).one fun cf' n' _ k1 => by simp only [k1]; exact e
  | cond c a b iha ihb =>
    intro n t h r e
    simp only [aexec] at e ⊢
    split at e
    · exact iha e
    · exact ihb e
    · simp at e
  | block id b ih =>
    intro n t h r e
    simp only [aexec] at e ⊢
    cases hq : aexec P cf n b t h with
    | none => simp [hq] at e
    | some q => exact (ih hq).one fun cf' n' _ k => by simp only [k]; simp only [hq] at e; exact e
  | loop keep b ih =>
    intro n t h r e
    simp only [aexec] at e ⊢
    have key : ∀ (k : Nat) {t h}, loopN keep (aexec P cf n b) k t h = some r → Fin (fun cf n => loopN keep (aexec P cf n b) k t h) cf n r := by
      intro k
      induction k with
      | zero => intro t h e; simp [loopN] at e
      | succ k ihk =>
        intro t h e
        simp only [loopN] at e ⊢
        cases hq : aexec P cf n b (forget keep t) h with
        | none => simp [hq] at e
        | some q =>
          obtain ⟨x, t', h'⟩ := q
          simp only [hq] at e
          cases x with
          | normal => simp only at e; exact (ih hq).two (ihk e) fun cf' n' _ k1 k2 => by simp only [k1]; exact k2
          | exit i => simp only at e; exact (ih hq).one fun cf' n' _ k1 => by simp only [k1]; exact e
          | ret => simp only at e; exact (ih hq).one fun cf' n' _ k1 => by simp only [k1]; exact e
    obtain ⟨S, h1, h2⟩ := key n e
    exact ⟨S, h1, fun cf' n' hn ha => loopN_mono (t := t) (h := h) hn (fun _ _ _ k => k) (h2 cf' n' hn ha)⟩
  | rangeF f ps as bd _ _ =>
    intro n t h r e
    simp only [aexec] at e ⊢
    split at e
    · rename_i f' args hc
      split at e
      · simp at e
      · rename_i hb
        cases hq : cf (.fn f') args { h with lps := h.lps ++ [{ state := .ready, pending := none, tmps := t, params := ps, assign := as, body := bd }] } with
        | none => simp [hq] at e
        | some q =>
          refine (fin_call (n := n) hq).one fun cf' n' _ k => ?_
          rw [if_neg hb]
          simp only [k]
          simp only [hq] at e
          exact e
    · simp at e
  | exit id => intro n t h r e; simp only [aexec] at e ⊢; exact .of fun _ _ _ => e
  | ret => intro n t h r e; simp only [aexec] at e ⊢; exact .of fun _ _ _ => e
  | bad => intro n t h r e; simp [aexec] at e

theorem fin_fn {cf : CF} {n : Nat} {f : AFn} {args : List Value} {h : Heap} {r : Value × Heap} (e : runFn P cf n f args h = some r) : Fin (fun cf n => runFn P cf n f args h) cf n r := by
  unfold runFn at e ⊢
  cases hq : aexec P cf n f.code (args ++ List.replicate (f.ntmps - args.length) undef) h with
  | none => simp [hq] at e
  | some q => exact (fin_exec hq).one fun cf' n' _ k => by simp only [k]; simp only [hq] at e; exact e

theorem fin_yield {cf : CF} {n l : Nat} {args : List Value} {h : Heap} {r : Value × Heap} (e : runYield P cf n l args h = some r) : Fin (fun cf n => runYield P cf n l args h) cf n r := by
  unfold runYield at e ⊢
  split at e
  · simp at e
  rename_i p hp
  split at e
  · simp at e
  rename_i hl
  simp only [hp, if_neg hl]
  cases hq : aexec P cf n p.assign ((p.params.zip args).foldl (fun t (i, v) => t.set i v) p.tmps) h with
  | none => simp [hq] at e
  | some q =>
    obtain ⟨x, t1, h1⟩ := q
    simp only [hq] at e
    cases x with
    | exit i => simp at e
    | ret => simp at e
    | normal =>
      simp only at e
      split at e
      · simp at e
      rename_i p1 hp1
      split at e
      · simp at e
      rename_i hst
      cases hq2 : aexec P cf n p.body t1 { h1 with lps := h1.lps.set l { p1 with state := .busy } } with
      | none => simp [hq2] at e
      | some q2 =>
        refine (fin_exec hq).two ((fin_exec hq2).one (b := r) (H := fun cf n => match aexec P cf n p.body t1 { h1 with lps := h1.lps.set l { p1 with state := .busy } } with
        | none => none
        | some (e, _, h3) =>
          match h3.lps[l]? with
          | none => none
          | some p3 =>
            if e = .normal then some (.bool true, { h3 with lps := h3.lps.set l { p3 with state := .ready, pending := none } })
            else some (.bool false, { h3 with lps := h3.lps.set l { p3 with state := .done, pending := some e } })) fun cf' n' _ k => by simp only [k]; simp only [hq2] at e; exact e) fun cf' n' _ k1 k2 => ?_
        simp only [k1, hp1, if_neg hst]
        exact k2

variable {T : Table}

theorem fin_acall {n : Nat} {tg : Tgt} {args : List Value} {h : Heap} {r : Value × Heap} (e : acallN P T (n + 1) tg args h = some r) :
    ∃ S, Agree (acallN P T n) S ∧ ∀ m, n ≤ m → Agree (acallN P T m) S → acallN P T (m + 1) tg args h = some r := by
  cases tg with
  | fn f =>
    simp only [acallN] at e ⊢
    cases ha : T f with
    | none => simp only [ha] at e ⊢; exact ⟨[], Agree.nil _, fun _ _ _ => e⟩
    | some a =>
      simp only [ha] at e ⊢
      obtain ⟨S, h1, h2⟩ := fin_fn e
      exact ⟨S, h1, fun m hm ha => h2 _ m hm ha⟩
  | yield l =>
    simp only [acallN] at e ⊢
    obtain ⟨S, h1, h2⟩ := fin_yield e
    exact ⟨S, h1, fun m hm ha => h2 _ m hm ha⟩

theorem acallN_mono : ∀ {n m : Nat}, n ≤ m → ∀ {tg : Tgt} {args : List Value} {h : Heap} {r : Value × Heap}, acallN P T n tg args h = some r → acallN P T m tg args h = some r
  | 0, _, _, tg, _, _, _, e => by simp [acallN] at e
  | n + 1, 0, hn, _, _, _, _, _ => by omega
  | n + 1, m + 1, hn, tg, args, h, r, e => by
    obtain ⟨S, h1, h2⟩ := fin_acall e
    exact h2 m (by omega) fun s hs => acallN_mono (by omega) (h1 s hs)

variable (P T) in
open Classical in
noncomputable def acallW : CF := fun tg args h => if e : ∃ r, ∃ n, acallN P T n tg args h = some r then some e.choose else none

theorem acallW_of {n : Nat} {tg : Tgt} {args : List Value} {h : Heap} {r : Value × Heap} (e : acallN P T n tg args h = some r) : acallW P T tg args h = some r := by
  have hx : ∃ r, ∃ n, acallN P T n tg args h = some r := ⟨r, n, e⟩
  unfold acallW
  rw [dif_pos hx]
  obtain ⟨m, hm⟩ := hx.choose_spec
  have h1 := acallN_mono (Nat.le_max_left n m) e
  have h2 := acallN_mono (Nat.le_max_right n m) hm
  rw [h1] at h2
  rw [Option.some.inj h2]

theorem of_acallW {tg : Tgt} {args : List Value} {h : Heap} {r : Value × Heap} (e : acallW P T tg args h = some r) : ∃ n, acallN P T n tg args h = some r := by
  unfold acallW at e
  split at e
  · rename_i hx
    obtain ⟨m, hm⟩ := hx.choose_spec
    obtain rfl := Option.some.inj e
    exact ⟨m, hm⟩
  · simp at e

theorem agree_lim : ∀ (S : Uses), Agree (acallW P T) S → ∃ n, ∀ m, n ≤ m → Agree (acallN P T m) S
  | [], _ => ⟨0, fun _ _ => Agree.nil _⟩
  | s :: S, h => by
    obtain ⟨n, hn⟩ := agree_lim S fun s' hs => h s' (by simp [hs])
    obtain ⟨m, hm⟩ := of_acallW (h s (by simp))
    refine ⟨max n m, fun k hk s' hs => ?_⟩
    rw [List.mem_cons] at hs
    rcases hs with rfl | hs
    · exact acallN_mono (by omega) hm
    · exact hn k (by omega) s' hs

theorem lim_fin {α : Type} {F : CF → Nat → Option α} {n : Nat} {r : α} (h : Fin F (acallW P T) n r) : ∃ m, F (acallN P T m) m = some r := by
  obtain ⟨S, h1, h2⟩ := h
  obtain ⟨k, hk⟩ := agree_lim S h1
  exact ⟨max k n, h2 _ _ (by omega) (hk _ (by omega))⟩

/-! ### what code does -/

variable (P T) in
def Does (c : AC) (t : List Value) (h : Heap) (Q : Ex → List Value → Heap → Prop) : Prop := ∃ n e t' h', aexec P (acallW P T) n c t h = some (e, t', h') ∧ Q e t' h'

variable (P T) in
def Gives (tg : Tgt) (args : List Value) (h : Heap) (Q : Value → Heap → Prop) : Prop := ∃ v h', acallW P T tg args h = some (v, h') ∧ Q v h'

theorem Gives.mono {tg : Tgt} {args : List Value} {h : Heap} {Q R : Value → Heap → Prop} (k : Gives P T tg args h Q) (i : ∀ v h', Q v h' → R v h') : Gives P T tg args h R := by
  obtain ⟨v, h', e, q⟩ := k; exact ⟨v, h', e, i v h' q⟩

theorem Does.mono {c : AC} {t : List Value} {h : Heap} {Q R : Ex → List Value → Heap → Prop} (k : Does P T c t h Q) (i : ∀ e t' h', Q e t' h' → R e t' h') : Does P T c t h R := by
  obtain ⟨n, e, t', h', r, q⟩ := k; exact ⟨n, e, t', h', r, i _ _ _ q⟩

theorem exec_mono {n m : Nat} (hn : n ≤ m) {c : AC} {t : List Value} {h : Heap} {r} (e : aexec P (acallW P T) n c t h = some r) : aexec P (acallW P T) m c t h = some r := by
  obtain ⟨S, h1, h2⟩ := fin_exec e
  exact h2 _ m hn h1

theorem gives_fn {f : FuncId} {a : AFn} (ha : T f = some a) {args : List Value} {h : Heap} {Q : Value → Heap → Prop}
    (k : Does P T a.code (args ++ List.replicate (a.ntmps - args.length) undef) h fun e t' h' => (∀ i, e ≠ .exit i) ∧ ∃ l, resVals t' h' a.results = some l ∧ Q (oneOf l) h') : Gives P T (.fn f) args h Q := by
  obtain ⟨n, e, t', h', r, he, l, hl, q⟩ := k
  have : runFn P (acallW P T) n a args h = some (oneOf l, h') := by
    unfold runFn
    rw [r]
    cases e with
    | exit i => exact absurd rfl (he i)
    | normal => simp [hl]
    | ret => simp [hl]
  obtain ⟨m, hm⟩ := lim_fin (fin_fn this)
  exact ⟨_, h', acallW_of (n := m + 1) (by simp only [acallN, ha]; exact hm), q⟩

theorem gives_ext {f : FuncId} (ha : T f = none) {args : List Value} {h : Heap} {v : Value} {Q : Value → Heap → Prop} (k : runExt P f args h = some (v, h)) (q : Q v h) : Gives P T (.fn f) args h Q :=
  ⟨_, h, acallW_of (n := 1) (by simp only [acallN, ha]; exact k), q⟩

theorem does_skip {t : List Value} {h : Heap} {Q : Ex → List Value → Heap → Prop} (q : Q .normal t h) : Does P T .skip t h Q := ⟨0, .normal, t, h, rfl, q⟩
theorem does_exit {i : Nat} {t : List Value} {h : Heap} {Q : Ex → List Value → Heap → Prop} (q : Q (.exit i) t h) : Does P T (.exit i) t h Q := ⟨0, .exit i, t, h, rfl, q⟩
theorem does_ret {t : List Value} {h : Heap} {Q : Ex → List Value → Heap → Prop} (q : Q .ret t h) : Does P T .ret t h Q := ⟨0, .ret, t, h, rfl, q⟩

theorem does_ops {l : List AOper} {t t' : List Value} {h h' : Heap} {Q : Ex → List Value → Heap → Prop} (e : runOps P (acallW P T) l t h = some (t', h')) (q : Q .normal t' h') : Does P T (.ops l) t h Q :=
  ⟨0, .normal, t', h', by simp [aexec, e], q⟩
theorem does_dops {l : List AOper} {t t' : List Value} {h h' : Heap} {Q : Ex → List Value → Heap → Prop} (e : drun P (acallW P T) l [] [] 0 t h = some (t', h')) (q : Q .normal t' h') : Does P T (.dops l) t h Q :=
  ⟨0, .normal, t', h', by simp [aexec, e], q⟩

theorem does_seq {a b : AC} {t : List Value} {h : Heap} {Q : Ex → List Value → Heap → Prop}
    (k : Does P T a t h fun e t' h' => match e with | .normal => Does P T b t' h' Q | e => Q e t' h') : Does P T (.seq a b) t h Q := by
  obtain ⟨n, e, t', h', r, q⟩ := k
  cases e with
  | normal =>
    obtain ⟨m, e2, t2, h2, r2, q2⟩ := q
    refine ⟨max n m, e2, t2, h2, ?_, q2⟩
    simp only [aexec, exec_mono (Nat.le_max_left n m) r]
    exact exec_mono (Nat.le_max_right n m) r2
  | exit i => exact ⟨n, .exit i, t', h', by simp only [aexec, r], q⟩
  | ret => exact ⟨n, .ret, t', h', by simp only [aexec, r], q⟩

theorem does_cond {c : Operand} {a b : AC} {t : List Value} {h : Heap} {Q : Ex → List Value → Heap → Prop} {x : Bool} (hc : evalT t c = .bool x)
    (ka : x = true → Does P T a t h Q) (kb : x = false → Does P T b t h Q) : Does P T (.cond c a b) t h Q := by
  cases x with
  | true => obtain ⟨n, e, t', h', r, q⟩ := ka rfl; exact ⟨n, e, t', h', by simp only [aexec, hc]; exact r, q⟩
  | false => obtain ⟨n, e, t', h', r, q⟩ := kb rfl; exact ⟨n, e, t', h', by simp only [aexec, hc]; exact r, q⟩

theorem does_block {id : Nat} {b : AC} {t : List Value} {h : Heap} {Q : Ex → List Value → Heap → Prop}
    (k : Does P T b t h fun e t' h' => match e with | .exit i => if i = id then Q .normal t' h' else Q (.exit i) t' h' | e => Q e t' h') : Does P T (.block id b) t h Q := by
  obtain ⟨n, e, t', h', r, q⟩ := k
  cases e with
  | normal => exact ⟨n, .normal, t', h', by simp only [aexec, r], q⟩
  | ret => exact ⟨n, .ret, t', h', by simp only [aexec, r], q⟩
  | exit i =>
    simp only at q
    split at q
    · rename_i hi; exact ⟨n, .normal, t', h', by simp only [aexec, r]; rw [if_pos hi], q⟩
    · rename_i hi; exact ⟨n, .exit i, t', h', by simp only [aexec, r]; rw [if_neg hi], q⟩

/-- A loop, by what holds at its head (the slots that it needs not forgotten). -/
theorem does_loop {keep : Nat} {b : AC} {Q : Ex → List Value → Heap → Prop} (I : Nat → List Value → Heap → Prop)
    (step : ∀ k t h, I k t h → Does P T b t h fun e t' h' => match e with | .normal => ∃ j, j < k ∧ I j (forget keep t') h' | e => Q e t' h')
    {k : Nat} {t : List Value} {h : Heap} (i : I k (forget keep t) h) : Does P T (.loop keep b) t h Q := by
  have key : ∀ k t h, I k (forget keep t) h → ∃ n e t' h', loopN keep (aexec P (acallW P T) n b) n t h = some (e, t', h') ∧ Q e t' h' := by
    intro k
    induction k using Nat.strongRecOn with
    | _ k ih =>
      intro t h i
      obtain ⟨n, e, t', h', r, q⟩ := step k _ h i
      cases e with
      | exit j => exact ⟨n + 1, .exit j, t', h', by simp only [loopN, exec_mono (Nat.le_succ n) r], q⟩
      | ret => exact ⟨n + 1, .ret, t', h', by simp only [loopN, exec_mono (Nat.le_succ n) r], q⟩
      | normal =>
        obtain ⟨j, hj, i'⟩ := q
        obtain ⟨m, e2, t2, h2, r2, q2⟩ := ih j hj t' h' i'
        refine ⟨max n m + 1, e2, t2, h2, ?_, q2⟩
        simp only [loopN, exec_mono (show n ≤ max n m + 1 by omega) r]
        exact loopN_mono (t := t') (h := h') (show m ≤ max n m by omega) (fun _ _ _ k => exec_mono (show m ≤ max n m + 1 by omega) k) r2
  obtain ⟨n, e, t', h', r, q⟩ := key k t h i
  exact ⟨n, e, t', h', by simp only [aexec]; exact r, q⟩

/-- A call inside a line of operations. -/
theorem Gives.eq {tg : Tgt} {args : List Value} {h : Heap} {Q : Value → Heap → Prop} (k : Gives P T tg args h Q) : ∃ v h', acallW P T tg args h = some (v, h') ∧ Q v h' := k

theorem gives_closed {n : Nat} {tg : Tgt} {args : List Value} {h : Heap} {r : Value × Heap} (e : acallN P T n tg args h = some r) {Q : Value → Heap → Prop} (q : Q r.1 r.2) : Gives P T tg args h Q := ⟨r.1, r.2, acallW_of e, q⟩

end
end Go.Ax
