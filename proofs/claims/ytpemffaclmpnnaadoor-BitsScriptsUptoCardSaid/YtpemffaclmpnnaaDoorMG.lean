/- An abstract machine for Go programs: its runs without a bound. -/
import Derived.Test.YtpemffaclmpnnaaDoorMF
namespace Go.Ax
set_option linter.unusedVariables false
set_option linter.unusedSimpArgs false

abbrev Uses := List (Tgt × List Value × Heap × (Value × Heap))

def Agree (cf : CF) (S : Uses) : Prop := ∀ s ∈ S, cf s.1 s.2.1 s.2.2.1 = some s.2.2.2

theorem Agree.nil (cf : CF) : Agree cf [] := fun s h => by simp at h

theorem Agree.app {cf : CF} {S S' : Uses} : Agree cf (S ++ S') ↔ Agree cf S ∧ Agree cf S' := by
  unfold Agree
  constructor
  · intro h; exact ⟨fun s hs => h s (by simp [hs]), fun s hs => h s (by simp [hs])⟩
  · rintro ⟨h, k⟩ s hs; rw [List.mem_append] at hs; exact hs.elim (h s) (k s)

/-- An answer that rests on finitely many answers of the calls. -/
def Fin {α : Type} (F : CF → Nat → Option α) (cf : CF) (n : Nat) (r : α) : Prop := ∃ S, Agree cf S ∧ ∀ cf' n', n ≤ n' → Agree cf' S → F cf' n' = some r

theorem Fin.of {α : Type} {F : CF → Nat → Option α} {cf : CF} {n : Nat} {r : α} (h : ∀ cf' n', n ≤ n' → F cf' n' = some r) : Fin F cf n r := ⟨[], Agree.nil cf, fun cf' n' hn _ => h cf' n' hn⟩

theorem Fin.two {α β : Type} {F : CF → Nat → Option α} {G : CF → Nat → Option β} {cf : CF} {n : Nat} {a : α} {b : β} (h : Fin F cf n a) (k : Fin G cf n b) {H : CF → Nat → Option β}
    (e : ∀ cf' n', n ≤ n' → F cf' n' = some a → G cf' n' = some b → H cf' n' = some b) : Fin H cf n b := by
  obtain ⟨S, h1, h2⟩ := h
  obtain ⟨S', k1, k2⟩ := k
  exact ⟨S ++ S', Agree.app.2 ⟨h1, k1⟩, fun cf' n' hn ha => e cf' n' hn (h2 cf' n' hn (Agree.app.1 ha).1) (k2 cf' n' hn (Agree.app.1 ha).2)⟩

theorem Fin.one {α β : Type} {F : CF → Nat → Option α} {cf : CF} {n : Nat} {a : α} {b : β} (h : Fin F cf n a) {H : CF → Nat → Option β}
    (e : ∀ cf' n', n ≤ n' → F cf' n' = some a → H cf' n' = some b) : Fin H cf n b := by
  obtain ⟨S, h1, h2⟩ := h
  exact ⟨S, h1, fun cf' n' hn ha => e cf' n' hn (h2 cf' n' hn ha)⟩

section
variable {P : Program}

theorem fin_call {cf : CF} {n : Nat} {tg : Tgt} {args : List Value} {h : Heap} {r : Value × Heap} (e : cf tg args h = some r) : Fin (fun cf _ => cf tg args h) cf n r :=
  ⟨[(tg, args, h, r)], fun s hs => by simp at hs; subst hs; exact e, fun cf' n' _ ha => ha (tg, args, h, r) (by simp)⟩

theorem fin_op {cf : CF} {n : Nat} {o : AOp} {t : List Value} {h : Heap} {r : Value × Heap} (e : runOp P cf o t h = some r) : Fin (fun cf _ => runOp P cf o t h) cf n r := by
  unfold runOp at e ⊢
  cases ha : aop P h (evalT t) o with
  | none => simp [ha] at e
  | some q =>
    cases q with
    | val v h' => simp only [ha] at e ⊢; exact .of fun _ _ _ => e
    | call f args => simp only [ha] at e ⊢; exact fin_call e

theorem fin_ops {cf : CF} {n : Nat} : ∀ {l : List AOper} {t : List Value} {h : Heap} {r : List Value × Heap}, runOps P cf l t h = some r → Fin (fun cf _ => runOps P cf l t h) cf n r
  | [], t, h, r, e => .of fun _ _ _ => e
  | o :: l, t, h, r, e => by
    simp only [runOps] at e ⊢
    cases hw : wantedA t o.guard with
    | none => simp [hw] at e
    | some b =>
      cases b with
      | false => simp only [hw] at e ⊢; exact fin_ops e
      | true =>
        simp only [hw] at e ⊢
        cases ho : runOp P cf o.op t h with
        | none => simp [ho] at e
        | some q =>
          obtain ⟨v, h'⟩ := q
          simp only [ho] at e
          exact (fin_op (n := n) ho).two (fin_ops e) fun cf' n' _ h1 h2 => by simp only [h1]; exact h2

theorem fin_drun {cf : CF} {n : Nat} : ∀ {l : List AOper} {past : List Heap} {pend : List (AOper × List Value × Value)} {m : Nat} {t : List Value} {h : Heap} {r : List Value × Heap}, drun P cf l past pend m t h = some r → Fin (fun cf _ => drun P cf l past pend m t h) cf n r
  | [], past, pend, m, t, h, r, e => .of fun _ _ _ => e
  | o :: l, past, pend, m, t, h, r, e => by
    simp only [drun] at e ⊢
    cases hw : wantedA t o.guard with
    | none => simp [hw] at e
    | some b =>
      cases b with
      | false =>
        simp only [hw] at e ⊢
        cases hf : o.eff with
        | true => simp only [hf, if_true] at e ⊢; exact fin_drun e
        | false => simp only [hf] at e ⊢; exact fin_drun e
      | true =>
        simp only [hw] at e ⊢
        cases ho : runOp P cf o.op t h with
        | none => simp [ho] at e
        | some q =>
          obtain ⟨v, h'⟩ := q
          simp only [ho] at e
          split at e
          · rename_i hf
            split at e
            · rename_i hp
              exact (fin_op (n := n) ho).two (fin_drun e) fun cf' n' _ h1 h2 => by simp only [h1]; rw [if_pos hf, if_pos hp]; exact h2
            · simp at e
          · rename_i hf
            split at e
            · rename_i hp
              exact (fin_op (n := n) ho).two (fin_drun e) fun cf' n' _ h1 h2 => by simp only [h1]; rw [if_neg hf, if_pos hp]; exact h2
            · simp at e

theorem loopN_mono {keep : Nat} {b b' : Step} {t : List Value} {h : Heap} : ∀ {n m : Nat} {r}, n ≤ m → (∀ t h r, b t h = some r → b' t h = some r) → ∀ {t h}, loopN keep b n t h = some r → loopN keep b' m t h = some r
  | 0, _, _, _, _, _, _, e => by simp [loopN] at e
  | n + 1, 0, _, hn, _, _, _, _ => by omega
  | n + 1, m + 1, r, hn, hb, t, h, e => by
    simp only [loopN] at e ⊢
    cases hq : b (forget keep t) h with
    | none => simp [hq] at e
    | some q =>
      rw [hb _ _ _ hq]
      simp only [hq] at e
      split at e
      · rename_i t' h' he
        obtain rfl := Option.some.inj he
        exact loopN_mono (t := t') (h := h') (by omega) hb e
      · exact e

theorem fin_exec {cf : CF} : ∀ {c : AC} {n : Nat} {t : List Value} {h : Heap} {r}, aexec P cf n c t h = some r → Fin (fun cf n => aexec P cf n c t h) cf n r := by
  intro c
  induction c with
  | skip => intro n t h r e; simp only [aexec] at e ⊢; exact .of fun _ _ _ => e
  | ops l =>
    intro n t h r e
    simp only [aexec, Option.map_eq_some_iff] at e ⊢
    obtain ⟨q, h1, h2⟩ := e
    exact (fin_ops (n := n) h1).one fun cf' n' _ k => by simp only [k, Option.map_some]; rw [h2]
  | dops l =>
    intro n t h r e
    simp only [aexec, Option.map_eq_some_iff] at e ⊢
    obtain ⟨q, h1, h2⟩ := e
    exact (fin_drun (n := n) h1).one fun cf' n' _ k => by simp only [k, Option.map_some]; rw [h2]
  | seq a b iha ihb =>
    intro n t h r e
    simp only [aexec] at e ⊢
    cases hq : aexec P cf n a t h with
    | none => simp [hq] at e
    | some q =>
      obtain ⟨x, t', h'⟩ := q
      simp only [hq] at e
      cases x with
      | normal => simp only at e; exact (iha hq).two (ihb e) fun cf' n' _ k1 k2 => by simp only [k1]; exact k2
      | exit i => simp only at e; exact (iha hq).one fun cf' n' _ k1 => by simp only [k1]; exact e
      | ret => simp only at e; exact (iha hq).one fun cf' n' _ k1 => by simp only [k1]; exact e
  | cond c a b iha ihb =>
    intro n t h r e
    simp only [aexec] at e ⊢
    split at e
    · exact iha e
    · exact ihb e
    · simp at e
  | block id b ih =>
    intro n t h r e
    simp only [aexec] at e ⊢
    cases hq : aexec P cf n b t h with
    | none => simp [hq] at e
    | some q => exact (ih hq).one fun cf' n' _ k => by simp only [k]; simp only [hq] at e; exact e
  | loop keep b ih =>
    intro n t h r e
    simp only [aexec] at e ⊢
    have key : ∀ (k : Nat) {t h}, loopN keep (aexec P cf n b) k t h = some r → Fin (fun cf n => loopN keep (aexec P cf n b) k t h) cf n r := by
      intro k
      induction k with
      | zero => intro t h e; simp [loopN] at e
      | succ k ihk =>
        intro t h e
        simp only [loopN] at e ⊢
        cases hq : aexec P cf n b (forget keep t) h with
        | none => simp [hq] at e
        | some q =>
          obtain ⟨x, t', h'⟩ := q
          simp only [hq] at e
          cases x with
          | normal => simp only at e; exact (ih hq).two (ihk e) fun cf' n' _ k1 k2 => by simp only [k1]; exact k2
          | exit i => simp only at e; exact (ih hq).one fun cf' n' _ k1 => by simp only [k1]; exact e
          | ret => simp only at e; exact (ih hq).one fun cf' n' _ k1 => by simp only [k1]; exact e
    obtain ⟨S, h1, h2⟩ := key n e
    exact ⟨S, h1, fun cf' n' hn ha => loopN_mono (t := t) (h := h) hn (fun _ _ _ k => k) (h2 cf' n' hn ha)⟩
  | rangeF f ps as bd _ _ =>
    intro n t h r e
    simp only [aexec] at e ⊢
    split at e
    · rename_i f' args hc
      split at e
      · simp at e
      · rename_i hb
        cases hq : cf (.fn f') args { h with lps := h.lps ++ [{ state := .ready, pending := none, tmps := t, params := ps, assign := as, body := bd }] } with
        | none => simp [hq] at e
        | some q =>
          refine (fin_call (n := n) hq).one fun cf' n' _ k => ?_
          rw [if_neg hb]
          simp only [k]
          simp only [hq] at e
          exact e
    · simp at e
  | exit id => intro n t h r e; simp only [aexec] at e ⊢; exact .of fun _ _ _ => e
  | ret => intro n t h r e; simp only [aexec] at e ⊢; exact .of fun _ _ _ => e
  | bad => intro n t h r e; simp [aexec] at e

theorem fin_body {cf : CF} {n : Nat} {f : AFn} {t : List Value} {h : Heap} {r : Value × Heap} (e : runBody P cf n f t h = some r) : Fin (fun cf n => runBody P cf n f t h) cf n r := by
  unfold runBody at e ⊢
  cases hq : aexec P cf n f.code t h with
  | none => simp [hq] at e
  | some q => exact (fin_exec hq).one fun cf' n' _ k => by simp only [k]; simp only [hq] at e; exact e

theorem fin_fn {cf : CF} {n : Nat} {f : AFn} {args : List Value} {h : Heap} {r : Value × Heap} (e : runFn P cf n f args h = some r) : Fin (fun cf n => runFn P cf n f args h) cf n r := by
  unfold runFn at e ⊢
  split at e
  · rename_i h1
    simp only [h1, if_true]
    exact fin_body e
  · rename_i h1
    simp only [h1, if_false]
    split at e
    · rename_i h2
      simp only [h2, if_true]
      exact fin_body e
    · simp at e

theorem fin_yield {cf : CF} {n l : Nat} {args : List Value} {h : Heap} {r : Value × Heap} (e : runYield P cf n l args h = some r) : Fin (fun cf n => runYield P cf n l args h) cf n r := by
  unfold runYield at e ⊢
  split at e
  · simp at e
  rename_i p hp
  split at e
  · simp at e
  rename_i hl
  simp only [hp, if_neg hl]
  cases hq : aexec P cf n p.assign ((p.params.zip args).foldl (fun t (i, v) => t.set i v) p.tmps) h with
  | none => simp [hq] at e
  | some q =>
    obtain ⟨x, t1, h1⟩ := q
    simp only [hq] at e
    cases x with
    | exit i => simp at e
    | ret => simp at e
    | normal =>
      simp only at e
      split at e
      · simp at e
      rename_i p1 hp1
      split at e
      · simp at e
      rename_i hst
      cases hq2 : aexec P cf n p.body t1 { h1 with lps := h1.lps.set l { p1 with state := .busy } } with
      | none => simp [hq2] at e
      | some q2 =>
        refine (fin_exec hq).two ((fin_exec hq2).one (b := r) (H := fun cf n => match aexec P cf n p.body t1 { h1 with lps := h1.lps.set l { p1 with state := .busy } } with
        | none => none
        | some (e, _, h3) =>
          match h3.lps[l]? with
          | none => none
          | some p3 =>
            if e = .normal then some (.bool true, { h3 with lps := h3.lps.set l { p3 with state := .ready, pending := none } })
            else some (.bool false, { h3 with lps := h3.lps.set l { p3 with state := .done, pending := some e } })) fun cf' n' _ k => by simp only [k]; simp only [hq2] at e; exact e) fun cf' n' _ k1 k2 => ?_
        simp only [k1, hp1, if_neg hst]
        exact k2

variable {T : Table}

theorem fin_acall {n : Nat} {tg : Tgt} {args : List Value} {h : Heap} {r : Value × Heap} (e : acallN P T (n + 1) tg args h = some r) :
    ∃ S, Agree (acallN P T n) S ∧ ∀ m, n ≤ m → Agree (acallN P T m) S → acallN P T (m + 1) tg args h = some r := by
  cases tg with
  | fn f =>
    simp only [acallN] at e ⊢
    cases ha : T f with
    | none => simp only [ha] at e ⊢; exact ⟨[], Agree.nil _, fun _ _ _ => e⟩
    | some a =>
      simp only [ha] at e ⊢
      obtain ⟨S, h1, h2⟩ := fin_fn e
      exact ⟨S, h1, fun m hm ha => h2 _ m hm ha⟩
  | yield l =>
    simp only [acallN] at e ⊢
    obtain ⟨S, h1, h2⟩ := fin_yield e
    exact ⟨S, h1, fun m hm ha => h2 _ m hm ha⟩

theorem acallN_mono : ∀ {n m : Nat}, n ≤ m → ∀ {tg : Tgt} {args : List Value} {h : Heap} {r : Value × Heap}, acallN P T n tg args h = some r → acallN P T m tg args h = some r
  | 0, _, _, tg, _, _, _, e => by simp [acallN] at e
  | n + 1, 0, hn, _, _, _, _, _ => by omega
  | n + 1, m + 1, hn, tg, args, h, r, e => by
    obtain ⟨S, h1, h2⟩ := fin_acall e
    exact h2 m (by omega) fun s hs => acallN_mono (by omega) (h1 s hs)

variable (P T) in
open Classical in
noncomputable def acallW : CF := fun tg args h => if e : ∃ r, ∃ n, acallN P T n tg args h = some r then some e.choose else none

theorem acallW_of {n : Nat} {tg : Tgt} {args : List Value} {h : Heap} {r : Value × Heap} (e : acallN P T n tg args h = some r) : acallW P T tg args h = some r := by
  have hx : ∃ r, ∃ n, acallN P T n tg args h = some r := ⟨r, n, e⟩
  unfold acallW
  rw [dif_pos hx]
  obtain ⟨m, hm⟩ := hx.choose_spec
  have h1 := acallN_mono (Nat.le_max_left n m) e
  have h2 := acallN_mono (Nat.le_max_right n m) hm
  rw [h1] at h2
  rw [Option.some.inj h2]

theorem of_acallW {tg : Tgt} {args : List Value} {h : Heap} {r : Value × Heap} (e : acallW P T tg args h = some r) : ∃ n, acallN P T n tg args h = some r := by
  unfold acallW at e
  split at e
  · rename_i hx
    obtain ⟨m, hm⟩ := hx.choose_spec
    obtain rfl := Option.some.inj e
    exact ⟨m, hm⟩
  · simp at e

theorem agree_lim : ∀ (S : Uses), Agree (acallW P T) S → ∃ n, ∀ m, n ≤ m → Agree (acallN P T m) S
  | [], _ => ⟨0, fun _ _ => Agree.nil _⟩
  | s :: S, h => by
    obtain ⟨n, hn⟩ := agree_lim S fun s' hs => h s' (by simp [hs])
    obtain ⟨m, hm⟩ := of_acallW (h s (by simp))
    refine ⟨max n m, fun k hk s' hs => ?_⟩
    rw [List.mem_cons] at hs
    rcases hs with rfl | hs
    · exact acallN_mono (by omega) hm
    · exact hn k (by omega) s' hs

theorem lim_fin {α : Type} {F : CF → Nat → Option α} {n : Nat} {r : α} (h : Fin F (acallW P T) n r) : ∃ m, F (acallN P T m) m = some r := by
  obtain ⟨S, h1, h2⟩ := h
  obtain ⟨k, hk⟩ := agree_lim S h1
  exact ⟨max k n, h2 _ _ (by omega) (hk _ (by omega))⟩

/-! ### what code does -/

variable (P T) in
def Does (c : AC) (t : List Value) (h : Heap) (Q : Ex → List Value → Heap → Prop) : Prop := ∃ n e t' h', aexec P (acallW P T) n c t h = some (e, t', h') ∧ Q e t' h'

variable (P T) in
def Gives (tg : Tgt) (args : List Value) (h : Heap) (Q : Value → Heap → Prop) : Prop := ∃ v h', acallW P T tg args h = some (v, h') ∧ Q v h'

theorem Gives.mono {tg : Tgt} {args : List Value} {h : Heap} {Q R : Value → Heap → Prop} (k : Gives P T tg args h Q) (i : ∀ v h', Q v h' → R v h') : Gives P T tg args h R := by
  obtain ⟨v, h', e, q⟩ := k; exact ⟨v, h', e, i v h' q⟩

theorem Does.mono {c : AC} {t : List Value} {h : Heap} {Q R : Ex → List Value → Heap → Prop} (k : Does P T c t h Q) (i : ∀ e t' h', Q e t' h' → R e t' h') : Does P T c t h R := by
  obtain ⟨n, e, t', h', r, q⟩ := k; exact ⟨n, e, t', h', r, i _ _ _ q⟩

theorem exec_mono {n m : Nat} (hn : n ≤ m) {c : AC} {t : List Value} {h : Heap} {r} (e : aexec P (acallW P T) n c t h = some r) : aexec P (acallW P T) m c t h = some r := by
  obtain ⟨S, h1, h2⟩ := fin_exec e
  exact h2 _ m hn h1

theorem gives_fn {f : FuncId} {a : AFn} (ha : T f = some a) {args : List Value} (hsp : a.ntmps < specN) {h : Heap} {Q : Value → Heap → Prop}
    (k : Does P T a.code (args ++ List.replicate (a.ntmps - args.length) undef) h fun e t' h' => (∀ i, e ≠ .exit i) ∧ ∃ l, resVals t' h' a.results = some l ∧ Q (oneOf l) h') : Gives P T (.fn f) args h Q := by
  obtain ⟨n, e, t', h', r, he, l, hl, q⟩ := k
  have : runFn P (acallW P T) n a args h = some (oneOf l, h') := by
    unfold runFn
    rw [if_pos hsp]
    unfold runBody
    rw [r]
    cases e with
    | exit i => exact absurd rfl (he i)
    | normal => simp [hl]
    | ret => simp [hl]
  obtain ⟨m, hm⟩ := lim_fin (fin_fn this)
  exact ⟨_, h', acallW_of (n := m + 1) (by simp only [acallN, ha]; exact hm), q⟩

theorem gives_ext {f : FuncId} (ha : T f = none) {args : List Value} {h : Heap} {v : Value} {Q : Value → Heap → Prop} (k : runExt P f args h = some (v, h)) (q : Q v h) : Gives P T (.fn f) args h Q :=
  ⟨_, h, acallW_of (n := 1) (by simp only [acallN, ha]; exact k), q⟩

theorem does_skip {t : List Value} {h : Heap} {Q : Ex → List Value → Heap → Prop} (q : Q .normal t h) : Does P T .skip t h Q := ⟨0, .normal, t, h, rfl, q⟩
theorem does_exit {i : Nat} {t : List Value} {h : Heap} {Q : Ex → List Value → Heap → Prop} (q : Q (.exit i) t h) : Does P T (.exit i) t h Q := ⟨0, .exit i, t, h, rfl, q⟩
theorem does_ret {t : List Value} {h : Heap} {Q : Ex → List Value → Heap → Prop} (q : Q .ret t h) : Does P T .ret t h Q := ⟨0, .ret, t, h, rfl, q⟩

theorem does_ops {l : List AOper} {t t' : List Value} {h h' : Heap} {Q : Ex → List Value → Heap → Prop} (e : runOps P (acallW P T) l t h = some (t', h')) (q : Q .normal t' h') : Does P T (.ops l) t h Q :=
  ⟨0, .normal, t', h', by simp [aexec, e], q⟩
theorem does_dops {l : List AOper} {t t' : List Value} {h h' : Heap} {Q : Ex → List Value → Heap → Prop} (e : drun P (acallW P T) l [] [] 0 t h = some (t', h')) (q : Q .normal t' h') : Does P T (.dops l) t h Q :=
  ⟨0, .normal, t', h', by simp [aexec, e], q⟩

theorem does_seq {a b : AC} {t : List Value} {h : Heap} {Q : Ex → List Value → Heap → Prop}
    (k : Does P T a t h fun e t' h' => match e with | .normal => Does P T b t' h' Q | e => Q e t' h') : Does P T (.seq a b) t h Q := by
  obtain ⟨n, e, t', h', r, q⟩ := k
  cases e with
  | normal =>
    obtain ⟨m, e2, t2, h2, r2, q2⟩ := q
    refine ⟨max n m, e2, t2, h2, ?_, q2⟩
    simp only [aexec, exec_mono (Nat.le_max_left n m) r]
    exact exec_mono (Nat.le_max_right n m) r2
  | exit i => exact ⟨n, .exit i, t', h', by simp only [aexec, r], q⟩
  | ret => exact ⟨n, .ret, t', h', by simp only [aexec, r], q⟩

theorem does_cond {c : Operand} {a b : AC} {t : List Value} {h : Heap} {Q : Ex → List Value → Heap → Prop} {x : Bool} (hc : evalT t c = .bool x)
    (ka : x = true → Does P T a t h Q) (kb : x = false → Does P T b t h Q) : Does P T (.cond c a b) t h Q := by
  cases x with
  | true => obtain ⟨n, e, t', h', r, q⟩ := ka rfl; exact ⟨n, e, t', h', by simp only [aexec, hc]; exact r, q⟩
  | false => obtain ⟨n, e, t', h', r, q⟩ := kb rfl; exact ⟨n, e, t', h', by simp only [aexec, hc]; exact r, q⟩

theorem does_block {id : Nat} {b : AC} {t : List Value} {h : Heap} {Q : Ex → List Value → Heap → Prop}
    (k : Does P T b t h fun e t' h' => match e with | .exit i => if i = id then Q .normal t' h' else Q (.exit i) t' h' | e => Q e t' h') : Does P T (.block id b) t h Q := by
  obtain ⟨n, e, t', h', r, q⟩ := k
  cases e with
  | normal => exact ⟨n, .normal, t', h', by simp only [aexec, r], q⟩
  | ret => exact ⟨n, .ret, t', h', by simp only [aexec, r], q⟩
  | exit i =>
    simp only at q
    split at q
    · rename_i hi; exact ⟨n, .normal, t', h', by simp only [aexec, r]; rw [if_pos hi], q⟩
    · rename_i hi; exact ⟨n, .exit i, t', h', by simp only [aexec, r]; rw [if_neg hi], q⟩

/-- A loop, by what holds at its head (the slots that it needs not forgotten). -/
theorem does_loop {keep : Nat} {b : AC} {Q : Ex → List Value → Heap → Prop} (I : Nat → List Value → Heap → Prop)
    (step : ∀ k t h, I k t h → Does P T b t h fun e t' h' => match e with | .normal => ∃ j, j < k ∧ I j (forget keep t') h' | e => Q e t' h')
    {k : Nat} {t : List Value} {h : Heap} (i : I k (forget keep t) h) : Does P T (.loop keep b) t h Q := by
  have key : ∀ k t h, I k (forget keep t) h → ∃ n e t' h', loopN keep (aexec P (acallW P T) n b) n t h = some (e, t', h') ∧ Q e t' h' := by
    intro k
    induction k using Nat.strongRecOn with
    | _ k ih =>
      intro t h i
      obtain ⟨n, e, t', h', r, q⟩ := step k _ h i
      cases e with
      | exit j => exact ⟨n + 1, .exit j, t', h', by simp only [loopN, exec_mono (Nat.le_succ n) r], q⟩
      | ret => exact ⟨n + 1, .ret, t', h', by simp only [loopN, exec_mono (Nat.le_succ n) r], q⟩
      | normal =>
        obtain ⟨j, hj, i'⟩ := q
        obtain ⟨m, e2, t2, h2, r2, q2⟩ := ih j hj t' h' i'
        refine ⟨max n m + 1, e2, t2, h2, ?_, q2⟩
        simp only [loopN, exec_mono (show n ≤ max n m + 1 by omega) r]
        exact loopN_mono (t := t') (h := h') (show m ≤ max n m by omega) (fun _ _ _ k => exec_mono (show m ≤ max n m + 1 by omega) k) r2
  obtain ⟨n, e, t', h', r, q⟩ := key k t h i
  exact ⟨n, e, t', h', by simp only [aexec]; exact r, q⟩

/-- A call inside a line of operations. -/
theorem Gives.eq {tg : Tgt} {args : List Value} {h : Heap} {Q : Value → Heap → Prop} (k : Gives P T tg args h Q) : ∃ v h', acallW P T tg args h = some (v, h') ∧ Q v h' := k

theorem gives_closed {n : Nat} {tg : Tgt} {args : List Value} {h : Heap} {r : Value × Heap} (e : acallN P T n tg args h = some r) {Q : Value → Heap → Prop} (q : Q r.1 r.2) : Gives P T tg args h Q := ⟨r.1, r.2, acallW_of e, q⟩

end
end Go.Ax

/- An abstract machine for Go programs: a frame's slots as a list of places and values. -/
namespace Go.Ax
set_option linter.unusedVariables false
set_option linter.unusedSimpArgs false

def slot : List (Nat × Value) → Nat → Value
  | [], _ => undef
  | (j, v) :: l, i => if j = i then v else slot l i

def envT (N : Nat) (l : List (Nat × Value)) : List Value := (List.range N).map (slot l)

theorem slot_nil (i : Nat) : slot [] i = undef := rfl
theorem slot_cons (j : Nat) (v : Value) (l : List (Nat × Value)) (i : Nat) : slot ((j, v) :: l) i = if j = i then v else slot l i := rfl

theorem envT_len (N : Nat) (l : List (Nat × Value)) : (envT N l).length = N := by simp [envT]

theorem envT_get {N i : Nat} (h : i < N) (l : List (Nat × Value)) : (envT N l)[i]? = some (slot l i) := by
  simp [envT, h]

theorem envT_tmp {N i : Nat} (h : i < N) (l : List (Nat × Value)) : evalT (envT N l) (.tmp i) = slot l i := by
  simp [evalT, List.getD_eq_getElem?_getD, envT_get h]

theorem envT_getD {N i : Nat} (h : i < N) (l : List (Nat × Value)) : (envT N l).getD i undef = slot l i := by
  simp [List.getD_eq_getElem?_getD, envT_get h]

theorem envT_put (N d : Nat) (v : Value) (l : List (Nat × Value)) : putT (envT N l) (some d) v = envT N ((d, v) :: l) := by
  simp only [putT]
  apply List.ext_getElem?
  intro i
  by_cases hi : i < N
  · rw [List.getElem?_set, envT_len, envT_get hi, envT_get hi, slot_cons]
    by_cases hd : d = i
    · subst hd; simp [hi]
    · simp [hd]
  · rw [List.getElem?_eq_none (by simp [envT_len]; omega), List.getElem?_eq_none (by simp [envT_len]; omega)]

theorem envT_put_none (N : Nat) (v : Value) (l : List (Nat × Value)) : putT (envT N l) none v = envT N l := rfl

theorem slot_map (l : List (Nat × Value)) : ∀ (ks : List Nat) (i : Nat), slot (ks.map fun k => (k, slot l k)) i = if ks.contains i then slot l i else undef
  | [], i => rfl
  | k :: ks, i => by
    simp only [List.map_cons, slot_cons, slot_map l ks i]
    by_cases h : k = i
    · subst h; simp
    · have : ¬ i = k := fun e => h e.symm
      simp [h, this]

theorem envT_forget {N keep : Nat} (ks : List Nat) (hk : ((List.range N).all fun i => keep.testBit i == ks.contains i) = true) (l : List (Nat × Value)) :
    forget keep (envT N l) = envT N (ks.map fun k => (k, slot l k)) := by
  unfold forget
  apply List.ext_getElem?
  intro i
  by_cases hi : i < N
  · rw [List.getElem?_mapIdx, envT_get hi, envT_get hi, slot_map]
    rw [List.all_eq_true] at hk
    have := hk i (by simpa using hi)
    rw [beq_iff_eq] at this
    simp [this]
  · rw [List.getElem?_eq_none (by simp [envT_len]; omega), List.getElem?_eq_none (by simp [envT_len]; omega)]

theorem envT_start : ∀ (args : List Value) (N : Nat), args.length ≤ N → args ++ List.replicate (N - args.length) undef = envT N (args.mapIdx fun i v => (i, v)) := by
  intro args N h
  apply List.ext_getElem?
  intro i
  by_cases hi : i < N
  · rw [envT_get hi]
    by_cases ha : i < args.length
    · rw [List.getElem?_append_left ha]
      have : ∀ (l : List Value) (k i : Nat), i < l.length → slot (l.mapIdx fun j v => (j + k, v)) (i + k) = l.getD i undef := by
        intro l
        induction l with
        | nil => intro k i h; simp at h
        | cons a l ih =>
          intro k i h
          rw [List.mapIdx_cons, slot_cons]
          cases i with
          | zero => simp
          | succ i =>
            rw [if_neg (by omega)]
            have := ih (k + 1) i (by simpa using h)
            rw [show i + 1 + k = i + (k + 1) by omega]
            simp only [List.getD_cons_succ]
            rw [← this]
            congr 2
            funext j v
            simp; omega
      have := this args 0 i ha
      simp only [Nat.add_zero] at this
      rw [this, List.getD_eq_getElem?_getD, List.getElem?_eq_getElem ha]; rfl
    · rw [List.getElem?_append_right (by omega), List.getElem?_replicate, if_pos (by omega)]
      have : ∀ (l : List Value) (k i : Nat), l.length ≤ i → slot (l.mapIdx fun j v => (j + k, v)) (i + k) = undef := by
        intro l
        induction l with
        | nil => intro k i h; rfl
        | cons a l ih =>
          intro k i h
          rw [List.mapIdx_cons, slot_cons]
          simp only [List.length_cons] at h
          rw [if_neg (by omega)]
          obtain ⟨i, rfl⟩ : ∃ j, i = j + 1 := ⟨i - 1, by omega⟩
          have := ih (k + 1) i (by omega)
          rw [show i + 1 + k = i + (k + 1) by omega, ← this]
          congr 2
          funext j v
          simp; omega
      have := this args 0 i (by omega)
      simp only [Nat.add_zero] at this
      rw [this]
  · rw [List.getElem?_eq_none (by simp; omega), List.getElem?_eq_none (by simp [envT_len]; omega)]

section
variable {P : Program} {T : Table}

theorem gives_env {f : FuncId} {a : AFn} (ha : T f = some a) {args : List Value} (hl : args.length ≤ a.ntmps ∧ a.ntmps < 1048576) {h : Heap} {Q : Value → Heap → Prop}
    (k : Does P T a.code (envT a.ntmps (args.mapIdx fun i v => (i, v))) h fun e t' h' => (∀ i, e ≠ .exit i) ∧ ∃ l, resVals t' h' a.results = some l ∧ Q (oneOf l) h') : Gives P T (.fn f) args h Q :=
  gives_fn ha hl.2 (by rw [envT_start args _ hl.1]; exact k)

theorem wanted_none (t : List Value) : wantedA t none = some true := rfl
theorem wanted_env {N d : Nat} (h : d < N) (b : Bool) (l : List (Nat × Value)) : wantedA (envT N l) (some (some d, b)) = match slot l d with
    | .bool c => some (c == b)
    | .chan none => some false
    | _ => none := by
  simp only [wantedA, Option.bind_some, envT_get h]
  split <;> simp_all

end
end Go.Ax

/- An abstract machine for Go programs: words for walking through code. -/
namespace Go.Ax
set_option linter.unusedVariables false
set_option linter.unusedSimpArgs false

/-- What is left to do behind code, by name (so that it is looked at when it is reached). -/
inductive Cont where
  | seq (b : AC) (k : Cont)
  | block (id : Nat) (k : Cont)
  | fin (rs : List ARs) (Q : Value → Heap → Prop)
  | loop (keep : Nat) (I : Nat → List Value → Heap → Prop) (n : Nat) (k : Cont)
  | of (Q : Ex → List Value → Heap → Prop)

section
variable (P : Program) (T : Table)

def Cont.meets : Cont → Ex → List Value → Heap → Prop
  | .seq b k, .normal, t, h => Does P T b t h fun e t' h' => k.meets e t' h'
  | .seq _ k, e, t, h => k.meets e t h
  | .block id k, .exit i, t, h => if i = id then k.meets .normal t h else k.meets (.exit i) t h
  | .block _ k, e, t, h => k.meets e t h
  | .fin rs Q, .exit _, t, h => False
  | .fin rs Q, _, t, h => ∃ l, resVals t h rs = some l ∧ Q (oneOf l) h
  | .loop keep I n k, .normal, t, h => ∃ j, j < n ∧ I j (forget keep t) h
  | .loop keep I n k, e, t, h => k.meets e t h
  | .of Q, e, t, h => Q e t h

/-- Code c, then what is left. -/
def Go (c : AC) (t : List Value) (h : Heap) (k : Cont) : Prop := Does P T c t h fun e t' h' => k.meets P T e t' h'

/-- An answer, and what holds of it. -/
def got (x : Option (Value × Heap)) (K : Value → Heap → Prop) : Prop := ∃ v h', x = some (v, h') ∧ K v h'

def ends (x : Option Value) (K : Value → Prop) : Prop := ∃ v, x = some v ∧ K v

/-- A line of operations, then what is left. -/
def Runs (l : List AOper) (t : List Value) (h : Heap) (k : Cont) : Prop := ∃ t' h', runOps P (acallW P T) l t h = some (t', h') ∧ k.meets P T .normal t' h'

def runsPut (l : List AOper) (t : List Value) (d : Option Nat) (k : Cont) (v : Value) (h : Heap) : Prop := Runs P T l (putT t d v) h k

def runsIf (o : AOp) (l : List AOper) (t : List Value) (d : Option Nat) (k : Cont) (h : Heap) : Option Bool → Prop
  | some true => got (runOp P (acallW P T) o t h) (runsPut P T l t d k)
  | some false => Runs P T l (putT t d skipV) h k
  | none => False

/-- A region that draws its order. -/
def Draws (l : List AOper) (past : List Heap) (pend : List (AOper × List Value × Value)) (m : Nat) (t : List Value) (h : Heap) (k : Cont) : Prop := ∃ t' h', drun P (acallW P T) l past pend m t h = some (t', h') ∧ k.meets P T .normal t' h'

def pendAll (pend : List (AOper × List Value × Value)) (m : Nat) (h : Heap) : Prop := ∀ p ∈ pend, m ≤ p.1.hi → same P p.1.op p.2.1 p.2.2 h = true

def drawEff (l : List AOper) (past : List Heap) (pend : List (AOper × List Value × Value)) (m : Nat) (t : List Value) (h : Heap) (d : Option Nat) (k : Cont) (v : Value) (h' : Heap) : Prop :=
  pendAll P pend (m + 1) h' ∧ Draws P T l (h :: past) pend (m + 1) (putT t d v) h' k

def pushP (o : AOper) (t : List Value) (v : Value) (pend : List (AOper × List Value × Value)) (m : Nat) : List (AOper × List Value × Value) :=
  if useHeap o.op = true ∧ m < o.hi then (o, t, v) :: pend else pend

def pastAll (past : List Heap) (n : Nat) (op : AOp) (t : List Value) (v : Value) : Prop := ∀ h ∈ past.take n, same P op t v h = true

def drawGet (o : AOper) (l : List AOper) (past : List Heap) (pend : List (AOper × List Value × Value)) (m : Nat) (t : List Value) (k : Cont) (v : Value) (h : Heap) : Prop :=
  pastAll P past (m - o.lo) o.op t v ∧ Draws P T l past (pushP o t v pend m) m (putT t o.dst v) h k

def drawOne (o : AOper) (l : List AOper) (past : List Heap) (pend : List (AOper × List Value × Value)) (m : Nat) (t : List Value) (h : Heap) (k : Cont) : Prop :=
  if o.eff then got (runOp P (acallW P T) o.op t h) (drawEff P T l past pend m t h o.dst k)
  else got (runOp P (acallW P T) o.op t h) (drawGet P T o l past pend m t k)

def drawIf (o : AOper) (l : List AOper) (past : List Heap) (pend : List (AOper × List Value × Value)) (m : Nat) (t : List Value) (h : Heap) (k : Cont) : Option Bool → Prop
  | some true => drawOne P T o l past pend m t h k
  | some false => if o.eff then Draws P T l (h :: past) pend (m + 1) (putT t o.dst skipV) h k else Draws P T l past pend m (putT t o.dst skipV) h k
  | none => False

def Branch (v : Value) (a b : AC) (t : List Value) (h : Heap) (k : Cont) : Prop :=
  match v with
  | .bool true => Go P T a t h k
  | .bool false => Go P T b t h k
  | _ => False
end

section
variable {P : Program} {T : Table} {cf : CF} {t : List Value} {h : Heap} {k : Cont}

theorem gives_go {f : FuncId} {a : AFn} (ha : T f = some a) {args : List Value} (hl : args.length ≤ a.ntmps ∧ a.ntmps < 1048576) {Q : Value → Heap → Prop}
    (g : Go P T a.code (envT a.ntmps (args.mapIdx fun i v => (i, v))) h (.fin a.results Q)) : Gives P T (.fn f) args h Q := by
  refine gives_env ha hl (Does.mono g fun e t' h' q => ?_)
  cases e with
  | exit i => simp [Cont.meets] at q
  | normal => exact ⟨fun i e => by simp at e, q⟩
  | ret => exact ⟨fun i e => by simp at e, q⟩

@[simp] theorem meets_seq {b : AC} : Cont.meets P T (.seq b k) .normal t h = Go P T b t h k := by simp only [Cont.meets, Go]
@[simp] theorem meets_seq_ret {b : AC} : Cont.meets P T (.seq b k) .ret t h = k.meets P T .ret t h := by simp only [Cont.meets]
@[simp] theorem meets_seq_exit {b : AC} {i : Nat} : Cont.meets P T (.seq b k) (.exit i) t h = k.meets P T (.exit i) t h := by simp only [Cont.meets]
@[simp] theorem meets_block {id : Nat} : Cont.meets P T (.block id k) .normal t h = k.meets P T .normal t h := by simp only [Cont.meets]
@[simp] theorem meets_block_ret {id : Nat} : Cont.meets P T (.block id k) .ret t h = k.meets P T .ret t h := by simp only [Cont.meets]
@[simp] theorem meets_block_exit {id i : Nat} : Cont.meets P T (.block id k) (.exit i) t h = if i = id then k.meets P T .normal t h else k.meets P T (.exit i) t h := by simp only [Cont.meets]
@[simp] theorem meets_fin {rs : List ARs} {Q : Value → Heap → Prop} : Cont.meets P T (.fin rs Q) .normal t h = ∃ l, resVals t h rs = some l ∧ Q (oneOf l) h := by simp only [Cont.meets]
@[simp] theorem meets_fin_ret {rs : List ARs} {Q : Value → Heap → Prop} : Cont.meets P T (.fin rs Q) .ret t h = ∃ l, resVals t h rs = some l ∧ Q (oneOf l) h := by simp only [Cont.meets]
@[simp] theorem meets_of {Q : Ex → List Value → Heap → Prop} {e : Ex} : Cont.meets P T (.of Q) e t h = Q e t h := by simp only [Cont.meets]
@[simp] theorem meets_loop {keep n : Nat} {I : Nat → List Value → Heap → Prop} : Cont.meets P T (.loop keep I n k) .normal t h = ∃ j, j < n ∧ I j (forget keep t) h := by simp only [Cont.meets]
@[simp] theorem meets_loop_ret {keep n : Nat} {I : Nat → List Value → Heap → Prop} : Cont.meets P T (.loop keep I n k) .ret t h = k.meets P T .ret t h := by simp only [Cont.meets]
@[simp] theorem meets_loop_exit {keep n i : Nat} {I : Nat → List Value → Heap → Prop} : Cont.meets P T (.loop keep I n k) (.exit i) t h = k.meets P T (.exit i) t h := by simp only [Cont.meets]

theorem does_iff {c : AC} {Q : Ex → List Value → Heap → Prop} {n : Nat} {r} (e : aexec P (acallW P T) n c t h = some r) : Does P T c t h Q ↔ Q r.1 r.2.1 r.2.2 := by
  constructor
  · rintro ⟨m, e', t', h', hr, q⟩
    have h1 := exec_mono (Nat.le_max_left n m) e
    have h2 := exec_mono (Nat.le_max_right n m) hr
    rw [h1] at h2
    obtain rfl := Option.some.inj h2
    exact q
  · intro q; exact ⟨n, r.1, r.2.1, r.2.2, e, q⟩

@[simp] theorem go_skip : Go P T .skip t h k = k.meets P T .normal t h := propext (does_iff (n := 0) (r := (.normal, t, h)) rfl)
@[simp] theorem go_exit {i : Nat} : Go P T (.exit i) t h k = k.meets P T (.exit i) t h := propext (does_iff (n := 0) (r := (.exit i, t, h)) rfl)
@[simp] theorem go_ret : Go P T .ret t h k = k.meets P T .ret t h := propext (does_iff (n := 0) (r := (.ret, t, h)) rfl)

@[simp] theorem go_seq {a b : AC} : Go P T (.seq a b) t h k = Go P T a t h (.seq b k) := by
  refine propext ⟨?_, ?_⟩
  · rintro ⟨n, e, t', h', r, q⟩
    simp only [aexec] at r
    cases ha : aexec P (acallW P T) n a t h with
    | none => simp [ha] at r
    | some x =>
      obtain ⟨ea, ta, h1⟩ := x
      simp only [ha] at r
      cases ea with
      | normal => exact ⟨n, .normal, ta, h1, ha, by show Cont.meets P T _ _ _ _; rw [meets_seq]; exact ⟨n, e, t', h', r, q⟩⟩
      | exit i => simp only [Option.some.injEq, Prod.mk.injEq] at r; obtain ⟨rfl, rfl, rfl⟩ := r; exact ⟨n, .exit i, ta, h1, ha, by show Cont.meets P T _ _ _ _; rw [meets_seq_exit]; exact q⟩
      | ret => simp only [Option.some.injEq, Prod.mk.injEq] at r; obtain ⟨rfl, rfl, rfl⟩ := r; exact ⟨n, .ret, ta, h1, ha, by show Cont.meets P T _ _ _ _; rw [meets_seq_ret]; exact q⟩
  · intro g
    refine does_seq (Does.mono g fun e t' h' q => ?_)
    cases e with
    | normal => rw [meets_seq] at q; exact q
    | exit i => rw [meets_seq_exit] at q; exact q
    | ret => rw [meets_seq_ret] at q; exact q

@[simp] theorem go_block {id : Nat} {b : AC} : Go P T (.block id b) t h k = Go P T b t h (.block id k) := by
  refine propext ⟨?_, ?_⟩
  · rintro ⟨n, e, t', h', r, q⟩
    simp only [aexec] at r
    cases ha : aexec P (acallW P T) n b t h with
    | none => simp [ha] at r
    | some x =>
      obtain ⟨ea, ta, h1⟩ := x
      simp only [ha] at r
      refine ⟨n, ea, ta, h1, ha, ?_⟩
      cases ea with
      | normal => simp only [Option.some.injEq, Prod.mk.injEq] at r; obtain ⟨rfl, rfl, rfl⟩ := r; rw [meets_block]; exact q
      | ret => simp only [Option.some.injEq, Prod.mk.injEq] at r; obtain ⟨rfl, rfl, rfl⟩ := r; rw [meets_block_ret]; exact q
      | exit i =>
        rw [meets_block_exit]
        simp only at r
        split at r
        · rename_i hi; simp only [Option.some.injEq, Prod.mk.injEq] at r; obtain ⟨rfl, rfl, rfl⟩ := r; rw [if_pos hi]; exact q
        · rename_i hi; simp only [Option.some.injEq, Prod.mk.injEq] at r; obtain ⟨rfl, rfl, rfl⟩ := r; rw [if_neg hi]; exact q
  · intro g
    refine does_block (Does.mono g fun e t' h' q => ?_)
    cases e with
    | normal => rw [meets_block] at q; exact q
    | ret => rw [meets_block_ret] at q; exact q
    | exit i => rw [meets_block_exit] at q; exact q

@[simp] theorem go_cond {c : Operand} {a b : AC} : Go P T (.cond c a b) t h k = Branch P T (evalT t c) a b t h k := by
  unfold Branch
  refine propext ⟨?_, ?_⟩
  · rintro ⟨n, e, t', h', r, q⟩
    simp only [aexec] at r
    split at r
    · rename_i hc; rw [hc]; exact ⟨n, e, t', h', r, q⟩
    · rename_i hc; rw [hc]; exact ⟨n, e, t', h', r, q⟩
    · simp at r
  · intro g
    split at g
    · rename_i hc; exact does_cond (x := true) hc (fun _ => g) (fun e => by simp at e)
    · rename_i hc; exact does_cond (x := false) hc (fun e => by simp at e) (fun _ => g)
    · exact g.elim

@[simp] theorem branch_true {a b : AC} : Branch P T (.bool true) a b t h k = Go P T a t h k := rfl
@[simp] theorem branch_false {a b : AC} : Branch P T (.bool false) a b t h k = Go P T b t h k := rfl
theorem branch_if {x : Bool} {a b : AC} (ha : x = true → Go P T a t h k) (hb : x = false → Go P T b t h k) : Branch P T (.bool x) a b t h k := by
  cases x with
  | true => exact ha rfl
  | false => exact hb rfl
theorem branch_dec {p : Prop} [Decidable p] {a b : AC} (ha : p → Go P T a t h k) (hb : ¬ p → Go P T b t h k) : Branch P T (.bool (decide p)) a b t h k :=
  branch_if (fun e => ha (of_decide_eq_true e)) (fun e => hb (of_decide_eq_false e))

@[simp] theorem go_ops {l : List AOper} : Go P T (.ops l) t h k = Runs P T l t h k := by
  refine propext ⟨?_, ?_⟩
  · rintro ⟨n, e, t', h', r, q⟩
    simp only [aexec, Option.map_eq_some_iff] at r
    obtain ⟨⟨a, b⟩, h1, h2⟩ := r
    simp only [Prod.mk.injEq] at h2
    obtain ⟨rfl, rfl, rfl⟩ := h2
    exact ⟨a, b, h1, q⟩
  · rintro ⟨t', h', r, q⟩; exact does_ops r q

@[simp] theorem go_dops {l : List AOper} : Go P T (.dops l) t h k = Draws P T l [] [] 0 t h k := by
  refine propext ⟨?_, ?_⟩
  · rintro ⟨n, e, t', h', r, q⟩
    simp only [aexec, Option.map_eq_some_iff] at r
    obtain ⟨⟨a, b⟩, h1, h2⟩ := r
    simp only [Prod.mk.injEq] at h2
    obtain ⟨rfl, rfl, rfl⟩ := h2
    exact ⟨a, b, h1, q⟩
  · rintro ⟨t', h', r, q⟩; exact does_dops r q

@[simp] theorem runs_nil : Runs P T [] t h k = k.meets P T .normal t h := by
  unfold Runs; simp only [runOps]
  exact propext ⟨fun ⟨_, _, e, q⟩ => by simp at e; obtain ⟨rfl, rfl⟩ := e; exact q, fun q => ⟨t, h, rfl, q⟩⟩

@[simp] theorem got_some {v : Value} {K : Value → Heap → Prop} : got (some (v, h)) K = K v h :=
  propext ⟨fun ⟨_, _, e, q⟩ => by simp at e; obtain ⟨rfl, rfl⟩ := e; exact q, fun q => ⟨v, h, rfl, q⟩⟩

@[simp] theorem runs_plain {d : Option Nat} {o : AOp} {e : Bool} {a b : Nat} {r : List AOper} : Runs P T (⟨d, o, none, e, a, b⟩ :: r) t h k = got (runOp P (acallW P T) o t h) (runsPut P T r t d k) := by
  unfold Runs got runsPut Runs
  simp only [runOps, wanted_none]
  refine propext ⟨?_, ?_⟩
  · rintro ⟨t', h', r1, q⟩
    cases ho : runOp P (acallW P T) o t h with
    | none => simp [ho] at r1
    | some x => obtain ⟨v, h2⟩ := x; simp only [ho] at r1; exact ⟨v, h2, rfl, t', h', r1, q⟩
  · rintro ⟨v, h2, ho, t', h', r1, q⟩
    exact ⟨t', h', by simp only [ho]; exact r1, q⟩

@[simp] theorem runs_guard {d : Option Nat} {o : AOp} {e : Bool} {a b : Nat} {r : List AOper} {g : Option Nat × Bool} : Runs P T (⟨d, o, some g, e, a, b⟩ :: r) t h k = runsIf P T o r t d k h (wantedA t (some g)) := by
  unfold Runs runsIf
  simp only [runOps]
  cases hw : wantedA t (some g) with
  | none => simp
  | some x =>
    cases x with
    | false => rfl
    | true =>
      simp only
      unfold got runsPut Runs
      refine propext ⟨?_, ?_⟩
      · rintro ⟨t', h', r1, q⟩
        cases ho : runOp P (acallW P T) o t h with
        | none => simp [ho] at r1
        | some x => obtain ⟨v, h2⟩ := x; simp only [ho] at r1; exact ⟨v, h2, rfl, t', h', r1, q⟩
      · rintro ⟨v, h2, ho, t', h', r1, q⟩
        exact ⟨t', h', by simp only [ho]; exact r1, q⟩

@[simp] theorem runsPut_eq {r : List AOper} {d : Option Nat} {v : Value} : runsPut P T r t d k v h = Runs P T r (putT t d v) h k := rfl
@[simp] theorem runsIf_true {o : AOp} {r : List AOper} {d : Option Nat} : runsIf P T o r t d k h (some true) = got (runOp P (acallW P T) o t h) (runsPut P T r t d k) := rfl
@[simp] theorem runsIf_false {o : AOp} {r : List AOper} {d : Option Nat} : runsIf P T o r t d k h (some false) = Runs P T r (putT t d skipV) h k := rfl

@[simp] theorem draws_nil {past : List Heap} {pend : List (AOper × List Value × Value)} {m : Nat} : Draws P T [] past pend m t h k = k.meets P T .normal t h := by
  unfold Draws; simp only [drun]
  exact propext ⟨fun ⟨_, _, e, q⟩ => by simp at e; obtain ⟨rfl, rfl⟩ := e; exact q, fun q => ⟨t, h, rfl, q⟩⟩

theorem drun_pend {cf : CF} : ∀ (l : List AOper) (past : List Heap) (pend pend' : List (AOper × List Value × Value)) (m : Nat) (t : List Value) (h : Heap),
    (∀ p ∈ pend, p ∈ pend' ∨ p.1.hi ≤ m ∨ useHeap p.1.op = false) → ∀ r, drun P cf l past pend' m t h = some r → drun P cf l past pend m t h = some r
  | [], _, _, _, _, _, _, _, r, e => e
  | o :: l, past, pend, pend', m, t, h, hp, r, e => by
    simp only [drun] at e ⊢
    have hp1 : ∀ p ∈ pend, p ∈ pend' ∨ p.1.hi ≤ m + 1 ∨ useHeap p.1.op = false := fun p h => (hp p h).imp id (fun h => h.imp (fun h => by omega) id)
    split at e
    · rename_i hw
      split at e
      · rename_i v h' ho
        split at e
        · rename_i hf
          split at e
          · rename_i hall
            rw [if_pos hf, if_pos ?_]
            · exact drun_pend l _ _ _ _ _ _ hp1 r e
            · rw [List.all_eq_true] at hall ⊢
              intro p hpm
              rcases hp p hpm with h1 | h1 | h1
              · exact hall p h1
              · simp; left; omega
              · simp [same, h1]
          · simp at e
        · rename_i hf
          split at e
          · rename_i hall
            rw [if_neg hf, if_pos hall]
            refine drun_pend l _ _ _ _ _ _ ?_ r e
            intro p hpm
            rw [List.mem_cons] at hpm
            rcases hpm with rfl | hpm
            · left; simp
            · rcases hp p hpm with h1 | h1
              · left; simp [h1]
              · right; exact h1
          · simp at e
      · simp at e
    · split at e
      · rename_i hf; rw [if_pos hf]; exact drun_pend l _ _ _ _ _ _ hp1 r e
      · rename_i hf; rw [if_neg hf]; exact drun_pend l _ _ _ _ _ _ hp r e
    · simp at e

theorem pend_all {pend : List (AOper × List Value × Value)} {m : Nat} : (pend.all fun x => match x with | (p, tp, vp) => decide (p.hi < m) || same P p.op tp vp h) = true ↔ pendAll P pend m h := by
  rw [List.all_eq_true]
  unfold pendAll
  constructor
  · intro g p hp hm
    have := g p hp
    simp only [Bool.or_eq_true, decide_eq_true_eq] at this
    exact this.resolve_left (by omega)
  · intro g p hp
    by_cases hh : p.1.hi < m
    · simp [hh]
    · simp [g p hp (by omega)]

theorem drun_push {cf : CF} {o : AOper} {l : List AOper} {past : List Heap} {pend : List (AOper × List Value × Value)} {m : Nat} {v : Value} {t1 : List Value} {h : Heap} {r} :
    drun P cf l past ((o, t, v) :: pend) m t1 h = some r ↔ drun P cf l past (pushP o t v pend m) m t1 h = some r := by
  constructor
  · intro e
    refine drun_pend l _ _ _ _ _ _ ?_ _ e
    intro p hp
    left
    unfold pushP at hp
    split at hp
    · exact hp
    · simp [hp]
  · intro e
    refine drun_pend l _ _ _ _ _ _ ?_ _ e
    intro p hp
    rw [List.mem_cons] at hp
    unfold pushP
    rcases hp with rfl | hp
    · split
      · left; simp
      · rename_i hn
        right
        by_cases hu : useHeap o.op = true
        · left; rw [not_and] at hn; have := hn hu; simp only; omega
        · right; simpa using hu
    · left; split <;> simp [hp]

theorem draws_one {o : AOper} {l : List AOper} {past : List Heap} {pend : List (AOper × List Value × Value)} {m : Nat} (hw : wantedA t o.guard = some true) : Draws P T (o :: l) past pend m t h k = drawOne P T o l past pend m t h k := by
  unfold drawOne got Draws
  simp only [drun, hw]
  refine propext ⟨?_, ?_⟩
  · rintro ⟨t', h2, r, q⟩
    cases ho : runOp P (acallW P T) o.op t h with
    | none => simp [ho] at r
    | some x =>
      obtain ⟨v, h'⟩ := x
      simp only [ho] at r
      split at r
      · rename_i hf
        rw [if_pos hf]
        split at r
        · rename_i hp; exact ⟨v, h', rfl, pend_all.1 hp, t', h2, r, q⟩
        · simp at r
      · rename_i hf
        rw [if_neg hf]
        split at r
        · rename_i hp; exact ⟨v, h', rfl, List.all_eq_true.1 hp, t', h2, drun_push.1 r, q⟩
        · simp at r
  · intro g
    split at g
    · rename_i hf
      obtain ⟨v, h', ho, hp, t', h2, r, q⟩ := g
      refine ⟨t', h2, ?_, q⟩
      simp only [ho]
      rw [if_pos hf, if_pos (pend_all.2 hp)]
      exact r
    · rename_i hf
      obtain ⟨v, h', ho, hp, t', h2, r, q⟩ := g
      refine ⟨t', h2, ?_, q⟩
      simp only [ho]
      rw [if_neg hf, if_pos (List.all_eq_true.2 hp)]
      exact drun_push.2 r

@[simp] theorem draws_plain_eff {d : Option Nat} {o : AOp} {a b : Nat} {r : List AOper} {past : List Heap} {pend : List (AOper × List Value × Value)} {m : Nat} :
    Draws P T (⟨d, o, none, true, a, b⟩ :: r) past pend m t h k = got (runOp P (acallW P T) o t h) (drawEff P T r past pend m t h d k) := by
  rw [draws_one rfl]; simp [drawOne]

@[simp] theorem draws_plain_get {d : Option Nat} {o : AOp} {a b : Nat} {r : List AOper} {past : List Heap} {pend : List (AOper × List Value × Value)} {m : Nat} :
    Draws P T (⟨d, o, none, false, a, b⟩ :: r) past pend m t h k = got (runOp P (acallW P T) o t h) (drawGet P T ⟨d, o, none, false, a, b⟩ r past pend m t k) := by
  rw [draws_one rfl]; simp [drawOne]

@[simp] theorem drawEff_eq {l : List AOper} {past : List Heap} {pend : List (AOper × List Value × Value)} {m : Nat} {d : Option Nat} {v : Value} {h' : Heap} :
    drawEff P T l past pend m t h d k v h' = (pendAll P pend (m + 1) h' ∧ Draws P T l (h :: past) pend (m + 1) (putT t d v) h' k) := rfl

@[simp] theorem drawGet_eq {o : AOper} {l : List AOper} {past : List Heap} {pend : List (AOper × List Value × Value)} {m : Nat} {v : Value} :
    drawGet P T o l past pend m t k v h = (pastAll P past (m - o.lo) o.op t v ∧ Draws P T l past (pushP o t v pend m) m (putT t o.dst v) h k) := rfl

@[simp] theorem pushP_out {d : Option Nat} {o : AOp} {g : Option (Option Nat × Bool)} {e : Bool} {a b m : Nat} {v : Value} {pend : List (AOper × List Value × Value)} (hu : useHeap o = false) : pushP ⟨d, o, g, e, a, b⟩ t v pend m = pend := by
  simp [pushP, hu]
@[simp] theorem pushP_late {d : Option Nat} {o : AOp} {g : Option (Option Nat × Bool)} {e : Bool} {a b m : Nat} {v : Value} {pend : List (AOper × List Value × Value)} (hm : b ≤ m) : pushP ⟨d, o, g, e, a, b⟩ t v pend m = pend := by
  unfold pushP; rw [if_neg (by simp only; omega)]
theorem pushP_in {d : Option Nat} {o : AOp} {g : Option (Option Nat × Bool)} {e : Bool} {a b m : Nat} {v : Value} {pend : List (AOper × List Value × Value)} (hu : useHeap o = true) (hm : m < b) : pushP ⟨d, o, g, e, a, b⟩ t v pend m = (⟨d, o, g, e, a, b⟩, t, v) :: pend := by
  simp [pushP, hu, hm]

@[simp] theorem pendAll_nil {m : Nat} : pendAll P [] m h = True := by simp [pendAll]
@[simp] theorem pendAll_cons {m : Nat} {p : AOper × List Value × Value} {pend : List (AOper × List Value × Value)} : pendAll P (p :: pend) m h = ((m ≤ p.1.hi → same P p.1.op p.2.1 p.2.2 h = true) ∧ pendAll P pend m h) := by
  simp [pendAll]
@[simp] theorem pastAll_zero {past : List Heap} {op : AOp} {v : Value} : pastAll P past 0 op t v = True := by simp [pastAll]
@[simp] theorem pastAll_nil {n : Nat} {op : AOp} {v : Value} : pastAll P [] n op t v = True := by simp [pastAll]
@[simp] theorem pastAll_out {past : List Heap} {n : Nat} {op : AOp} {v : Value} (hu : useHeap op = false) : pastAll P past n op t v = True := by simp [pastAll, same, hu]
@[simp] theorem pastAll_cons {past : List Heap} {n : Nat} {op : AOp} {v : Value} (hu : useHeap op = true) : pastAll P (h :: past) (n + 1) op t v = (same P op t v h = true ∧ pastAll P past n op t v) := by simp [pastAll]

theorem draws_guard {o : AOper} {r : List AOper} {past : List Heap} {pend : List (AOper × List Value × Value)} {m : Nat} :
    Draws P T (o :: r) past pend m t h k = drawIf P T o r past pend m t h k (wantedA t o.guard) := by
  cases hw : wantedA t o.guard with
  | none => unfold Draws drawIf; simp [drun, hw]
  | some b =>
    cases b with
    | true => exact draws_one hw
    | false =>
      simp only [drawIf]
      unfold Draws
      simp only [drun, hw]
      split <;> rfl

@[simp] theorem draws_guarded {d : Option Nat} {o : AOp} {g : Option Nat × Bool} {e : Bool} {a b : Nat} {r : List AOper} {past : List Heap} {pend : List (AOper × List Value × Value)} {m : Nat} :
    Draws P T (⟨d, o, some g, e, a, b⟩ :: r) past pend m t h k = drawIf P T ⟨d, o, some g, e, a, b⟩ r past pend m t h k (wantedA t (some g)) := draws_guard
@[simp] theorem drawIf_true_eff {d : Option Nat} {o : AOp} {g : Option (Option Nat × Bool)} {a b : Nat} {r : List AOper} {past : List Heap} {pend : List (AOper × List Value × Value)} {m : Nat} :
    drawIf P T ⟨d, o, g, true, a, b⟩ r past pend m t h k (some true) = got (runOp P (acallW P T) o t h) (drawEff P T r past pend m t h d k) := by simp [drawIf, drawOne]
@[simp] theorem drawIf_true_get {d : Option Nat} {o : AOp} {g : Option (Option Nat × Bool)} {a b : Nat} {r : List AOper} {past : List Heap} {pend : List (AOper × List Value × Value)} {m : Nat} :
    drawIf P T ⟨d, o, g, false, a, b⟩ r past pend m t h k (some true) = got (runOp P (acallW P T) o t h) (drawGet P T ⟨d, o, g, false, a, b⟩ r past pend m t k) := by simp [drawIf, drawOne]
@[simp] theorem drawIf_false_eff {d : Option Nat} {o : AOp} {g : Option (Option Nat × Bool)} {a b : Nat} {r : List AOper} {past : List Heap} {pend : List (AOper × List Value × Value)} {m : Nat} :
    drawIf P T ⟨d, o, g, true, a, b⟩ r past pend m t h k (some false) = Draws P T r (h :: past) pend (m + 1) (putT t d skipV) h k := by simp [drawIf]
@[simp] theorem drawIf_false_get {d : Option Nat} {o : AOp} {g : Option (Option Nat × Bool)} {a b : Nat} {r : List AOper} {past : List Heap} {pend : List (AOper × List Value × Value)} {m : Nat} :
    drawIf P T ⟨d, o, g, false, a, b⟩ r past pend m t h k (some false) = Draws P T r past pend m (putT t d skipV) h k := by simp [drawIf]

end
end Go.Ax

/- An abstract machine for Go programs: what each operation answers, for walking. -/
namespace Go.Ax
set_option linter.unusedVariables false
set_option linter.unusedSimpArgs false

section
variable {P : Program} {T : Table} {cf : CF} {t : List Value} {h : Heap} {k : Cont}

@[simp] theorem envT_elem {N i : Nat} {l : List (Nat × Value)} (hi : i < (envT N l).length) : (envT N l)[i] = slot l i := by
  have := envT_get (N := N) (i := i) (by simpa [envT_len] using hi) l
  rw [List.getElem?_eq_getElem hi] at this
  exact Option.some.inj this

attribute [simp] envT_get slot_nil slot_cons envT_len envT_tmp envT_getD envT_put envT_put_none wanted_env wanted_none

theorem go_loop {keep n : Nat} {b : AC} (I : Nat → List Value → Heap → Prop) (i : I n (forget keep t) h)
    (step : ∀ n t h, I n t h → Go P T b t h (.loop keep I n k)) : Go P T (.loop keep b) t h k := by
  refine does_loop I (fun n t h i => Does.mono (step n t h i) fun e t' h' q => ?_) i
  cases e with
  | normal => rw [meets_loop] at q; exact q
  | exit i => rw [meets_loop_exit] at q; exact q
  | ret => rw [meets_loop_ret] at q; exact q

theorem got_call {tg : Tgt} {args : List Value} {R K : Value → Heap → Prop} (g : Gives P T tg args h R) (i : ∀ v h', R v h' → K v h') : got (acallW P T tg args h) K := by
  obtain ⟨v, h', e, q⟩ := g; exact ⟨v, h', e, i v h' q⟩

@[simp] theorem ev_const_int {kd : IntKind} {n : Int} : evalT t (.const (.int kd n)) = .int kd n := rfl
@[simp] theorem ev_const_bool {b : Bool} : evalT t (.const (.bool b)) = .bool b := rfl
@[simp] theorem ev_const_str {s : ByteArray} : evalT t (.const (.string s)) = .string s := rfl
@[simp] theorem ev_const_ptr : evalT t (.const (.pointer none)) = .pointer none := rfl
@[simp] theorem ev_const_slice : evalT t (.const (.slice none 0 0)) = .slice none 0 0 := rfl
@[simp] theorem ev_const_nilf : evalT t (.const .nilFunc) = .nilFunc := rfl
@[simp] theorem ev_const_nili : evalT t (.const .nilIface) = .nilIface := rfl
@[simp] theorem ev_func {f : FuncId} : evalT t (.func f) = .func (.func f) #[] #[] := rfl

@[simp] theorem op_mv {x : Operand} : runOp P cf (.mv x) t h = some (evalT t x, h) := rfl

def pickR (h : Heap) : Value → Value → Value → Option (Value × Heap)
  | .bool true, a, _ => some (a, h)
  | .bool false, _, b => some (b, h)
  | _, _, _ => none
@[simp] theorem op_pick {c a b : Operand} : runOp P cf (.pick c a b) t h = pickR h (evalT t c) (evalT t a) (evalT t b) := by
  unfold runOp; simp only [aop]; unfold pickR
  cases evalT t c <;> try rfl
  rename_i b; cases b <;> rfl
@[simp] theorem pick_true {a b : Value} : pickR h (.bool true) a b = some (a, h) := rfl
@[simp] theorem pick_false {a b : Value} : pickR h (.bool false) a b = some (b, h) := rfl
theorem pick_bool {x : Bool} {a b : Value} : pickR h (.bool x) a b = some (if x then a else b, h) := by cases x <;> rfl

@[simp] theorem op_new {c : List Value} : runOp P cf (.new c) t h = some (.pointer (some (hnext h)), hnew h c 0) := rfl

def boxR (h : Heap) (v : Value) : Option (Value × Heap) := if good v then some (.pointer (some (hnext h)), hnew h v.cells.toList 0) else none
@[simp] theorem op_box {x : Operand} : runOp P cf (.box x) t h = boxR h (evalT t x) := by
  unfold runOp boxR; simp only [aop]; cases good (evalT t x) <;> rfl
@[simp] theorem box_agg {cs : Array Value} : boxR h (.agg cs) = some (.pointer (some (hnext h)), hnew h cs.toList 0) := rfl

def fillR (h : Heap) : Option (List Value) → Option (Value × Heap)
  | some l => some (.agg l.toArray, h)
  | none => none
@[simp] theorem op_build {z : List Value} {ps : List (Nat × Nat × Operand)} : runOp P cf (.build z ps) t h = fillR h (fillL z (ps.map fun (o, s, x) => (o, s, evalT t x))) := by
  unfold runOp fillR; simp only [aop]; cases fillL z (ps.map fun (o, s, x) => (o, s, evalT t x)) <;> rfl
@[simp] theorem fillR_some {l : List Value} : fillR h (some l) = some (.agg l.toArray, h) := rfl
def litR (h : Heap) (len es : Nat) : Option (List Value) → Option (Value × Heap)
  | some l => some (.slice (some (hnext h)) len len, hnew h l es)
  | none => none
@[simp] theorem op_lit {len es : Nat} {z : List Value} {ps : List (Nat × Nat × Operand)} : runOp P cf (.lit len es z ps) t h = litR h len es (fillL z (ps.map fun (o, s, x) => (o, s, evalT t x))) := by
  unfold runOp litR; simp only [aop]; cases fillL z (ps.map fun (o, s, x) => (o, s, evalT t x)) <;> rfl
@[simp] theorem litR_some {len es : Nat} {l : List Value} : litR h len es (some l) = some (.slice (some (hnext h)) len len, hnew h l es) := rfl
@[simp] theorem fill_nil {z : List Value} : fillL z [] = some z := rfl
theorem fill_cons {z : List Value} {o s : Nat} {v : Value} {r : List (Nat × Nat × Value)} : fillL z ((o, s, v) :: r) = if good v = false ∨ v.cells.size ≠ s ∨ o + v.cells.size > z.length then none else fillL (z.take o ++ v.cells.toList ++ z.drop (o + s)) r := rfl
@[simp] theorem fill_one {z : List Value} {o : Nat} {v : Value} {r : List (Nat × Nat × Value)} (hg : goodC v = true) (ho : o < z.length) : fillL z ((o, 1, v) :: r) = fillL (z.set o v) r := by
  have hc : v.cells = #[v] := by cases v <;> first | rfl | simp [goodC] at hg
  have hg' : good v = true := by cases v <;> first | rfl | simp [goodC] at hg
  rw [fill_cons, hc, if_neg (by simp [hg']; omega)]
  congr 1
  rw [List.set_eq_take_append_cons_drop, if_pos ho]
  simp

@[simp] theorem good_int {kd : IntKind} {n : Int} : goodC (.int kd n) = true := by simp [goodC]
@[simp] theorem good_bool {b : Bool} : goodC (.bool b) = true := by simp [goodC]
@[simp] theorem good_str {s : ByteArray} : goodC (.string s) = true := by simp [goodC]
@[simp] theorem good_ptr {a : Option Addr} : goodC (.pointer a) = true := by simp [goodC]
@[simp] theorem good_slice {a : Option Addr} {n c : Nat} : goodC (.slice a n c) = true := by simp [goodC]
@[simp] theorem good_iface {ty : TypeId} {v : Value} : goodC (.iface ty v) = true := by simp [goodC]
@[simp] theorem good_nili : goodC .nilIface = true := by simp [goodC]
@[simp] theorem good_nilf : goodC .nilFunc = true := by simp [goodC]
@[simp] theorem good_func {f : Fn} {a b : Array Value} : goodC (.func f a b) = true := by simp [goodC]
@[simp] theorem good_float {kd : FloatKind} {b} : goodC (.float kd b) = true := by simp [goodC]

def loadR (h : Heap) (agg : Option Nat) : Value → Option (Value × Heap)
  | .pointer (some a) => (aload h agg a).map fun v => (v, h)
  | _ => none
@[simp] theorem op_load {agg : Option Nat} {x : Operand} : runOp P cf (.load agg x) t h = loadR h agg (evalT t x) := by
  unfold runOp loadR; simp only [aop]
  split
  · rename_i a e
    split at e
    · rename_i q hq; rw [hq]; simp only; cases hl : aload h agg q <;> simp_all [toVal]
    · simp at e
  · rename_i e
    split at e
    · rename_i q hq; simp only [toVal] at e; split at e <;> simp at e
    · simp at e
  · rename_i e
    split at e
    · rename_i q hq; rw [hq]; simp only; cases hl : aload h agg q <;> simp_all [toVal]
    · split
      · rename_i q hq _; simp_all
      · rfl
@[simp] theorem load_ptr {a : Addr} : loadR h none (.pointer (some a)) = (hload h a).map fun v => (v, h) := rfl
@[simp] theorem load_agg {a : Addr} {n : Nat} : loadR h (some n) (.pointer (some a)) = (loadN h a n).map fun l => (.agg l.toArray, h) := by
  simp only [loadR, aload]; cases loadN h a n <;> rfl

def storeR (h : Heap) (n : Nat) : Value → Value → Option (Value × Heap)
  | .pointer (some p), v => if good v = true ∧ v.cells.size = n then (storeN h p v.cells.toList).map fun h' => (undef, h') else none
  | _, _ => none
@[simp] theorem op_store {n : Nat} {a x : Operand} : runOp P cf (.store n a x) t h = storeR h n (evalT t a) (evalT t x) := by
  unfold runOp storeR; simp only [aop]
  generalize evalT t a = u
  cases u with
  | pointer p =>
    cases p with
    | none => rfl
    | some p =>
      simp only
      by_cases hc : good (evalT t x) = true ∧ (evalT t x).cells.size = n
      · rw [if_pos hc, if_pos hc]; cases storeN h p (evalT t x).cells.toList <;> rfl
      · rw [if_neg hc, if_neg hc]
  | _ => rfl
@[simp] theorem store_one {p : Addr} {v : Value} (hg : goodC v = true) : storeR h 1 (.pointer (some p)) v = (hstore h p v).map fun h' => (undef, h') := by
  have hc : v.cells = #[v] := by cases v <;> first | rfl | simp [goodC] at hg
  have hg' : good v = true := by cases v <;> first | rfl | simp [goodC] at hg
  simp only [storeR, hc, hg']
  rw [if_pos (by simp)]
  simp only [storeN]
  cases hstore h p v <;> rfl
@[simp] theorem store_agg {p : Addr} {cs : Array Value} : storeR h cs.size (.pointer (some p)) (.agg cs) = (storeN h p cs.toList).map fun h' => (undef, h') := by
  simp only [storeR]
  rw [if_pos ⟨rfl, rfl⟩]; rfl

def chkR (h : Heap) : Value → Option (Value × Heap)
  | .pointer (some a) => some (.pointer (some a), h)
  | .iface ty v => some (.iface ty v, h)
  | .func (.func f) a b => some (.func (.func f) a b, h)
  | .func (.yield f) a b => some (.func (.yield f) a b, h)
  | _ => none
@[simp] theorem op_chk {x : Operand} : runOp P cf (.chk x) t h = chkR h (evalT t x) := by
  unfold runOp chkR; simp only [aop]
  generalize evalT t x = u
  cases u with
  | pointer p => cases p <;> rfl
  | func f a b => cases f <;> rfl
  | _ => rfl
@[simp] theorem chk_ptr {a : Addr} : chkR h (.pointer (some a)) = some (.pointer (some a), h) := rfl
@[simp] theorem chk_iface {ty : TypeId} {v : Value} : chkR h (.iface ty v) = some (.iface ty v, h) := rfl
@[simp] theorem chk_func {f : FuncId} {a b : Array Value} : chkR h (.func (.func f) a b) = some (.func (.func f) a b, h) := rfl
@[simp] theorem chk_yield {f : Nat} {a b : Array Value} : chkR h (.func (.yield f) a b) = some (.func (.yield f) a b, h) := rfl

def valR (h : Heap) : Option Value → Option (Value × Heap)
  | some v => some (v, h)
  | none => none
@[simp] theorem valR_some {v : Value} : valR h (some v) = some (v, h) := rfl
theorem toVal_run (x : Option Value) : (match toVal h x with | some (.val v h') => some (v, h') | some (.call f args) => cf f args h | none => none) = valR h x := by cases x <;> rfl

@[simp] theorem op_bin {op : BinOp} {ty : TypeId} {q : EqK} {x y : Operand} : runOp P cf (.bin op ty q x y) t h = valR h (abinop P h op ty q x y (evalT t x) (evalT t y)) := toVal_run _
@[simp] theorem op_un {op : UnOp} {x : Operand} : runOp P cf (.un op x) t h = valR h (aun P op (evalT t x)) := toVal_run _
@[simp] theorem bin_int {op : BinOp} {ty : TypeId} {q : EqK} {x y : Operand} {kd : IntKind} {a b : Int} : abinop P h op ty q x y (.int kd a) (.int kd b) = abin op kd a b := by simp [abinop]
@[simp] theorem bin_shl {ty : TypeId} {q : EqK} {x y : Operand} {kd kd' : IntKind} {a b : Int} : abinop P h .shl ty q x y (.int kd a) (.int kd' b) = abin .shl kd a b := by simp [abinop]
@[simp] theorem bin_shr {ty : TypeId} {q : EqK} {x y : Operand} {kd kd' : IntKind} {a b : Int} : abinop P h .shr ty q x y (.int kd a) (.int kd' b) = abin .shr kd a b := by simp [abinop]
theorem ab_add {kd : IntKind} {a b : Int} : abin .add kd a b = some (.int kd (kd.wrap (a + b))) := rfl
theorem ab_sub {kd : IntKind} {a b : Int} : abin .sub kd a b = some (.int kd (kd.wrap (a - b))) := rfl
theorem ab_mul {kd : IntKind} {a b : Int} : abin .mul kd a b = some (.int kd (kd.wrap (a * b))) := rfl
theorem ab_quo {kd : IntKind} {a b : Int} : abin .quo kd a b = if b = 0 then none else some (.int kd (kd.wrap (a.tdiv b))) := rfl
theorem ab_rem {kd : IntKind} {a b : Int} : abin .rem kd a b = if b = 0 then none else some (.int kd (a.tmod b)) := rfl
@[simp] theorem ab_add_i64 {a b : Int} : abin .add .i64 a b = some (.int .i64 (IntKind.wrap .i64 (a + b))) := rfl
@[simp] theorem ab_sub_i64 {a b : Int} : abin .sub .i64 a b = some (.int .i64 (IntKind.wrap .i64 (a - b))) := rfl
@[simp] theorem ab_mul_i64 {a b : Int} : abin .mul .i64 a b = some (.int .i64 (IntKind.wrap .i64 (a * b))) := rfl
@[simp] theorem ab_quo_i64 {a b : Int} : abin .quo .i64 a b = if b = 0 then none else some (.int .i64 (IntKind.wrap .i64 (a.tdiv b))) := rfl
@[simp] theorem ab_rem_i64 {a b : Int} : abin .rem .i64 a b = if b = 0 then none else some (.int .i64 (a.tmod b)) := rfl
@[simp] theorem ab_eql {kd : IntKind} {a b : Int} : abin .eql kd a b = some (.bool (decide (a = b))) := rfl
@[simp] theorem ab_neq {kd : IntKind} {a b : Int} : abin .neq kd a b = some (.bool (decide (¬ a = b))) := by
  show some (Value.bool (!(a == b))) = _
  congr 2
  by_cases e : a = b <;> simp [e]
@[simp] theorem ab_lss {kd : IntKind} {a b : Int} : abin .lss kd a b = some (.bool (decide (a < b))) := rfl
@[simp] theorem ab_leq {kd : IntKind} {a b : Int} : abin .leq kd a b = some (.bool (decide (a ≤ b))) := rfl
@[simp] theorem ab_gtr {kd : IntKind} {a b : Int} : abin .gtr kd a b = some (.bool (decide (b < a))) := rfl
@[simp] theorem ab_geq {kd : IntKind} {a b : Int} : abin .geq kd a b = some (.bool (decide (b ≤ a))) := rfl
@[simp] theorem eq_ptr_nil {ty : TypeId} {n : Nat} {x y : Operand} {a : Addr} : abinop P h .eql ty (.ptr n) x y (.pointer (some a)) (.pointer none) = some (.bool false) := rfl
@[simp] theorem eq_nil_nil {ty : TypeId} {n : Nat} {x y : Operand} : abinop P h .eql ty (.ptr n) x y (.pointer none) (.pointer none) = some (.bool true) := rfl
@[simp] theorem ne_ptr_nil {ty : TypeId} {n : Nat} {x y : Operand} {a : Addr} : abinop P h .neq ty (.ptr n) x y (.pointer (some a)) (.pointer none) = some (.bool true) := rfl
@[simp] theorem ne_nil_nil {ty : TypeId} {n : Nat} {x y : Operand} : abinop P h .neq ty (.ptr n) x y (.pointer none) (.pointer none) = some (.bool false) := rfl
@[simp] theorem eq_sl_nil {ty : TypeId} {x y : Operand} {a : Option Addr} {n c : Nat} : abinop P h .eql ty .slice x y (.slice a n c) (.slice none 0 0) = some (.bool a.isNone) := by cases a <;> rfl
@[simp] theorem ne_sl_nil {ty : TypeId} {x y : Operand} {a : Option Addr} {n c : Nat} : abinop P h .neq ty .slice x y (.slice a n c) (.slice none 0 0) = some (.bool a.isSome) := by cases a <;> rfl
@[simp] theorem eq_bool {ty : TypeId} {x y : Operand} {a b : Bool} : abinop P h .eql ty .bool x y (.bool a) (.bool b) = some (.bool (a == b)) := rfl
@[simp] theorem ne_bool {ty : TypeId} {x y : Operand} {a b : Bool} : abinop P h .neq ty .bool x y (.bool a) (.bool b) = some (.bool (a != b)) := rfl
@[simp] theorem eq_fn_nil {ty : TypeId} {x y : Operand} {f : Fn} {a b : Array Value} : abinop P h .eql ty .func x y (.func f a b) .nilFunc = some (.bool false) := rfl
@[simp] theorem un_not {b : Bool} : aun P .not (.bool b) = some (.bool (!b)) := rfl

def convR (P : Program) (h : Heap) (kd : IntKind) (s d : TypeId) : Value → Option (Value × Heap)
  | .int _ n => some (.int kd (kd.wrap n), h)
  | x => if plain x then valR h (pures P (convert s d x)) else none
@[simp] theorem op_convI {kd : IntKind} {s d : TypeId} {x : Operand} : runOp P cf (.convI kd s d x) t h = convR P h kd s d (evalT t x) := by
  unfold runOp convR; simp only [aop]
  generalize evalT t x = u
  cases u <;> try rfl
  all_goals
    simp only
    split <;> rename_i e
    · split at e
      · rename_i hp; rw [if_pos hp]; unfold toVal at e; split at e
        · rename_i hv; simp at e; obtain ⟨rfl, rfl⟩ := e; rw [hv]; rfl
        · simp at e
      · simp at e
    · split at e
      · unfold toVal at e; split at e <;> simp at e
      · simp at e
    · split at e
      · rename_i hp; rw [if_pos hp]; unfold toVal at e; split at e
        · simp at e
        · rename_i hv; rw [hv]; rfl
      · rename_i hp; rw [if_neg hp]
@[simp] theorem conv_int {kd kd' : IntKind} {s d : TypeId} {n : Int} : convR P h kd s d (.int kd' n) = some (.int kd (kd.wrap n), h) := rfl

@[simp] theorem op_mkF {f : Fn} {a b : List Operand} : runOp P cf (.mkF f a b) t h = some (.func f (a.map (evalT t)).toArray (b.map (evalT t)).toArray, h) := rfl
@[simp] theorem op_mkI {ty : TypeId} {x : Operand} : runOp P cf (.mkI ty x) t h = some (.iface ty (evalT t x), h) := rfl

def mkSR (h : Heap) (es bytes : Nat) (zero : List Value) : Value → Value → Option (Value × Heap)
  | .int .i64 l, .int .i64 c =>
      if 0 ≤ l ∧ l ≤ c ∧ c * bytes ≤ 140737488355328 ∧ c ≤ 140737488355328 ∧ zero.length = es then
        some (.slice (some (hnext h)) l.toNat c.toNat, hnew h (List.replicate c.toNat zero).flatten es)
      else none
  | _, _ => none
@[simp] theorem op_mkS {es bytes : Nat} {zero : List Value} {l c : Operand} : runOp P cf (.mkS es bytes zero l c) t h = mkSR h es bytes zero (evalT t l) (evalT t c) := by
  unfold runOp mkSR; simp only [aop]
  split <;> rename_i e
  · split at e
    · split at e
      · rename_i hl hc hh; simp at e; obtain ⟨rfl, rfl⟩ := e; rw [hl, hc]; simp only; rw [if_pos hh]
      · simp at e
    · simp at e
  · split at e
    · split at e <;> simp at e
    · simp at e
  · split at e
    · split at e
      · simp at e
      · rename_i hl hc hh; rw [hl, hc]; simp only; rw [if_neg hh]
    · split
      · rename_i h1 h2 h3 h4; simp_all
      · rfl
@[simp] theorem mkS_nat {bytes n : Nat} {z : Value} (hn : n * bytes ≤ 140737488355328) (hn' : n ≤ 140737488355328) : mkSR h 1 bytes [z] (.int .i64 n) (.int .i64 n) = some (.slice (some (hnext h)) n n, hnew h (List.replicate n z) 1) := by
  unfold mkSR
  simp only
  rw [if_pos ⟨by omega, by omega, by have := Int.ofNat_le.2 hn; rw [Int.natCast_mul] at this; exact this, by omega, rfl⟩]
  have : (List.replicate n [z]).flatten = List.replicate n z := by
    induction n with
    | zero => rfl
    | succ n ih => rw [List.replicate_succ, List.flatten_cons, ih (by rw [Nat.succ_mul] at hn; omega) (by omega)]; rfl
  simp [this]

@[simp] theorem op_slc {es : Nat} {x : Operand} {lo hi mx : Option Operand} : runOp P cf (.slc es x lo hi mx) t h = valR h (aslice h es (evalT t x) (lo.map (evalT t)) (hi.map (evalT t)) (mx.map (evalT t))) := toVal_run _

def fadR (h : Heap) (off : Nat) : Value → Option (Value × Heap)
  | .pointer (some a) => some (.pointer (some (aadd a off)), h)
  | _ => none
@[simp] theorem op_fad {off : Nat} {x : Operand} : runOp P cf (.fad off x) t h = fadR h off (evalT t x) := by
  unfold runOp fadR; simp only [aop]
  generalize evalT t x = u
  cases u with
  | pointer p => cases p <;> rfl
  | _ => rfl
@[simp] theorem fad_ptr {off : Nat} {a : Addr} : fadR h off (.pointer (some a)) = some (.pointer (some (aadd a off)), h) := rfl

def fldR (h : Heap) (agg : Option Nat) (off : Nat) : Value → Option (Value × Heap)
  | .agg cs => valR h (apart agg cs off)
  | _ => none
@[simp] theorem op_fld {agg : Option Nat} {off : Nat} {x : Operand} : runOp P cf (.fld agg off x) t h = fldR h agg off (evalT t x) := by
  unfold runOp fldR; simp only [aop]
  generalize evalT t x = u
  cases u with
  | agg cs => exact toVal_run (cf := cf) _
  | _ => rfl
@[simp] theorem fld_agg {agg : Option Nat} {off : Nat} {cs : Array Value} : fldR h agg off (.agg cs) = valR h (apart agg cs off) := rfl

def iadR (h : Heap) (es : Nat) : Value → Value → Option (Value × Heap)
  | .slice (some a) len _, .int _ i => if 0 ≤ i ∧ i < len then some (.pointer (some (aadd a (i.toNat * es))), h) else none
  | _, _ => none
@[simp] theorem op_iadS {es : Nat} {x i : Operand} : runOp P cf (.iadS es x i) t h = iadR h es (evalT t x) (evalT t i) := by
  unfold runOp iadR; simp only [aop]
  generalize evalT t x = u
  generalize evalT t i = v
  cases u with
  | slice a n c =>
    cases a with
    | none => cases v <;> rfl
    | some a =>
      cases v with
      | int kd i => simp only; by_cases hc : 0 ≤ i ∧ i < n <;> simp [hc]
      | _ => rfl
  | _ => cases v <;> rfl
@[simp] theorem iad_nat {es j len c : Nat} {a : Addr} {kd : IntKind} (hj : j < len) : iadR h es (.slice (some a) len c) (.int kd (j : Nat)) = some (.pointer (some (aadd a (j * es))), h) := by
  unfold iadR; simp only; rw [if_pos ⟨by omega, by omega⟩]; rfl

def lenR (h : Heap) : Value → Option (Value × Heap)
  | .slice _ n _ => some (.int .i64 n, h)
  | _ => none
@[simp] theorem op_len {x : Operand} : runOp P cf (.len x) t h = lenR h (evalT t x) := by
  unfold runOp lenR; simp only [aop]
  generalize evalT t x = u
  cases u <;> rfl
@[simp] theorem len_slice {a : Option Addr} {n c : Nat} : lenR h (.slice a n c) = some (.int .i64 n, h) := rfl

def extrR (h : Heap) (i : Nat) : Value → Option (Value × Heap)
  | .tuple vs => valR h vs[i]?
  | _ => none
@[simp] theorem op_extr {i : Nat} {x : Operand} : runOp P cf (.extr x i) t h = extrR h i (evalT t x) := by
  unfold runOp extrR; simp only [aop]
  generalize evalT t x = u
  cases u with
  | tuple vs => exact toVal_run (cf := cf) _
  | _ => rfl
@[simp] theorem extr_tuple {i : Nat} {vs : Array Value} : extrR h i (.tuple vs) = valR h vs[i]? := rfl

@[simp] theorem op_app {es bytes : Nat} {zero : List Value} {s x : Operand} : runOp P cf (.app es bytes zero s x) t h = aappend h es bytes zero (evalT t s) (evalT t x) := by
  unfold runOp; simp only [aop, toRes]
  split <;> rename_i e
  · split at e
    · simp at e; obtain ⟨rfl, rfl⟩ := e; rename_i hq; exact hq.symm
    · simp at e
  · split at e <;> simp at e
  · split at e
    · simp at e
    · rename_i hq; exact hq.symm
@[simp] theorem op_copy {es : Nat} {d s : Operand} : runOp P cf (.copy es d s) t h = acopy h es (evalT t d) (evalT t s) := by
  unfold runOp; simp only [aop, toRes]
  split <;> rename_i e
  · split at e
    · simp at e; obtain ⟨rfl, rfl⟩ := e; rename_i hq; exact hq.symm
    · simp at e
  · split at e <;> simp at e
  · split at e
    · simp at e
    · rename_i hq; exact hq.symm

def callR (cf : CF) (h : Heap) : Option ARes → Option (Value × Heap)
  | some (.call f args) => cf f args h
  | some (.val v h') => some (v, h')
  | none => none
@[simp] theorem op_call {f : Operand} {args : List Operand} : runOp P cf (.call f args) t h = callR cf h (acallee (evalT t f) (args.map (evalT t))) := by
  unfold runOp callR; simp only [aop]
  cases acallee (evalT t f) (args.map (evalT t)) with
  | none => rfl
  | some q => cases q <;> rfl
@[simp] theorem callee_fn {id : FuncId} {a b : Array Value} {args : List Value} : acallee (.func (.func id) a b) args = some (.call (.fn id) (a.toList ++ args ++ b.toList)) := rfl
@[simp] theorem callee_yield {l : Nat} {a : Array Value} {args : List Value} : acallee (.func (.yield l) a #[]) args = some (.call (.yield l) (a.toList ++ args)) := rfl
@[simp] theorem call_eq {f : Tgt} {args : List Value} : callR cf h (some (.call f args)) = cf f args h := rfl

def mmR (P : Program) (h : Heap) (mx : Bool) (l : List Value) : Option (Value × Heap) :=
  match l with
  | [.int k a, .int _ b] => some (.int k (if mx then (if b > a then b else a) else (if b < a then b else a)), h)
  | l => if l.all plain then valR h (pures P (if mx then Builtin.max_ #[] 0 l.toArray else Builtin.min_ #[] 0 l.toArray)) else none
@[simp] theorem op_mm {mx : Bool} {args : List Operand} : runOp P cf (.mm mx args) t h = mmR P h mx (args.map (evalT t)) := by
  unfold runOp mmR; simp only [aop]
  split <;> rename_i e
  · split at e
    · simp at e; obtain ⟨rfl, rfl⟩ := e; rename_i hq; rw [hq]
    · rename_i hne
      split at e
      · rename_i hp; unfold toVal at e; split at e
        · rename_i hv; simp at e; obtain ⟨rfl, rfl⟩ := e; split
          · rename_i hq; exact absurd hq (hne _ _ _ _)
          · rw [if_pos hp, hv]; rfl
        · simp at e
      · simp at e
  · split at e
    · simp at e
    · split at e
      · unfold toVal at e; split at e <;> simp at e
      · simp at e
  · split at e
    · simp at e
    · rename_i hne
      split at e
      · rename_i hp; unfold toVal at e; split at e
        · simp at e
        · rename_i hv; split
          · rename_i hq; exact absurd hq (hne _ _ _ _)
          · rw [if_pos hp, hv]; rfl
      · rename_i hp; split
        · rename_i hq; exact absurd hq (hne _ _ _ _)
        · rw [if_neg hp]
@[simp] theorem mm_int {mx : Bool} {kd kd' : IntKind} {a b : Int} : mmR P h mx [.int kd a, .int kd' b] = some (.int kd (if mx then max a b else min a b), h) := by
  simp only [mmR]
  congr 3
  split
  · split <;> omega
  · split <;> omega

@[simp] theorem res_nil {t : List Value} : resVals t h [] = some [] := rfl
@[simp] theorem res_tmp {i : Nat} {r : List ARs} : resVals t h (.tmp i :: r) = (resVals t h r).map fun l => t.getD i undef :: l := by
  simp only [resVals]; cases resVals t h r <;> rfl
@[simp] theorem oneOf_one {v : Value} : oneOf [v] = v := rfl
@[simp] theorem oneOf_two {v u : Value} {l : List Value} : oneOf (v :: u :: l) = .tuple (v :: u :: l).toArray := rfl

@[simp] theorem useHeap_load {agg : Option Nat} {x : Operand} : useHeap (.load agg x) = true := by simp [useHeap, isEff]
@[simp] theorem useHeap_mv {x : Operand} : useHeap (.mv x) = false := by simp [useHeap, isEff]
@[simp] theorem useHeap_pick {c a b : Operand} : useHeap (.pick c a b) = false := by simp [useHeap, isEff]
@[simp] theorem useHeap_chk {x : Operand} : useHeap (.chk x) = false := by simp [useHeap, isEff]
@[simp] theorem useHeap_fad {n : Nat} {x : Operand} : useHeap (.fad n x) = false := by simp [useHeap, isEff]
@[simp] theorem useHeap_iadS {n : Nat} {x i : Operand} : useHeap (.iadS n x i) = false := by simp [useHeap, isEff]
@[simp] theorem useHeap_len {x : Operand} : useHeap (.len x) = false := by simp [useHeap, isEff]
@[simp] theorem useHeap_extr {x : Operand} {i : Nat} : useHeap (.extr x i) = false := by simp [useHeap, isEff]
@[simp] theorem useHeap_un {op : UnOp} {x : Operand} : useHeap (.un op x) = false := by simp [useHeap, isEff]
@[simp] theorem useHeap_mm {b : Bool} {x : List Operand} : useHeap (.mm b x) = false := by simp [useHeap, isEff]
@[simp] theorem useHeap_convI {kd : IntKind} {s d : TypeId} {x : Operand} : useHeap (.convI kd s d x) = false := by simp [useHeap, isEff]
@[simp] theorem useHeap_build {z : List Value} {ps : List (Nat × Nat × Operand)} : useHeap (.build z ps) = false := by simp [useHeap, isEff]
@[simp] theorem useHeap_slc {es : Nat} {x : Operand} {lo hi mx : Option Operand} : useHeap (.slc es x lo hi mx) = true := by simp [useHeap, isEff]
@[simp] theorem useHeap_bin {op : BinOp} {ty : TypeId} {x y : Operand} : useHeap (.bin op ty .other x y) = false := by simp [useHeap, isEff]
@[simp] theorem useHeap_binb {op : BinOp} {ty : TypeId} {x y : Operand} : useHeap (.bin op ty .bool x y) = false := by simp [useHeap, isEff]
@[simp] theorem useHeap_bins {op : BinOp} {ty : TypeId} {x y : Operand} : useHeap (.bin op ty .slice x y) = false := by simp [useHeap, isEff]
@[simp] theorem useHeap_binp {op : BinOp} {ty : TypeId} {n : Nat} {x y : Operand} : useHeap (.bin op ty (.ptr n) x y) = true := by simp [useHeap, isEff]

def vsame (v : Value) : Option Value → Bool
  | some v' => veqN 6 v v'
  | none => false

theorem same_load {agg : Option Nat} {x : Operand} {v : Value} : same P (.load agg x) t v h = vsame v ((loadR h agg (evalT t x)).map (·.1)) := by
  unfold same; simp only [useHeap_load, Bool.not_true, Bool.false_or, aop]
  generalize evalT t x = u
  cases u with
  | pointer p =>
    cases p with
    | none => rfl
    | some a => simp only [loadR]; cases aload h agg a <;> rfl
  | _ => rfl

theorem same_slc {es : Nat} {x : Operand} {lo hi mx : Option Operand} {v : Value} : same P (.slc es x lo hi mx) t v h = vsame v (aslice h es (evalT t x) (lo.map (evalT t)) (hi.map (evalT t)) (mx.map (evalT t))) := by
  unfold same; simp only [useHeap_slc, Bool.not_true, Bool.false_or, aop]
  cases aslice h es (evalT t x) (lo.map (evalT t)) (hi.map (evalT t)) (mx.map (evalT t)) <;> rfl

theorem veqN_self_int {n : Nat} {kd : IntKind} {i : Int} : veqN n (.int kd i) (.int kd i) = true := by cases n <;> simp [veqN]
theorem veqN_self_bool {n : Nat} {b : Bool} : veqN n (.bool b) (.bool b) = true := by cases n <;> simp [veqN]
theorem veqN_self_ptr {n : Nat} {a : Option Addr} : veqN n (.pointer a) (.pointer a) = true := by cases n <;> simp [veqN]
theorem veqN_self_slice {n : Nat} {a : Option Addr} {l c : Nat} : veqN n (.slice a l c) (.slice a l c) = true := by cases n <;> simp [veqN]
theorem veqN_self_str {n : Nat} {s : ByteArray} : veqN n (.string s) (.string s) = true := by cases n <;> simp [veqN]
@[simp] theorem vsame_int {kd : IntKind} {i : Int} : vsame (.int kd i) (some (.int kd i)) = true := veqN_self_int
@[simp] theorem vsame_bool {b : Bool} : vsame (.bool b) (some (.bool b)) = true := veqN_self_bool
@[simp] theorem vsame_ptr {a : Option Addr} : vsame (.pointer a) (some (.pointer a)) = true := veqN_self_ptr
@[simp] theorem vsame_slice {a : Option Addr} {l c : Nat} : vsame (.slice a l c) (some (.slice a l c)) = true := veqN_self_slice
@[simp] theorem vsame_str {s : ByteArray} : vsame (.string s) (some (.string s)) = true := veqN_self_str
attribute [simp] same_load same_slc

theorem wrap_i64 {x : Int} (h1 : -9223372036854775808 ≤ x) (h2 : x < 9223372036854775808) : IntKind.wrap .i64 x = x := by
  simp [IntKind.wrap, IntKind.bits, IntKind.signed]
  omega
theorem wrap_u64 {x : Int} (h1 : 0 ≤ x) (h2 : x < 18446744073709551616) : IntKind.wrap .u64 x = x := by
  simp [IntKind.wrap, IntKind.bits, IntKind.signed]
  omega

/-- To show what a function gives: its walk, with what is to be shown behind it by name. -/
theorem gives_by {f : FuncId} {a : AFn} (ha : T f = some a) {args : List Value} (hl : args.length ≤ a.ntmps ∧ a.ntmps < 1048576) {R : Value → Heap → Prop}
    (g : ∀ Q : Value → Heap → Prop, (∀ v h', R v h' → Q v h') → Go P T a.code (envT a.ntmps (args.mapIdx fun i v => (i, v))) h (.fin a.results Q)) : Gives P T (.fn f) args h R :=
  gives_go ha hl (g R fun _ _ h => h)

end
end Go.Ax

/- An abstract machine for Go programs: loops over frames whose slots are named. -/
namespace Go.Ax
set_option linter.unusedVariables false
set_option linter.unusedSimpArgs false

/-- The slots that a loop keeps. -/
def kept (keep : Nat) (l : List (Nat × Value)) : List (Nat × Value) := l.filter fun p => keep.testBit p.1

theorem slot_filter (keep : Nat) (i : Nat) : ∀ l : List (Nat × Value), slot (kept keep l) i = if keep.testBit i then slot l i else undef
  | [] => by simp [kept]
  | (j, v) :: l => by
    have ih := slot_filter keep i l
    unfold kept at ih ⊢
    rw [List.filter_cons]
    by_cases hj : keep.testBit j = true
    · simp only [hj, if_true, slot_cons]
      by_cases h : j = i
      · subst h; simp [hj]
      · simp only [h, if_false]; exact ih
    · simp only [hj, slot_cons]
      by_cases h : j = i
      · subst h; simp [hj] at ih ⊢; exact ih
      · simp only [h, if_false]; exact ih

theorem slot_kept {keep i : Nat} (h : (keep >>> i) % 2 = 1) (l : List (Nat × Value)) : slot (kept keep l) i = slot l i := by
  rw [slot_filter, if_pos]
  rw [Nat.testBit, Nat.one_and_eq_mod_two, h]; rfl

theorem forget_env (N keep : Nat) (l : List (Nat × Value)) : forget keep (envT N l) = envT N (kept keep l) := by
  unfold forget
  apply List.ext_getElem?
  intro i
  by_cases hi : i < N
  · rw [List.getElem?_mapIdx, envT_get hi, envT_get hi, slot_filter]
    rfl
  · rw [List.getElem?_eq_none (by simp [envT_len]; omega), List.getElem?_eq_none (by simp [envT_len]; omega)]

attribute [simp] slot_kept

section
variable {P : Program} {T : Table} {h : Heap} {k : Cont}

/-- A loop, by what holds at its head of the slots that are kept. -/
theorem go_loopE {keep N n : Nat} {b : AC} {l : List (Nat × Value)} (J : Nat → List (Nat × Value) → Heap → Prop) (i : J n (kept keep l) h)
    (step : ∀ I : Nat → List Value → Heap → Prop, (∀ n l h, J n l h → I n (envT N l) h) → ∀ n l h, J n l h → Go P T b (envT N l) h (.loop keep I n k)) : Go P T (.loop keep b) (envT N l) h k := by
  refine go_loop (fun n t h => ∃ l, t = envT N l ∧ J n l h) ⟨kept keep l, forget_env _ _ _, i⟩ ?_
  rintro n t h ⟨l, rfl, j⟩
  exact step _ (fun n l h j => ⟨l, rfl, j⟩) n l h j

/-- A loop, by what holds at its head; ks: what the slots that matter hold. -/
theorem go_loopK {keep N n : Nat} {b : AC} {l : List (Nat × Value)} (J : Nat → List (Nat × Value) → Heap → Prop) {ks : List (Nat × Value)} (i : J n ks h) (hk : ∀ p ∈ ks, slot (kept keep l) p.1 = p.2)
    (step : ∀ I : Nat → List Value → Heap → Prop, (∀ n ks l h, J n ks h → (∀ p ∈ ks, slot (kept keep l) p.1 = p.2) → I n (forget keep (envT N l)) h) → ∀ n ks e h, J n ks h → Go P T b (envT N (ks ++ e)) h (.loop keep I n k)) : Go P T (.loop keep b) (envT N l) h k := by
  have over : ∀ (ks l : List (Nat × Value)), (∀ p ∈ ks, slot l p.1 = p.2) → envT N (ks ++ l) = envT N l := by
    intro ks l h
    have key : ∀ i, slot (ks ++ l) i = slot l i := by
      intro i
      induction ks with
      | nil => rfl
      | cons p ks ih =>
        obtain ⟨j, v⟩ := p
        rw [List.cons_append, slot_cons]
        split
        · rename_i hj; subst hj; exact (h (j, v) (by simp)).symm
        · exact ih fun p hp => h p (by simp [hp])
    unfold envT
    congr 1
    funext i
    exact key i
  refine go_loopE (fun n l h => ∃ ks, J n ks h ∧ ∀ p ∈ ks, slot l p.1 = p.2) ⟨ks, i, hk⟩ ?_
  rintro I hI n l h ⟨ks, j, hs⟩
  rw [← over ks l hs]
  exact step I (fun n ks l h j hs => by rw [forget_env]; exact hI n _ h ⟨ks, j, hs⟩) n ks l h j

end

example (l : List (Nat × Value)) (v : Value) : slot (kept 1393780614432787650394534137574572184043747 ((8, v) :: (5, v) :: l)) 5 = v := by simp
end Go.Ax
