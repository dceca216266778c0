/- Seat valuec: the order of values, as a plain law: total, and two that are alike are the same. -/
import Derived.Test.YtjfdnmjjmbildaaGreatDoorVK
import Derived.Test.YtjfdnmjjmbildaaGreatDoorVM
namespace Go.Ax
open Go.Proofs
set_option linter.unusedVariables false
set_option linter.unusedSimpArgs false

/-- A total order, told by -1, 0, 1. -/
structure TO {α : Type} (f : α → α → Int) : Prop where
  eq : ∀ x y, f x y = 0 ↔ x = y
  anti : ∀ x y, f x y = -f y x
  le : ∀ x y z, f x y ≤ 0 → f y z ≤ 0 → f x z ≤ 0

def lexC {α β : Type} (f : α → α → Int) (g : β → β → Int) (p q : α × β) : Int := if f p.1 q.1 = 0 then g p.2 q.2 else f p.1 q.1

theorem TO.lex {α β : Type} {f : α → α → Int} {g : β → β → Int} (F : TO f) (G : TO g) : TO (lexC f g) := by
  refine ⟨?_, ?_, ?_⟩
  · rintro ⟨a, b⟩ ⟨c, d⟩
    unfold lexC
    by_cases h : f a c = 0
    · have := (F.eq a c).1 h
      subst this
      simp only [h, if_true, G.eq, Prod.mk.injEq, true_and]
    · have : ¬ a = c := fun e => h ((F.eq a c).2 e)
      simp only [h, if_false, Prod.mk.injEq, this, false_and]
  · rintro ⟨a, b⟩ ⟨c, d⟩
    unfold lexC
    have h1 := F.anti a c
    have h2 := G.anti b d
    by_cases h : f a c = 0
    · have h3 : f c a = 0 := by omega
      simp only [h, h3, if_true, h2]
    · have h3 : ¬ f c a = 0 := by omega
      show (if f a c = 0 then g b d else f a c) = -(if f c a = 0 then g d b else f c a)
      rw [if_neg h, if_neg h3, h1]
  · rintro ⟨a, b⟩ ⟨c, d⟩ ⟨e, k⟩
    unfold lexC
    simp only
    intro h1 h2
    by_cases p : f a c = 0
    · have := (F.eq a c).1 p
      subst this
      rw [if_pos p] at h1
      by_cases q : f a e = 0
      · have := (F.eq a e).1 q
        subst this
        rw [if_pos q] at h2 ⊢
        exact G.le _ _ _ h1 h2
      · rw [if_neg q] at h2 ⊢
        exact h2
    · rw [if_neg p] at h1
      by_cases q : f c e = 0
      · have := (F.eq c e).1 q
        subst this
        rw [if_neg p]
        exact h1
      · rw [if_neg q] at h2
        by_cases r : f a e = 0
        · have := (F.eq a e).1 r
          subst this
          have := F.anti a c
          omega
        · rw [if_neg r]
          exact F.le _ _ _ h1 h2

theorem cmpI_TO : TO cmpI := by
  refine ⟨?_, ?_, ?_⟩
  · intro x y
    unfold cmpI
    split <;> (try split) <;> omega
  · intro x y
    unfold cmpI
    by_cases h1 : x < y
    · rw [if_pos h1, if_neg (by omega), if_pos h1]
    · by_cases h2 : y < x
      · rw [if_neg h1, if_pos h2, if_pos h2]; rfl
      · rw [if_neg h1, if_neg h2, if_neg h2, if_neg h1]; rfl
  · intro x y z h1 h2
    unfold cmpI at *
    split at h1 <;> (try split at h1) <;> split at h2 <;> (try split at h2) <;> (split <;> (try split)) <;> omega

theorem tcL_eq : ∀ x y : List (BitVec 8), tcL x y = 0 ↔ x = y
  | [], [] => by simp [tcL]
  | [], _ :: _ => by simp [tcL]
  | _ :: _, [] => by simp [tcL]
  | a :: x, b :: y => by
    unfold tcL
    by_cases h : a = b
    · subst h
      rw [if_pos rfl, tcL_eq x y]; simp
    · rw [if_neg h, cmpI_TO.eq]
      have : ¬ (a.toNat : Int) = b.toNat := fun e => h (BitVec.eq_of_toNat_eq (by omega))
      simp [this, h]

theorem tcL_anti : ∀ x y : List (BitVec 8), tcL x y = -tcL y x
  | [], [] => by simp [tcL]
  | [], _ :: _ => by simp [tcL]
  | _ :: _, [] => by simp [tcL]
  | a :: x, b :: y => by
    unfold tcL
    by_cases h : a = b
    · subst h
      rw [if_pos rfl, if_pos rfl, tcL_anti x y]
    · rw [if_neg h, if_neg (fun e => h e.symm), cmpI_TO.anti]

theorem tcL_le : ∀ x y z : List (BitVec 8), tcL x y ≤ 0 → tcL y z ≤ 0 → tcL x z ≤ 0
  | [], _, [] => by intro _ _; simp [tcL]
  | [], _, _ :: _ => by intro _ _; simp [tcL]
  | _ :: _, [], _ => by intro h; simp [tcL] at h
  | _ :: _, _ :: _, [] => by intro _ h; simp [tcL] at h
  | a :: x, b :: y, c :: z => by
    intro h1 h2
    unfold tcL at *
    by_cases p : a = b
    · subst p
      rw [if_pos rfl] at h1
      by_cases q : a = c
      · subst q
        rw [if_pos rfl] at h2 ⊢
        exact tcL_le x y z h1 h2
      · rw [if_neg q] at h2 ⊢
        exact h2
    · rw [if_neg p] at h1
      by_cases q : b = c
      · subst q
        rw [if_neg p]
        exact h1
      · rw [if_neg q] at h2
        by_cases r : a = c
        · subst r
          have hne : cmpI (a.toNat : Int) b.toNat ≠ 0 := fun e => p (BitVec.eq_of_toNat_eq (by have := (cmpI_TO.eq _ _).1 e; omega))
          have := cmpI_TO.anti (a.toNat : Int) b.toNat
          omega
        · rw [if_neg r]
          exact cmpI_TO.le _ _ _ h1 h2

theorem tcL_TO : TO tcL := ⟨tcL_eq, tcL_anti, tcL_le⟩

theorem agI_cmp {i : Int} {a : Nat} (h1 : -9223372036854775808 ≤ i) (h2 : i < 9223372036854775808) : agI i a = cmpI (i * ((2 ^ UE : Nat) : Int)) (V a) := by
  unfold agI
  obtain ⟨U, hU⟩ : ∃ U, 2 ^ UE = U := ⟨_, rfl⟩
  have hp : 0 < U := by rw [← hU]; exact Nat.two_pow_pos _
  obtain ⟨c, hc⟩ : ∃ c, mag a / 2 ^ UE = c := ⟨_, rfl⟩
  have hTR : TR a = if sgn a then -(c : Int) else (c : Int) := by unfold TR; rw [hc]
  rw [hU] at hc ⊢
  have k1 : c * U ≤ mag a := by rw [← hc]; exact Nat.div_mul_le_self _ _
  have k2 : mag a < (c + 1) * U := by rw [← hc, Nat.add_one_mul]; have := Nat.div_add_mod (mag a) U; have := Nat.mod_lt (mag a) hp; rw [Nat.mul_comm (mag a / U)]; omega
  have k1' : (c : Int) * U ≤ (mag a : Int) := by exact_mod_cast k1
  have k2' : (mag a : Int) < ((c : Int) + 1) * U := by exact_mod_cast k2
  have hp' : (0 : Int) < U := by omega
  have e1 : ((9223372036854775808 * U : Nat) : Int) = 9223372036854775808 * (U : Int) := Int.natCast_mul _ _
  rw [e1]
  have m : ∀ x y : Int, x ≤ y → x * U ≤ y * U := fun x y h => Int.mul_le_mul_of_nonneg_right h (by omega)
  have ml : ∀ x y : Int, x < y → x * U < y * U := fun x y h => Int.mul_lt_mul_of_pos_right h hp'
  by_cases g1 : 9223372036854775808 * (U : Int) ≤ V a
  · rw [if_pos g1]
    have := ml _ _ h2
    unfold cmpI
    rw [if_pos (by omega)]
  rw [if_neg g1]
  by_cases g2 : V a < -(9223372036854775808 * (U : Int))
  · rw [if_pos g2]
    have := m _ _ h1
    rw [Int.neg_mul] at this
    unfold cmpI
    rw [if_neg (by omega), if_pos (by omega)]
  rw [if_neg g2]
  have hV : V a = if sgn a then -(mag a : Int) else (mag a : Int) := rfl
  rcases Int.lt_trichotomy i (TR a) with h | h | h
  · have e2 : cmpI i (TR a) = -1 := by unfold cmpI; rw [if_pos h]
    rw [e2, if_pos (by omega)]
    have h3 : i * U < V a := by
      cases hs : sgn a with
      | false =>
        rw [hs] at hTR hV
        simp only [Bool.false_eq_true, if_false] at hTR hV
        have := ml _ _ h
        rw [hTR] at this
        omega
      | true =>
        rw [hs] at hTR hV
        simp only [if_true] at hTR hV
        have := m i (-((c : Int) + 1)) (by omega)
        rw [Int.neg_mul] at this
        omega
    unfold cmpI
    rw [if_pos h3]
  · subst h
    have e2 : cmpI (TR a) (TR a) = 0 := by unfold cmpI; simp
    rw [e2, if_neg (by omega)]
  · have e2 : cmpI i (TR a) = 1 := by unfold cmpI; rw [if_neg (by omega), if_pos h]
    rw [e2, if_pos (by omega)]
    have h3 : V a < i * U := by
      cases hs : sgn a with
      | false =>
        rw [hs] at hTR hV
        simp only [Bool.false_eq_true, if_false] at hTR hV
        have := m ((c : Int) + 1) i (by omega)
        omega
      | true =>
        rw [hs] at hTR hV
        simp only [if_true] at hTR hV
        have := ml _ _ h
        rw [hTR, Int.neg_mul] at this
        omega
    unfold cmpI
    rw [if_neg (by omega), if_pos h3]

theorem mag_inj {a b : Nat} (ha : fin a) (hb : fin b) (h : mag a = mag b) : rg a = rg b := by
  by_cases h0 : rg a = 0
  · have := mag_zero.2 h0
    rw [h] at this
    rw [h0, mag_zero.1 this]
  · have h1 : rg b ≠ 0 := fun e => h0 (mag_zero.1 (h ▸ mag_zero.2 e))
    have e1 := near_fin ha h0 false (ex a)
    have e2 := near_fin hb h1 false (ex b)
    rw [show -1074 + (ex a : Int) - (ex a : Int) = -1074 by omega] at e1
    rw [show -1074 + (ex b : Int) - (ex b : Int) = -1074 by omega] at e2
    have h' : mn a * 2 ^ ex a = mn b * 2 ^ ex b := h
    rw [h', e2] at e1
    exact e1.symm

theorem V_inj {a b : Nat} (ha : fin a) (hb : fin b) (h64 : a < 18446744073709551616) (h64' : b < 18446744073709551616) (na : a ≠ 9223372036854775808) (nb : b ≠ 9223372036854775808) (h : V a = V b) : a = b := by
  have sa := word_split h64
  have sb := word_split h64'
  by_cases h0 : rg a = 0
  · have h1 : rg b = 0 := V_zero.1 (h ▸ V_zero.2 h0)
    rw [h0] at sa
    rw [h1] at sb
    cases hs : sgn a <;> rw [hs] at sa <;> simp at sa <;> cases ht : sgn b <;> rw [ht] at sb <;> simp at sb <;> omega
  · have h1 : rg b ≠ 0 := fun e => h0 (V_zero.1 (h ▸ V_zero.2 e))
    have p1 : 0 < mag a := Nat.pos_of_ne_zero fun e => h0 (mag_zero.1 e)
    have p2 : 0 < mag b := Nat.pos_of_ne_zero fun e => h1 (mag_zero.1 e)
    have hs : sgn a = sgn b ∧ mag a = mag b := by
      unfold V at h
      cases hs : sgn a <;> cases ht : sgn b <;> rw [hs, ht] at h <;> simp at h <;> first | exact ⟨rfl, by omega⟩ | omega
    rw [hs.1, mag_inj ha hb hs.2] at sa
    rw [sa, ← sb]

/-- What a value is held by. -/
def keyV (k i : Int) (a : Nat) (bs : List (BitVec 8)) : Int × Int × Int × List (BitVec 8) :=
  (clsR k, (if k = 1 then i * ((2 ^ UE : Nat) : Int) else if k = 3 then V a else 0), (if k = 1 ∨ k = 3 then k else 0), if k = 2 then bs else [])

def kf := lexC cmpI (lexC cmpI (lexC cmpI tcL))
theorem kf_TO : TO kf := cmpI_TO.lex (cmpI_TO.lex (cmpI_TO.lex tcL_TO))

theorem cmpI_self (x : Int) : cmpI x x = 0 := (cmpI_TO.eq x x).2 rfl

theorem cmpI_mul {x y : Int} : cmpI (x * ((2 ^ UE : Nat) : Int)) (y * ((2 ^ UE : Nat) : Int)) = cmpI x y := by
  have hp : (0 : Int) < ((2 ^ UE : Nat) : Int) := by have := Nat.two_pow_pos UE; omega
  unfold cmpI
  rcases Int.lt_trichotomy x y with h | h | h
  · rw [if_pos h, if_pos (Int.mul_lt_mul_of_pos_right h hp)]
  · subst h; simp
  · have := Int.mul_lt_mul_of_pos_right h hp
    rw [if_neg (by omega), if_pos this, if_neg (by omega), if_pos h]

theorem cmpB_key {k i : Int} {a : Nat} {bs : List (BitVec 8)} {k' i' : Int} {a' : Nat} {bs' : List (BitVec 8)} (hm : mayB k i a bs.length = true) (hm' : mayB k' i' a' bs'.length = true)
    (h1 : -9223372036854775808 ≤ i) (h2 : i < 9223372036854775808) (h1' : -9223372036854775808 ≤ i') (h2' : i' < 9223372036854775808) : cmpB k i a bs k' i' a' bs' = kf (keyV k i a bs) (keyV k' i' a' bs') := by
  have c01 : cmpI 0 1 = -1 := rfl
  have c02 : cmpI 0 2 = -1 := rfl
  have c10 : cmpI 1 0 = 1 := rfl
  have c12 : cmpI 1 2 = -1 := rfl
  have c20 : cmpI 2 0 = 1 := rfl
  have c21 : cmpI 2 1 = 1 := rfl
  have c13 : cmpI 1 3 = -1 := rfl
  have c31 : cmpI 3 1 = 1 := rfl
  have e1 := agI_cmp (i := i) (a := a') h1 h2
  have e2 := agI_cmp (i := i') (a := a) h1' h2'
  have e3 := cmpI_TO.anti (V a) (i' * ((2 ^ UE : Nat) : Int))
  have tn : tcL [] [] = 0 := rfl
  have cm := cmpI_mul (x := i) (y := i')
  unfold cmpB
  rw [hm, hm']
  have kk := may_kind hm
  have kk' := may_kind hm'
  obtain ⟨U, hU⟩ : ∃ U, ((2 ^ UE : Nat) : Int) = U := ⟨_, rfl⟩
  unfold kf keyV lexC
  rw [hU] at e1 e2 e3 cm ⊢
  rcases kk with rfl | rfl | ⟨rfl, -⟩ | ⟨rfl, -⟩ <;> rcases kk' with rfl | rfl | ⟨rfl, -⟩ | ⟨rfl, -⟩ <;> simp [clsR, cmpI_self, c01, c02, c10, c12, c20, c21, c13, c31, e1, e2, e3, tn, cm, Int.neg_eq_zero]
  all_goals (intro h; rw [h])

/-- Two that may be and are alike are the same. -/
theorem key_inj {k i : Int} {a : Nat} {bs : List (BitVec 8)} {k' i' : Int} {a' : Nat} {bs' : List (BitVec 8)} (hm : mayB k i a bs.length = true) (hm' : mayB k' i' a' bs'.length = true)
    (ha : a < 18446744073709551616) (ha' : a' < 18446744073709551616) (h : keyV k i a bs = keyV k' i' a' bs') : k = k' ∧ i = i' ∧ a = a' ∧ bs = bs' := by
  have kk := may_kind hm
  have kk' := may_kind hm'
  have hp : ((2 ^ UE : Nat) : Int) ≠ 0 := by have := Nat.two_pow_pos UE; omega
  obtain ⟨U, hU⟩ : ∃ U, ((2 ^ UE : Nat) : Int) = U := ⟨_, rfl⟩
  unfold keyV at h
  rw [hU] at h hp
  rcases kk with rfl | rfl | ⟨rfl, -⟩ | ⟨rfl, hf⟩ <;> rcases kk' with rfl | rfl | ⟨rfl, -⟩ | ⟨rfl, hf'⟩ <;> simp [clsR] at h <;> simp [mayB] at hm hm'
  · exact ⟨rfl, by omega, by omega, by rw [hm.2, hm'.2]⟩
  · have := (Int.mul_eq_mul_right_iff hp).1 h
    exact ⟨rfl, this, by omega, by rw [hm.2, hm'.2]⟩
  · exact ⟨rfl, by omega, by omega, h⟩
  · have := V_inj hf hf' ha ha' hm.2 hm'.2 h
    exact ⟨rfl, by omega, this, by rw [hm.1.1.2, hm'.1.1.2]⟩

end Go.Ax
