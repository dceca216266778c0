/- Seat bits: what a set that is not there answers; sets of unlike lengths; loads. -/
import Derived.Test.YtpemffaclmpnnaaDoorRD
import Derived.Test.YtpemffaclmpnnaaDoorYM
import Derived.Test.YtpemffaclmpnnaaDoorYP
import Derived.Test.YtpemffaclmpnnaaDoorMX
import Derived.Test.YtpemffaclmpnnaaDoorMT
namespace Go.Ax
open Go.Proofs
set_option linter.unusedVariables false
set_option linter.unusedSimpArgs false
set_option maxRecDepth 100000

abbrev nilP : Value := .pointer none

/-- A set of the program's, or none. -/
def PSet (h : Heap) (v : Value) (p q : Nat) (o : Option (List Bool)) : Prop :=
  match o with
  | none => v = nilP
  | some bs => v = ptr p ∧ ∃ ws, SetAt h p q bs.length ws ∧ Canon bs.length ws ∧ ∀ i, bit ws i = hold bs i

theorem PSet.good {h : Heap} {v : Value} {p q : Nat} {o : Option (List Bool)} (s : PSet h v p q o) : goodC v = true := by
  cases o with
  | none => rw [show v = nilP from s]; rfl
  | some bs => rw [s.1]; rfl

theorem PSet.chg {S : Nat → Prop} {h h' : Heap} {v : Value} {p q : Nat} {o : Option (List Bool)} (s : PSet h v p q o) (g : Chg S h h') (hp : o ≠ none → ¬ S p) (hq : o ≠ none → ¬ S q) : PSet h' v p q o := by
  cases o with
  | none => exact s
  | some bs => obtain ⟨h1, ws, h2, h3⟩ := s; exact ⟨h1, ws, h2.chg g (hp (by simp)) (hq (by simp)), h3⟩

theorem PSet.grow {h h' : Heap} {v : Value} {p q : Nat} {o : Option (List Bool)} (s : PSet h v p q o) (g : Grow h h') : PSet h' v p q o := s.chg g (fun _ => id) (fun _ => id)

theorem nil_both {h : Heap} {a b f : Value} (hab : a = nilP ∨ (∃ p, a = ptr p) ∧ b = nilP) : Gives P T (.fn F_bits_Set_both) [a, b, f] h fun v h' => v = .tuple #[nilP, .int .i64 1] ∧ h' = h := by
  refine gives_by t_bits_Set_both (by simp [c_bits_Set_both]) fun Q hQ => ?_
  rcases hab with rfl | ⟨⟨p, rfl⟩, rfl⟩
  · simp [c_bits_Set_both, skipV]
    exact hQ _ _ ⟨rfl, rfl⟩
  · simp [c_bits_Set_both, ptr]
    exact hQ _ _ ⟨rfl, rfl⟩

theorem size_both {h : Heap} {p q n p' q' n' : Nat} {ws ws' : List (BitVec 64)} {f : Value} (s : SetAt h p q n ws) (s' : SetAt h p' q' n' ws') (hne : n ≠ n') : Gives P T (.fn F_bits_Set_both) [ptr p, ptr p', f] h fun v h' => v = .tuple #[nilP, .int .i64 11] ∧ h' = h := by
  refine gives_by t_bits_Set_both (by simp [c_bits_Set_both]) fun Q hQ => ?_
  obtain ⟨b, c, r1, w1⟩ := s.ex
  obtain ⟨b', c', r1', w1'⟩ := s'.ex
  have hne' : ¬ (n : Int) = n' := by omega
  simp [c_bits_Set_both, ptr, r1.get (i := 0) rfl, r1'.get (i := 0) rfl, hne, hne']
  exact hQ _ _ ⟨rfl, rfl⟩

/-- The law's choice among the four. -/
theorem lboth_err {h : Heap} {k : Nat} (hk : k < 4) {a b : Value} {e : Int} (hb : ∀ f, Gives P T (.fn F_bits_Set_both) [a, b, f] h fun v h' => v = .tuple #[nilP, .int .i64 e] ∧ h' = h) :
    Gives P T (.fn F_colonnadelaw01_both) [.int .i64 k, a, b] h fun v h' => v = .tuple #[nilP, .int .i64 e] ∧ h' = h := by
  have hA : Gives P T (.fn F_bits_Set_And) [a, b] h fun v h' => v = .tuple #[nilP, .int .i64 e] ∧ h' = h := by
    refine gives_by t_bits_Set_And (by simp [c_bits_Set_And]) fun Q hQ => ?_
    simp [c_bits_Set_And]
    refine got_call (hb _) ?_
    rintro _ _ ⟨rfl, rfl⟩
    simp
    exact hQ _ _ ⟨rfl, rfl⟩
  have hO : Gives P T (.fn F_bits_Set_Or) [a, b] h fun v h' => v = .tuple #[nilP, .int .i64 e] ∧ h' = h := by
    refine gives_by t_bits_Set_Or (by simp [c_bits_Set_Or]) fun Q hQ => ?_
    simp [c_bits_Set_Or]
    refine got_call (hb _) ?_
    rintro _ _ ⟨rfl, rfl⟩
    simp
    exact hQ _ _ ⟨rfl, rfl⟩
  have hX : Gives P T (.fn F_bits_Set_Xor) [a, b] h fun v h' => v = .tuple #[nilP, .int .i64 e] ∧ h' = h := by
    refine gives_by t_bits_Set_Xor (by simp [c_bits_Set_Xor]) fun Q hQ => ?_
    simp [c_bits_Set_Xor]
    refine got_call (hb _) ?_
    rintro _ _ ⟨rfl, rfl⟩
    simp
    exact hQ _ _ ⟨rfl, rfl⟩
  have hL : Gives P T (.fn F_bits_Set_Less) [a, b] h fun v h' => v = .tuple #[nilP, .int .i64 e] ∧ h' = h := by
    refine gives_by t_bits_Set_Less (by simp [c_bits_Set_Less]) fun Q hQ => ?_
    simp [c_bits_Set_Less]
    refine got_call (hb _) ?_
    rintro _ _ ⟨rfl, rfl⟩
    simp
    exact hQ _ _ ⟨rfl, rfl⟩
  refine gives_by t_colonnadelaw01_both (by simp [c_colonnadelaw01_both]) fun Q hQ => ?_
  have hk' : k = 0 ∨ k = 1 ∨ k = 2 ∨ k = 3 := by omega
  rcases hk' with rfl | rfl | rfl | rfl
  · simp [c_colonnadelaw01_both]
    refine got_call hA ?_
    rintro _ _ ⟨rfl, rfl⟩
    simp
    exact hQ _ _ ⟨rfl, rfl⟩
  · simp [c_colonnadelaw01_both]
    refine got_call hO ?_
    rintro _ _ ⟨rfl, rfl⟩
    simp
    exact hQ _ _ ⟨rfl, rfl⟩
  · simp [c_colonnadelaw01_both]
    refine got_call hX ?_
    rintro _ _ ⟨rfl, rfl⟩
    simp
    exact hQ _ _ ⟨rfl, rfl⟩
  · simp [c_colonnadelaw01_both]
    refine got_call hL ?_
    rintro _ _ ⟨rfl, rfl⟩
    simp
    exact hQ _ _ ⟨rfl, rfl⟩

theorem lboth_ok {h : Heap} {k : Nat} (hk : k < 4) {p q p' q' n : Nat} {ws ws' : List (BitVec 64)} (s : SetAt h p q n ws) (s' : SetAt h p' q' n ws') (c : Canon n ws) (c' : Canon n ws') :
    Gives P T (.fn F_colonnadelaw01_both) [.int .i64 k, ptr p, ptr p'] h fun v h' => ∃ p2 q2 ws2, v = .tuple #[ptr p2, .int .i64 0] ∧ SetAt h' p2 q2 n ws2 ∧ Canon n ws2 ∧ (∀ i, bit ws2 i = opB k (bit ws i) (bit ws' i)) ∧ Grow h h' ∧ h.dyn.length ≤ p2 ∧ h.dyn.length ≤ q2 := by
  refine gives_by t_colonnadelaw01_both (by simp [c_colonnadelaw01_both]) fun Q hQ => ?_
  have hk' : k = 0 ∨ k = 1 ∨ k = 2 ∨ k = 3 := by omega
  rcases hk' with rfl | rfl | rfl | rfl
  · simp [c_colonnadelaw01_both]
    refine got_call (And_spec s s' c c') ?_
    rintro _ h' ⟨p2, q2, ws2, rfl, s2, c2, hb, g, f1, f2⟩
    simp
    exact hQ _ _ ⟨p2, q2, ws2, rfl, s2, c2, fun i => by rw [hb]; rfl, g, f1, f2⟩
  · simp [c_colonnadelaw01_both]
    refine got_call (Or_spec s s' c c') ?_
    rintro _ h' ⟨p2, q2, ws2, rfl, s2, c2, hb, g, f1, f2⟩
    simp
    exact hQ _ _ ⟨p2, q2, ws2, rfl, s2, c2, fun i => by rw [hb]; rfl, g, f1, f2⟩
  · simp [c_colonnadelaw01_both]
    refine got_call (Xor_spec s s' c c') ?_
    rintro _ h' ⟨p2, q2, ws2, rfl, s2, c2, hb, g, f1, f2⟩
    simp
    exact hQ _ _ ⟨p2, q2, ws2, rfl, s2, c2, fun i => by rw [hb]; rfl, g, f1, f2⟩
  · simp [c_colonnadelaw01_both]
    refine got_call (Less_spec s s' c c') ?_
    rintro _ h' ⟨p2, q2, ws2, rfl, s2, c2, hb, g, f1, f2⟩
    simp
    exact hQ _ _ ⟨p2, q2, ws2, rfl, s2, c2, fun i => by rw [hb]; rfl, g, f1, f2⟩

theorem new_bad {h : Heap} {n : Int} (hn : n < 0 ∨ 16777216 < n) : Gives P T (.fn F_bits_New) [.int .i64 n] h fun v h' => v = nilP ∧ h' = h := by
  refine gives_by t_bits_New (by simp [c_bits_New]) fun Q hQ => ?_
  by_cases h0 : n < 0
  · simp [c_bits_New, h0, skipV]
    exact hQ _ _ ⟨rfl, rfl⟩
  · have h1 : 16777216 < n := by omega
    simp [c_bits_New, h0, h1]
    exact hQ _ _ ⟨rfl, rfl⟩

theorem words_nil {h : Heap} : Gives P T (.fn F_bits_Set_Words) [nilP] h fun v h' => v = nilS ∧ h' = h := by
  refine gives_by t_bits_Set_Words (by simp [c_bits_Set_Words]) fun Q hQ => ?_
  simp [c_bits_Set_Words]
  exact hQ _ _ ⟨rfl, rfl⟩

theorem clone_nil {h : Heap} : Gives P T (.fn F_bits_Set_Clone) [nilP] h fun v h' => v = nilP ∧ h' = h := by
  refine gives_by t_bits_Set_Clone (by simp [c_bits_Set_Clone]) fun Q hQ => ?_
  simp [c_bits_Set_Clone]
  exact hQ _ _ ⟨rfl, rfl⟩

theorem not_nil {h : Heap} : Gives P T (.fn F_bits_Set_Not) [nilP] h fun v h' => v = nilP ∧ h' = h := by
  refine gives_by t_bits_Set_Not (by simp [c_bits_Set_Not]) fun Q hQ => ?_
  simp [c_bits_Set_Not]
  refine got_call clone_nil ?_
  rintro _ _ ⟨rfl, rfl⟩
  simp
  exact hQ _ _ ⟨rfl, rfl⟩

theorem slice_nil {h : Heap} {f t : Int} : Gives P T (.fn F_bits_Set_Slice) [nilP, .int .i64 f, .int .i64 t] h fun v h' => v = nilP ∧ h' = h := by
  refine gives_by t_bits_Set_Slice (by simp [c_bits_Set_Slice]) fun Q hQ => ?_
  simp [c_bits_Set_Slice]
  exact hQ _ _ ⟨rfl, rfl⟩

theorem select_nil {h : Heap} {k : Int} : Gives P T (.fn F_bits_Set_Select) [nilP, .int .i64 k] h fun v h' => v = .tuple #[.int .i64 0, .bool false] ∧ h' = h := by
  refine gives_by t_bits_Set_Select (by simp [c_bits_Set_Select]) fun Q hQ => ?_
  simp [c_bits_Set_Select, skipV]
  exact hQ _ _ ⟨rfl, rfl⟩

theorem get_nil {h : Heap} {k : Int} : Gives P T (.fn F_bits_Set_Get) [nilP, .int .i64 k] h fun v h' => v = .bool false ∧ h' = h := by
  refine gives_by t_bits_Set_Get (by simp [c_bits_Set_Get]) fun Q hQ => ?_
  by_cases h0 : 0 ≤ k
  · have h1 : ¬ k < 0 := by omega
    simp [c_bits_Set_Get, h0]
    refine got_call len_nil ?_
    rintro _ _ ⟨rfl, rfl⟩
    simp [h1, skipV]
    exact hQ _ _ ⟨rfl, rfl⟩
  · simp [c_bits_Set_Get, h0, skipV]
    exact hQ _ _ ⟨rfl, rfl⟩

theorem rank_nil {h : Heap} {k : Int} : Gives P T (.fn F_bits_Set_Rank) [nilP, .int .i64 k] h fun v h' => v = .int .i64 0 ∧ h' = h := by
  refine gives_by t_bits_Set_Rank (by simp [c_bits_Set_Rank]) fun Q hQ => ?_
  have e0 : min (max k 0) 0 = 0 := by omega
  simp [c_bits_Set_Rank]
  refine got_call len_nil ?_
  rintro _ _ ⟨rfl, rfl⟩
  rename_i h
  have w0 : IntKind.i64.wrap 0 = 0 := rfl
  simp [e0, w0]
  refine go_loopK (fun kk ks h2 => kk = 0 ∧ ks = [(0, nilP), (1, .int .i64 0), (5, .int .i64 0), (13, .int .i64 0), (14, .int .i64 0)] ∧ h2 = h) (n := 0) ⟨rfl, rfl, rfl⟩ (by simp [w0]) ?_
  rintro I hI kk ks e h2 ⟨rfl, rfl, rfl⟩
  simp [w0]
  exact hQ _ _ ⟨rfl, rfl⟩

theorem count_nil {h : Heap} : Gives P T (.fn F_bits_Set_Count) [nilP] h fun v h' => v = .int .i64 0 ∧ h' = h := by
  refine gives_by t_bits_Set_Count (by simp [c_bits_Set_Count]) fun Q hQ => ?_
  simp [c_bits_Set_Count]
  refine got_call len_nil ?_
  rintro _ _ ⟨rfl, rfl⟩
  simp
  refine got_call rank_nil ?_
  rintro _ _ ⟨rfl, rfl⟩
  simp
  exact hQ _ _ ⟨rfl, rfl⟩

end Go.Ax

namespace Go.Ax
open Go.Proofs
set_option linter.unusedVariables false
set_option linter.unusedSimpArgs false
set_option maxRecDepth 100000

theorem wv_good (ws : List (BitVec 64)) : (ws.map wv).all goodC = true := by simp [List.all_map, wv, goodC]

theorem app_wordsR {h : Heap} {a0 : Addr} {v : Value} {ws : List (BitVec 64)} (r : Reads h v (ws.map wv)) (hl : ws.length ≤ 16777216) (h0 : ws ≠ []) :
    aappend h 1 8 [.int .u64 0] (.slice (some a0) 0 0) v = some (.slice (some ⟨h.dyn.length, 0, some 0⟩) ws.length gcap, hnew h (ws.map wv) 1) := by
  have hp : 0 < ws.length := List.length_pos_iff.2 h0
  obtain ⟨f1, f2⟩ := r.first
  rw [List.length_map] at f1 f2
  simp only [aappend, f1, f2]
  rw [if_neg (by omega), if_neg (by rw [wv_good]; simp), if_pos (by unfold gcap; omega), if_neg (by omega)]
  simp only [Nat.zero_mul, loadN, appNew, List.nil_append]
  rw [if_pos (by omega)]
  simp

theorem clone_reads {h : Heap} {v : Value} {ws : List (BitVec 64)} (r : Reads h v (ws.map wv)) (hl : ws.length ≤ 16777216) :
    Gives P T (.fn F_slices_Clone_uint64_uint64) [v] h fun v h' => ∃ b' c' q', v = .slice b' ws.length c' ∧ Words h' b' c' q' ws ∧ Grow h h' ∧ h.dyn.length ≤ q' := by
  refine gives_by t_slices_Clone_uint64_uint64 (by simp [c_slices_Clone_uint64_uint64]) fun Q hQ => ?_
  rcases r with ⟨rfl, e⟩ | ⟨a, c, rfl, hr⟩
  · have : ws = [] := by simpa using e
    subst this
    simp [c_slices_Clone_uint64_uint64]
    exact hQ _ _ ⟨none, 0, h.dyn.length, rfl, .inl ⟨rfl, rfl, rfl⟩, Chg.refl _, Nat.le_refl _⟩
  · have r0 : Reads h (.slice (some a) (ws.map wv).length c) (ws.map wv) := .inr ⟨a, c, rfl, hr⟩
    simp only [List.length_map] at r0 ⊢
    by_cases h0 : ws = []
    · subst h0
      simp [c_slices_Clone_uint64_uint64, aappend, slen, firstN, loadN]
      exact hQ _ _ ⟨_, _, h.dyn.length, rfl, .inr ⟨0, rfl, RowAt.new _ _ _, by simp, by unfold gcap; omega⟩, Grow.new _ _ _, Nat.le_refl _⟩
    · have e := app_wordsR (a0 := ⟨h.dyn.length, 0, some 0⟩) (r0.grow (Grow.new h [] 1)) hl h0
      simp [c_slices_Clone_uint64_uint64, e]
      exact hQ _ _ ⟨some ⟨h.dyn.length + 1, 0, some 0⟩, gcap, h.dyn.length + 1, rfl, .inr ⟨0, rfl, by simpa using RowAt.new (hnew h [] 1) (ws.map wv) 1, by unfold gcap; omega, Nat.le_refl _⟩, (Grow.new _ _ _).trans (Grow.new _ _ _), by omega⟩

/-- Do words have nothing beyond n? -/
def tight (n : Nat) (ws : List (BitVec 64)) : Bool := decide (n % 64 = 0) || decide (word ws (ws.length - 1) >>> (n % 64) = 0#64)

theorem tight_iff {n : Nat} {ws : List (BitVec 64)} (hl : ws.length = (n + 63) / 64) : tight n ws = true ↔ ∀ i, n ≤ i → bit ws i = false := by
  unfold tight
  simp only [Bool.or_eq_true, decide_eq_true_eq]
  constructor
  · intro h i hi
    unfold bit
    by_cases ho : ws.length ≤ i / 64
    · rw [word_out ho]; simp
    · have hlast : i / 64 = ws.length - 1 := by omega
      rcases h with h | h
      · omega
      · rw [hlast]
        have := congrArg (fun y => y.getLsbD (i % 64 - n % 64)) h
        simp only [BitVec.getLsbD_ushiftRight, BitVec.getLsbD_zero] at this
        rw [show n % 64 + (i % 64 - n % 64) = i % 64 by omega] at this
        exact this
  · intro h
    by_cases h0 : n % 64 = 0
    · exact .inl h0
    · refine .inr ?_
      apply BitVec.eq_of_getLsbD_eq
      intro j hj
      rw [BitVec.getLsbD_ushiftRight, BitVec.getLsbD_zero]
      by_cases hj2 : n % 64 + j < 64
      · have := h (64 * (ws.length - 1) + (n % 64 + j)) (by omega)
        rw [← word_bit _ _ _ hj2] at this
        exact this
      · exact BitVec.getLsbD_of_ge _ _ (by omega)

/-- What a load answers: 0, or the error. -/
def loadE (n : Int) (ws : List (BitVec 64)) : Int :=
  if n < 0 ∨ 16777216 < n then 2 else if (ws.length : Int) ≠ (n + 63) / 64 then 11 else if tight n.toNat ws then 0 else 10

theorem pLoad {h : Heap} {v : Value} {n : Int} {ws : List (BitVec 64)} (r : Reads h v (ws.map wv)) (hw : ws.length ≤ 1000000000000) :
    Gives P T (.fn F_bits_Load) [.int .i64 n, v] h fun u h' => (if loadE n ws = 0 then ∃ p2 q2, u = .tuple #[ptr p2, .int .i64 0] ∧ SetAt h' p2 q2 n.toNat ws ∧ h.dyn.length ≤ p2 ∧ h.dyn.length ≤ q2 else u = .tuple #[nilP, .int .i64 (loadE n ws)]) ∧ Grow h h' := by
  refine gives_by t_bits_Load (by simp [c_bits_Load]) fun Q hQ => ?_
  by_cases h0 : n < 0
  · have e : loadE n ws = 2 := by unfold loadE; rw [if_pos (.inl h0)]
    rw [e] at hQ
    simp [c_bits_Load, h0, skipV]
    exact hQ _ _ ⟨by simp, Chg.refl _⟩
  by_cases h1 : 16777216 < n
  · have e : loadE n ws = 2 := by unfold loadE; rw [if_pos (.inr h1)]
    rw [e] at hQ
    simp [c_bits_Load, h0, h1]
    exact hQ _ _ ⟨by simp, Chg.refl _⟩
  obtain ⟨m, rfl⟩ : ∃ m : Nat, n = m := ⟨n.toNat, by omega⟩
  have h1' : ¬ 16777216 < m := by omega
  have hv := r.first
  obtain ⟨bb, c, rfl, hsh⟩ := r.shape
  clear hsh
  simp only [List.length_map] at r hv ⊢
  simp [c_bits_Load, h0, h1, h1']
  refine got_call (words_spec (by omega)) ?_
  rintro _ _ ⟨rfl, rfl⟩
  rename_i h
  obtain ⟨L, hL⟩ : ∃ L, (m + 63) / 64 = L := ⟨_, rfl⟩
  rw [hL]
  by_cases hlen : ws.length = L
  · have hte : loadE (m : Nat) ws = if tight m ws then 0 else 10 := by
      unfold loadE
      rw [if_neg (by omega), if_neg (by omega)]; simp
    have e1 := tmod_nat m 64
    obtain ⟨k, hk⟩ : ∃ k, m % 64 = k := ⟨_, rfl⟩
    rw [hk] at e1
    simp only [Int.cast_ofNat_Int] at e1
    have done : ∀ (b' : Option Addr) (c' q' : Nat) (h' : Heap), Words h' b' c' q' ws → Grow h h' → h.dyn.length ≤ q' → SetAt (hnew h' [.int .i64 m, .slice b' L c'] 0) h'.dyn.length q' m ws := fun b' c' q' h' w' g hq =>
      ⟨⟨b', c', by rw [hlen]; exact RowAt.new _ _ _, w'.chg (Grow.new _ _ _) id⟩, fun h0 => by have := w'.le.resolve_left h0; omega⟩
    by_cases hk0 : k = 0
    · subst hk0
      have ht : tight m ws = true := by unfold tight; rw [hk]; simp
      have e : loadE (m : Nat) ws = 0 := by rw [hte, ht]; rfl
      simp only [e, ↓reduceIte, Int.toNat_natCast] at hQ
      simp [hlen, e1, skipV]
      refine got_call (by have := clone_reads r (by omega); rw [hlen] at this; exact this) ?_
      rintro _ h' ⟨b', c', q', rfl, w', g, hq⟩
      simp
      exact hQ _ _ ⟨⟨h'.dyn.length, q', rfl, by simpa using done b' c' q' h' w' g hq, g.len, hq⟩, g.trans (Grow.new _ _ _)⟩
    · obtain ⟨L1, hL1⟩ : ∃ L1, L = L1 + 1 := ⟨L - 1, by omega⟩
      have hkp : 0 < k := by omega
      have i3 : L1 < ws.length := by omega
      have i4 : L1 < L := by omega
      have z1 : IntKind.i64.wrap ((L : Int) - 1) = (L1 : Int) := by rw [wrap_i64 (by omega) (by omega)]; omega
      obtain ⟨_, _, ev, kk⟩ := r.shape
      simp only [List.length_map, Value.slice.injEq] at ev kk
      obtain ⟨rfl, -, rfl⟩ := ev
      obtain ⟨a, rfl, hla⟩ := kk L1 i3
      have ld := hla L1 _ (wv_getA i3)
      by_cases ht : tight m ws = true
      · have e : loadE (m : Nat) ws = 0 := by rw [hte, ht]; rfl
        simp only [e, ↓reduceIte, Int.toNat_natCast] at hQ
        have hz : word ws L1 >>> k = 0#64 := by
          unfold tight at ht
          rw [hk, hlen, show L - 1 = L1 by omega] at ht
          simpa [hk0] using ht
        simp [hlen, e1, hk0, hkp, i4, z1, ld, hz]
        refine got_call (by have := clone_reads r (by omega); rw [hlen] at this; exact this) ?_
        rintro _ h' ⟨b', c', q', rfl, w', g, hq⟩
        simp
        exact hQ _ _ ⟨⟨h'.dyn.length, q', rfl, by simpa using done b' c' q' h' w' g hq, g.len, hq⟩, g.trans (Grow.new _ _ _)⟩
      · have e : loadE (m : Nat) ws = 10 := by rw [hte, if_neg ht]
        simp only [e] at hQ
        have hz : ¬ word ws L1 >>> k = 0#64 := by
          intro e
          apply ht
          unfold tight
          rw [hk, hlen, show L - 1 = L1 by omega, e]; simp
        simp [hlen, e1, hk0, hkp, i4, z1, ld, hz]
        exact hQ _ _ ⟨rfl, Chg.refl _⟩
  · have e : loadE (m : Nat) ws = 11 := by
      unfold loadE
      rw [if_neg (by omega), if_pos (by omega)]
    rw [e] at hQ
    have hlen' : ¬ (ws.length : Int) = L := by omega
    simp [hlen, hlen']
    exact hQ _ _ ⟨by simp, Chg.refl _⟩

end Go.Ax

namespace Go.Ax
open Go.Proofs
set_option linter.unusedVariables false
set_option linter.unusedSimpArgs false
set_option maxRecDepth 100000

theorem not_tight {n : Nat} {ws : List (BitVec 64)} (hl : ws.length = (n + 63) / 64) {i : Nat} (hi : n ≤ i) (hb : bit ws i = true) : tight n ws = false := by
  cases h : tight n ws with
  | false => rfl
  | true => rw [(tight_iff hl).1 h i hi] at hb; cases hb

theorem rLoad {h : Heap} {v : Value} {n : Int} {ws : List (BitVec 64)} (r : Reads h v (ws.map wv)) (hw : ws.length ≤ 1000000000000) :
    Gives P T (.fn F_colonnaderef01_Load) [.int .i64 n, v] h fun u h' => (if loadE n ws = 0 then ∃ hv q bs, u = .tuple #[rv true hv, .int .i64 0] ∧ bs.length = n.toNat ∧ (∀ j, hold bs j = bit ws j) ∧ Own h' hv q (bs.map .bool) ∧ h.dyn.length ≤ q ∧ (hv ≠ nilS → q < h'.dyn.length) else u = .tuple #[rv false nilS, .int .i64 (loadE n ws)]) ∧ Grow h h' := by
  refine gives_by t_colonnaderef01_Load (by simp [c_colonnaderef01_Load]) fun Q hQ => ?_
  have r0 := RowAt.new h [.bool false, .slice none 0 0] 0
  have g0 := Grow.new h [.bool false, .slice none 0 0] 0
  obtain ⟨F, hF⟩ : ∃ G, hnew h [.bool false, .slice none 0 0] 0 = G := ⟨_, rfl⟩
  have hFl : F.dyn.length = h.dyn.length + 1 := by rw [← hF]; simp
  rw [hF] at r0 g0
  have err : ∀ (J : Heap), Grow F J → ∃ h3, storeN J ⟨h.dyn.length, 0, some 0⟩ [.bool false, .slice none 0 0] = some h3 ∧ loadN h3 ⟨h.dyn.length, 0, some 0⟩ 2 = some [.bool false, .slice none 0 0] ∧ Grow h h3 := fun J gJ => by
    obtain ⟨h3, e3, _, l3, g3, _, _⟩ := row2 rfl (r0.grow gJ) (g0.trans gJ) (Nat.le_refl _) (x := .bool false) (y := .slice none 0 0) (by simp) (by simp)
    exact ⟨h3, e3, l3, g3⟩
  by_cases h0 : n < 0
  · have e : loadE n ws = 2 := by unfold loadE; rw [if_pos (.inl h0)]
    simp only [e] at hQ
    obtain ⟨h3, e3, l3, g3⟩ := err F (Chg.refl _)
    simp [c_colonnaderef01_Load, h0, skipV, hF, e3]
    exact ⟨_, res_cell3 (by decide) (by simp) l3 (by decide), hQ _ _ ⟨by simp [oneOf, nilS], g3⟩⟩
  by_cases h1 : 16777216 < n
  · have e : loadE n ws = 2 := by unfold loadE; rw [if_pos (.inr h1)]
    simp only [e] at hQ
    obtain ⟨h3, e3, l3, g3⟩ := err F (Chg.refl _)
    simp [c_colonnaderef01_Load, h0, h1, hF, e3]
    exact ⟨_, res_cell3 (by decide) (by simp) l3 (by decide), hQ _ _ ⟨by simp [oneOf, nilS], g3⟩⟩
  obtain ⟨m, rfl⟩ : ∃ m : Nat, n = m := ⟨n.toNat, by omega⟩
  have h1' : ¬ 16777216 < m := by omega
  obtain ⟨bb, c, rfl, hsh⟩ := r.shape
  clear hsh
  simp only [List.length_map] at r ⊢
  obtain ⟨L, hL⟩ : ∃ L, (m + 63) / 64 = L := ⟨_, rfl⟩
  have w1 : IntKind.i64.wrap ((m : Int) + 63) = ((m + 63 : Nat) : Int) := by rw [wrap_i64 (by omega) (by omega)]; omega
  have w2 := tdiv_nat (m + 63) 64
  rw [hL] at w2
  simp only [Int.cast_ofNat_Int] at w2
  have w2' : ((m : Int) + 63).tdiv 64 = (L : Int) := by rw [← w2]; congr 1
  have w3 : IntKind.i64.wrap (L : Int) = L := wrap_i64 (by omega) (by omega)
  by_cases hlen : ¬ ws.length = L
  · have e : loadE (m : Nat) ws = 11 := by
      unfold loadE
      rw [if_neg (by omega), if_pos (by omega)]
    simp only [e] at hQ
    have hlen' : ¬ (ws.length : Int) = L := by omega
    obtain ⟨h3, e3, l3, g3⟩ := err F (Chg.refl _)
    simp [c_colonnaderef01_Load, h0, h1, h1', hF, w1, w2, w2', w3, hlen, hlen', e3]
    exact ⟨_, res_cell3 (by decide) (by simp) l3 (by decide), hQ _ _ ⟨by simp [oneOf, nilS], g3⟩⟩
  replace hlen : ws.length = L := by omega
  have hlen2 : ws.length = (m + 63) / 64 := by omega
  have hte : loadE (m : Nat) ws = if tight m ws then 0 else 10 := by
    unfold loadE
    rw [if_neg (by omega), if_neg (by omega)]; simp
  simp [c_colonnaderef01_Load, h0, h1, h1', hF, w1, w2, w2', w3, hlen]
  refine got_call (rNew_ok (by omega)) ?_
  rintro _ J ⟨hw', q, rfl, o, gJ, hq, hq2⟩
  obtain ⟨K, eK, rK, lK, gK, cK, nK⟩ := row2 rfl (RowAt.new J [.bool false, .slice none 0 0] 0) (Grow.new J [.bool false, .slice none 0 0] 0) (Nat.le_refl _) (x := .bool true) (y := hw') (by simp) o.good
  have oK := o.grow gK
  have hKl : K.dyn.length = J.dyn.length + 1 := by rw [nK]; simp
  obtain ⟨cw, cc, ew, _⟩ := o.reads.shape
  rw [List.length_map, List.length_replicate] at ew
  have rK' : RowAt K J.dyn.length 0 0 [.bool true, .slice cw m cc] := by rw [← ew]; exact rK
  have gJl := gJ.len
  have w4 : IntKind.i64.wrap (64 * (L : Int)) = ((64 * L : Nat) : Int) := by rw [wrap_i64 (by omega) (by omega)]; omega
  simp [eK]
  refine go_loopK (fun kk ks h2 => ∃ (i : Nat) (B : List Bool), kk = 64 * L - i ∧ i ≤ 64 * L ∧ ks = [(0, .int .i64 m), (1, .slice bb L c), (4, .pointer (some ⟨h.dyn.length, 0, some 0⟩)), (6, .pointer (some ⟨J.dyn.length, 0, some 0⟩)), (7, .int .i64 i)] ∧
      B.length = m ∧ (∀ j, hold B j = (decide (j < i) && bit ws j)) ∧ Own h2 hw' q (B.map .bool) ∧ RowAt h2 J.dyn.length 0 0 [.bool true, .slice cw m cc] ∧ Grow F h2 ∧ h2.dyn.length = K.dyn.length) (n := 64 * L)
    ⟨0, List.replicate m false, rfl, by omega, rfl, by simp, fun j => by unfold hold; rw [List.getD_eq_getElem?_getD, List.getElem?_replicate]; split <;> simp, oK, rK', gJ.trans gK, rfl⟩ (by simp [hlen]) ?_
  rintro I hI kk ks e h2 ⟨i, B, rfl, hi, rfl, hB, hb, o2, rw2, gg, n2⟩
  have z1 := rw2.get (i := 1) rfl
  have z2 := loadN_row_all rw2 (n := 2) rfl
  simp [w4]
  refine branch_dec (fun hlt => ?_) (fun hge => ?_)
  · have i3 : i / 64 < ws.length := by omega
    obtain ⟨k, hk⟩ : ∃ k, i % 64 = k := ⟨_, rfl⟩
    obtain ⟨d, hd⟩ : ∃ d, i / 64 = d := ⟨_, rfl⟩
    have f1 := tmod_nat i 64
    have f2 := tdiv_nat i 64
    rw [hk] at f1
    rw [hd] at f2 i3
    simp only [Int.cast_ofNat_Int] at f1 f2
    have f3 : IntKind.i64.wrap (d : Int) = d := wrap_i64 (by omega) (by omega)
    have f4 : IntKind.u64.wrap (k : Int) = k := wrap_u64 (by omega) (by omega)
    have i4 : d < L := by omega
    have hw1 : IntKind.i64.wrap ((i : Int) + 1) = ((i + 1 : Nat) : Int) := by rw [wrap_i64 (by omega) (by omega)]; omega
    obtain ⟨_, _, ev, kx⟩ := ((r.grow g0).grow gg).shape
    simp only [List.length_map, Value.slice.injEq] at ev kx
    obtain ⟨rfl, -, rfl⟩ := ev
    obtain ⟨a, rfl, hla⟩ := kx d i3
    have ld := hla d _ (wv_getA i3)
    have hbit : (word ws d).getLsbD k = bit ws i := by unfold bit; rw [hk, hd]
    have hao := and_one (word ws d) k
    rw [hbit] at hao
    cases hbv : bit ws i with
    | false =>
      have hao' : ¬ (word ws d >>> k &&& 1#64 = 1#64) := fun e => by have := hao.1 e; rw [hbv] at this; cases this
      simp [hlt, f1, f2, f3, f4, i4, ld, hao', hw1]
      exact ⟨64 * L - (i + 1), by omega, hI _ _ _ _ ⟨i + 1, B, rfl, by omega, rfl, hB, fun j => by
        rw [hb]
        by_cases hj : j = i
        · subst hj; rw [hbv]; simp
        · rw [dec_succ hj], o2, rw2, gg, n2⟩ (by simp)⟩
    | true =>
      have hao' : word ws d >>> k &&& 1#64 = 1#64 := hao.2 hbv
      by_cases hin : m ≤ i
      · have e : loadE (m : Nat) ws = 10 := by rw [hte, not_tight hlen2 hin hbv]; rfl
        simp only [e] at hQ
        have hin' : (m : Int) ≤ i := by omega
        obtain ⟨h3, e3, l3, g3⟩ := err h2 gg
        simp [hlt, f1, f2, f3, f4, i4, ld, hao', hin, hin', e3]
        exact ⟨_, res_cell3 (by decide) (by simp) l3 (by decide), hQ _ _ ⟨by simp [oneOf, nilS], g3⟩⟩
      · have hin' : ¬ (m : Int) ≤ i := by omega
        have him : i < m := by omega
        obtain ⟨u, c4, h4, e4', e4, o4, c4', n4⟩ := o2.set (i := i) (by simpa [hB] using him) (x := .bool true) (by simp)
        rw [set_map] at o4
        rw [List.length_map, hB, ew] at e4'
        simp only [Value.slice.injEq] at e4'
        obtain ⟨e5, -, -⟩ := e4'
        subst e5
        simp [hlt, f1, f2, f3, f4, i4, ld, hao', hin, hin', z1, him, e4, hw1]
        exact ⟨64 * L - (i + 1), by omega, hI _ _ _ _ ⟨i + 1, B.set i true, rfl, by omega, rfl, by simpa using hB, fun j => by
          rw [hold_set (by omega), hb]
          by_cases hj : j = i
          · subst hj; rw [hbv]; simp
          · rw [if_neg hj, dec_succ hj], o4, rw2.chg c4' (by omega), gg.after c4' fun b hb e => by omega, by omega⟩ (by simp)⟩
  · have hiL : i = 64 * L := by omega
    have hbe : ∀ j, hold B j = bit ws j := fun j => by
      rw [hb]
      by_cases hj : j < i
      · simp [hj]
      · have : bit ws j = false := by unfold bit; rw [word_out (by omega)]; simp
        simp [this]
    have ht : tight m ws = true := (tight_iff hlen2).2 fun j hj => by rw [← hbe, hold_out (by omega)]
    have e : loadE (m : Nat) ws = 0 := by rw [hte, ht]; rfl
    simp only [e, ↓reduceIte, Int.toNat_natCast] at hQ
    obtain ⟨h3, e3, r5, l6, g3, c3, n3⟩ := row2 rfl (r0.grow gg) (g0.trans gg) (Nat.le_refl _) (x := .bool true) (y := .slice cw m cc) (by simp) (by simp)
    simp [z2, e3]
    exact ⟨_, res_cell3 (by decide) (by simp) l6 (by decide), hQ _ _ ⟨⟨_, q, B, by simp [oneOf, ew], hB, hbe, o2.chg c3 (by omega), by omega, fun e => by omega⟩, g3⟩⟩

end Go.Ax

namespace Go.Ax
open Go.Proofs
set_option linter.unusedVariables false
set_option linter.unusedSimpArgs false
set_option maxRecDepth 100000

/-- The marks behind what is lent. -/
def mk20 (n : Nat) : List (BitVec 64) := (List.range n).map fun i => BitVec.ofNat 64 (77 + i)
theorem mk20_len (n : Nat) : (mk20 n).length = n := by simp [mk20]
theorem mk20_succ (n : Nat) : mk20 (n + 1) = mk20 n ++ [BitVec.ofNat 64 (77 + n)] := by simp [mk20, List.range_succ]
theorem mk20_get {n i : Nat} (h : i < n) : (mk20 n)[i]? = some (BitVec.ofNat 64 (77 + i)) := by
  unfold mk20
  rw [List.getElem?_map, List.getElem?_range h]; rfl
theorem wi_small {k : Nat} (h : k < 18446744073709551616) : wi (BitVec.ofNat 64 k) = k := by
  unfold wi; rw [BitVec.toNat_ofNat, Nat.mod_eq_of_lt h]

theorem lentW {h : Heap} {v : Value} {ws : List (BitVec 64)} (r : Reads h v (ws.map wv)) (hl : ws.length ≤ 2000000) :
    Gives P T (.fn F_colonnadelaw01_lentWords) [v] h fun u h' => ∃ q, Room h' u q (ws.map wv) ((mk20 20).map wv) ∧ Grow h h' ∧ h.dyn.length ≤ q := by
  obtain ⟨b, c, ev, _⟩ := r.shape
  simp only [List.length_map] at ev
  refine gives_by t_colonnadelaw01_lentWords (by simp [c_colonnadelaw01_lentWords]) fun Q hQ => ?_
  obtain ⟨v1, h1, q1, e1, o1, g1, hq1, t1⟩ : ∃ v1 h1 q1, aappend h 1 8 [.int .u64 0] (.slice none 0 0) v = some (v1, h1) ∧ Own h1 v1 q1 (ws.map wv) ∧ Grow h h1 ∧ h.dyn.length ≤ q1 ∧ TopS v1 := by
    obtain ⟨f1, f2⟩ := r.first
    by_cases h0 : ws = []
    · subst h0
      exact ⟨.slice none 0 0, h, h.dyn.length, (Own.nil h 0).app0 (by simp) f1 f2, .inl ⟨rfl, rfl⟩, Chg.refl _, Nat.le_refl _, fun b n c e => by cases e; exact .inl rfl⟩
    · obtain ⟨v', h', q', e, o, cg, l, d⟩ := (Own.nil h 0).app (bytes := 8) (z := .int .u64 0) (x := v) (m := ws.map wv) (by simpa using h0) f1 f2 (wv_good ws) (by simp; omega) (by simp; omega)
      obtain ⟨b, m, et⟩ := aappend_top e f1 (by simpa using h0) (fun b n c e => by cases e; exact .inl rfl)
      refine ⟨v', h', q', e, o, cg.mono fun b hb e => absurd rfl e.2, ?_, et ▸ TopS.full⟩
      rcases d with ⟨_, d⟩ | d
      · exact absurd rfl d
      · omega
  simp [c_colonnadelaw01_lentWords, e1]
  refine go_loopK (fun kk ks h2 => ∃ (k : Nat) (u : Value) (q : Nat), kk = 20 - k ∧ k ≤ 20 ∧ ks = [(0, v), (3, u), (4, .int .i64 k)] ∧ Own h2 u q ((ws ++ mk20 k).map wv) ∧ Grow h h2 ∧ h.dyn.length ≤ q ∧ TopS u ∧ (k ≠ 0 → ∃ b n, u = .slice b n gcap)) (n := 20)
    ⟨0, v1, q1, rfl, by omega, rfl, by simpa [mk20] using o1, g1, hq1, t1, fun h => absurd rfl h⟩ (by simp) ?_
  rintro I hI kk ks e h3 ⟨k, u, q, rfl, hk, rfl, ow, gg, hq, ht, htop⟩
  simp
  by_cases hlt : k < 20
  · have hlt' : (k : Int) < 20 := by omega
    have f1 : IntKind.i64.wrap (77 + (k : Int)) = ((77 + k : Nat) : Int) := by rw [wrap_i64 (by omega) (by omega)]; omega
    have f2 : IntKind.u64.wrap ((77 + k : Nat) : Int) = wi (BitVec.ofNat 64 (77 + k)) := by rw [wi_small (by omega), wrap_u64 (by omega) (by omega)]
    obtain ⟨x, hx⟩ : ∃ x, BitVec.ofNat 64 (77 + k) = x := ⟨_, rfl⟩
    obtain ⟨n77, hn77⟩ : ∃ x, 77 + k = x := ⟨_, rfl⟩
    rw [hx, hn77] at f2
    rw [hn77] at f1
    have e4 : IntKind.i64.wrap ((k : Int) + 1) = ((k + 1 : Nat) : Int) := by rw [wrap_i64 (by omega) (by omega)]; omega
    obtain ⟨v', h', q', e8, o', c', l', d'⟩ := ow.push (bytes := 8) (z := .int .u64 0) (x := .int .u64 (wi x)) (by simp) (by simp [mk20_len]; omega) (by simp [mk20_len]; omega)
    obtain ⟨b, m, et⟩ := aappend_top e8 rfl (by simp) ht
    simp [hlt, hlt', f1, f2, e8, e4]
    refine ⟨20 - (k + 1), by omega, hI _ _ _ _ ⟨k + 1, v', q', rfl, by omega, rfl, ?_, gg.after c' fun n hn hb => by have := hb.1; omega, ?_, et ▸ TopS.full, fun _ => ⟨b, m, et⟩⟩ (by simp)⟩
    · rw [mk20_succ, hx, ← List.append_assoc, List.map_append]; exact o'
    · have := gg.len
      rcases d' with ⟨h1, _⟩ | h1 <;> omega
  · have hk20 : k = 20 := by omega
    subst hk20
    obtain ⟨v2, e2, rm⟩ := room_mk (l := ws.map wv) (more := (mk20 20).map wv) ow (htop (by omega)) (by simp)
    simp only [List.length_map] at e2
    subst ev
    simp [e2]
    exact hQ _ _ ⟨q, rm, gg, hq⟩

theorem keptW {h : Heap} {v v' : Value} {q : Nat} {ws : List (BitVec 64)} (r : Room h v q (ws.map wv) ((mk20 20).map wv)) (r' : Reads h v' (ws.map wv)) (hl : ws.length ≤ 2000000) (hro : ∀ h2, Chg (· = q) h h2 → Reads h2 v' (ws.map wv)) :
    Gives P T (.fn F_colonnadelaw01_keptWords) [v, v'] h fun u h' => u = .bool true ∧ Chg (· = q) h h' := by
  refine gives_by t_colonnadelaw01_keptWords (by simp [c_colonnadelaw01_keptWords]) fun Q hQ => ?_
  obtain ⟨N, hN⟩ : ∃ N, ws.length = N := ⟨_, rfl⟩
  obtain ⟨M, hM⟩ : ∃ M, N + 20 = M := ⟨_, rfl⟩
  have f0 : IntKind.i64.wrap ((N : Int) + 20) = (M : Nat) := by rw [wrap_i64 (by omega) (by omega)]; omega
  obtain ⟨v2, e2, r2⟩ := r.reach (n := M) (by simp [mk20_len]; omega)
  obtain ⟨u, rfl, row⟩ := r
  have r0 : Room h (.slice (some ⟨q, 0, some u⟩) (ws.map wv).length gcap) q (ws.map wv) ((mk20 20).map wv) := ⟨u, rfl, row⟩
  simp only [List.length_map, hN] at e2 r0 ⊢
  simp [c_colonnadelaw01_keptWords]
  refine got_call (sameWords_spec r0.reads r' (by omega)) ?_
  rintro _ _ ⟨rfl, rfl⟩
  rename_i h
  simp [f0, e2]
  obtain ⟨b2, c2, ev2, h2'⟩ := r2.shape
  simp only [List.length_append, List.length_map, mk20_len, hN, hM] at ev2 h2'
  subst ev2
  refine go_loopK (fun kk ks h2 => ∃ (k : Nat), kk = 20 - k ∧ k ≤ 20 ∧ ks = [(0, .slice (some ⟨q, 0, some u⟩) N gcap), (5, .slice b2 M c2), (6, .int .i64 k)] ∧ h2 = h) (n := 20)
    ⟨0, rfl, by omega, rfl, rfl⟩ (by simp) ?_
  rintro I hI kk ks e h3 ⟨k, rfl, hk, rfl, rfl⟩
  simp
  by_cases hlt : k < 20
  · have hlt' : (k : Int) < 20 := by omega
    have f1 : IntKind.i64.wrap (77 + (k : Int)) = ((77 + k : Nat) : Int) := by rw [wrap_i64 (by omega) (by omega)]; omega
    have f2 : IntKind.u64.wrap ((77 + k : Nat) : Int) = wi (BitVec.ofNat 64 (77 + k)) := by rw [wi_small (by omega), wrap_u64 (by omega) (by omega)]
    have f3 : IntKind.i64.wrap ((N : Int) + k) = ((N + k : Nat) : Int) := by rw [wrap_i64 (by omega) (by omega)]; omega
    obtain ⟨a, rfl, hla⟩ := h2' (N + k) (by omega)
    have ld := hla (N + k) (.int .u64 (wi (BitVec.ofNat 64 (77 + k)))) (by
      rw [List.getElem?_append_right (by simp; omega)]
      simp only [List.length_map, hN, Nat.add_sub_cancel_left, List.getElem?_map, mk20_get hlt]; rfl)
    have i4 : N + k < M := by omega
    obtain ⟨x, hx⟩ : ∃ x, BitVec.ofNat 64 (77 + k) = x := ⟨_, rfl⟩
    obtain ⟨n77, hn77⟩ : ∃ x, 77 + k = x := ⟨_, rfl⟩
    rw [hx, hn77] at f2
    rw [hn77] at f1
    rw [hx] at ld
    obtain ⟨j, hj⟩ : ∃ j, N + k = j := ⟨_, rfl⟩
    rw [hj] at f3 ld i4
    have e4 : IntKind.i64.wrap ((k : Int) + 1) = ((k + 1 : Nat) : Int) := by rw [wrap_i64 (by omega) (by omega)]; omega
    simp [hlt, hlt', f1, f2, f3, i4, ld, e4]
    exact ⟨20 - (k + 1), by omega, hI _ _ _ _ ⟨k + 1, rfl, by omega, rfl, rfl⟩ (by simp)⟩
  · have hlt' : ¬ (k : Int) < 20 := by omega
    simp [hlt, hlt']
    refine go_loopK (fun kk ks h2 => ∃ (i : Nat) (W : List (BitVec 64)), kk = N - i ∧ i ≤ N ∧ ks = [(0, .slice (some ⟨q, 0, some u⟩) N gcap), (7, .int .i64 i)] ∧ W.length = N ∧ Room h2 (.slice (some ⟨q, 0, some u⟩) N gcap) q (W.map wv) ((mk20 20).map wv) ∧ Chg (· = q) h3 h2) (n := N)
      ⟨0, ws, rfl, by omega, rfl, hN, r0, Chg.refl _⟩ (by simp) ?_
    rintro I hI kk ks e h5 ⟨i, W, rfl, hi, rfl, hW, rm, cg⟩
    simp
    refine branch_dec (fun hlt2 => ?_) (fun hge => ?_)
    · have e4 : IntKind.i64.wrap ((i : Int) + 1) = ((i + 1 : Nat) : Int) := by rw [wrap_i64 (by omega) (by omega)]; omega
      obtain ⟨u2, h4, ev4, es4, rm4, c4, n4⟩ := rm.set (i := i) (by simpa [hW] using hlt2) (x := .int .u64 (wi (~~~ word W i))) (by simp)
      obtain ⟨u3, ev3, row3⟩ := rm
      simp only [Value.slice.injEq] at ev3 ev4
      obtain ⟨e5, -, -⟩ := ev3
      obtain rfl : u = u3 := by simpa using e5
      obtain ⟨e6, -, -⟩ := ev4
      obtain rfl : u = u2 := by simpa using e6
      have ld := row3.get (i := i) (x := .int .u64 (wi (word W i))) (by rw [List.getElem?_append_left (by simp; omega)]; exact wv_getA (by omega))
      have es : (W.map wv).set i (.int .u64 (wi (~~~ word W i))) = (W.set i (~~~ word W i)).map wv := by rw [List.map_set]; rfl
      rw [es] at rm4
      simp [hlt2, ld, es4, e4]
      exact ⟨N - (i + 1), by omega, hI _ _ _ _ ⟨i + 1, _, rfl, by omega, rfl, by simpa using hW, rm4, cg.trans c4⟩ (by simp)⟩
    · simp
      exact hQ _ _ ⟨rfl, cg⟩

@[simp] theorem vsame_rv {b : Bool} {a : Option Addr} {n c : Nat} : vsame (.agg #[.bool b, .slice a n c]) (some (.agg #[.bool b, .slice a n c])) = true := by
  simp [vsame, veqN]

/-- The law's look at both sets: they are the same. -/
theorem is_spec {h : Heap} {v hv : Value} {p q : Nat} {o : Option (List Bool)} (s : PSet h v p q o) (r : Reads h hv ((o.getD []).map .bool)) :
    Gives P T (.fn F_colonnadelaw01_is) [v, rv o.isSome hv] h fun u h' => u = .bool true ∧ Grow h h' := by
  refine gives_by t_colonnadelaw01_is (by simp [c_colonnadelaw01_is]) fun Q hQ => ?_
  have hv' : ∃ b n c, hv = .slice b n c ∧ n = (o.getD []).length := by obtain ⟨b, c, e, _⟩ := r.shape; exact ⟨b, _, c, e, by simp⟩
  obtain ⟨b, n, c, rfl, hn⟩ := hv'
  have r0 := RowAt.new h [.bool o.isSome, .slice b n c] 0
  have g0 := Grow.new h [.bool o.isSome, .slice b n c] 0
  obtain ⟨F, hF⟩ : ∃ G, hnew h [.bool o.isSome, .slice b n c] 0 = G := ⟨_, rfl⟩
  rw [hF] at r0 g0
  have sF := s.grow g0
  have rF := r.grow g0
  have a0 := r0.get (i := 0) rfl
  have a1 := r0.get (i := 1) rfl
  have l0 := loadN_row_all r0 (n := 2) rfl
  cases o with
  | none =>
    obtain rfl : v = nilP := sF
    have hn0 : n = 0 := by simpa using hn
    subst hn0
    simp only [Option.isSome_none, Option.getD_none] at *
    simp [c_colonnadelaw01_is, hF, a0, a1]
    refine got_call len_nil ?_
    rintro _ _ ⟨rfl, rfl⟩
    rename_i F
    simp [a0, a1]
    refine got_call words_nil ?_
    rintro _ _ ⟨rfl, rfl⟩
    rename_i F
    simp [l0]
    refine got_call (rWords (bs := []) rF (by simp)) ?_
    rintro w h2 ⟨ws, rw2, cw, hb, g2⟩
    have : ws = [] := by have := cw.len; simpa using this
    subst this
    simp [nilS]
    refine got_call (sameWords_spec (ws := []) (ws' := []) (.inl ⟨rfl, rfl⟩) rw2 (by simp)) ?_
    rintro _ _ ⟨rfl, rfl⟩
    simp
    exact hQ _ _ ⟨rfl, g0.trans g2⟩
  | some bs =>
    obtain ⟨rfl, ws, st, cn, hb⟩ := sF
    have hn0 : n = bs.length := by simpa using hn
    subst hn0
    have hle := cn.le
    simp only [Option.isSome_some, Option.getD_some] at *
    simp [c_colonnadelaw01_is, hF, a0, a1, ptr]
    refine got_call (len_spec st) ?_
    rintro _ _ ⟨rfl, rfl⟩
    rename_i F
    simp [a0, a1]
    refine got_call (Words_spec st (by have := cn.len; omega)) ?_
    rintro _ h2 ⟨b', c', q', rfl, w', g2, hq'⟩
    have l2 := loadN_row_all (r0.grow g2) (n := 2) rfl
    simp [l2, l0]
    refine got_call (rWords (bs := bs) (rF.grow g2) hle) ?_
    rintro w h3 ⟨ws2, rw2, cw2, hb2, g3⟩
    obtain rfl : ws = ws2 := cn.ext cw2 fun i hi => by rw [hb, hb2]
    have rw1 : Reads h3 (.slice b' ws.length c') (ws.map wv) := by
      rcases w'.chg g3 id with ⟨rfl, rfl, rfl⟩ | ⟨x, rfl, rx, _, _⟩
      · exact .inl ⟨rfl, rfl⟩
      · exact .inr ⟨_, _, by simp; exact ⟨rfl, rfl⟩, fun i y hy => by simpa using rx.get hy⟩
    simp
    refine got_call (sameWords_spec rw1 rw2 (by have := cn.len; omega)) ?_
    rintro _ _ ⟨rfl, rfl⟩
    simp
    exact hQ _ _ ⟨rfl, (g0.trans g2).trans g3⟩

end Go.Ax
