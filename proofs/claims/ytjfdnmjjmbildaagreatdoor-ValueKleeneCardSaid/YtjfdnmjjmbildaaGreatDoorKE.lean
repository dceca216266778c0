/- Seat valuec: truths; the law ValueKleene. -/
import Derived.Test.YtjfdnmjjmbildaaGreatDoorKD
import Derived.Test.YtjfdnmjjmbildaaGreatDoorMX
namespace Go.Ax
open Go.Proofs
set_option linter.unusedVariables false
set_option linter.unusedSimpArgs false
set_option maxRecDepth 100000

/-- The truth of a rank. -/
def tv (r : Nat) : Int := if r = 0 then 0 else if r = 1 then 2 else 1

theorem lt3 {r : Nat} (h : r < 3) : r = 0 ∨ r = 1 ∨ r = 2 := by omega

theorem rank_spec {h : Heap} {r : Nat} (hr : r < 3) : Gives P T (.fn F_value_rank) [.int .i8 (tv r)] h fun v h' => v = .int .i64 r ∧ h' = h := by
  refine gives_by t_value_rank (by simp [c_value_rank]) fun Q hQ => ?_
  rcases lt3 hr with rfl | rfl | rfl
  · simp [c_value_rank, tv]
    exact hQ _ _ ⟨rfl, rfl⟩
  · simp [c_value_rank, tv]
    exact hQ _ _ ⟨rfl, rfl⟩
  · simp [c_value_rank, tv]
    exact hQ _ _ ⟨rfl, rfl⟩

theorem not_spec {h : Heap} {r : Nat} (hr : r < 3) : Gives P T (.fn F_value_Not) [.int .i8 (tv r)] h fun v h' => v = .int .i8 (tv (2 - r)) ∧ h' = h := by
  refine gives_by t_value_Not (by simp [c_value_Not]) fun Q hQ => ?_
  rcases lt3 hr with rfl | rfl | rfl
  · simp [c_value_Not, tv]
    exact hQ _ _ ⟨by simp [tv], rfl⟩
  · simp [c_value_Not, tv]
    exact hQ _ _ ⟨by simp [tv], rfl⟩
  · simp [c_value_Not, tv]
    exact hQ _ _ ⟨by simp [tv], rfl⟩

theorem third_spec {h : Heap} {x : Int} : Gives P T (.fn F_colonnadelaw05_third) [.int .i8 x] h fun v h' => ∃ r, r < 3 ∧ v = .int .i8 (tv r) ∧ h' = h := by
  refine gives_by t_colonnadelaw05_third (by simp [c_colonnadelaw05_third]) fun Q hQ => ?_
  by_cases h0 : x = 0
  · subst h0
    simp [c_colonnadelaw05_third, skipV]
    exact hQ _ _ ⟨0, by omega, rfl, rfl⟩
  · by_cases h1 : x = 1
    · subst h1
      simp [c_colonnadelaw05_third]
      exact hQ _ _ ⟨2, by omega, rfl, rfl⟩
    · simp [c_colonnadelaw05_third, h0, h1]
      exact hQ _ _ ⟨1, by omega, rfl, rfl⟩

/-- The rank that is best by a sign. -/
def bestR (s : Int) (b r : Nat) : Nat := if s * b < s * r then r else b
def bst (s : Int) (l : List Nat) : Nat := l.foldl (bestR s) (1 - s).toNat

theorem bst_lt {s : Int} (hs : s = 1 ∨ s = -1) : ∀ (l : List Nat) (b : Nat), b < 3 → (∀ r ∈ l, r < 3) → l.foldl (bestR s) b < 3
  | [], b, hb, _ => hb
  | r :: l, b, hb, hl => by
    rw [List.foldl_cons]
    refine bst_lt hs l _ ?_ fun x hx => hl x (List.mem_cons_of_mem _ hx)
    unfold bestR
    split
    · exact hl r (by simp)
    · exact hb

theorem most_spec {h : Heap} {v : Value} {l : List Nat} {s : Int} (hs : s = 1 ∨ s = -1) (r : Reads h v (l.map fun r => .int .i8 (tv r))) (hl : l.length ≤ 1000) (hr : ∀ r ∈ l, r < 3) :
    Gives P T (.fn F_value_most) [v, .int .i64 s] h fun v h' => v = .int .i8 (tv (bst s l)) ∧ h' = h := by
  obtain ⟨b, c, rfl, hel⟩ := r.shape
  simp only [List.length_map] at hel ⊢
  obtain ⟨n, hn⟩ : ∃ n, l.length = n := ⟨_, rfl⟩
  rw [hn] at hl hel ⊢
  refine gives_by t_value_most (by simp [c_value_most]) fun Q hQ => ?_
  have h1 : IntKind.i64.wrap (0 - s) = -s := by rw [wrap_i64 (by omega) (by omega)]; omega
  have h1' : IntKind.i64.wrap (-s) = -s := wrap_i64 (by omega) (by omega)
  have h2 : IntKind.i64.wrap (-s + 1) = (((1 - s).toNat : Nat) : Int) := by rw [wrap_i64 (by omega) (by omega)]; omega
  have hun : aun P .neg (.int .i64 s) = some (.int .i64 (-s)) := by
    show some (Value.int .i64 (IntKind.i64.wrap (0 - s))) = _
    rw [h1]
  simp [c_value_most, hun, h1', h2]
  refine go_loopK (fun kk ks hh => ∃ (i k : Nat), kk = n - i ∧ i ≤ n ∧ ks = [(1, .int .i64 s), (5, .int .i64 k), (11, .slice b n c), (12, .int .i64 n), (13, .int .i64 i)] ∧ k = (l.take i).foldl (bestR s) (1 - s).toNat ∧ k < 3 ∧ hh = h) (n := n)
    ⟨0, (1 - s).toNat, rfl, by omega, rfl, rfl, by omega, rfl⟩ (by simp) ?_
  rintro I hI kk ks e hh ⟨i, k, rfl, hi, rfl, hk, hk3, rfl⟩
  simp
  refine branch_dec (fun hlt => ?_) (fun hge => ?_)
  · have hin : i < n := by omega
    have e4 : IntKind.i64.wrap ((i : Int) + 1) = ((i + 1 : Nat) : Int) := by rw [wrap_i64 (by omega) (by omega)]; omega
    obtain ⟨a, rfl, hla⟩ := hel i hin
    obtain ⟨x, hx⟩ : ∃ x, l[i]? = some x := ⟨_, List.getElem?_eq_getElem (by omega)⟩
    have ld := hla i (.int .i8 (tv x)) (by rw [List.getElem?_map, hx]; rfl)
    have hx3 := hr x (List.mem_of_getElem? hx)
    have ht : l.take (i + 1) = l.take i ++ [x] := by rw [List.take_add_one, hx]; rfl
    have w1 : IntKind.i64.wrap (s * (x : Int)) = s * x := by rcases hs with rfl | rfl <;> exact wrap_i64 (by omega) (by omega)
    have w2 : IntKind.i64.wrap (s * (k : Int)) = s * k := by rcases hs with rfl | rfl <;> exact wrap_i64 (by omega) (by omega)
    simp [hin, ld]
    refine got_call (rank_spec hx3) ?_
    rintro _ _ ⟨rfl, rfl⟩
    rename_i hh
    simp [w1, w2]
    refine branch_dec (fun hb => ?_) (fun hb => ?_)
    · simp
      refine got_call (rank_spec hx3) ?_
      rintro _ _ ⟨rfl, rfl⟩
      rename_i hh
      simp [e4]
      exact ⟨n - (i + 1), by omega, hI _ _ _ _ ⟨i + 1, x, rfl, by omega, rfl, by rw [ht, List.foldl_append, ← hk]; show x = bestR s k x; unfold bestR; rw [if_pos hb], hx3, rfl⟩ (by simp)⟩
    · simp [e4]
      exact ⟨n - (i + 1), by omega, hI _ _ _ _ ⟨i + 1, k, rfl, by omega, rfl, by rw [ht, List.foldl_append, ← hk]; show k = bestR s k x; unfold bestR; rw [if_neg hb], hk3, rfl⟩ (by simp)⟩
  have hin : i = n := by omega
  have hkb : k = bst s l := by rw [hk, hin, ← hn, List.take_length]; rfl
  rw [← hkb] at hQ
  rcases lt3 hk3 with e0 | e0 | e0
  · rw [e0] at hQ ⊢
    simp
    exact hQ _ _ ⟨rfl, rfl⟩
  · rw [e0] at hQ ⊢
    simp
    exact hQ _ _ ⟨rfl, rfl⟩
  · rw [e0] at hQ ⊢
    simp
    exact hQ _ _ ⟨rfl, rfl⟩

theorem reads_new {h : Heap} (l : List Value) : Reads (hnew h l 1) (.slice (some ⟨h.dyn.length, 0, some 0⟩) l.length l.length) l :=
  .inr ⟨⟨h.dyn.length, 0, some 0⟩, l.length, rfl, fun i x hx => by simpa using (RowAt.new h l 1).get hx⟩

theorem and_r {h : Heap} {v : Value} {l : List Nat} (r : Reads h v (l.map fun r => .int .i8 (tv r))) (hl : l.length ≤ 1000) (hr : ∀ r ∈ l, r < 3) : Gives P T (.fn F_value_And) [v] h fun v _ => v = .int .i8 (tv (bst (-1) l)) := by
  refine gives_by t_value_And (by simp [c_value_And]) fun Q hQ => ?_
  simp [c_value_And]
  refine got_call (most_spec (.inr rfl) r hl hr) ?_
  rintro _ _ ⟨rfl, rfl⟩
  simp
  exact hQ _ _ rfl

theorem or_r {h : Heap} {v : Value} {l : List Nat} (r : Reads h v (l.map fun r => .int .i8 (tv r))) (hl : l.length ≤ 1000) (hr : ∀ r ∈ l, r < 3) : Gives P T (.fn F_value_Or) [v] h fun v _ => v = .int .i8 (tv (bst 1 l)) := by
  refine gives_by t_value_Or (by simp [c_value_Or]) fun Q hQ => ?_
  simp [c_value_Or]
  refine got_call (most_spec (.inl rfl) r hl hr) ?_
  rintro _ _ ⟨rfl, rfl⟩
  simp
  exact hQ _ _ rfl

theorem and_2 {h : Heap} {a b : Nat} (ha : a < 3) (hb : b < 3) : Gives P T (.fn F_value_And) [.slice (some ⟨h.dyn.length, 0, some 0⟩) 2 2] (hnew h [.int .i8 (tv a), .int .i8 (tv b)] 1) fun v _ => v = .int .i8 (tv (bst (-1) [a, b])) :=
  and_r (l := [a, b]) (reads_new [.int .i8 (tv a), .int .i8 (tv b)]) (by simp) (by simp [ha, hb])
theorem or_2 {h : Heap} {a b : Nat} (ha : a < 3) (hb : b < 3) : Gives P T (.fn F_value_Or) [.slice (some ⟨h.dyn.length, 0, some 0⟩) 2 2] (hnew h [.int .i8 (tv a), .int .i8 (tv b)] 1) fun v _ => v = .int .i8 (tv (bst 1 [a, b])) :=
  or_r (l := [a, b]) (reads_new [.int .i8 (tv a), .int .i8 (tv b)]) (by simp) (by simp [ha, hb])
theorem and_3 {h : Heap} {a b c : Nat} (ha : a < 3) (hb : b < 3) (hc : c < 3) : Gives P T (.fn F_value_And) [.slice (some ⟨h.dyn.length, 0, some 0⟩) 3 3] (hnew h [.int .i8 (tv a), .int .i8 (tv b), .int .i8 (tv c)] 1) fun v _ => v = .int .i8 (tv (bst (-1) [a, b, c])) :=
  and_r (l := [a, b, c]) (reads_new [.int .i8 (tv a), .int .i8 (tv b), .int .i8 (tv c)]) (by simp) (by simp [ha, hb, hc])
theorem or_3 {h : Heap} {a b c : Nat} (ha : a < 3) (hb : b < 3) (hc : c < 3) : Gives P T (.fn F_value_Or) [.slice (some ⟨h.dyn.length, 0, some 0⟩) 3 3] (hnew h [.int .i8 (tv a), .int .i8 (tv b), .int .i8 (tv c)] 1) fun v _ => v = .int .i8 (tv (bst 1 [a, b, c])) :=
  or_r (l := [a, b, c]) (reads_new [.int .i8 (tv a), .int .i8 (tv b), .int .i8 (tv c)]) (by simp) (by simp [ha, hb, hc])

theorem all3 {R : Nat → Nat → Nat → Bool} (h : ((List.range 3).all fun a => (List.range 3).all fun b => (List.range 3).all fun c => R a b c) = true) {a b c : Nat} (ha : a < 3) (hb : b < 3) (hc : c < 3) : R a b c = true :=
  List.all_eq_true.1 (List.all_eq_true.1 (List.all_eq_true.1 h a (List.mem_range.2 ha)) b (List.mem_range.2 hb)) c (List.mem_range.2 hc)

set_option maxHeartbeats 4000000 in
theorem kleene_law {x y z : Int} : Gives P T (.fn F_colonnadelaw05_ValueKleene) [.int .i8 x, .int .i8 y, .int .i8 z] (heap0 roV) fun v _ => v = .bool true := by
  refine gives_by t_colonnadelaw05_ValueKleene (by simp [c_colonnadelaw05_ValueKleene]) fun Q hQ => ?_
  simp [c_colonnadelaw05_ValueKleene]
  refine got_call awake_spec ?_
  rintro _ h0 ⟨rfl, -⟩
  simp
  refine got_call third_spec ?_
  rintro _ _ ⟨a, ha, rfl, rfl⟩
  rename_i h0
  simp
  refine got_call third_spec ?_
  rintro _ _ ⟨b, hb, rfl, rfl⟩
  rename_i h0
  simp
  refine got_call third_spec ?_
  rintro _ _ ⟨c, hc, rfl, rfl⟩
  rename_i h0
  simp
  refine got_call (and_2 ha hb) ?_
  rintro _ h1 rfl
  simp
  refine got_call (and_2 hb ha) ?_
  rintro _ h2 rfl
  have e_1 : tv (bst (-1) [a, b]) = tv (bst (-1) [b, a]) := by simpa using all3 (R := fun a b c => decide (tv (bst (-1) [a, b]) = tv (bst (-1) [b, a]))) (by kernel_rfl) ha hb hc
  simp [e_1]
  refine got_call (or_2 ha hb) ?_
  rintro _ h3 rfl
  simp
  refine got_call (or_2 hb ha) ?_
  rintro _ h4 rfl
  have e_2 : tv (bst 1 [a, b]) = tv (bst 1 [b, a]) := by simpa using all3 (R := fun a b c => decide (tv (bst 1 [a, b]) = tv (bst 1 [b, a]))) (by kernel_rfl) ha hb hc
  simp [e_2]
  refine got_call (and_2 ha ha) ?_
  rintro _ h5 rfl
  have e_3 : tv (bst (-1) [a, a]) = tv (a) := by simpa using all3 (R := fun a b c => decide (tv (bst (-1) [a, a]) = tv (a))) (by kernel_rfl) ha hb hc
  simp [e_3]
  refine got_call (or_2 ha ha) ?_
  rintro _ h6 rfl
  have e_4 : tv (bst 1 [a, a]) = tv (a) := by simpa using all3 (R := fun a b c => decide (tv (bst 1 [a, a]) = tv (a))) (by kernel_rfl) ha hb hc
  simp [e_4]
  refine got_call (and_2 hb hc) ?_
  rintro _ h7 rfl
  have lt_x1 : bst (-1) [b, c] < 3 := by simpa using all3 (R := fun a b c => decide (bst (-1) [b, c] < 3)) (by kernel_rfl) ha hb hc
  simp
  refine got_call (and_2 ha lt_x1) ?_
  rintro _ h8 rfl
  simp
  refine got_call (and_3 ha hb hc) ?_
  rintro _ h9 rfl
  have e_5 : tv (bst (-1) [a, bst (-1) [b, c]]) = tv (bst (-1) [a, b, c]) := by simpa using all3 (R := fun a b c => decide (tv (bst (-1) [a, bst (-1) [b, c]]) = tv (bst (-1) [a, b, c]))) (by kernel_rfl) ha hb hc
  simp [e_5]
  refine got_call (or_2 ha hb) ?_
  rintro _ h10 rfl
  have lt_x2 : bst 1 [a, b] < 3 := by simpa using all3 (R := fun a b c => decide (bst 1 [a, b] < 3)) (by kernel_rfl) ha hb hc
  simp
  refine got_call (or_2 lt_x2 hc) ?_
  rintro _ h11 rfl
  simp
  refine got_call (or_3 ha hb hc) ?_
  rintro _ h12 rfl
  have e_6 : tv (bst 1 [bst 1 [a, b], c]) = tv (bst 1 [a, b, c]) := by simpa using all3 (R := fun a b c => decide (tv (bst 1 [bst 1 [a, b], c]) = tv (bst 1 [a, b, c]))) (by kernel_rfl) ha hb hc
  simp [e_6]
  refine got_call (or_2 hb hc) ?_
  rintro _ h13 rfl
  have lt_x3 : bst 1 [b, c] < 3 := by simpa using all3 (R := fun a b c => decide (bst 1 [b, c] < 3)) (by kernel_rfl) ha hb hc
  simp
  refine got_call (and_2 ha lt_x3) ?_
  rintro _ h14 rfl
  simp
  refine got_call (and_2 ha hb) ?_
  rintro _ h15 rfl
  have lt_x4 : bst (-1) [a, b] < 3 := by simpa using all3 (R := fun a b c => decide (bst (-1) [a, b] < 3)) (by kernel_rfl) ha hb hc
  simp
  refine got_call (and_2 ha hc) ?_
  rintro _ h16 rfl
  have lt_x5 : bst (-1) [a, c] < 3 := by simpa using all3 (R := fun a b c => decide (bst (-1) [a, c] < 3)) (by kernel_rfl) ha hb hc
  simp
  refine got_call (or_2 lt_x4 lt_x5) ?_
  rintro _ h17 rfl
  have e_7 : tv (bst (-1) [a, bst 1 [b, c]]) = tv (bst 1 [bst (-1) [a, b], bst (-1) [a, c]]) := by simpa using all3 (R := fun a b c => decide (tv (bst (-1) [a, bst 1 [b, c]]) = tv (bst 1 [bst (-1) [a, b], bst (-1) [a, c]]))) (by kernel_rfl) ha hb hc
  simp [e_7]
  refine got_call (and_2 hb hc) ?_
  rintro _ h18 rfl
  have lt_x6 : bst (-1) [b, c] < 3 := by simpa using all3 (R := fun a b c => decide (bst (-1) [b, c] < 3)) (by kernel_rfl) ha hb hc
  simp
  refine got_call (or_2 ha lt_x6) ?_
  rintro _ h19 rfl
  simp
  refine got_call (or_2 ha hb) ?_
  rintro _ h20 rfl
  have lt_x7 : bst 1 [a, b] < 3 := by simpa using all3 (R := fun a b c => decide (bst 1 [a, b] < 3)) (by kernel_rfl) ha hb hc
  simp
  refine got_call (or_2 ha hc) ?_
  rintro _ h21 rfl
  have lt_x8 : bst 1 [a, c] < 3 := by simpa using all3 (R := fun a b c => decide (bst 1 [a, c] < 3)) (by kernel_rfl) ha hb hc
  simp
  refine got_call (and_2 lt_x7 lt_x8) ?_
  rintro _ h22 rfl
  have e_8 : tv (bst 1 [a, bst (-1) [b, c]]) = tv (bst (-1) [bst 1 [a, b], bst 1 [a, c]]) := by simpa using all3 (R := fun a b c => decide (tv (bst 1 [a, bst (-1) [b, c]]) = tv (bst (-1) [bst 1 [a, b], bst 1 [a, c]]))) (by kernel_rfl) ha hb hc
  simp [e_8]
  refine got_call (and_2 ha hb) ?_
  rintro _ h23 rfl
  have lt_x9 : bst (-1) [a, b] < 3 := by simpa using all3 (R := fun a b c => decide (bst (-1) [a, b] < 3)) (by kernel_rfl) ha hb hc
  simp
  refine got_call (not_spec lt_x9) ?_
  rintro _ h24 ⟨rfl, eh24⟩
  rw [eh24]; clear eh24 h24
  simp
  refine got_call (not_spec ha) ?_
  rintro _ h25 ⟨rfl, eh25⟩
  rw [eh25]; clear eh25 h25
  have lt_x10 : 2 - a < 3 := by simpa using all3 (R := fun a b c => decide (2 - a < 3)) (by kernel_rfl) ha hb hc
  simp
  refine got_call (not_spec hb) ?_
  rintro _ h26 ⟨rfl, eh26⟩
  rw [eh26]; clear eh26 h26
  have lt_x11 : 2 - b < 3 := by simpa using all3 (R := fun a b c => decide (2 - b < 3)) (by kernel_rfl) ha hb hc
  simp
  refine got_call (or_2 lt_x10 lt_x11) ?_
  rintro _ h27 rfl
  have e_9 : tv (2 - (bst (-1) [a, b])) = tv (bst 1 [2 - a, 2 - b]) := by simpa using all3 (R := fun a b c => decide (tv (2 - (bst (-1) [a, b])) = tv (bst 1 [2 - a, 2 - b]))) (by kernel_rfl) ha hb hc
  simp [e_9]
  refine got_call (not_spec ha) ?_
  rintro _ h28 ⟨rfl, eh28⟩
  rw [eh28]; clear eh28 h28
  have lt_x12 : 2 - a < 3 := by simpa using all3 (R := fun a b c => decide (2 - a < 3)) (by kernel_rfl) ha hb hc
  simp
  refine got_call (not_spec lt_x12) ?_
  rintro _ h29 ⟨rfl, eh29⟩
  rw [eh29]; clear eh29 h29
  have e_10 : tv (2 - (2 - a)) = tv (a) := by simpa using all3 (R := fun a b c => decide (tv (2 - (2 - a)) = tv (a))) (by kernel_rfl) ha hb hc
  simp [e_10]
  refine got_call (and_2 ha (b := 2) (by omega)) ?_
  rintro _ h30 rfl
  have e_11 : tv (bst (-1) [a, 2]) = tv a := by simpa using all3 (R := fun a b c => decide (tv (bst (-1) [a, 2]) = tv a)) (by kernel_rfl) ha hb hc
  simp [e_11]
  refine got_call (or_2 ha (b := 0) (by omega)) ?_
  rintro _ h31 rfl
  have e_12 : tv (bst 1 [a, 0]) = tv a := by simpa using all3 (R := fun a b c => decide (tv (bst 1 [a, 0]) = tv a)) (by kernel_rfl) ha hb hc
  simp [e_12]
  refine got_call (and_2 ha (b := 0) (by omega)) ?_
  rintro _ h32 rfl
  have e_13 : tv (bst (-1) [a, 0]) = 0 := by simpa using all3 (R := fun a b c => decide (tv (bst (-1) [a, 0]) = 0)) (by kernel_rfl) ha hb hc
  simp [e_13]
  refine got_call (or_2 ha (b := 2) (by omega)) ?_
  rintro _ h33 rfl
  have e_14 : tv (bst 1 [a, 2]) = 1 := by simpa using all3 (R := fun a b c => decide (tv (bst 1 [a, 2]) = 1)) (by kernel_rfl) ha hb hc
  simp [e_14]
  refine got_call (and_r (l := []) (.inl ⟨rfl, rfl⟩) (by simp) (by simp)) ?_
  rintro _ h34 rfl
  have e_15 : tv (bst (-1) []) = 1 := by kernel_rfl
  simp [e_15]
  refine got_call (or_r (l := []) (.inl ⟨rfl, rfl⟩) (by simp) (by simp)) ?_
  rintro _ h35 rfl
  have e_16 : tv (bst 1 []) = 0 := by kernel_rfl
  simp [e_16]
  exact hQ _ _ rfl

end Go.Ax
