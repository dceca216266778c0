/- Seat sel: lists that lie apart (written by apart.gen.py). -/
import Derived.Test.YtahllahgeldjcaaDoorMW
import Derived.Test.YtahllahgeldjcaaDoorYR
namespace Go.Ax
open Go.Proofs
set_option linter.unusedVariables false
set_option linter.unusedSimpArgs false

def A_colonnadelaw04_apart (i : Nat) : Value := .int .i64 (-1000 - i)
def B_colonnadelaw04_apart (i : Nat) : Value := .int .i64 (-5000 - i)

theorem colonnadelaw04_apart_spec {h : Heap} {n qv : Nat} {V : Nat → Value} {qs ns : Nat → Nat} (L : Lists h n qv V qs ns) (row : RowAt h qv 0 1 ((List.range n).map V)) (hn : 0 < n) (hn' : n ≤ 100) :
    Gives P T (.fn F_colonnadelaw04_apart) [.slice (some ⟨qv, 0, some 0⟩) n n] h fun r h' => r = .bool true ∧ Chg (fun b => (∃ j, j < n ∧ b = qs j) ∨ h.dyn.length ≤ b) h h' := by
  refine gives_by t_colonnadelaw04_apart (by simp [c_colonnadelaw04_apart]) fun Q hQ => ?_
  have tm : ∀ i : Nat, i < n → (i : Int).tmod 100 = i := fun i hi => by
    have := tmod_nat i 100
    rw [Nat.mod_eq_of_lt (by omega)] at this
    exact this
  have wA : ∀ i : Nat, i < n → IntKind.i64.wrap (-1000 - (i : Int)) = -1000 - i := fun i hi => wrap_i64 (by omega) (by omega)
  have wB : ∀ i : Nat, i < n → IntKind.i64.wrap (-5000 - (i : Int)) = -5000 - i := fun i hi => wrap_i64 (by omega) (by omega)
  simp [c_colonnadelaw04_apart]
  refine go_loopK (fun k ks hh => ∃ (i : Nat), k = n - i ∧ i ≤ n ∧ ks = [(0, .slice (some ⟨qv, 0, some 0⟩) n n), (3, .int .i64 i)] ∧ Ph1 h hh n qv V qs ns A_colonnadelaw04_apart i 0) (n := n) ⟨0, rfl, by omega, rfl, Ph1.init L row⟩ (by simp) ?_
  rintro I1 hI1 k1 ks1 e1 h1 ⟨i, rfl, hi, rfl, p1⟩
  simp
  refine branch_dec (fun hlt => ?_) (fun hge => ?_)
  · have hin : i < n := by omega
    have e4 : IntKind.i64.wrap ((i : Int) + 1) = ((i + 1 : Nat) : Int) := by rw [wrap_i64 (by omega) (by omega)]; omega
    have tmi := tm i hin
    have wAi := wA i hin
    obtain ⟨N, hN⟩ : ∃ N, ns i = N := ⟨_, rfl⟩
    have hsm := L.small i hin
    simp
    refine go_loopK (fun k ks hh => ∃ (x : Nat), k = N - x ∧ x ≤ N ∧ ks = [(0, .slice (some ⟨qv, 0, some 0⟩) n n), (3, .int .i64 i), (4, .int .i64 x)] ∧ Ph1 h hh n qv V qs ns A_colonnadelaw04_apart i x) (n := N) ⟨0, rfl, by omega, rfl, p1⟩ (by simp) ?_
    rintro I2 hI2 k2 ks2 e2 h2 ⟨x, rfl, hx, rfl, p2⟩
    obtain ⟨b, cc, hV⟩ := p2.shape hin
    have ld := p2.row.get (i := i) (range_get hin)
    rw [hV, hN] at ld
    simp [hin, ld]
    refine branch_dec (fun hlt2 => ?_) (fun hge2 => ?_)
    · have hxn : x < N := by omega
      have e5 : IntKind.i64.wrap ((x : Int) + 1) = ((x + 1 : Nat) : Int) := by rw [wrap_i64 (by omega) (by omega)]; omega
      obtain ⟨u, c2, h3, hV2, es, p3⟩ := p2.step hin (by omega : x < ns i) (by simp [A_colonnadelaw04_apart])
      rw [hV, hN] at hV2
      simp only [Value.slice.injEq] at hV2
      obtain ⟨rfl, _, rfl⟩ := hV2
      simp [A_colonnadelaw04_apart] at es
      simp [hin, ld, hxn, tmi, wAi, es, e5]
      exact ⟨N - (x + 1), by omega, hI2 _ _ _ _ ⟨x + 1, rfl, by omega, rfl, p3⟩ (by simp)⟩
    have hxn : x = N := by omega
    subst hxn
    simp [e4]
    exact ⟨n - (i + 1), by omega, hI1 _ _ _ _ ⟨i + 1, rfl, by omega, rfl, p2.next (by omega)⟩ (by simp)⟩
  have hin : i = n := by omega
  subst hin
  have hlen1 := p1.chg.len
  simp
  -- grown
  refine go_loopK (fun k ks hh => ∃ (j qm qw : Nat) (um uw : Value) (E : List (Value × Nat × Nat)), k = i - j ∧ j ≤ i ∧ ks = [(0, .slice (some ⟨qv, 0, some 0⟩) i i), (5, um), (6, uw), (7, .int .i64 j)] ∧ E.length ≤ 64 * j ∧
      ((j < i ∧ Mid h1 hh i qv qm qw j 0 (qs j) V qs ns A_colonnadelaw04_apart B_colonnadelaw04_apart (V j) um uw E) ∨ (j = i ∧ ∃ i' k' qc vm, Mid h1 hh i qv qm qw i' k' qc V qs ns A_colonnadelaw04_apart B_colonnadelaw04_apart vm um uw E))) (n := i)
    ⟨0, 0, 0, nilS, nilS, [], rfl, by omega, rfl, by simp, .inl ⟨by omega, p1.mid hn⟩⟩ (by simp [nilS]) ?_
  rintro I3 hI3 k3 ks3 e3 h3 ⟨j, qm, qw, um, uw, E, rfl, hj, rfl, hE, M3⟩
  simp
  refine branch_dec (fun hlt => ?_) (fun hge => ?_)
  · have hji : j < i := by omega
    have e4 : IntKind.i64.wrap ((j : Int) + 1) = ((j + 1 : Nat) : Int) := by rw [wrap_i64 (by omega) (by omega)]; omega
    have tmj := tm j hji
    have wBj := wB j hji
    have M : Mid h1 h3 i qv qm qw j 0 (qs j) V qs ns A_colonnadelaw04_apart B_colonnadelaw04_apart (V j) um uw E := by
      rcases M3 with ⟨_, M⟩ | ⟨h4, _⟩
      · exact M
      · omega
    have ld := M.row.get (i := j) (range_get hji)
    have hsm := L.small j hji
    simp [hji, ld]
    refine go_loopK (fun k ks hh => ∃ (x qm qw qc : Nat) (um uw vm : Value) (E : List (Value × Nat × Nat)), k = 64 - x ∧ x ≤ 64 ∧ ks = [(0, .slice (some ⟨qv, 0, some 0⟩) i i), (5, um), (6, uw), (7, .int .i64 j), (8, vm), (9, .int .i64 x)] ∧ E.length ≤ 64 * j + x ∧
        Mid h1 hh i qv qm qw j x qc V qs ns A_colonnadelaw04_apart B_colonnadelaw04_apart vm um uw E) (n := 64)
      ⟨0, qm, qw, qs j, um, uw, V j, E, rfl, by omega, rfl, by omega, M⟩ (by simp) ?_
    rintro I4 hI4 k4 ks4 e4' h4 ⟨x, qm4, qw4, qc4, um4, uw4, vm4, E4, rfl, hx, rfl, hE4, M4⟩
    simp
    by_cases hx66 : x < 64
    · have hx66' : (x : Int) < 64 := by omega
      have e5 : IntKind.i64.wrap ((x : Int) + 1) = ((x + 1 : Nat) : Int) := by rw [wrap_i64 (by omega) (by omega)]; omega
      obtain ⟨v5, h5, q5, e6, M5, E5⟩ := M4.push (bytes := 8) (z := .int .i64 0) (by simp [B_colonnadelaw04_apart]) (by omega) (by omega) (by omega)
      simp [B_colonnadelaw04_apart] at e6
      by_cases hkeep : x < 16 ∨ x = 63
      · have hg5 := M5.cur.good
        obtain ⟨um6, h6, qm6, e7, uw6, h7, qw6, e8, M6⟩ := M5.keep E5 hg5 (by omega) M5.curE
        have hk2 : E4.length + 1 ≤ 64 * j + (x + 1) := by omega
        by_cases hx16 : x < 16
        · have hx16' : (x : Int) < 16 := by omega
          simp [hx66', tmj, wBj, e6, hx16', hg5, e7, e8, e5, skipV]
          exact ⟨64 - (x + 1), by omega, hI4 _ _ _ _ ⟨x + 1, qm6, qw6, q5, um6, uw6, v5, _, rfl, by omega, rfl, by simpa using hk2, M6⟩ (by simp)⟩
        · have hx65 : x = 63 := by omega
          subst hx65
          simp [tmj, wBj, e6, hg5, e7, e8, skipV]
          exact hI4 _ _ _ _ ⟨64, qm6, qw6, q5, um6, uw6, v5, _, rfl, by omega, rfl, by simpa using hk2, M6⟩ (by simp [show IntKind.i64.wrap 64 = 64 from wrap_i64 (by omega) (by omega)])
      · have hx16' : ¬ (x : Int) < 16 := by omega
        have hx65' : ¬ (x : Int) = 63 := by omega
        simp [hx66', tmj, wBj, e6, hx16', hx65', e5]
        exact ⟨64 - (x + 1), by omega, hI4 _ _ _ _ ⟨x + 1, qm4, qw4, q5, um4, uw4, v5, E4, rfl, by omega, rfl, by omega, M5⟩ (by simp)⟩
    have hx66' : ¬ (x : Int) < 64 := by omega
    simp [hx66', e4]
    refine ⟨i - (j + 1), by omega, hI3 _ _ _ _ ⟨j + 1, qm4, qw4, um4, uw4, E4, rfl, by omega, rfl, by omega, ?_⟩ (by simp)⟩
    by_cases hlast : j + 1 < i
    · exact .inl ⟨hlast, M4.next hlast⟩
    · exact .inr ⟨by omega, _, _, _, _, M4⟩
  have hji : j = i := by omega
  subst hji
  obtain ⟨i', k', qc, vm, M⟩ : ∃ i' k' qc vm, Mid h1 h3 j qv qm qw i' k' qc V qs ns A_colonnadelaw04_apart B_colonnadelaw04_apart vm um uw E := by
    rcases M3 with ⟨h4, _⟩ | ⟨_, M⟩
    · omega
    · exact M
  simp
  -- looked at
  obtain ⟨m, hm⟩ : ∃ m, E.length = m := ⟨_, rfl⟩
  obtain ⟨bm, cm, ebm, _⟩ := M.more.shape
  simp only [List.length_map, hm] at ebm
  refine go_loopK (fun k ks hh => ∃ (x : Nat), k = m - x ∧ x ≤ m ∧ ks = [(0, .slice (some ⟨qv, 0, some 0⟩) j j), (5, um), (6, uw), (10, .int .i64 x)] ∧ hh = h3) (n := m) ⟨0, rfl, by omega, rfl, rfl⟩ (by simp) ?_
  rintro I5 hI5 k5 ks5 e5 h3 ⟨x, rfl, hx, rfl, rfl⟩
  subst ebm
  simp
  refine branch_dec (fun hlt => ?_) (fun hge => ?_)
  · have hxm : x < m := by omega
    have hml : m ≤ 64 * 100 := by omega
    have e6 : IntKind.i64.wrap ((x : Int) + 1) = ((x + 1 : Nat) : Int) := by rw [wrap_i64 (by omega) (by omega)]; omega
    obtain ⟨am, cm', aw, cw, a, ca, w, z, em, ew, hwj, hz, lw, lm, la⟩ := M.look (j := x) (by omega)
    rw [hm] at em ew
    simp only [Value.slice.injEq] at em
    obtain ⟨rfl, _, rfl⟩ := em
    subst ew
    have tmw := tm w hwj
    have wAw := wA w hwj
    have wBw := wB w hwj
    obtain ⟨bo, co, hVo, ho⟩ := M.oshape hwj
    have ldo := M.row.get (i := w) (range_get hwj)
    rw [hVo] at ldo
    have hsm := L.small w hwj
    obtain ⟨N, hN⟩ : ∃ N, ns w = N := ⟨_, rfl⟩
    rw [hN] at lm la ldo hsm ho
    obtain ⟨Z, hZ⟩ : ∃ Z, N + z = Z := ⟨_, rfl⟩
    rw [hZ] at lm la
    simp [hxm, lw]
    refine go_loopK (fun k ks hh => ∃ (y : Nat), k = Z - y ∧ y ≤ Z ∧ ks = [(0, .slice (some ⟨qv, 0, some 0⟩) j j), (5, .slice (some am) m cm), (6, .slice (some aw) m cw), (10, .int .i64 x), (11, .int .i64 w), (12, .int .i64 y)] ∧ hh = h3) (n := Z) ⟨0, rfl, by omega, rfl, rfl⟩ (by simp) ?_
    rintro I6 hI6 k6 ks6 e6' h3 ⟨y, rfl, hy, rfl, rfl⟩
    simp [hxm, lm]
    refine branch_dec (fun hlt2 => ?_) (fun hge2 => ?_)
    · have hyZ : y < Z := by omega
      have lay := la y hyZ
      by_cases hyN : y < N
      · have hyN' : (y : Int) < N := by omega
        have e7 : IntKind.i64.wrap ((y : Int) + 1) = ((y + 1 : Nat) : Int) := by rw [wrap_i64 (by omega) (by omega)]; omega
        have hyN3 : ¬ N ≤ y := by omega
        obtain ⟨ao, rfl, lo⟩ := ho y hyN
        rw [if_pos hyN] at lay
        simp [A_colonnadelaw04_apart] at lay lo
        simp [hxm, hwj, lm, ldo, hyN, hyN', hyN3, hyZ, tmw, wAw, wBw, lay, lo, e7, skipV]
        exact ⟨Z - (y + 1), by omega, hI6 _ _ _ _ ⟨y + 1, rfl, by omega, rfl, rfl⟩ (by simp)⟩
      · have hyN' : ¬ (y : Int) < N := by omega
        have hyN3 : N ≤ y := by omega
        rw [if_neg hyN] at lay
        simp [B_colonnadelaw04_apart] at lay
        have e7 : IntKind.i64.wrap ((y : Int) + 1) = ((y + 1 : Nat) : Int) := by rw [wrap_i64 (by omega) (by omega)]; omega
        simp [hxm, hwj, lm, ldo, hyN, hyN', hyN3, hyZ, tmw, wAw, wBw, lay, e7, skipV]
        exact ⟨Z - (y + 1), by omega, hI6 _ _ _ _ ⟨y + 1, rfl, by omega, rfl, rfl⟩ (by simp)⟩
    have hyZ : y = Z := by omega
    subst hyZ
    simp [e6]
    exact ⟨m - (x + 1), by omega, hI5 _ _ _ _ ⟨x + 1, rfl, by omega, rfl, rfl⟩ (by simp)⟩
  have hxm : x = m := by omega
  subst hxm
  simp
  refine hQ _ _ ⟨rfl, ?_⟩
  exact (p1.chg.mono fun b _ e => .inl e).trans (M.chg.mono fun b _ e => by
    rcases e with e | e
    · exact .inl e
    · exact .inr (by omega))

end Go.Ax
