/- Seat pack: bytes lent and kept; At, Word; the document's. -/
import Derived.Test.YtigjihomdnkepaaMT
import Derived.Test.YtigjihomdnkepaaPB
namespace Go.Ax
set_option linter.unusedVariables false
set_option linter.unusedSimpArgs false

/-- The marks behind lent bytes (the first k). -/
def marksL (k : Nat) : List (BitVec 8) := (List.range k).map fun i => BitVec.ofNat 8 (150 + i)
theorem marksL_succ (k : Nat) : marksL (k + 1) = marksL k ++ [BitVec.ofNat 8 (150 + k)] := by simp [marksL, List.range_succ]
theorem marksL_len (k : Nat) : (marksL k).length = k := by simp [marksL]

theorem mark_wrap {k : Nat} (hk : k < 66) : IntKind.u8.wrap ((150 + k : Nat) : Int) = bi (BitVec.ofNat 8 (150 + k)) := by
  rw [wrap8_bi]; congr 1

theorem clone_app {h : Heap} {v : Value} {bs : List (BitVec 8)} (r : Reads h v (bs.map bv)) (hl : bs.length ≤ 140737488351232) :
    ∃ v1 h1 q1, aappend (hnew h [] 1) 1 1 [.int .u8 0] (.slice (some ⟨h.dyn.length, 0, some 0⟩) 0 0) v = some (v1, h1) ∧ Own h1 v1 q1 (bs.map bv) ∧ Grow h h1 ∧ h.dyn.length ≤ q1 ∧ TopS v1 := by
  have hv : slen v = some (bs.map bv).length ∧ firstN (hnew h [] 1) 1 (bs.map bv).length v = some (bs.map bv) := by
    rcases r.grow (Grow.new h [] 1) with ⟨rfl, h0⟩ | ⟨a, c, rfl, hl⟩
    · rw [h0]; exact ⟨rfl, rfl⟩
    · refine ⟨rfl, ?_⟩
      simp only [firstN, Nat.mul_one]
      exact loadN_of _ _ hl
  have own0 : Own (hnew h [] 1) (.slice (some ⟨h.dyn.length, 0, some 0⟩) 0 0) h.dyn.length [] := .inr (.inr ⟨0, [], rfl, by decide, RowAt.new _ _ _⟩)
  by_cases h0 : bs = []
  · subst h0
    have e := own0.app0 (by simp) (bytes := 1) (z := .int .u8 0) hv.1 hv.2
    exact ⟨_, _, h.dyn.length, e, own0, Grow.new _ _ _, Nat.le_refl _, fun b n c e => by cases e; exact .inr (.inr (Nat.le_refl _))⟩
  · have hg : (bs.map bv).all goodC = true := by rw [List.all_eq_true]; intro x hx; rw [List.mem_map] at hx; obtain ⟨y, _, rfl⟩ := hx; simp [bv]
    obtain ⟨v', h', q', e, o, c, _, d⟩ := own0.app (bytes := 1) (z := .int .u8 0) (by simpa using h0) hv.1 hv.2 hg (by simp; omega) (by simp; omega)
    obtain ⟨b, m, ht⟩ := aappend_top e hv.1 (by simpa using h0) (fun b n c e => by cases e; exact .inr (.inr (Nat.le_refl _)))
    refine ⟨v', h', q', e, by simpa using o, (Grow.new h [] 1).after c fun n hn hb => by have := hb.1; omega, ?_, ht ▸ TopS.full⟩
    rcases d with ⟨h1, _⟩ | h1
    · omega
    · rw [h1]; simp

theorem bytesLent_spec {h : Heap} {v : Value} {bs : List (BitVec 8)} (r : Reads h v (bs.map bv)) (hl : bs.length ≤ 140737488351232) :
    Gives P T (.fn F_colonnadelaw02_bytesLent) [v] h fun r h' => ∃ q, Room h' r q (bs.map bv) ((marksL 66).map bv) ∧ Grow h h' ∧ h.dyn.length ≤ q := by
  obtain ⟨b, c, ev, _⟩ := r.shape
  simp only [List.length_map] at ev
  refine gives_by t_colonnadelaw02_bytesLent (by simp [c_colonnadelaw02_bytesLent]) fun Q hQ => ?_
  simp [c_colonnadelaw02_bytesLent]
  obtain ⟨v1, h1, q1, e1, o1, g1, hq1, t1⟩ := clone_app r hl
  simp [e1]
  refine go_loopK (fun kk ks h2 => ∃ (k : Nat) (u : Value) (q : Nat), kk = 66 - k ∧ k ≤ 66 ∧ ks = [(0, v), (3, u), (4, .int .i64 k)] ∧ Own h2 u q ((bs ++ marksL k).map bv) ∧ Grow h h2 ∧ h.dyn.length ≤ q ∧ TopS u ∧ (k ≠ 0 → ∃ b n, u = .slice b n gcap)) (n := 66)
    ⟨0, v1, q1, rfl, by omega, rfl, by simpa [marksL] using o1, g1, hq1, t1, fun h => absurd rfl h⟩ (by simp) ?_
  rintro I hI kk ks e h3 ⟨k, u, q, rfl, hk, rfl, ow, gg, hq, ht, _⟩
  simp
  by_cases hlt : k < 66
  · have hlt' : (k : Int) < 66 := by omega
    have f1 : IntKind.i64.wrap (150 + (k : Int)) = ((150 + k : Nat) : Int) := by rw [wrap_i64 (by omega) (by omega)]; omega
    have f2 := mark_wrap hlt
    obtain ⟨x, hx⟩ : ∃ x, BitVec.ofNat 8 (150 + k) = x := ⟨_, rfl⟩
    obtain ⟨n150, hn150⟩ : ∃ x, 150 + k = x := ⟨_, rfl⟩
    rw [hx, hn150] at f2
    rw [hn150] at f1
    have e4 : IntKind.i64.wrap ((k : Int) + 1) = ((k + 1 : Nat) : Int) := by rw [wrap_i64 (by omega) (by omega)]; omega
    obtain ⟨v', h', q', e8, o', c', l', d'⟩ := ow.push (bytes := 1) (z := .int .u8 0) (x := .int .u8 (bi x)) (by simp) (by simp [marksL_len]; omega) (by simp [marksL_len]; omega)
    obtain ⟨b, m, et⟩ := aappend_top e8 rfl (by simp) ht
    simp [hlt, hlt', f1, f2, e8, e4]
    refine ⟨66 - (k + 1), by omega, hI _ _ _ _ ⟨k + 1, v', q', rfl, by omega, rfl, ?_, gg.after c' fun n hn hb => by have := hb.1; omega, ?_, et ▸ TopS.full, fun _ => ⟨b, m, et⟩⟩ (by simp)⟩
    · rw [marksL_succ, hx, ← List.append_assoc, List.map_append]; exact o'
    · have := gg.len
      rcases d' with ⟨h1, _⟩ | h1 <;> omega
  · have hk66 : k = 66 := by omega
    subst hk66
    rename_i htop
    obtain ⟨v2, e2, rm⟩ := room_mk (l := bs.map bv) (more := (marksL 66).map bv) ow (htop (by omega)) (by simp)
    simp only [List.length_map] at e2
    subst ev
    simp [e2]
    exact hQ _ _ ⟨q, rm, gg, hq⟩

theorem bytesKept_spec {h : Heap} {v v' : Value} {q : Nat} {bs : List (BitVec 8)} (r : Room h v q (bs.map bv) ((marksL 66).map bv)) (r' : Reads h v' (bs.map bv)) (hl : bs.length ≤ 140737488351232) :
    Gives P T (.fn F_colonnadelaw02_bytesKept) [v, v'] h fun r h' => r = .bool true ∧ h' = h := by
  obtain ⟨b, c, ev, _⟩ := r'.shape
  simp only [List.length_map] at ev
  refine gives_by t_colonnadelaw02_bytesKept (by simp [c_colonnadelaw02_bytesKept]) fun Q hQ => ?_
  obtain ⟨N, hN⟩ : ∃ N, bs.length = N := ⟨_, rfl⟩
  obtain ⟨M, hM⟩ : ∃ M, N + 66 = M := ⟨_, rfl⟩
  have f0 : IntKind.i64.wrap ((N : Int) + 66) = (M : Nat) := by rw [wrap_i64 (by omega) (by omega)]; omega
  obtain ⟨v2, e2, r2⟩ := r.reach (n := M) (by simp [marksL_len]; omega)
  have hs1 := b2s_reads r.reads
  have hs2 := b2s_reads r'
  rw [hN] at ev
  obtain ⟨b2, c2, ev2, hr2⟩ := r2.shape
  have hlen2 : (bs.map bv ++ (marksL 66).map bv).length = M := by simp [marksL_len]; omega
  rw [hlen2] at ev2 hr2
  subst ev2
  subst ev
  simp [c_colonnadelaw02_bytesKept, hs1, hs2, f0, e2]
  refine go_loopK (fun kk ks h2 => ∃ (k : Nat), kk = 66 - k ∧ k ≤ 66 ∧ ks = [(1, .slice b N c), (5, .slice b2 M c2), (6, .int .i64 k)] ∧ h2 = h) (n := 66) ⟨0, rfl, by omega, rfl, rfl⟩ (by simp) ?_
  rintro I hI kk ks e h3 ⟨k, rfl, hk, rfl, rfl⟩
  simp
  by_cases hlt : k < 66
  · have hlt' : (k : Int) < 66 := by omega
    have f1 : IntKind.i64.wrap (150 + (k : Int)) = ((150 + k : Nat) : Int) := by rw [wrap_i64 (by omega) (by omega)]; omega
    have f2 := mark_wrap hlt
    have hget : (bs.map bv ++ (marksL 66).map bv)[N + k]? = some (.int .u8 (bi (BitVec.ofNat 8 (150 + k)))) := by
      rw [List.getElem?_append_right (by simp; omega)]
      simp [marksL, hN, hlt]; rfl
    obtain ⟨x, hx⟩ : ∃ x, BitVec.ofNat 8 (150 + k) = x := ⟨_, rfl⟩
    obtain ⟨n150, hn150⟩ : ∃ x, 150 + k = x := ⟨_, rfl⟩
    rw [hx, hn150] at f2
    rw [hx] at hget
    rw [hn150] at f1
    have f3 : IntKind.i64.wrap ((N : Int) + k) = ((N + k : Nat) : Int) := by rw [wrap_i64 (by omega) (by omega)]; omega
    have hlm : N + k < M := by omega
    obtain ⟨Nk, hNk⟩ : ∃ x, N + k = x := ⟨_, rfl⟩
    rw [hNk] at f3 hget hlm
    have e4 : IntKind.i64.wrap ((k : Int) + 1) = ((k + 1 : Nat) : Int) := by rw [wrap_i64 (by omega) (by omega)]; omega
    obtain ⟨a, rfl, hla⟩ := hr2 Nk hlm
    have hld := hla Nk _ hget
    simp [hlt, hlt', f1, f2, f3, hlm, hld, e4]
    exact ⟨66 - (k + 1), by omega, hI _ _ _ _ ⟨k + 1, rfl, by omega, rfl, rfl⟩ (by simp)⟩
  · have hk66 : k = 66 := by omega
    subst hk66
    simp
    exact hQ _ _ ⟨rfl, rfl⟩

end Go.Ax
