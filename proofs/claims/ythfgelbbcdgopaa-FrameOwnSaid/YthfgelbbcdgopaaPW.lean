/- Seat pack: the 64 bits from a bit on. -/
import Derived.Test.YthfgelbbcdgopaaMQ
import Derived.Test.YthfgelbbcdgopaaMR
import Derived.Test.YthfgelbbcdgopaaXK
namespace Go.Ax
set_option linter.unusedVariables false
set_option linter.unusedSimpArgs false

theorem Reads.cutLo {h : Heap} {v : Value} {l : List Value} {d : Nat} (r : ArgS h v l ∨ Reads h v l) (hd : d < l.length) (ha : ∀ a n c, v = .slice (some a) n c → 0 < n → esOk h 1 a = true ∧ (c < gcap → n ≤ c) ∧ c ≤ gcap) :
    ∃ a c, v = .slice (some a) l.length c ∧ ∃ c', aslice h 1 v (some (.int .i64 d)) none none = some (.slice (some (aadd a d)) (l.length - d) c') ∧ ∀ i x, l[i]? = some x → hload h (aadd a i) = some x := by
  have r' : Reads h v l := r.elim ArgS.reads id
  rcases r' with ⟨rfl, rfl⟩ | ⟨a, c, rfl, hl⟩
  · simp at hd
  obtain ⟨h1, h2, h3⟩ := ha a _ c rfl (by omega)
  refine ⟨a, c, rfl, ?_⟩
  by_cases hc : c < gcap
  · refine ⟨c - d, ?_, hl⟩
    have h2 := h2 hc
    have e1 : (d : Int) ≤ (l.length : Int) := by omega
    have e2 : ¬ c = d := by omega
    simp [aslice, hc, cutK, optBound, asliceBound, e1, e2]
  · have hcg : c = gcap := by omega
    subst hcg
    by_cases h0 : d = 0
    · subst h0
      refine ⟨gcap, ?_, hl⟩
      simp [aslice, optBound, asliceBound]
    · refine ⟨gcap, ?_, hl⟩
      have e1 : (d : Int) ≤ (l.length : Int) := by omega
      simp [aslice, optBound, asliceBound, e1, h0, hd, h1]

/-- A slice that may be cut. -/
def Cuts (h : Heap) (v : Value) : Prop := ∀ a n c, v = .slice (some a) n c → 0 < n → esOk h 1 a = true ∧ (c < gcap → n ≤ c) ∧ c ≤ gcap

/-- Bytes to read and cut. -/
structure Bytes (h : Heap) (v : Value) (bs : List (BitVec 8)) : Prop where
  reads : Reads h v (bs.map bv)
  cuts : Cuts h v

theorem ArgS.bytes {h : Heap} {v : Value} {bs : List (BitVec 8)} (r : ArgS h v (bs.map bv)) : Bytes h v bs := by
  refine ⟨r.reads, ?_⟩
  rcases r with ⟨rfl, _⟩ | ⟨b, o, rfl, _⟩
  · intro a n c e _; simp at e
  · intro a n c e _
    simp only [Value.slice.injEq, Option.some.injEq] at e
    obtain ⟨rfl, rfl, rfl⟩ := e
    exact ⟨rfl, fun h => absurd h (Nat.lt_irrefl _), Nat.le_refl _⟩

theorem Own.bytes {h : Heap} {v : Value} {q : Nat} {bs : List (BitVec 8)} (o : Own h v q (bs.map bv)) : Bytes h v bs := by
  refine ⟨o.reads, ?_⟩
  rcases o with ⟨rfl, _⟩ | ⟨u, rfl, r⟩ | ⟨u, rest, rfl, hc, r⟩
  · intro a n c e _; simp at e
  · intro a n c e _
    simp only [Value.slice.injEq, Option.some.injEq] at e
    obtain ⟨rfl, rfl, rfl⟩ := e
    obtain ⟨k, hk, _, _, _, _, h5⟩ := r.ex
    exact ⟨by simp [esOk, hk, h5], fun h => absurd h (Nat.lt_irrefl _), Nat.le_refl _⟩
  · intro a n c e _
    simp only [Value.slice.injEq, Option.some.injEq] at e
    obtain ⟨rfl, rfl, rfl⟩ := e
    obtain ⟨k, hk, _, _, _, _, h5⟩ := r.ex
    exact ⟨by simp [esOk, hk, h5], fun _ => by omega, by omega⟩

theorem Bytes.grow {h h' : Heap} {v : Value} {bs : List (BitVec 8)} (b : Bytes h v bs) (g : Grow h h') : Bytes h' v bs := by
  refine ⟨b.reads.grow g, fun a n c e hn => ?_⟩
  obtain ⟨h1, h2, h3⟩ := b.cuts a n c e hn
  refine ⟨?_, h2, h3⟩
  unfold esOk at h1 ⊢
  cases ha : a.spot with
  | none => rfl
  | some u =>
    rw [ha] at h1
    simp only at h1 ⊢
    cases hk : h.dyn[a.block]? with
    | none => rw [hk] at h1; simp at h1
    | some k => rw [g.same _ (List.getElem?_eq_some_iff.1 hk).1 id, hk]; rw [hk] at h1; exact h1

theorem setWidth_bit (x : BitVec 8) (j : Nat) : (x.setWidth 64).getLsbD j = x.getLsbD j := by
  rw [BitVec.getLsbD_setWidth]
  by_cases h : j < 64
  · simp [h]
  · rw [BitVec.getLsbD_of_ge x j (by omega)]; simp

/-- Eight bytes put into a word, one by one. -/
theorem word_step {bs : List (BitVec 8)} {d i : Nat} {x : BitVec 64} (hi : i < 8) (hx : ∀ j, j < 64 → x.getLsbD j = (decide (j < 8 * i) && bbit bs (8 * d + j))) :
    ∀ j, j < 64 → (x ||| ((byteA bs (d + i)).setWidth 64) <<< (8 * i)).getLsbD j = (decide (j < 8 * (i + 1)) && bbit bs (8 * d + j)) := by
  intro j hj
  rw [BitVec.getLsbD_or, hx j hj, BitVec.getLsbD_shiftLeft, setWidth_bit]
  by_cases h1 : j < 8 * i
  · have : j < 8 * (i + 1) := by omega
    simp [h1, this]
  · by_cases h2 : j < 8 * (i + 1)
    · have e : bbit bs (8 * d + j) = (byteA bs (d + i)).getLsbD (j - 8 * i) := by
        unfold bbit
        rw [show (8 * d + j) / 8 = d + i by omega, show (8 * d + j) % 8 = j - 8 * i by omega]
      simp [h1, h2, e, hj]
    · rw [BitVec.getLsbD_of_ge _ (j - 8 * i) (by omega)]
      simp [h1, h2]

theorem Word_spec {h : Heap} {v : Value} {bs : List (BitVec 8)} (r : Bytes h v bs) {k : Nat} (hl : bs.length ≤ 1000000000000000) (hk : k ≤ 1000000000000000000) :
    Gives P T (.fn F_pack_Word) [v, .int .i64 k] h fun r h' => r = .int .u64 (wi (wordB bs k)) ∧ h' = h := by
  obtain ⟨b, c, rfl, hr⟩ := r.reads.shape
  have hcut := r.cuts
  have hrd := r.reads
  simp only [List.length_map] at hr hcut hrd ⊢
  obtain ⟨N, hN⟩ : ∃ N, bs.length = N := ⟨_, rfl⟩
  rw [hN] at hr hl hcut hrd ⊢
  refine gives_by t_pack_Word (by simp [c_pack_Word]) fun Q hQ => ?_
  have k0 : ¬ ((k : Int) ≤ -64) := by omega
  have k1 : ¬ ((k : Int) < 0) := by omega
  have e8 : IntKind.i64.wrap (8 * (N : Int)) = 8 * (N : Int) := wrap_i64 (by omega) (by omega)
  have e1 := tmod_nat k 8
  have e2 := tdiv_nat k 8
  obtain ⟨m, hm⟩ : ∃ m, k % 8 = m := ⟨_, rfl⟩
  obtain ⟨d, hd⟩ : ∃ d, k / 8 = d := ⟨_, rfl⟩
  rw [hm] at e1
  rw [hd] at e2
  simp only [Int.cast_ofNat_Int] at e1 e2
  have e3 : IntKind.i64.wrap (d : Int) = d := wrap_i64 (by omega) (by omega)
  by_cases hlt : d < N
  case neg =>
    have h1 : 8 * (N : Int) ≤ k := by omega
    simp [c_pack_Word, k0, e8, h1]
    refine hQ _ _ ⟨?_, rfl⟩
    have : wordB bs k = 0#64 := by
      apply BitVec.eq_of_getLsbD_eq
      intro j hj
      rw [wordB, bvOf_bit _ _ _ (by omega), bbit_out (by omega)]; simp
    rw [this]; rfl
  have h1 : ¬ 8 * (N : Int) ≤ k := by omega
  obtain ⟨a, c', ev, c2, ec, hld⟩ := Reads.cutLo (.inr hrd) (d := d) (by simp; omega) hcut
  simp only [List.length_map, hN, Value.slice.injEq] at ev ec
  obtain ⟨rfl, _, rfl⟩ := ev
  simp [c_pack_Word, k0, k1, e8, h1, e2, e3, ec]
  obtain ⟨R, hR⟩ : ∃ R, N - d = R := ⟨_, rfl⟩
  obtain ⟨M, hM⟩ : ∃ M, min 8 R = M := ⟨_, rfl⟩
  have hM' : min 8 (R : Int) = (M : Nat) := by omega
  rw [hR, hM']
  refine go_loopK (fun kk ks h2 => ∃ (i : Nat) (x : BitVec 64), kk = M - i ∧ i ≤ M ∧ ks = [(1, .int .i64 k), (5, .int .u64 (wi x)), (6, .slice (some (aadd a d)) R c2), (31, .int .i64 M), (32, .int .i64 i)] ∧
    (∀ j, j < 64 → x.getLsbD j = (decide (j < 8 * i) && bbit bs (8 * d + j))) ∧ h2 = h) (n := M) ⟨0, 0, rfl, by omega, rfl, by simp, rfl⟩ (by simp) ?_
  rintro I hI kk ks e h3 ⟨i, x, rfl, hi, rfl, hx, rfl⟩
  simp
  refine branch_dec (fun hlt2 => ?_) (fun hge => ?_)
  · have hiM : i < M := by omega
    have hiR : i < R := by omega
    have f0 : IntKind.i64.wrap (8 * (i : Int)) = ((8 * i : Nat) : Int) := by rw [wrap_i64 (by omega) (by omega)]; omega
    obtain ⟨s, hs⟩ : ∃ s, 8 * i = s := ⟨_, rfl⟩
    rw [hs] at f0
    have e4 : IntKind.i64.wrap ((i : Int) + 1) = ((i + 1 : Nat) : Int) := by rw [wrap_i64 (by omega) (by omega)]; omega
    have hl2 := hld (d + i) _ (bv_get (show d + i < bs.length by omega))
    have ea : aadd (aadd a d) i = aadd a (d + i) := by simp [aadd]; omega
    simp [hiR, ea, hl2, f0, e4]
    refine ⟨M - (i + 1), by omega, hI _ _ _ _ ⟨i + 1, _, rfl, by omega, rfl, word_step (by omega) hx, rfl⟩ ?_⟩
    simp [hs]
  · have hiM : i = M := by omega
    subst hiM
    have hin : ∀ j, j < 64 → x.getLsbD j = bbit bs (8 * d + j) := by
      intro j hj
      rw [hx j hj]
      by_cases h5 : j < 8 * i
      · simp [h5]
      · rw [bbit_out (by omega)]; simp
    simp [e1]
    by_cases hm0 : m = 0
    · subst hm0
      simp [skipV]
      refine hQ _ _ ⟨?_, rfl⟩
      have : x = wordB bs k := by
        apply eq_bvOf (by omega)
        intro j hj
        rw [hin j hj, show 8 * d + j = k + j by omega]; simp [hj]
      rw [this]
    · have hmp : 0 < m := by omega
      have hm8 : m < 8 := by omega
      have z4 : IntKind.i64.wrap (64 - (m : Int)) = ((64 - m : Nat) : Int) := by rw [wrap_i64 (by omega) (by omega)]; omega
      obtain ⟨m1, hm1⟩ : ∃ m1, 64 - m = m1 := ⟨_, rfl⟩
      rw [hm1] at z4
      by_cases h8 : 8 < R
      · have h8' : (8 : Int) < R := by omega
        have hl2 := hld (d + 8) _ (bv_get (show d + 8 < bs.length by omega))
        have ea : aadd (aadd a d) 8 = aadd a (d + 8) := by simp [aadd]; omega
        have hi8 : iadR h3 1 (.slice (some (aadd a d)) R c2) (.int .i64 8) = some (.pointer (some (aadd a (d + 8))), h3) := by
          have := iad_nat (h := h3) (es := 1) (j := 8) (len := R) (c := c2) (a := aadd a d) (kd := .i64) h8
          rw [show ((8 : Nat) : Int) = 8 by rfl, Nat.mul_one, ea] at this
          exact this
        simp [hmp, h8', hi8, hl2, e1, z4]
        refine hQ _ _ ⟨?_, rfl⟩
        have : x >>> m ||| ((byteA bs (d + 8)).setWidth 64) <<< m1 = wordB bs k := by
          apply eq_bvOf (by omega)
          intro j hj
          rw [BitVec.getLsbD_or, BitVec.getLsbD_ushiftRight, BitVec.getLsbD_shiftLeft, setWidth_bit]
          by_cases hjm : m + j < 64
          · have : j < m1 := by omega
            rw [hin _ hjm, show 8 * d + (m + j) = k + j by omega]
            simp [this, hj]
          · have h9 : ¬ j < m1 := by omega
            rw [BitVec.getLsbD_of_ge x _ (by omega)]
            have e : bbit bs (k + j) = (byteA bs (d + 8)).getLsbD (j - m1) := by
              unfold bbit
              rw [show (k + j) / 8 = d + 8 by omega, show (k + j) % 8 = j - m1 by omega]
            simp [h9, hj, e]
        rw [this]
      · have h8' : ¬ (8 : Int) < R := by omega
        simp [hmp, h8', skipV]
        refine hQ _ _ ⟨?_, rfl⟩
        have : x >>> m = wordB bs k := by
          apply eq_bvOf (by omega)
          intro j hj
          rw [BitVec.getLsbD_ushiftRight]
          by_cases hjm : m + j < 64
          · rw [hin _ hjm, show 8 * d + (m + j) = k + j by omega]; simp [hj]
          · rw [BitVec.getLsbD_of_ge x _ (by omega), bbit_out (by omega)]; simp
        rw [this]

end Go.Ax
