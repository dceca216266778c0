/- Seat pack: Unpack of each kind; the laws of Pack and Unpack. -/
import Derived.Test.YthfgelbbcdgopaaPF
namespace Go.Ax
set_option linter.unusedVariables false
set_option linter.unusedSimpArgs false

theorem cut_iff {b : Nat} (hb : b ≤ 64) {x : BitVec 64} : cutB b x = x ↔ x.toNat < 2 ^ b := by
  constructor
  · intro h; rw [← h]; exact cutB_lt hb x
  · exact cutB_eq hb

theorem ofKind_lanes {bs : List (BitVec 8)} {w n b : Nat} (h : lanesFit bs w n b) : ofKind b (lanesL bs w n) := by
  intro i hi
  rw [lanesL_len] at hi
  have : numA (lanesL bs w n) i = laneB bs w i := by
    unfold numA lanesL
    rw [List.getD_eq_getElem?_getD, List.getElem?_map, List.getElem?_range hi]; rfl
  rw [this]; exact h i hi

theorem room_bytes {h : Heap} {v : Value} {q : Nat} {bs : List (BitVec 8)} {more : List Value} (rm : Room h v q (bs.map bv) more) : Bytes h v bs := by
  refine ⟨rm.reads, ?_⟩
  obtain ⟨u2, rfl, r2⟩ := rm
  intro a n c e _
  simp only [Value.slice.injEq, Option.some.injEq] at e
  obtain ⟨rfl, rfl, rfl⟩ := e
  exact ⟨r2.esOk _, fun h => absurd h (Nat.lt_irrefl _), Nat.le_refl _⟩

theorem Unpack_uint64_bad {h : Heap} {v : Value} {bs : List (BitVec 8)} (r : Bytes h v bs) (hl : bs.length ≤ 140737488351232) {w n : Int} (hf : ¬ faultE bs w n = 0) :
    Gives P T (.fn F_pack_Unpack_uint64) [v, .int .i64 w, .int .i64 n] h fun r h' => r = .tuple #[.slice none 0 0, .int .i64 (faultE bs w n)] ∧ h' = h := by
  obtain ⟨b, c, ev, hr⟩ := r.reads.shape
  simp only [List.length_map] at hr ev
  refine gives_by t_pack_Unpack_uint64 (by simp [c_pack_Unpack_uint64]) fun Q hQ => ?_
  simp [c_pack_Unpack_uint64]
  refine got_call (may_spec _) ?_
  rintro _ _ ⟨rfl, rfl⟩
  rename_i h
  by_cases hm : 0 ≤ w ∧ w ≤ 64
  case neg =>
    have : faultE bs w n = 20 := by unfold faultE; rw [if_pos hm]
    rw [this] at hQ
    simp [hm]
    exact hQ _ _ ⟨rfl, rfl⟩
  simp [hm]
  by_cases hb : bytesE n w = 0
  case neg =>
    have : faultE bs w n = bytesE n w := by unfold faultE; rw [if_neg (by simpa using hm), if_pos hb]
    rw [this] at hQ
    refine got_call (Bytes_bad hb) ?_
    rintro _ _ ⟨rfl, rfl⟩
    simp [hb]
    exact hQ _ _ ⟨rfl, rfl⟩
  obtain ⟨n, w, rfl, rfl, hn, hw⟩ := bytesE_ok hb
  refine got_call (Bytes_spec hn hw) ?_
  rintro _ _ ⟨rfl, rfl⟩
  rename_i h
  obtain ⟨N, hN⟩ : ∃ N, bs.length = N := ⟨_, rfl⟩
  rw [hN] at ev
  have hlen : ∀ h, lenR h v = some (.int .i64 N, h) := fun h => by rw [ev]; simp
  have hb1 : n * w ≤ 16777216 * 64 := Nat.mul_le_mul hn hw
  obtain ⟨a, ha⟩ : ∃ a, n * w = a := ⟨_, rfl⟩
  obtain ⟨B, hB⟩ : ∃ B, (a + 7) / 8 = B := ⟨_, rfl⟩
  have f0 : (n : Int) * w = (a : Int) := by rw [← ha, Int.natCast_mul]
  rw [ha, hB]
  have hF : faultE bs w n = if (N : Int) < B then 22 else if (B : Int) < N then 23 else if anyFrom bs a then 23 else 0 := by
    unfold faultE
    rw [if_neg (by simpa using hm), if_neg (by simpa using hb), f0, hN, Int.toNat_natCast]
    have : ((a : Int) + 7) / 8 = (B : Nat) := by omega
    rw [this]
  by_cases h1 : (N : Int) < B
  · rw [hF, if_pos h1] at hQ
    simp [hlen, h1]
    exact hQ _ _ ⟨rfl, rfl⟩
  by_cases h2 : (B : Int) < N
  · rw [hF, if_neg h1, if_pos h2] at hQ
    simp [hlen, h1, h2]
    exact hQ _ _ ⟨rfl, rfl⟩
  have hany : anyFrom bs a = true := by
    rw [hF, if_neg h1, if_neg h2] at hf
    cases he : anyFrom bs a with
    | true => rfl
    | false => rw [he] at hf; simp at hf
  rw [hF, if_neg h1, if_neg h2, if_pos hany] at hQ
  have f1 : IntKind.i64.wrap (a : Int) = a := wrap_i64 (by omega) (by omega)
  have hwd : ¬ wordB bs a = 0#64 := by rw [word_any (by omega), hany]; simp
  simp [hlen, h1, h2, f0, f1]
  refine got_call (Word_spec r (by omega) (by omega)) ?_
  rintro _ _ ⟨rfl, rfl⟩
  simp [hwd]
  exact hQ _ _ ⟨rfl, rfl⟩

theorem Unpack_uint64_spec {h : Heap} {v : Value} {bs : List (BitVec 8)} (r : Bytes h v bs) {w n : Nat} (g : Fine bs w n) :
    Gives P T (.fn F_pack_Unpack_uint64) [v, .int .i64 w, .int .i64 n] h fun r h' => Grow h h' ∧ ((¬ lanesFit bs w n 64 ∧ r = .tuple #[.slice none 0 0, .int .i64 21]) ∨ ∃ u q, lanesFit bs w n 64 ∧ r = .tuple #[u, .int .i64 0] ∧ Own h' u q ((lanesL bs w n).map (kv .u64)) ∧ h.dyn.length ≤ q) := by
  obtain ⟨b, c, ev, hr⟩ := r.reads.shape
  simp only [List.length_map] at hr ev
  have hw := g.wle
  have hn := g.nle
  have hm : 0 ≤ (w : Int) ∧ (w : Int) ≤ 64 := by omega
  refine gives_by t_pack_Unpack_uint64 (by simp [c_pack_Unpack_uint64]) fun Q hQ => ?_
  simp [c_pack_Unpack_uint64]
  refine got_call (may_spec _) ?_
  rintro _ _ ⟨rfl, rfl⟩
  rename_i h
  simp [hm]
  refine got_call (Bytes_spec hn hw) ?_
  rintro _ _ ⟨rfl, rfl⟩
  rename_i h
  obtain ⟨N, hN⟩ : ∃ N, bs.length = N := ⟨_, rfl⟩
  rw [hN] at ev
  have hlen : ∀ h, lenR h v = some (.int .i64 N, h) := fun h => by rw [ev]; simp
  have hb1 : n * w ≤ 16777216 * 64 := Nat.mul_le_mul hn hw
  have hgl := g.len
  obtain ⟨a, ha⟩ : ∃ a, n * w = a := ⟨_, rfl⟩
  obtain ⟨B, hB⟩ : ∃ B, (a + 7) / 8 = B := ⟨_, rfl⟩
  have f0 : (n : Int) * w = (a : Int) := by rw [← ha, Int.natCast_mul]
  rw [ha, hB, hN] at hgl
  subst hgl
  rw [ha, hB]
  have hout := g.out
  rw [ha] at hout
  have f1 : IntKind.i64.wrap (a : Int) = a := wrap_i64 (by omega) (by omega)
  have hwd : wordB bs a = 0#64 := by rw [word_any (by omega), anyFrom_false]; exact hout
  simp [hlen, f0, f1]
  refine got_call (Word_spec r (by omega) (by omega)) ?_
  rintro _ _ ⟨rfl, rfl⟩
  rename_i h
  have hmk : mkSR h 1 8 [.int .u64 0] (.int .i64 0) (.int .i64 n) = some (.slice (some (hnext h)) 0 n, hnew h (List.replicate n (.int .u64 0)) 1) := by
    unfold mkSR
    simp only
    rw [if_pos ⟨by omega, by omega, by omega, by omega, rfl⟩]
    have : ∀ n, (List.replicate n [Value.int .u64 0]).flatten = List.replicate n (.int .u64 0) := by
      intro n
      induction n with
      | zero => rfl
      | succ n ih => rw [List.replicate_succ, List.flatten_cons, ih]; rfl
    simp [this]
  simp [hwd, hmk]
  have own0 : Own (hnew h (List.replicate n (.int .u64 0)) 1) (.slice (some ⟨h.dyn.length, 0, some 0⟩) 0 n) h.dyn.length ((lanesL bs w 0).map (kv .u64)) :=
    .inr (.inr ⟨0, List.replicate n (.int .u64 0), by simp [lanesL], by simp [lanesL]; unfold gcap; omega, by simpa [lanesL] using RowAt.new h (List.replicate n (.int .u64 0)) 1⟩)
  refine go_loopK (fun kk ks h2 => ∃ (i : Nat) (u : Value) (q : Nat), kk = n - i ∧ i ≤ n ∧ ks = [(0, v), (1, .int .i64 w), (10, u), (45, .int .i64 n), (46, .int .i64 i)] ∧ Own h2 u q ((lanesL bs w i).map (kv .u64)) ∧ Grow h h2 ∧ h.dyn.length ≤ q ∧ lanesFit bs w i 64) (n := n)
    ⟨0, _, h.dyn.length, rfl, by omega, rfl, own0, Grow.new _ _ _, Nat.le_refl _, fun x hx => by omega⟩ (by simp) ?_
  rintro I2 hI2 kk2 ks2 e2 h4 ⟨i, u, q, rfl, hi, rfl, ow, gg, hq, hfit⟩
  simp
  refine branch_dec (fun hlt2 => ?_) (fun hge2 => ?_)
  · have hin : i < n := by omega
    have e4 : IntKind.i64.wrap ((i : Int) + 1) = ((i + 1 : Nat) : Int) := by rw [wrap_i64 (by omega) (by omega)]; omega
    have hiw : i * w ≤ 16777216 * 64 := Nat.mul_le_mul (by omega) hw
    obtain ⟨s, hs⟩ : ∃ s, i * w = s := ⟨_, rfl⟩
    have g0 : (i : Int) * w = (s : Int) := by rw [← hs, Int.natCast_mul]
    have g1 : IntKind.i64.wrap (s : Int) = s := wrap_i64 (by omega) (by omega)
    simp [g0, g1]
    refine got_call (Word_spec (r.grow gg) (by omega) (by omega)) ?_
    rintro _ _ ⟨rfl, rfl⟩
    rename_i h4
    simp
    refine got_call (mask_spec hw) ?_
    rintro _ _ ⟨rfl, rfl⟩
    rename_i h4
    have hlw : wordB bs s &&& maskW w = laneB bs w i := by rw [lane_word hw, laneB, hs]
    have fw := wrapk_u64 (laneB bs w i)
    by_cases hfi : (laneB bs w i).toNat < 2 ^ 64
    · rw [cutB_eq (by omega) hfi] at fw
      obtain ⟨v', h', q', e8, o', c', l', d'⟩ := ow.push (bytes := 8) (z := .int .u64 0) (x := .int .u64 (wi (laneB bs w i))) (by simp) (by simp [lanesL_len]; omega) (by simp [lanesL_len]; omega)
      simp [-wrap_u8_wi, hlw, fw, e8, e4]
      refine ⟨n - (i + 1), by omega, hI2 _ _ _ _ ⟨i + 1, v', q', rfl, by omega, rfl, ?_, gg.after c' (fun n hn hb => by have := hb.1; omega), own_q gg.len hq d', fun x hx => ?_⟩ (by simp)⟩
      · rw [lanesL_succ, List.map_append]; exact o'
      · by_cases hxi : x = i
        · rw [hxi]; exact hfi
        · exact hfit x (by omega)
    · have hcut : ¬ cutB 64 (laneB bs w i) = laneB bs w i := fun h => hfi ((cut_iff (by omega)).1 h)
      exact absurd (laneB bs w i).isLt hfi
  · have hin : i = n := by omega
    subst hin
    simp
    exact hQ _ _ ⟨gg, .inr ⟨u, q, hfit, rfl, ow, hq⟩⟩

/-- One kind's Pack and the document's, as one answer. -/
theorem both_packs_uint64 {h : Heap} {v v' : Value} {cs : List (BitVec 64)} (r : Reads h v (cs.map (kv .u64))) (r' : Reads h v' (cs.map (kv .u64))) (w : Int) :
    Gives P T (.fn F_colonnaderef02_Pack) [v', .int .i64 w] h fun x h2 => Grow h h2 ∧ ∃ u f, x = .tuple #[u, .int .i64 f] ∧
      Gives P T (.fn F_pack_Pack_uint64) [v, .int .i64 w] h2 fun y h3 => Grow h2 h3 ∧ ∃ (u3 : Value) (q3 : Nat) (bs : List (BitVec 8)), y = .tuple #[u3, .int .i64 f] ∧ Reads h3 u (bs.map bv) ∧ (u = .slice none 0 0 ∨ ∃ q, Own h3 u q (bs.map bv) ∧ h.dyn.length ≤ q) ∧ Own h3 u3 q3 (bs.map bv) ∧ h2.dyn.length ≤ q3 ∧ bs.length ≤ 200000000 := by
  by_cases he : bytesE cs.length w = 0
  · obtain ⟨n, w, hn', rfl, hn, hw⟩ := bytesE_ok he
    have hn2 : cs.length ≤ 16777216 := by omega
    have hb : cs.length * w ≤ 16777216 * 64 := Nat.mul_le_mul hn2 hw
    refine (refPack_spec r' hn2 hw).mono ?_
    rintro _ h2 ⟨g2, ⟨hnf, rfl⟩ | ⟨u, bs, hf, rfl, rd, p, q, o, hq⟩⟩
    · refine ⟨g2, _, _, rfl, ?_⟩
      refine (Pack_uint64_spec (r.grow g2) hn2 hw).mono ?_
      rintro _ h3 ⟨g3, ⟨_, rfl⟩ | ⟨_, _, _, hf, _⟩⟩
      · exact ⟨g3, _, h2.dyn.length, [], rfl, .inl ⟨rfl, rfl⟩, .inl rfl, Own.nil _ _, Nat.le_refl _, by simp⟩
      · exact absurd hf hnf
    · refine ⟨g2, _, _, rfl, ?_⟩
      refine (Pack_uint64_spec (r.grow g2) hn2 hw).mono ?_
      rintro _ h3 ⟨g3, ⟨hnf, _⟩ | ⟨u3, q3, bs3, _, rfl, o3, hq3, p3, hne⟩⟩
      · exact absurd hf hnf
      · have := p3.ext p
        subst this
        refine ⟨g3, u3, q3, bs3, rfl, rd.grow g3, ?_, o3, hq3, by rw [p3.len]; omega⟩
        exact .inr ⟨q, o.grow g3, hq⟩
  · refine (refPack_bad r' he).mono ?_
    rintro _ h2 ⟨rfl, rfl⟩
    refine ⟨Chg.refl _, _, _, rfl, ?_⟩
    refine (Pack_uint64_bad r he).mono ?_
    rintro _ h3 ⟨rfl, rfl⟩
    exact ⟨Chg.refl _, _, _, [], rfl, .inl ⟨rfl, rfl⟩, .inl rfl, Own.nil _ _, Nat.le_refl _, by simp⟩

end Go.Ax
