/- Seat pack: Unpack of each kind; the laws of Pack and Unpack. -/
import Derived.Test.YtigjihomdnkepaaPF
namespace Go.Ax
set_option linter.unusedVariables false
set_option linter.unusedSimpArgs false

theorem cut_iff {b : Nat} (hb : b ≤ 64) {x : BitVec 64} : cutB b x = x ↔ x.toNat < 2 ^ b := by
  constructor
  · intro h; rw [← h]; exact cutB_lt hb x
  · exact cutB_eq hb

theorem ofKind_lanes {bs : List (BitVec 8)} {w n b : Nat} (h : lanesFit bs w n b) : ofKind b (lanesL bs w n) := by
  intro i hi
  rw [lanesL_len] at hi
  have : numA (lanesL bs w n) i = laneB bs w i := by
    unfold numA lanesL
    rw [List.getD_eq_getElem?_getD, List.getElem?_map, List.getElem?_range hi]; rfl
  rw [this]; exact h i hi

theorem room_bytes {h : Heap} {v : Value} {q : Nat} {bs : List (BitVec 8)} {more : List Value} (rm : Room h v q (bs.map bv) more) : Bytes h v bs := by
  refine ⟨rm.reads, ?_⟩
  obtain ⟨u2, rfl, r2⟩ := rm
  intro a n c e _
  simp only [Value.slice.injEq, Option.some.injEq] at e
  obtain ⟨rfl, rfl, rfl⟩ := e
  exact ⟨r2.esOk _, fun h => absurd h (Nat.lt_irrefl _), Nat.le_refl _⟩

theorem Unpack_uint64_bad {h : Heap} {v : Value} {bs : List (BitVec 8)} (r : Bytes h v bs) (hl : bs.length ≤ 140737488351232) {w n : Int} (hf : ¬ faultE bs w n = 0) :
    Gives P T (.fn F_pack_Unpack_uint64) [v, .int .i64 w, .int .i64 n] h fun r h' => r = .tuple #[.slice none 0 0, .int .i64 (faultE bs w n)] ∧ h' = h := by
  obtain ⟨b, c, ev, hr⟩ := r.reads.shape
  simp only [List.length_map] at hr ev
  refine gives_by t_pack_Unpack_uint64 (by simp [c_pack_Unpack_uint64]) fun Q hQ => ?_
  simp [c_pack_Unpack_uint64]
  refine got_call (may_spec _) ?_
  rintro _ _ ⟨rfl, rfl⟩
  rename_i h
  by_cases hm : 0 ≤ w ∧ w ≤ 64
  case neg =>
    have : faultE bs w n = 20 := by unfold faultE; rw [if_pos hm]
    rw [this] at hQ
    simp [hm]
    exact hQ _ _ ⟨rfl, rfl⟩
  simp [hm]
  by_cases hb : bytesE n w = 0
  case neg =>
    have : faultE bs w n = bytesE n w := by unfold faultE; rw [if_neg (by simpa using hm), if_pos hb]
    rw [this] at hQ
    refine got_call (Bytes_bad hb) ?_
    rintro _ _ ⟨rfl, rfl⟩
    simp [hb]
    exact hQ _ _ ⟨rfl, rfl⟩
  obtain ⟨n, w, rfl, rfl, hn, hw⟩ := bytesE_ok hb
  refine got_call (Bytes_spec hn hw) ?_
  rintro _ _ ⟨rfl, rfl⟩
  rename_i h
  obtain ⟨N, hN⟩ : ∃ N, bs.length = N := ⟨_, rfl⟩
  rw [hN] at ev
  have hlen : ∀ h, lenR h v = some (.int .i64 N, h) := fun h => by rw [ev]; simp
  have hb1 : n * w ≤ 16777216 * 64 := Nat.mul_le_mul hn hw
  obtain ⟨a, ha⟩ : ∃ a, n * w = a := ⟨_, rfl⟩
  obtain ⟨B, hB⟩ : ∃ B, (a + 7) / 8 = B := ⟨_, rfl⟩
  have f0 : (n : Int) * w = (a : Int) := by rw [← ha, Int.natCast_mul]
  rw [ha, hB]
  have hF : faultE bs w n = if (N : Int) < B then 22 else if (B : Int) < N then 23 else if anyFrom bs a then 23 else 0 := by
    unfold faultE
    rw [if_neg (by simpa using hm), if_neg (by simpa using hb), f0, hN, Int.toNat_natCast]
    have : ((a : Int) + 7) / 8 = (B : Nat) := by omega
    rw [this]
  by_cases h1 : (N : Int) < B
  · rw [hF, if_pos h1] at hQ
    simp [hlen, h1]
    exact hQ _ _ ⟨rfl, rfl⟩
  by_cases h2 : (B : Int) < N
  · rw [hF, if_neg h1, if_pos h2] at hQ
    simp [hlen, h1, h2]
    exact hQ _ _ ⟨rfl, rfl⟩
  have hany : anyFrom bs a = true := by
    rw [hF, if_neg h1, if_neg h2] at hf
    cases he : anyFrom bs a with
    | true => rfl
    | false => rw [he] at hf; simp at hf
  rw [hF, if_neg h1, if_neg h2, if_pos hany] at hQ
  have f1 : IntKind.i64.wrap (a : Int) = a := wrap_i64 (by omega) (by omega)
  have hwd : ¬ wordB bs a = 0#64 := by rw [word_any (by omega), hany]; simp
  simp [hlen, h1, h2, f0, f1]
  refine got_call (Word_spec r (by omega) (by omega)) ?_
  rintro _ _ ⟨rfl, rfl⟩
  simp [hwd]
  exact hQ _ _ ⟨rfl, rfl⟩

theorem Unpack_uint64_spec {h : Heap} {v : Value} {bs : List (BitVec 8)} (r : Bytes h v bs) {w n : Nat} (g : Fine bs w n) :
    Gives P T (.fn F_pack_Unpack_uint64) [v, .int .i64 w, .int .i64 n] h fun r h' => Grow h h' ∧ ((¬ lanesFit bs w n 64 ∧ r = .tuple #[.slice none 0 0, .int .i64 21]) ∨ ∃ u q, lanesFit bs w n 64 ∧ r = .tuple #[u, .int .i64 0] ∧ Own h' u q ((lanesL bs w n).map (kv .u64)) ∧ h.dyn.length ≤ q) := by
  obtain ⟨b, c, ev, hr⟩ := r.reads.shape
  simp only [List.length_map] at hr ev
  have hw := g.wle
  have hn := g.nle
  have hm : 0 ≤ (w : Int) ∧ (w : Int) ≤ 64 := by omega
  refine gives_by t_pack_Unpack_uint64 (by simp [c_pack_Unpack_uint64]) fun Q hQ => ?_
  simp [c_pack_Unpack_uint64]
  refine got_call (may_spec _) ?_
  rintro _ _ ⟨rfl, rfl⟩
  rename_i h
  simp [hm]
  refine got_call (Bytes_spec hn hw) ?_
  rintro _ _ ⟨rfl, rfl⟩
  rename_i h
  obtain ⟨N, hN⟩ : ∃ N, bs.length = N := ⟨_, rfl⟩
  rw [hN] at ev
  have hlen : ∀ h, lenR h v = some (.int .i64 N, h) := fun h => by rw [ev]; simp
  have hb1 : n * w ≤ 16777216 * 64 := Nat.mul_le_mul hn hw
  have hgl := g.len
  obtain ⟨a, ha⟩ : ∃ a, n * w = a := ⟨_, rfl⟩
  obtain ⟨B, hB⟩ : ∃ B, (a + 7) / 8 = B := ⟨_, rfl⟩
  have f0 : (n : Int) * w = (a : Int) := by rw [← ha, Int.natCast_mul]
  rw [ha, hB, hN] at hgl
  subst hgl
  rw [ha, hB]
  have hout := g.out
  rw [ha] at hout
  have f1 : IntKind.i64.wrap (a : Int) = a := wrap_i64 (by omega) (by omega)
  have hwd : wordB bs a = 0#64 := by rw [word_any (by omega), anyFrom_false]; exact hout
  simp [hlen, f0, f1]
  refine got_call (Word_spec r (by omega) (by omega)) ?_
  rintro _ _ ⟨rfl, rfl⟩
  rename_i h
  have hmk : mkSR h 1 8 [.int .u64 0] (.int .i64 0) (.int .i64 n) = some (.slice (some (hnext h)) 0 n, hnew h (List.replicate n (.int .u64 0)) 1) := by
    unfold mkSR
    simp only
    rw [if_pos ⟨by omega, by omega, by omega, by omega, rfl⟩]
    have : ∀ n, (List.replicate n [Value.int .u64 0]).flatten = List.replicate n (.int .u64 0) := by
      intro n
      induction n with
      | zero => rfl
      | succ n ih => rw [List.replicate_succ, List.flatten_cons, ih]; rfl
    simp [this]
  simp [hwd, hmk]
  have own0 : Own (hnew h (List.replicate n (.int .u64 0)) 1) (.slice (some ⟨h.dyn.length, 0, some 0⟩) 0 n) h.dyn.length ((lanesL bs w 0).map (kv .u64)) :=
    .inr (.inr ⟨0, List.replicate n (.int .u64 0), by simp [lanesL], by simp [lanesL]; unfold gcap; omega, by simpa [lanesL] using RowAt.new h (List.replicate n (.int .u64 0)) 1⟩)
  refine go_loopK (fun kk ks h2 => ∃ (i : Nat) (u : Value) (q : Nat), kk = n - i ∧ i ≤ n ∧ ks = [(0, v), (1, .int .i64 w), (10, u), (45, .int .i64 n), (46, .int .i64 i)] ∧ Own h2 u q ((lanesL bs w i).map (kv .u64)) ∧ Grow h h2 ∧ h.dyn.length ≤ q ∧ lanesFit bs w i 64) (n := n)
    ⟨0, _, h.dyn.length, rfl, by omega, rfl, own0, Grow.new _ _ _, Nat.le_refl _, fun x hx => by omega⟩ (by simp) ?_
  rintro I2 hI2 kk2 ks2 e2 h4 ⟨i, u, q, rfl, hi, rfl, ow, gg, hq, hfit⟩
  simp
  refine branch_dec (fun hlt2 => ?_) (fun hge2 => ?_)
  · have hin : i < n := by omega
    have e4 : IntKind.i64.wrap ((i : Int) + 1) = ((i + 1 : Nat) : Int) := by rw [wrap_i64 (by omega) (by omega)]; omega
    have hiw : i * w ≤ 16777216 * 64 := Nat.mul_le_mul (by omega) hw
    obtain ⟨s, hs⟩ : ∃ s, i * w = s := ⟨_, rfl⟩
    have g0 : (i : Int) * w = (s : Int) := by rw [← hs, Int.natCast_mul]
    have g1 : IntKind.i64.wrap (s : Int) = s := wrap_i64 (by omega) (by omega)
    simp [g0, g1]
    refine got_call (Word_spec (r.grow gg) (by omega) (by omega)) ?_
    rintro _ _ ⟨rfl, rfl⟩
    rename_i h4
    simp
    refine got_call (mask_spec hw) ?_
    rintro _ _ ⟨rfl, rfl⟩
    rename_i h4
    have hlw : wordB bs s &&& maskW w = laneB bs w i := by rw [lane_word hw, laneB, hs]
    have fw := wrapk_u64 (laneB bs w i)
    by_cases hfi : (laneB bs w i).toNat < 2 ^ 64
    · rw [cutB_eq (by omega) hfi] at fw
      obtain ⟨v', h', q', e8, o', c', l', d'⟩ := ow.push (bytes := 8) (z := .int .u64 0) (x := .int .u64 (wi (laneB bs w i))) (by simp) (by simp [lanesL_len]; omega) (by simp [lanesL_len]; omega)
      simp [-wrap_u8_wi, hlw, fw, e8, e4]
      refine ⟨n - (i + 1), by omega, hI2 _ _ _ _ ⟨i + 1, v', q', rfl, by omega, rfl, ?_, gg.after c' (fun n hn hb => by have := hb.1; omega), own_q gg.len hq d', fun x hx => ?_⟩ (by simp)⟩
      · rw [lanesL_succ, List.map_append]; exact o'
      · by_cases hxi : x = i
        · rw [hxi]; exact hfi
        · exact hfit x (by omega)
    · have hcut : ¬ cutB 64 (laneB bs w i) = laneB bs w i := fun h => hfi ((cut_iff (by omega)).1 h)
      exact absurd (laneB bs w i).isLt hfi
  · have hin : i = n := by omega
    subst hin
    simp
    exact hQ _ _ ⟨gg, .inr ⟨u, q, hfit, rfl, ow, hq⟩⟩

/-- One kind's Pack and the document's, as one answer. -/
theorem both_packs_uint64 {h : Heap} {v v' : Value} {cs : List (BitVec 64)} (r : Reads h v (cs.map (kv .u64))) (r' : Reads h v' (cs.map (kv .u64))) (w : Int) :
    Gives P T (.fn F_colonnaderef02_Pack) [v', .int .i64 w] h fun x h2 => Grow h h2 ∧ ∃ u f, x = .tuple #[u, .int .i64 f] ∧
      Gives P T (.fn F_pack_Pack_uint64) [v, .int .i64 w] h2 fun y h3 => Grow h2 h3 ∧ ∃ (u3 : Value) (q3 : Nat) (bs : List (BitVec 8)), y = .tuple #[u3, .int .i64 f] ∧ Reads h3 u (bs.map bv) ∧ (u = .slice none 0 0 ∨ ∃ q, Own h3 u q (bs.map bv) ∧ h.dyn.length ≤ q) ∧ Own h3 u3 q3 (bs.map bv) ∧ h2.dyn.length ≤ q3 ∧ bs.length ≤ 200000000 := by
  by_cases he : bytesE cs.length w = 0
  · obtain ⟨n, w, hn', rfl, hn, hw⟩ := bytesE_ok he
    have hn2 : cs.length ≤ 16777216 := by omega
    have hb : cs.length * w ≤ 16777216 * 64 := Nat.mul_le_mul hn2 hw
    refine (refPack_spec r' hn2 hw).mono ?_
    rintro _ h2 ⟨g2, ⟨hnf, rfl⟩ | ⟨u, bs, hf, rfl, rd, p, q, o, hq⟩⟩
    · refine ⟨g2, _, _, rfl, ?_⟩
      refine (Pack_uint64_spec (r.grow g2) hn2 hw).mono ?_
      rintro _ h3 ⟨g3, ⟨_, rfl⟩ | ⟨_, _, _, hf, _⟩⟩
      · exact ⟨g3, _, h2.dyn.length, [], rfl, .inl ⟨rfl, rfl⟩, .inl rfl, Own.nil _ _, Nat.le_refl _, by simp⟩
      · exact absurd hf hnf
    · refine ⟨g2, _, _, rfl, ?_⟩
      refine (Pack_uint64_spec (r.grow g2) hn2 hw).mono ?_
      rintro _ h3 ⟨g3, ⟨hnf, _⟩ | ⟨u3, q3, bs3, _, rfl, o3, hq3, p3, hne⟩⟩
      · exact absurd hf hnf
      · have := p3.ext p
        subst this
        refine ⟨g3, u3, q3, bs3, rfl, rd.grow g3, ?_, o3, hq3, by rw [p3.len]; omega⟩
        exact .inr ⟨q, o.grow g3, hq⟩
  · refine (refPack_bad r' he).mono ?_
    rintro _ h2 ⟨rfl, rfl⟩
    refine ⟨Chg.refl _, _, _, rfl, ?_⟩
    refine (Pack_uint64_bad r he).mono ?_
    rintro _ h3 ⟨rfl, rfl⟩
    exact ⟨Chg.refl _, _, _, [], rfl, .inl ⟨rfl, rfl⟩, .inl rfl, Own.nil _ _, Nat.le_refl _, by simp⟩

theorem packs_uint64_spec {h : Heap} {v : Value} {cs : List (BitVec 64)} (r : Reads h v (cs.map (kv .u64))) (hl : cs.length * 8 ≤ 140737488351232) (w : Int) :
    Gives P T (.fn F_colonnadelaw02_packs_uint64) [v, .int .i64 w] h fun r h' => r = .bool true ∧ Grow h h' := by
  refine gives_by t_colonnadelaw02_packs_uint64 (by simp [c_colonnadelaw02_packs_uint64]) fun Q hQ => ?_
  obtain ⟨N, hN⟩ : ∃ N, cs.length = N := ⟨_, rfl⟩
  simp [c_colonnadelaw02_packs_uint64]
  refine got_call (lent_uint64_spec r hl) ?_
  rintro u h1 ⟨q, rm, g1, hq⟩
  rw [hN] at hl
  obtain ⟨uu, eu, _⟩ := rm
  have eu' := eu
  simp only [List.length_map, hN] at eu
  subst eu
  simp
  refine go_loopK (fun kk ks h2 => ∃ (k : Nat) (cs : List (BitVec 64)), kk = 2 - k ∧ k ≤ 2 ∧ ks = [(1, .int .i64 w), (5, .slice (some ⟨q, 0, some uu⟩) N gcap), (6, .int .i64 k)] ∧ cs.length = N ∧ ofKind 64 cs ∧ Room h2 (.slice (some ⟨q, 0, some uu⟩) N gcap) q (cs.map (kv .u64)) ((marksK 66).map (kv .u64)) ∧ Grow h h2) (n := 2)
    ⟨0, _, rfl, by omega, rfl, by simpa using hN, ofKind_cut (by omega) cs, ⟨uu, eu', by assumption⟩, g1⟩ (by simp) ?_
  rintro I hI kk ks e h2 ⟨k, cs, rfl, hk, rfl, hN, hof, rm, gg⟩
  simp
  by_cases hlt : k < 2
  · have hlt' : (k : Int) < 2 := by omega
    have e4 : IntKind.i64.wrap ((k : Int) + 1) = ((k + 1 : Nat) : Int) := by rw [wrap_i64 (by omega) (by omega)]; omega
    simp [hlt, hlt']
    refine got_call (wider_uint64_spec rm.reads (by omega)) ?_
    rintro u3 h3 ⟨q3, o3, g3, hq3⟩
    have rm3 := rm.grow g3
    simp
    refine got_call (both_packs_uint64 rm3.reads o3.reads w) ?_
    rintro _ h4 ⟨g4, u4, f, rfl, hp⟩
    simp
    refine got_call hp ?_
    rintro _ h5 ⟨g5, u5, q5, bs, rfl, rd4, hu4, o5, hq5, hbl⟩
    simp
    refine got_call num_spec ?_
    rintro _ _ ⟨rfl, rfl⟩
    rename_i h5
    simp [b2s_reads rd4, b2s_reads o5.reads]
    have rm5 := (rm3.grow g4).grow g5
    refine got_call (kept_uint64_spec rm5 ((o3.reads.grow g4).grow g5) hof (by omega)) ?_
    rintro _ _ ⟨rfl, rfl⟩
    rename_i h5
    have hq5' : q < q5 := by have := rm3.lt; have := g4.len; omega
    have hql : q < h5.dyn.length := rm5.lt
    have gg5 := ((gg.trans g3).trans g4).trans g5
    simp
    refine go_loopK (fun kk ks h6 => ∃ (j : Nat) (cs : List (BitVec 64)), kk = N - j ∧ j ≤ N ∧ ks = [(1, .int .i64 w), (5, .slice (some ⟨q, 0, some uu⟩) N gcap), (6, .int .i64 k), (8, u4), (10, u5), (12, .int .i64 j)] ∧ cs.length = N ∧ ofKind 64 cs ∧ Room h6 (.slice (some ⟨q, 0, some uu⟩) N gcap) q (cs.map (kv .u64)) ((marksK 66).map (kv .u64)) ∧ Chg (· = q) h5 h6) (n := N)
      ⟨0, cs, rfl, by omega, rfl, hN, hof, rm5, Chg.refl _⟩ (by simp) ?_
    rintro I2 hI2 kk2 ks2 e2 h6 ⟨j, cs, rfl, hj, rfl, hN, hof, rm6, c6⟩
    simp
    refine branch_dec (fun hlt2 => ?_) (fun hge2 => ?_)
    · have hjN : j < N := by omega
      have e5 : IntKind.i64.wrap ((j : Int) + 1) = ((j + 1 : Nat) : Int) := by rw [wrap_i64 (by omega) (by omega)]; omega
      have fx : abin .xor .u64 (wi (numA cs j)) 1 = some (.int .u64 (wi (numA cs j ^^^ 1#64))) := xork_u64 (y := 1#64) (hof j (by omega)) (by decide)
      obtain ⟨u2, h7, ev2, es, rm7, c7, n7⟩ := rm6.set (i := j) (by simp; omega) (x := .int .u64 (wi (numA cs j ^^^ 1#64))) (by simp)
      have hu : uu = u2 := by simp at ev2; exact ev2.1
      subst hu
      have hld : hload h6 ⟨q, j, some uu⟩ = some (.int .u64 (wi (numA cs j))) := by
        obtain ⟨u3, e3, r3⟩ := rm6
        have : u3 = uu := by simp at e3; exact e3.1.symm
        subst this
        exact r3.get (by rw [List.getElem?_append_left (by simp; omega)]; exact kv_get (by omega))
      simp [-ab8_xor, hjN, hld, fx, es, e5]
      refine ⟨N - (j + 1), by omega, hI2 _ _ _ _ ⟨j + 1, cs.set j (numA cs j ^^^ 1#64), rfl, by omega, rfl, by simpa using hN, ofKind_set hof (xor_lt (hof j (by omega)) (by decide)), ?_, c6.trans c7⟩ (by simp)⟩
      rw [List.map_set]; exact rm7
    · have hjN : j = N := by omega
      subst hjN
      have o6 : Own h6 u5 q5 (bs.map bv) := o5.chg c6 (by omega)
      have rd6 : Reads h6 u4 (bs.map bv) := by
        rcases hu4 with rfl | ⟨q4, o4, hq4⟩
        · rcases rd4 with ⟨_, e⟩ | ⟨_, _, e, _⟩
          · exact .inl ⟨rfl, e⟩
          · cases e
        · exact (o4.chg c6 (by have := rm3.lt; omega)).reads
      simp
      refine got_call (wider_uint64_spec rm6.reads (by omega)) ?_
      rintro u7 h7 ⟨q7, o7, g7, hq7⟩
      simp [b2s_reads (rd6.grow g7), b2s_reads (o6.grow g7).reads]
      have c6l := c6.len
      have c7l := g7.len
      have rm7 := rm6.grow g7
      have hl7 := rm7.lt
      have hg5 := gg5.len
      have sp : ∃ q', Own h7 u5 q' (bs.map bv) ∧ q' ≠ q ∧ q' ≠ q7 ∧ h.dyn.length ≤ q' := by
        rcases o6.lt with h1 | h1
        · exact ⟨h7.dyn.length + q7 + 1, .inl h1, by omega, by omega, by omega⟩
        · exact ⟨q5, o6.grow g7, by omega, by omega, by omega⟩
      obtain ⟨q', o7', hn1, hn2, hn3⟩ := sp
      refine got_call (spoil_byte_spec (bv_kv bs ▸ o7') (bv_ofKind bs) (by simp; omega)) ?_
      rintro _ h8 c8
      have rm8 := rm7.chg c8 (fun e => hn1 e.symm)
      have rd8 := (o7.chg c8 (fun e => hn2 e.symm)).reads
      simp
      refine got_call (kept_uint64_spec rm8 rd8 hof (by omega)) ?_
      rintro _ _ ⟨rfl, rfl⟩
      rename_i h8
      simp [e4]
      exact ⟨2 - (k + 1), by omega, hI _ _ _ _ ⟨k + 1, cs, rfl, by omega, rfl, hN, hof, rm8, ((gg5.after c6 (fun n hn hb => by omega)).trans g7).after c8 (fun n hn hb => by omega)⟩ (by simp)⟩
  · have hk2 : k = 2 := by omega
    subst hk2
    simp
    exact hQ _ _ ⟨rfl, gg⟩

theorem Unpack_uint8_bad {h : Heap} {v : Value} {bs : List (BitVec 8)} (r : Bytes h v bs) (hl : bs.length ≤ 140737488351232) {w n : Int} (hf : ¬ faultE bs w n = 0) :
    Gives P T (.fn F_pack_Unpack_uint8) [v, .int .i64 w, .int .i64 n] h fun r h' => r = .tuple #[.slice none 0 0, .int .i64 (faultE bs w n)] ∧ h' = h := by
  obtain ⟨b, c, ev, hr⟩ := r.reads.shape
  simp only [List.length_map] at hr ev
  refine gives_by t_pack_Unpack_uint8 (by simp [c_pack_Unpack_uint8]) fun Q hQ => ?_
  simp [c_pack_Unpack_uint8]
  refine got_call (may_spec _) ?_
  rintro _ _ ⟨rfl, rfl⟩
  rename_i h
  by_cases hm : 0 ≤ w ∧ w ≤ 64
  case neg =>
    have : faultE bs w n = 20 := by unfold faultE; rw [if_pos hm]
    rw [this] at hQ
    simp [hm]
    exact hQ _ _ ⟨rfl, rfl⟩
  simp [hm]
  by_cases hb : bytesE n w = 0
  case neg =>
    have : faultE bs w n = bytesE n w := by unfold faultE; rw [if_neg (by simpa using hm), if_pos hb]
    rw [this] at hQ
    refine got_call (Bytes_bad hb) ?_
    rintro _ _ ⟨rfl, rfl⟩
    simp [hb]
    exact hQ _ _ ⟨rfl, rfl⟩
  obtain ⟨n, w, rfl, rfl, hn, hw⟩ := bytesE_ok hb
  refine got_call (Bytes_spec hn hw) ?_
  rintro _ _ ⟨rfl, rfl⟩
  rename_i h
  obtain ⟨N, hN⟩ : ∃ N, bs.length = N := ⟨_, rfl⟩
  rw [hN] at ev
  have hlen : ∀ h, lenR h v = some (.int .i64 N, h) := fun h => by rw [ev]; simp
  have hb1 : n * w ≤ 16777216 * 64 := Nat.mul_le_mul hn hw
  obtain ⟨a, ha⟩ : ∃ a, n * w = a := ⟨_, rfl⟩
  obtain ⟨B, hB⟩ : ∃ B, (a + 7) / 8 = B := ⟨_, rfl⟩
  have f0 : (n : Int) * w = (a : Int) := by rw [← ha, Int.natCast_mul]
  rw [ha, hB]
  have hF : faultE bs w n = if (N : Int) < B then 22 else if (B : Int) < N then 23 else if anyFrom bs a then 23 else 0 := by
    unfold faultE
    rw [if_neg (by simpa using hm), if_neg (by simpa using hb), f0, hN, Int.toNat_natCast]
    have : ((a : Int) + 7) / 8 = (B : Nat) := by omega
    rw [this]
  by_cases h1 : (N : Int) < B
  · rw [hF, if_pos h1] at hQ
    simp [hlen, h1]
    exact hQ _ _ ⟨rfl, rfl⟩
  by_cases h2 : (B : Int) < N
  · rw [hF, if_neg h1, if_pos h2] at hQ
    simp [hlen, h1, h2]
    exact hQ _ _ ⟨rfl, rfl⟩
  have hany : anyFrom bs a = true := by
    rw [hF, if_neg h1, if_neg h2] at hf
    cases he : anyFrom bs a with
    | true => rfl
    | false => rw [he] at hf; simp at hf
  rw [hF, if_neg h1, if_neg h2, if_pos hany] at hQ
  have f1 : IntKind.i64.wrap (a : Int) = a := wrap_i64 (by omega) (by omega)
  have hwd : ¬ wordB bs a = 0#64 := by rw [word_any (by omega), hany]; simp
  simp [hlen, h1, h2, f0, f1]
  refine got_call (Word_spec r (by omega) (by omega)) ?_
  rintro _ _ ⟨rfl, rfl⟩
  simp [hwd]
  exact hQ _ _ ⟨rfl, rfl⟩

theorem Unpack_uint8_spec {h : Heap} {v : Value} {bs : List (BitVec 8)} (r : Bytes h v bs) {w n : Nat} (g : Fine bs w n) :
    Gives P T (.fn F_pack_Unpack_uint8) [v, .int .i64 w, .int .i64 n] h fun r h' => Grow h h' ∧ ((¬ lanesFit bs w n 8 ∧ r = .tuple #[.slice none 0 0, .int .i64 21]) ∨ ∃ u q, lanesFit bs w n 8 ∧ r = .tuple #[u, .int .i64 0] ∧ Own h' u q ((lanesL bs w n).map (kv .u8)) ∧ h.dyn.length ≤ q) := by
  obtain ⟨b, c, ev, hr⟩ := r.reads.shape
  simp only [List.length_map] at hr ev
  have hw := g.wle
  have hn := g.nle
  have hm : 0 ≤ (w : Int) ∧ (w : Int) ≤ 64 := by omega
  refine gives_by t_pack_Unpack_uint8 (by simp [c_pack_Unpack_uint8]) fun Q hQ => ?_
  simp [c_pack_Unpack_uint8]
  refine got_call (may_spec _) ?_
  rintro _ _ ⟨rfl, rfl⟩
  rename_i h
  simp [hm]
  refine got_call (Bytes_spec hn hw) ?_
  rintro _ _ ⟨rfl, rfl⟩
  rename_i h
  obtain ⟨N, hN⟩ : ∃ N, bs.length = N := ⟨_, rfl⟩
  rw [hN] at ev
  have hlen : ∀ h, lenR h v = some (.int .i64 N, h) := fun h => by rw [ev]; simp
  have hb1 : n * w ≤ 16777216 * 64 := Nat.mul_le_mul hn hw
  have hgl := g.len
  obtain ⟨a, ha⟩ : ∃ a, n * w = a := ⟨_, rfl⟩
  obtain ⟨B, hB⟩ : ∃ B, (a + 7) / 8 = B := ⟨_, rfl⟩
  have f0 : (n : Int) * w = (a : Int) := by rw [← ha, Int.natCast_mul]
  rw [ha, hB, hN] at hgl
  subst hgl
  rw [ha, hB]
  have hout := g.out
  rw [ha] at hout
  have f1 : IntKind.i64.wrap (a : Int) = a := wrap_i64 (by omega) (by omega)
  have hwd : wordB bs a = 0#64 := by rw [word_any (by omega), anyFrom_false]; exact hout
  simp [hlen, f0, f1]
  refine got_call (Word_spec r (by omega) (by omega)) ?_
  rintro _ _ ⟨rfl, rfl⟩
  rename_i h
  have hmk : mkSR h 1 1 [.int .u8 0] (.int .i64 0) (.int .i64 n) = some (.slice (some (hnext h)) 0 n, hnew h (List.replicate n (.int .u8 0)) 1) := by
    unfold mkSR
    simp only
    rw [if_pos ⟨by omega, by omega, by omega, by omega, rfl⟩]
    have : ∀ n, (List.replicate n [Value.int .u8 0]).flatten = List.replicate n (.int .u8 0) := by
      intro n
      induction n with
      | zero => rfl
      | succ n ih => rw [List.replicate_succ, List.flatten_cons, ih]; rfl
    simp [this]
  simp [hwd, hmk]
  have own0 : Own (hnew h (List.replicate n (.int .u8 0)) 1) (.slice (some ⟨h.dyn.length, 0, some 0⟩) 0 n) h.dyn.length ((lanesL bs w 0).map (kv .u8)) :=
    .inr (.inr ⟨0, List.replicate n (.int .u8 0), by simp [lanesL], by simp [lanesL]; unfold gcap; omega, by simpa [lanesL] using RowAt.new h (List.replicate n (.int .u8 0)) 1⟩)
  refine go_loopK (fun kk ks h2 => ∃ (i : Nat) (u : Value) (q : Nat), kk = n - i ∧ i ≤ n ∧ ks = [(0, v), (1, .int .i64 w), (10, u), (45, .int .i64 n), (46, .int .i64 i)] ∧ Own h2 u q ((lanesL bs w i).map (kv .u8)) ∧ Grow h h2 ∧ h.dyn.length ≤ q ∧ lanesFit bs w i 8) (n := n)
    ⟨0, _, h.dyn.length, rfl, by omega, rfl, own0, Grow.new _ _ _, Nat.le_refl _, fun x hx => by omega⟩ (by simp) ?_
  rintro I2 hI2 kk2 ks2 e2 h4 ⟨i, u, q, rfl, hi, rfl, ow, gg, hq, hfit⟩
  simp
  refine branch_dec (fun hlt2 => ?_) (fun hge2 => ?_)
  · have hin : i < n := by omega
    have e4 : IntKind.i64.wrap ((i : Int) + 1) = ((i + 1 : Nat) : Int) := by rw [wrap_i64 (by omega) (by omega)]; omega
    have hiw : i * w ≤ 16777216 * 64 := Nat.mul_le_mul (by omega) hw
    obtain ⟨s, hs⟩ : ∃ s, i * w = s := ⟨_, rfl⟩
    have g0 : (i : Int) * w = (s : Int) := by rw [← hs, Int.natCast_mul]
    have g1 : IntKind.i64.wrap (s : Int) = s := wrap_i64 (by omega) (by omega)
    simp [g0, g1]
    refine got_call (Word_spec (r.grow gg) (by omega) (by omega)) ?_
    rintro _ _ ⟨rfl, rfl⟩
    rename_i h4
    simp
    refine got_call (mask_spec hw) ?_
    rintro _ _ ⟨rfl, rfl⟩
    rename_i h4
    have hlw : wordB bs s &&& maskW w = laneB bs w i := by rw [lane_word hw, laneB, hs]
    have fw := wrapk_u8 (laneB bs w i)
    by_cases hfi : (laneB bs w i).toNat < 2 ^ 8
    · rw [cutB_eq (by omega) hfi] at fw
      obtain ⟨v', h', q', e8, o', c', l', d'⟩ := ow.push (bytes := 1) (z := .int .u8 0) (x := .int .u8 (wi (laneB bs w i))) (by simp) (by simp [lanesL_len]; omega) (by simp [lanesL_len]; omega)
      simp [-wrap_u8_wi, hlw, fw, e8, e4]
      refine ⟨n - (i + 1), by omega, hI2 _ _ _ _ ⟨i + 1, v', q', rfl, by omega, rfl, ?_, gg.after c' (fun n hn hb => by have := hb.1; omega), own_q gg.len hq d', fun x hx => ?_⟩ (by simp)⟩
      · rw [lanesL_succ, List.map_append]; exact o'
      · by_cases hxi : x = i
        · rw [hxi]; exact hfi
        · exact hfit x (by omega)
    · have hcut : ¬ cutB 8 (laneB bs w i) = laneB bs w i := fun h => hfi ((cut_iff (by omega)).1 h)
      simp [-wrap_u8_wi, hlw, fw, hcut]
      exact hQ _ _ ⟨gg, .inl ⟨fun h => hfi (h i hin), rfl⟩⟩
  · have hin : i = n := by omega
    subst hin
    simp
    exact hQ _ _ ⟨gg, .inr ⟨u, q, hfit, rfl, ow, hq⟩⟩

/-- One kind's Pack and the document's, as one answer. -/
theorem both_packs_uint8 {h : Heap} {v v' : Value} {cs : List (BitVec 64)} (r : Reads h v (cs.map (kv .u8))) (r' : Reads h v' (cs.map (kv .u64))) (w : Int) :
    Gives P T (.fn F_colonnaderef02_Pack) [v', .int .i64 w] h fun x h2 => Grow h h2 ∧ ∃ u f, x = .tuple #[u, .int .i64 f] ∧
      Gives P T (.fn F_pack_Pack_uint8) [v, .int .i64 w] h2 fun y h3 => Grow h2 h3 ∧ ∃ (u3 : Value) (q3 : Nat) (bs : List (BitVec 8)), y = .tuple #[u3, .int .i64 f] ∧ Reads h3 u (bs.map bv) ∧ (u = .slice none 0 0 ∨ ∃ q, Own h3 u q (bs.map bv) ∧ h.dyn.length ≤ q) ∧ Own h3 u3 q3 (bs.map bv) ∧ h2.dyn.length ≤ q3 ∧ bs.length ≤ 200000000 := by
  by_cases he : bytesE cs.length w = 0
  · obtain ⟨n, w, hn', rfl, hn, hw⟩ := bytesE_ok he
    have hn2 : cs.length ≤ 16777216 := by omega
    have hb : cs.length * w ≤ 16777216 * 64 := Nat.mul_le_mul hn2 hw
    refine (refPack_spec r' hn2 hw).mono ?_
    rintro _ h2 ⟨g2, ⟨hnf, rfl⟩ | ⟨u, bs, hf, rfl, rd, p, q, o, hq⟩⟩
    · refine ⟨g2, _, _, rfl, ?_⟩
      refine (Pack_uint8_spec (r.grow g2) hn2 hw).mono ?_
      rintro _ h3 ⟨g3, ⟨_, rfl⟩ | ⟨_, _, _, hf, _⟩⟩
      · exact ⟨g3, _, h2.dyn.length, [], rfl, .inl ⟨rfl, rfl⟩, .inl rfl, Own.nil _ _, Nat.le_refl _, by simp⟩
      · exact absurd hf hnf
    · refine ⟨g2, _, _, rfl, ?_⟩
      refine (Pack_uint8_spec (r.grow g2) hn2 hw).mono ?_
      rintro _ h3 ⟨g3, ⟨hnf, _⟩ | ⟨u3, q3, bs3, _, rfl, o3, hq3, p3, hne⟩⟩
      · exact absurd hf hnf
      · have := p3.ext p
        subst this
        refine ⟨g3, u3, q3, bs3, rfl, rd.grow g3, ?_, o3, hq3, by rw [p3.len]; omega⟩
        exact .inr ⟨q, o.grow g3, hq⟩
  · refine (refPack_bad r' he).mono ?_
    rintro _ h2 ⟨rfl, rfl⟩
    refine ⟨Chg.refl _, _, _, rfl, ?_⟩
    refine (Pack_uint8_bad r he).mono ?_
    rintro _ h3 ⟨rfl, rfl⟩
    exact ⟨Chg.refl _, _, _, [], rfl, .inl ⟨rfl, rfl⟩, .inl rfl, Own.nil _ _, Nat.le_refl _, by simp⟩

theorem packs_uint8_spec {h : Heap} {v : Value} {cs : List (BitVec 64)} (r : Reads h v (cs.map (kv .u64))) (hl : cs.length * 8 ≤ 140737488351232) (w : Int) :
    Gives P T (.fn F_colonnadelaw02_packs_uint8) [v, .int .i64 w] h fun r h' => r = .bool true ∧ Grow h h' := by
  refine gives_by t_colonnadelaw02_packs_uint8 (by simp [c_colonnadelaw02_packs_uint8]) fun Q hQ => ?_
  obtain ⟨N, hN⟩ : ∃ N, cs.length = N := ⟨_, rfl⟩
  simp [c_colonnadelaw02_packs_uint8]
  refine got_call (lent_uint8_spec r hl) ?_
  rintro u h1 ⟨q, rm, g1, hq⟩
  rw [hN] at hl
  obtain ⟨uu, eu, _⟩ := rm
  have eu' := eu
  simp only [List.length_map, hN] at eu
  subst eu
  simp
  refine go_loopK (fun kk ks h2 => ∃ (k : Nat) (cs : List (BitVec 64)), kk = 2 - k ∧ k ≤ 2 ∧ ks = [(1, .int .i64 w), (5, .slice (some ⟨q, 0, some uu⟩) N gcap), (6, .int .i64 k)] ∧ cs.length = N ∧ ofKind 8 cs ∧ Room h2 (.slice (some ⟨q, 0, some uu⟩) N gcap) q (cs.map (kv .u8)) ((marksK 66).map (kv .u8)) ∧ Grow h h2) (n := 2)
    ⟨0, _, rfl, by omega, rfl, by simpa using hN, ofKind_cut (by omega) cs, ⟨uu, eu', by assumption⟩, g1⟩ (by simp) ?_
  rintro I hI kk ks e h2 ⟨k, cs, rfl, hk, rfl, hN, hof, rm, gg⟩
  simp
  by_cases hlt : k < 2
  · have hlt' : (k : Int) < 2 := by omega
    have e4 : IntKind.i64.wrap ((k : Int) + 1) = ((k + 1 : Nat) : Int) := by rw [wrap_i64 (by omega) (by omega)]; omega
    simp [hlt, hlt']
    refine got_call (wider_uint8_spec rm.reads (by omega)) ?_
    rintro u3 h3 ⟨q3, o3, g3, hq3⟩
    have rm3 := rm.grow g3
    simp
    refine got_call (both_packs_uint8 rm3.reads o3.reads w) ?_
    rintro _ h4 ⟨g4, u4, f, rfl, hp⟩
    simp
    refine got_call hp ?_
    rintro _ h5 ⟨g5, u5, q5, bs, rfl, rd4, hu4, o5, hq5, hbl⟩
    simp
    refine got_call num_spec ?_
    rintro _ _ ⟨rfl, rfl⟩
    rename_i h5
    simp [b2s_reads rd4, b2s_reads o5.reads]
    have rm5 := (rm3.grow g4).grow g5
    refine got_call (kept_uint8_spec rm5 ((o3.reads.grow g4).grow g5) hof (by omega)) ?_
    rintro _ _ ⟨rfl, rfl⟩
    rename_i h5
    have hq5' : q < q5 := by have := rm3.lt; have := g4.len; omega
    have hql : q < h5.dyn.length := rm5.lt
    have gg5 := ((gg.trans g3).trans g4).trans g5
    simp
    refine go_loopK (fun kk ks h6 => ∃ (j : Nat) (cs : List (BitVec 64)), kk = N - j ∧ j ≤ N ∧ ks = [(1, .int .i64 w), (5, .slice (some ⟨q, 0, some uu⟩) N gcap), (6, .int .i64 k), (8, u4), (10, u5), (12, .int .i64 j)] ∧ cs.length = N ∧ ofKind 8 cs ∧ Room h6 (.slice (some ⟨q, 0, some uu⟩) N gcap) q (cs.map (kv .u8)) ((marksK 66).map (kv .u8)) ∧ Chg (· = q) h5 h6) (n := N)
      ⟨0, cs, rfl, by omega, rfl, hN, hof, rm5, Chg.refl _⟩ (by simp) ?_
    rintro I2 hI2 kk2 ks2 e2 h6 ⟨j, cs, rfl, hj, rfl, hN, hof, rm6, c6⟩
    simp
    refine branch_dec (fun hlt2 => ?_) (fun hge2 => ?_)
    · have hjN : j < N := by omega
      have e5 : IntKind.i64.wrap ((j : Int) + 1) = ((j + 1 : Nat) : Int) := by rw [wrap_i64 (by omega) (by omega)]; omega
      have fx : abin .xor .u8 (wi (numA cs j)) 1 = some (.int .u8 (wi (numA cs j ^^^ 1#64))) := xork_u8 (y := 1#64) (hof j (by omega)) (by decide)
      obtain ⟨u2, h7, ev2, es, rm7, c7, n7⟩ := rm6.set (i := j) (by simp; omega) (x := .int .u8 (wi (numA cs j ^^^ 1#64))) (by simp)
      have hu : uu = u2 := by simp at ev2; exact ev2.1
      subst hu
      have hld : hload h6 ⟨q, j, some uu⟩ = some (.int .u8 (wi (numA cs j))) := by
        obtain ⟨u3, e3, r3⟩ := rm6
        have : u3 = uu := by simp at e3; exact e3.1.symm
        subst this
        exact r3.get (by rw [List.getElem?_append_left (by simp; omega)]; exact kv_get (by omega))
      simp [-ab8_xor, hjN, hld, fx, es, e5]
      refine ⟨N - (j + 1), by omega, hI2 _ _ _ _ ⟨j + 1, cs.set j (numA cs j ^^^ 1#64), rfl, by omega, rfl, by simpa using hN, ofKind_set hof (xor_lt (hof j (by omega)) (by decide)), ?_, c6.trans c7⟩ (by simp)⟩
      rw [List.map_set]; exact rm7
    · have hjN : j = N := by omega
      subst hjN
      have o6 : Own h6 u5 q5 (bs.map bv) := o5.chg c6 (by omega)
      have rd6 : Reads h6 u4 (bs.map bv) := by
        rcases hu4 with rfl | ⟨q4, o4, hq4⟩
        · rcases rd4 with ⟨_, e⟩ | ⟨_, _, e, _⟩
          · exact .inl ⟨rfl, e⟩
          · cases e
        · exact (o4.chg c6 (by have := rm3.lt; omega)).reads
      simp
      refine got_call (wider_uint8_spec rm6.reads (by omega)) ?_
      rintro u7 h7 ⟨q7, o7, g7, hq7⟩
      simp [b2s_reads (rd6.grow g7), b2s_reads (o6.grow g7).reads]
      have c6l := c6.len
      have c7l := g7.len
      have rm7 := rm6.grow g7
      have hl7 := rm7.lt
      have hg5 := gg5.len
      have sp : ∃ q', Own h7 u5 q' (bs.map bv) ∧ q' ≠ q ∧ q' ≠ q7 ∧ h.dyn.length ≤ q' := by
        rcases o6.lt with h1 | h1
        · exact ⟨h7.dyn.length + q7 + 1, .inl h1, by omega, by omega, by omega⟩
        · exact ⟨q5, o6.grow g7, by omega, by omega, by omega⟩
      obtain ⟨q', o7', hn1, hn2, hn3⟩ := sp
      refine got_call (spoil_byte_spec (bv_kv bs ▸ o7') (bv_ofKind bs) (by simp; omega)) ?_
      rintro _ h8 c8
      have rm8 := rm7.chg c8 (fun e => hn1 e.symm)
      have rd8 := (o7.chg c8 (fun e => hn2 e.symm)).reads
      simp
      refine got_call (kept_uint8_spec rm8 rd8 hof (by omega)) ?_
      rintro _ _ ⟨rfl, rfl⟩
      rename_i h8
      simp [e4]
      exact ⟨2 - (k + 1), by omega, hI _ _ _ _ ⟨k + 1, cs, rfl, by omega, rfl, hN, hof, rm8, ((gg5.after c6 (fun n hn hb => by omega)).trans g7).after c8 (fun n hn hb => by omega)⟩ (by simp)⟩
  · have hk2 : k = 2 := by omega
    subst hk2
    simp
    exact hQ _ _ ⟨rfl, gg⟩

theorem Unpack_uint16_bad {h : Heap} {v : Value} {bs : List (BitVec 8)} (r : Bytes h v bs) (hl : bs.length ≤ 140737488351232) {w n : Int} (hf : ¬ faultE bs w n = 0) :
    Gives P T (.fn F_pack_Unpack_uint16) [v, .int .i64 w, .int .i64 n] h fun r h' => r = .tuple #[.slice none 0 0, .int .i64 (faultE bs w n)] ∧ h' = h := by
  obtain ⟨b, c, ev, hr⟩ := r.reads.shape
  simp only [List.length_map] at hr ev
  refine gives_by t_pack_Unpack_uint16 (by simp [c_pack_Unpack_uint16]) fun Q hQ => ?_
  simp [c_pack_Unpack_uint16]
  refine got_call (may_spec _) ?_
  rintro _ _ ⟨rfl, rfl⟩
  rename_i h
  by_cases hm : 0 ≤ w ∧ w ≤ 64
  case neg =>
    have : faultE bs w n = 20 := by unfold faultE; rw [if_pos hm]
    rw [this] at hQ
    simp [hm]
    exact hQ _ _ ⟨rfl, rfl⟩
  simp [hm]
  by_cases hb : bytesE n w = 0
  case neg =>
    have : faultE bs w n = bytesE n w := by unfold faultE; rw [if_neg (by simpa using hm), if_pos hb]
    rw [this] at hQ
    refine got_call (Bytes_bad hb) ?_
    rintro _ _ ⟨rfl, rfl⟩
    simp [hb]
    exact hQ _ _ ⟨rfl, rfl⟩
  obtain ⟨n, w, rfl, rfl, hn, hw⟩ := bytesE_ok hb
  refine got_call (Bytes_spec hn hw) ?_
  rintro _ _ ⟨rfl, rfl⟩
  rename_i h
  obtain ⟨N, hN⟩ : ∃ N, bs.length = N := ⟨_, rfl⟩
  rw [hN] at ev
  have hlen : ∀ h, lenR h v = some (.int .i64 N, h) := fun h => by rw [ev]; simp
  have hb1 : n * w ≤ 16777216 * 64 := Nat.mul_le_mul hn hw
  obtain ⟨a, ha⟩ : ∃ a, n * w = a := ⟨_, rfl⟩
  obtain ⟨B, hB⟩ : ∃ B, (a + 7) / 8 = B := ⟨_, rfl⟩
  have f0 : (n : Int) * w = (a : Int) := by rw [← ha, Int.natCast_mul]
  rw [ha, hB]
  have hF : faultE bs w n = if (N : Int) < B then 22 else if (B : Int) < N then 23 else if anyFrom bs a then 23 else 0 := by
    unfold faultE
    rw [if_neg (by simpa using hm), if_neg (by simpa using hb), f0, hN, Int.toNat_natCast]
    have : ((a : Int) + 7) / 8 = (B : Nat) := by omega
    rw [this]
  by_cases h1 : (N : Int) < B
  · rw [hF, if_pos h1] at hQ
    simp [hlen, h1]
    exact hQ _ _ ⟨rfl, rfl⟩
  by_cases h2 : (B : Int) < N
  · rw [hF, if_neg h1, if_pos h2] at hQ
    simp [hlen, h1, h2]
    exact hQ _ _ ⟨rfl, rfl⟩
  have hany : anyFrom bs a = true := by
    rw [hF, if_neg h1, if_neg h2] at hf
    cases he : anyFrom bs a with
    | true => rfl
    | false => rw [he] at hf; simp at hf
  rw [hF, if_neg h1, if_neg h2, if_pos hany] at hQ
  have f1 : IntKind.i64.wrap (a : Int) = a := wrap_i64 (by omega) (by omega)
  have hwd : ¬ wordB bs a = 0#64 := by rw [word_any (by omega), hany]; simp
  simp [hlen, h1, h2, f0, f1]
  refine got_call (Word_spec r (by omega) (by omega)) ?_
  rintro _ _ ⟨rfl, rfl⟩
  simp [hwd]
  exact hQ _ _ ⟨rfl, rfl⟩

theorem Unpack_uint16_spec {h : Heap} {v : Value} {bs : List (BitVec 8)} (r : Bytes h v bs) {w n : Nat} (g : Fine bs w n) :
    Gives P T (.fn F_pack_Unpack_uint16) [v, .int .i64 w, .int .i64 n] h fun r h' => Grow h h' ∧ ((¬ lanesFit bs w n 16 ∧ r = .tuple #[.slice none 0 0, .int .i64 21]) ∨ ∃ u q, lanesFit bs w n 16 ∧ r = .tuple #[u, .int .i64 0] ∧ Own h' u q ((lanesL bs w n).map (kv .u16)) ∧ h.dyn.length ≤ q) := by
  obtain ⟨b, c, ev, hr⟩ := r.reads.shape
  simp only [List.length_map] at hr ev
  have hw := g.wle
  have hn := g.nle
  have hm : 0 ≤ (w : Int) ∧ (w : Int) ≤ 64 := by omega
  refine gives_by t_pack_Unpack_uint16 (by simp [c_pack_Unpack_uint16]) fun Q hQ => ?_
  simp [c_pack_Unpack_uint16]
  refine got_call (may_spec _) ?_
  rintro _ _ ⟨rfl, rfl⟩
  rename_i h
  simp [hm]
  refine got_call (Bytes_spec hn hw) ?_
  rintro _ _ ⟨rfl, rfl⟩
  rename_i h
  obtain ⟨N, hN⟩ : ∃ N, bs.length = N := ⟨_, rfl⟩
  rw [hN] at ev
  have hlen : ∀ h, lenR h v = some (.int .i64 N, h) := fun h => by rw [ev]; simp
  have hb1 : n * w ≤ 16777216 * 64 := Nat.mul_le_mul hn hw
  have hgl := g.len
  obtain ⟨a, ha⟩ : ∃ a, n * w = a := ⟨_, rfl⟩
  obtain ⟨B, hB⟩ : ∃ B, (a + 7) / 8 = B := ⟨_, rfl⟩
  have f0 : (n : Int) * w = (a : Int) := by rw [← ha, Int.natCast_mul]
  rw [ha, hB, hN] at hgl
  subst hgl
  rw [ha, hB]
  have hout := g.out
  rw [ha] at hout
  have f1 : IntKind.i64.wrap (a : Int) = a := wrap_i64 (by omega) (by omega)
  have hwd : wordB bs a = 0#64 := by rw [word_any (by omega), anyFrom_false]; exact hout
  simp [hlen, f0, f1]
  refine got_call (Word_spec r (by omega) (by omega)) ?_
  rintro _ _ ⟨rfl, rfl⟩
  rename_i h
  have hmk : mkSR h 1 2 [.int .u16 0] (.int .i64 0) (.int .i64 n) = some (.slice (some (hnext h)) 0 n, hnew h (List.replicate n (.int .u16 0)) 1) := by
    unfold mkSR
    simp only
    rw [if_pos ⟨by omega, by omega, by omega, by omega, rfl⟩]
    have : ∀ n, (List.replicate n [Value.int .u16 0]).flatten = List.replicate n (.int .u16 0) := by
      intro n
      induction n with
      | zero => rfl
      | succ n ih => rw [List.replicate_succ, List.flatten_cons, ih]; rfl
    simp [this]
  simp [hwd, hmk]
  have own0 : Own (hnew h (List.replicate n (.int .u16 0)) 1) (.slice (some ⟨h.dyn.length, 0, some 0⟩) 0 n) h.dyn.length ((lanesL bs w 0).map (kv .u16)) :=
    .inr (.inr ⟨0, List.replicate n (.int .u16 0), by simp [lanesL], by simp [lanesL]; unfold gcap; omega, by simpa [lanesL] using RowAt.new h (List.replicate n (.int .u16 0)) 1⟩)
  refine go_loopK (fun kk ks h2 => ∃ (i : Nat) (u : Value) (q : Nat), kk = n - i ∧ i ≤ n ∧ ks = [(0, v), (1, .int .i64 w), (10, u), (45, .int .i64 n), (46, .int .i64 i)] ∧ Own h2 u q ((lanesL bs w i).map (kv .u16)) ∧ Grow h h2 ∧ h.dyn.length ≤ q ∧ lanesFit bs w i 16) (n := n)
    ⟨0, _, h.dyn.length, rfl, by omega, rfl, own0, Grow.new _ _ _, Nat.le_refl _, fun x hx => by omega⟩ (by simp) ?_
  rintro I2 hI2 kk2 ks2 e2 h4 ⟨i, u, q, rfl, hi, rfl, ow, gg, hq, hfit⟩
  simp
  refine branch_dec (fun hlt2 => ?_) (fun hge2 => ?_)
  · have hin : i < n := by omega
    have e4 : IntKind.i64.wrap ((i : Int) + 1) = ((i + 1 : Nat) : Int) := by rw [wrap_i64 (by omega) (by omega)]; omega
    have hiw : i * w ≤ 16777216 * 64 := Nat.mul_le_mul (by omega) hw
    obtain ⟨s, hs⟩ : ∃ s, i * w = s := ⟨_, rfl⟩
    have g0 : (i : Int) * w = (s : Int) := by rw [← hs, Int.natCast_mul]
    have g1 : IntKind.i64.wrap (s : Int) = s := wrap_i64 (by omega) (by omega)
    simp [g0, g1]
    refine got_call (Word_spec (r.grow gg) (by omega) (by omega)) ?_
    rintro _ _ ⟨rfl, rfl⟩
    rename_i h4
    simp
    refine got_call (mask_spec hw) ?_
    rintro _ _ ⟨rfl, rfl⟩
    rename_i h4
    have hlw : wordB bs s &&& maskW w = laneB bs w i := by rw [lane_word hw, laneB, hs]
    have fw := wrapk_u16 (laneB bs w i)
    by_cases hfi : (laneB bs w i).toNat < 2 ^ 16
    · rw [cutB_eq (by omega) hfi] at fw
      obtain ⟨v', h', q', e8, o', c', l', d'⟩ := ow.push (bytes := 2) (z := .int .u16 0) (x := .int .u16 (wi (laneB bs w i))) (by simp) (by simp [lanesL_len]; omega) (by simp [lanesL_len]; omega)
      simp [-wrap_u8_wi, hlw, fw, e8, e4]
      refine ⟨n - (i + 1), by omega, hI2 _ _ _ _ ⟨i + 1, v', q', rfl, by omega, rfl, ?_, gg.after c' (fun n hn hb => by have := hb.1; omega), own_q gg.len hq d', fun x hx => ?_⟩ (by simp)⟩
      · rw [lanesL_succ, List.map_append]; exact o'
      · by_cases hxi : x = i
        · rw [hxi]; exact hfi
        · exact hfit x (by omega)
    · have hcut : ¬ cutB 16 (laneB bs w i) = laneB bs w i := fun h => hfi ((cut_iff (by omega)).1 h)
      simp [-wrap_u8_wi, hlw, fw, hcut]
      exact hQ _ _ ⟨gg, .inl ⟨fun h => hfi (h i hin), rfl⟩⟩
  · have hin : i = n := by omega
    subst hin
    simp
    exact hQ _ _ ⟨gg, .inr ⟨u, q, hfit, rfl, ow, hq⟩⟩

/-- One kind's Pack and the document's, as one answer. -/
theorem both_packs_uint16 {h : Heap} {v v' : Value} {cs : List (BitVec 64)} (r : Reads h v (cs.map (kv .u16))) (r' : Reads h v' (cs.map (kv .u64))) (w : Int) :
    Gives P T (.fn F_colonnaderef02_Pack) [v', .int .i64 w] h fun x h2 => Grow h h2 ∧ ∃ u f, x = .tuple #[u, .int .i64 f] ∧
      Gives P T (.fn F_pack_Pack_uint16) [v, .int .i64 w] h2 fun y h3 => Grow h2 h3 ∧ ∃ (u3 : Value) (q3 : Nat) (bs : List (BitVec 8)), y = .tuple #[u3, .int .i64 f] ∧ Reads h3 u (bs.map bv) ∧ (u = .slice none 0 0 ∨ ∃ q, Own h3 u q (bs.map bv) ∧ h.dyn.length ≤ q) ∧ Own h3 u3 q3 (bs.map bv) ∧ h2.dyn.length ≤ q3 ∧ bs.length ≤ 200000000 := by
  by_cases he : bytesE cs.length w = 0
  · obtain ⟨n, w, hn', rfl, hn, hw⟩ := bytesE_ok he
    have hn2 : cs.length ≤ 16777216 := by omega
    have hb : cs.length * w ≤ 16777216 * 64 := Nat.mul_le_mul hn2 hw
    refine (refPack_spec r' hn2 hw).mono ?_
    rintro _ h2 ⟨g2, ⟨hnf, rfl⟩ | ⟨u, bs, hf, rfl, rd, p, q, o, hq⟩⟩
    · refine ⟨g2, _, _, rfl, ?_⟩
      refine (Pack_uint16_spec (r.grow g2) hn2 hw).mono ?_
      rintro _ h3 ⟨g3, ⟨_, rfl⟩ | ⟨_, _, _, hf, _⟩⟩
      · exact ⟨g3, _, h2.dyn.length, [], rfl, .inl ⟨rfl, rfl⟩, .inl rfl, Own.nil _ _, Nat.le_refl _, by simp⟩
      · exact absurd hf hnf
    · refine ⟨g2, _, _, rfl, ?_⟩
      refine (Pack_uint16_spec (r.grow g2) hn2 hw).mono ?_
      rintro _ h3 ⟨g3, ⟨hnf, _⟩ | ⟨u3, q3, bs3, _, rfl, o3, hq3, p3, hne⟩⟩
      · exact absurd hf hnf
      · have := p3.ext p
        subst this
        refine ⟨g3, u3, q3, bs3, rfl, rd.grow g3, ?_, o3, hq3, by rw [p3.len]; omega⟩
        exact .inr ⟨q, o.grow g3, hq⟩
  · refine (refPack_bad r' he).mono ?_
    rintro _ h2 ⟨rfl, rfl⟩
    refine ⟨Chg.refl _, _, _, rfl, ?_⟩
    refine (Pack_uint16_bad r he).mono ?_
    rintro _ h3 ⟨rfl, rfl⟩
    exact ⟨Chg.refl _, _, _, [], rfl, .inl ⟨rfl, rfl⟩, .inl rfl, Own.nil _ _, Nat.le_refl _, by simp⟩

theorem packs_uint16_spec {h : Heap} {v : Value} {cs : List (BitVec 64)} (r : Reads h v (cs.map (kv .u64))) (hl : cs.length * 8 ≤ 140737488351232) (w : Int) :
    Gives P T (.fn F_colonnadelaw02_packs_uint16) [v, .int .i64 w] h fun r h' => r = .bool true ∧ Grow h h' := by
  refine gives_by t_colonnadelaw02_packs_uint16 (by simp [c_colonnadelaw02_packs_uint16]) fun Q hQ => ?_
  obtain ⟨N, hN⟩ : ∃ N, cs.length = N := ⟨_, rfl⟩
  simp [c_colonnadelaw02_packs_uint16]
  refine got_call (lent_uint16_spec r hl) ?_
  rintro u h1 ⟨q, rm, g1, hq⟩
  rw [hN] at hl
  obtain ⟨uu, eu, _⟩ := rm
  have eu' := eu
  simp only [List.length_map, hN] at eu
  subst eu
  simp
  refine go_loopK (fun kk ks h2 => ∃ (k : Nat) (cs : List (BitVec 64)), kk = 2 - k ∧ k ≤ 2 ∧ ks = [(1, .int .i64 w), (5, .slice (some ⟨q, 0, some uu⟩) N gcap), (6, .int .i64 k)] ∧ cs.length = N ∧ ofKind 16 cs ∧ Room h2 (.slice (some ⟨q, 0, some uu⟩) N gcap) q (cs.map (kv .u16)) ((marksK 66).map (kv .u16)) ∧ Grow h h2) (n := 2)
    ⟨0, _, rfl, by omega, rfl, by simpa using hN, ofKind_cut (by omega) cs, ⟨uu, eu', by assumption⟩, g1⟩ (by simp) ?_
  rintro I hI kk ks e h2 ⟨k, cs, rfl, hk, rfl, hN, hof, rm, gg⟩
  simp
  by_cases hlt : k < 2
  · have hlt' : (k : Int) < 2 := by omega
    have e4 : IntKind.i64.wrap ((k : Int) + 1) = ((k + 1 : Nat) : Int) := by rw [wrap_i64 (by omega) (by omega)]; omega
    simp [hlt, hlt']
    refine got_call (wider_uint16_spec rm.reads (by omega)) ?_
    rintro u3 h3 ⟨q3, o3, g3, hq3⟩
    have rm3 := rm.grow g3
    simp
    refine got_call (both_packs_uint16 rm3.reads o3.reads w) ?_
    rintro _ h4 ⟨g4, u4, f, rfl, hp⟩
    simp
    refine got_call hp ?_
    rintro _ h5 ⟨g5, u5, q5, bs, rfl, rd4, hu4, o5, hq5, hbl⟩
    simp
    refine got_call num_spec ?_
    rintro _ _ ⟨rfl, rfl⟩
    rename_i h5
    simp [b2s_reads rd4, b2s_reads o5.reads]
    have rm5 := (rm3.grow g4).grow g5
    refine got_call (kept_uint16_spec rm5 ((o3.reads.grow g4).grow g5) hof (by omega)) ?_
    rintro _ _ ⟨rfl, rfl⟩
    rename_i h5
    have hq5' : q < q5 := by have := rm3.lt; have := g4.len; omega
    have hql : q < h5.dyn.length := rm5.lt
    have gg5 := ((gg.trans g3).trans g4).trans g5
    simp
    refine go_loopK (fun kk ks h6 => ∃ (j : Nat) (cs : List (BitVec 64)), kk = N - j ∧ j ≤ N ∧ ks = [(1, .int .i64 w), (5, .slice (some ⟨q, 0, some uu⟩) N gcap), (6, .int .i64 k), (8, u4), (10, u5), (12, .int .i64 j)] ∧ cs.length = N ∧ ofKind 16 cs ∧ Room h6 (.slice (some ⟨q, 0, some uu⟩) N gcap) q (cs.map (kv .u16)) ((marksK 66).map (kv .u16)) ∧ Chg (· = q) h5 h6) (n := N)
      ⟨0, cs, rfl, by omega, rfl, hN, hof, rm5, Chg.refl _⟩ (by simp) ?_
    rintro I2 hI2 kk2 ks2 e2 h6 ⟨j, cs, rfl, hj, rfl, hN, hof, rm6, c6⟩
    simp
    refine branch_dec (fun hlt2 => ?_) (fun hge2 => ?_)
    · have hjN : j < N := by omega
      have e5 : IntKind.i64.wrap ((j : Int) + 1) = ((j + 1 : Nat) : Int) := by rw [wrap_i64 (by omega) (by omega)]; omega
      have fx : abin .xor .u16 (wi (numA cs j)) 1 = some (.int .u16 (wi (numA cs j ^^^ 1#64))) := xork_u16 (y := 1#64) (hof j (by omega)) (by decide)
      obtain ⟨u2, h7, ev2, es, rm7, c7, n7⟩ := rm6.set (i := j) (by simp; omega) (x := .int .u16 (wi (numA cs j ^^^ 1#64))) (by simp)
      have hu : uu = u2 := by simp at ev2; exact ev2.1
      subst hu
      have hld : hload h6 ⟨q, j, some uu⟩ = some (.int .u16 (wi (numA cs j))) := by
        obtain ⟨u3, e3, r3⟩ := rm6
        have : u3 = uu := by simp at e3; exact e3.1.symm
        subst this
        exact r3.get (by rw [List.getElem?_append_left (by simp; omega)]; exact kv_get (by omega))
      simp [-ab8_xor, hjN, hld, fx, es, e5]
      refine ⟨N - (j + 1), by omega, hI2 _ _ _ _ ⟨j + 1, cs.set j (numA cs j ^^^ 1#64), rfl, by omega, rfl, by simpa using hN, ofKind_set hof (xor_lt (hof j (by omega)) (by decide)), ?_, c6.trans c7⟩ (by simp)⟩
      rw [List.map_set]; exact rm7
    · have hjN : j = N := by omega
      subst hjN
      have o6 : Own h6 u5 q5 (bs.map bv) := o5.chg c6 (by omega)
      have rd6 : Reads h6 u4 (bs.map bv) := by
        rcases hu4 with rfl | ⟨q4, o4, hq4⟩
        · rcases rd4 with ⟨_, e⟩ | ⟨_, _, e, _⟩
          · exact .inl ⟨rfl, e⟩
          · cases e
        · exact (o4.chg c6 (by have := rm3.lt; omega)).reads
      simp
      refine got_call (wider_uint16_spec rm6.reads (by omega)) ?_
      rintro u7 h7 ⟨q7, o7, g7, hq7⟩
      simp [b2s_reads (rd6.grow g7), b2s_reads (o6.grow g7).reads]
      have c6l := c6.len
      have c7l := g7.len
      have rm7 := rm6.grow g7
      have hl7 := rm7.lt
      have hg5 := gg5.len
      have sp : ∃ q', Own h7 u5 q' (bs.map bv) ∧ q' ≠ q ∧ q' ≠ q7 ∧ h.dyn.length ≤ q' := by
        rcases o6.lt with h1 | h1
        · exact ⟨h7.dyn.length + q7 + 1, .inl h1, by omega, by omega, by omega⟩
        · exact ⟨q5, o6.grow g7, by omega, by omega, by omega⟩
      obtain ⟨q', o7', hn1, hn2, hn3⟩ := sp
      refine got_call (spoil_byte_spec (bv_kv bs ▸ o7') (bv_ofKind bs) (by simp; omega)) ?_
      rintro _ h8 c8
      have rm8 := rm7.chg c8 (fun e => hn1 e.symm)
      have rd8 := (o7.chg c8 (fun e => hn2 e.symm)).reads
      simp
      refine got_call (kept_uint16_spec rm8 rd8 hof (by omega)) ?_
      rintro _ _ ⟨rfl, rfl⟩
      rename_i h8
      simp [e4]
      exact ⟨2 - (k + 1), by omega, hI _ _ _ _ ⟨k + 1, cs, rfl, by omega, rfl, hN, hof, rm8, ((gg5.after c6 (fun n hn hb => by omega)).trans g7).after c8 (fun n hn hb => by omega)⟩ (by simp)⟩
  · have hk2 : k = 2 := by omega
    subst hk2
    simp
    exact hQ _ _ ⟨rfl, gg⟩

theorem Unpack_uint32_bad {h : Heap} {v : Value} {bs : List (BitVec 8)} (r : Bytes h v bs) (hl : bs.length ≤ 140737488351232) {w n : Int} (hf : ¬ faultE bs w n = 0) :
    Gives P T (.fn F_pack_Unpack_uint32) [v, .int .i64 w, .int .i64 n] h fun r h' => r = .tuple #[.slice none 0 0, .int .i64 (faultE bs w n)] ∧ h' = h := by
  obtain ⟨b, c, ev, hr⟩ := r.reads.shape
  simp only [List.length_map] at hr ev
  refine gives_by t_pack_Unpack_uint32 (by simp [c_pack_Unpack_uint32]) fun Q hQ => ?_
  simp [c_pack_Unpack_uint32]
  refine got_call (may_spec _) ?_
  rintro _ _ ⟨rfl, rfl⟩
  rename_i h
  by_cases hm : 0 ≤ w ∧ w ≤ 64
  case neg =>
    have : faultE bs w n = 20 := by unfold faultE; rw [if_pos hm]
    rw [this] at hQ
    simp [hm]
    exact hQ _ _ ⟨rfl, rfl⟩
  simp [hm]
  by_cases hb : bytesE n w = 0
  case neg =>
    have : faultE bs w n = bytesE n w := by unfold faultE; rw [if_neg (by simpa using hm), if_pos hb]
    rw [this] at hQ
    refine got_call (Bytes_bad hb) ?_
    rintro _ _ ⟨rfl, rfl⟩
    simp [hb]
    exact hQ _ _ ⟨rfl, rfl⟩
  obtain ⟨n, w, rfl, rfl, hn, hw⟩ := bytesE_ok hb
  refine got_call (Bytes_spec hn hw) ?_
  rintro _ _ ⟨rfl, rfl⟩
  rename_i h
  obtain ⟨N, hN⟩ : ∃ N, bs.length = N := ⟨_, rfl⟩
  rw [hN] at ev
  have hlen : ∀ h, lenR h v = some (.int .i64 N, h) := fun h => by rw [ev]; simp
  have hb1 : n * w ≤ 16777216 * 64 := Nat.mul_le_mul hn hw
  obtain ⟨a, ha⟩ : ∃ a, n * w = a := ⟨_, rfl⟩
  obtain ⟨B, hB⟩ : ∃ B, (a + 7) / 8 = B := ⟨_, rfl⟩
  have f0 : (n : Int) * w = (a : Int) := by rw [← ha, Int.natCast_mul]
  rw [ha, hB]
  have hF : faultE bs w n = if (N : Int) < B then 22 else if (B : Int) < N then 23 else if anyFrom bs a then 23 else 0 := by
    unfold faultE
    rw [if_neg (by simpa using hm), if_neg (by simpa using hb), f0, hN, Int.toNat_natCast]
    have : ((a : Int) + 7) / 8 = (B : Nat) := by omega
    rw [this]
  by_cases h1 : (N : Int) < B
  · rw [hF, if_pos h1] at hQ
    simp [hlen, h1]
    exact hQ _ _ ⟨rfl, rfl⟩
  by_cases h2 : (B : Int) < N
  · rw [hF, if_neg h1, if_pos h2] at hQ
    simp [hlen, h1, h2]
    exact hQ _ _ ⟨rfl, rfl⟩
  have hany : anyFrom bs a = true := by
    rw [hF, if_neg h1, if_neg h2] at hf
    cases he : anyFrom bs a with
    | true => rfl
    | false => rw [he] at hf; simp at hf
  rw [hF, if_neg h1, if_neg h2, if_pos hany] at hQ
  have f1 : IntKind.i64.wrap (a : Int) = a := wrap_i64 (by omega) (by omega)
  have hwd : ¬ wordB bs a = 0#64 := by rw [word_any (by omega), hany]; simp
  simp [hlen, h1, h2, f0, f1]
  refine got_call (Word_spec r (by omega) (by omega)) ?_
  rintro _ _ ⟨rfl, rfl⟩
  simp [hwd]
  exact hQ _ _ ⟨rfl, rfl⟩

theorem Unpack_uint32_spec {h : Heap} {v : Value} {bs : List (BitVec 8)} (r : Bytes h v bs) {w n : Nat} (g : Fine bs w n) :
    Gives P T (.fn F_pack_Unpack_uint32) [v, .int .i64 w, .int .i64 n] h fun r h' => Grow h h' ∧ ((¬ lanesFit bs w n 32 ∧ r = .tuple #[.slice none 0 0, .int .i64 21]) ∨ ∃ u q, lanesFit bs w n 32 ∧ r = .tuple #[u, .int .i64 0] ∧ Own h' u q ((lanesL bs w n).map (kv .u32)) ∧ h.dyn.length ≤ q) := by
  obtain ⟨b, c, ev, hr⟩ := r.reads.shape
  simp only [List.length_map] at hr ev
  have hw := g.wle
  have hn := g.nle
  have hm : 0 ≤ (w : Int) ∧ (w : Int) ≤ 64 := by omega
  refine gives_by t_pack_Unpack_uint32 (by simp [c_pack_Unpack_uint32]) fun Q hQ => ?_
  simp [c_pack_Unpack_uint32]
  refine got_call (may_spec _) ?_
  rintro _ _ ⟨rfl, rfl⟩
  rename_i h
  simp [hm]
  refine got_call (Bytes_spec hn hw) ?_
  rintro _ _ ⟨rfl, rfl⟩
  rename_i h
  obtain ⟨N, hN⟩ : ∃ N, bs.length = N := ⟨_, rfl⟩
  rw [hN] at ev
  have hlen : ∀ h, lenR h v = some (.int .i64 N, h) := fun h => by rw [ev]; simp
  have hb1 : n * w ≤ 16777216 * 64 := Nat.mul_le_mul hn hw
  have hgl := g.len
  obtain ⟨a, ha⟩ : ∃ a, n * w = a := ⟨_, rfl⟩
  obtain ⟨B, hB⟩ : ∃ B, (a + 7) / 8 = B := ⟨_, rfl⟩
  have f0 : (n : Int) * w = (a : Int) := by rw [← ha, Int.natCast_mul]
  rw [ha, hB, hN] at hgl
  subst hgl
  rw [ha, hB]
  have hout := g.out
  rw [ha] at hout
  have f1 : IntKind.i64.wrap (a : Int) = a := wrap_i64 (by omega) (by omega)
  have hwd : wordB bs a = 0#64 := by rw [word_any (by omega), anyFrom_false]; exact hout
  simp [hlen, f0, f1]
  refine got_call (Word_spec r (by omega) (by omega)) ?_
  rintro _ _ ⟨rfl, rfl⟩
  rename_i h
  have hmk : mkSR h 1 4 [.int .u32 0] (.int .i64 0) (.int .i64 n) = some (.slice (some (hnext h)) 0 n, hnew h (List.replicate n (.int .u32 0)) 1) := by
    unfold mkSR
    simp only
    rw [if_pos ⟨by omega, by omega, by omega, by omega, rfl⟩]
    have : ∀ n, (List.replicate n [Value.int .u32 0]).flatten = List.replicate n (.int .u32 0) := by
      intro n
      induction n with
      | zero => rfl
      | succ n ih => rw [List.replicate_succ, List.flatten_cons, ih]; rfl
    simp [this]
  simp [hwd, hmk]
  have own0 : Own (hnew h (List.replicate n (.int .u32 0)) 1) (.slice (some ⟨h.dyn.length, 0, some 0⟩) 0 n) h.dyn.length ((lanesL bs w 0).map (kv .u32)) :=
    .inr (.inr ⟨0, List.replicate n (.int .u32 0), by simp [lanesL], by simp [lanesL]; unfold gcap; omega, by simpa [lanesL] using RowAt.new h (List.replicate n (.int .u32 0)) 1⟩)
  refine go_loopK (fun kk ks h2 => ∃ (i : Nat) (u : Value) (q : Nat), kk = n - i ∧ i ≤ n ∧ ks = [(0, v), (1, .int .i64 w), (10, u), (45, .int .i64 n), (46, .int .i64 i)] ∧ Own h2 u q ((lanesL bs w i).map (kv .u32)) ∧ Grow h h2 ∧ h.dyn.length ≤ q ∧ lanesFit bs w i 32) (n := n)
    ⟨0, _, h.dyn.length, rfl, by omega, rfl, own0, Grow.new _ _ _, Nat.le_refl _, fun x hx => by omega⟩ (by simp) ?_
  rintro I2 hI2 kk2 ks2 e2 h4 ⟨i, u, q, rfl, hi, rfl, ow, gg, hq, hfit⟩
  simp
  refine branch_dec (fun hlt2 => ?_) (fun hge2 => ?_)
  · have hin : i < n := by omega
    have e4 : IntKind.i64.wrap ((i : Int) + 1) = ((i + 1 : Nat) : Int) := by rw [wrap_i64 (by omega) (by omega)]; omega
    have hiw : i * w ≤ 16777216 * 64 := Nat.mul_le_mul (by omega) hw
    obtain ⟨s, hs⟩ : ∃ s, i * w = s := ⟨_, rfl⟩
    have g0 : (i : Int) * w = (s : Int) := by rw [← hs, Int.natCast_mul]
    have g1 : IntKind.i64.wrap (s : Int) = s := wrap_i64 (by omega) (by omega)
    simp [g0, g1]
    refine got_call (Word_spec (r.grow gg) (by omega) (by omega)) ?_
    rintro _ _ ⟨rfl, rfl⟩
    rename_i h4
    simp
    refine got_call (mask_spec hw) ?_
    rintro _ _ ⟨rfl, rfl⟩
    rename_i h4
    have hlw : wordB bs s &&& maskW w = laneB bs w i := by rw [lane_word hw, laneB, hs]
    have fw := wrapk_u32 (laneB bs w i)
    by_cases hfi : (laneB bs w i).toNat < 2 ^ 32
    · rw [cutB_eq (by omega) hfi] at fw
      obtain ⟨v', h', q', e8, o', c', l', d'⟩ := ow.push (bytes := 4) (z := .int .u32 0) (x := .int .u32 (wi (laneB bs w i))) (by simp) (by simp [lanesL_len]; omega) (by simp [lanesL_len]; omega)
      simp [-wrap_u8_wi, hlw, fw, e8, e4]
      refine ⟨n - (i + 1), by omega, hI2 _ _ _ _ ⟨i + 1, v', q', rfl, by omega, rfl, ?_, gg.after c' (fun n hn hb => by have := hb.1; omega), own_q gg.len hq d', fun x hx => ?_⟩ (by simp)⟩
      · rw [lanesL_succ, List.map_append]; exact o'
      · by_cases hxi : x = i
        · rw [hxi]; exact hfi
        · exact hfit x (by omega)
    · have hcut : ¬ cutB 32 (laneB bs w i) = laneB bs w i := fun h => hfi ((cut_iff (by omega)).1 h)
      simp [-wrap_u8_wi, hlw, fw, hcut]
      exact hQ _ _ ⟨gg, .inl ⟨fun h => hfi (h i hin), rfl⟩⟩
  · have hin : i = n := by omega
    subst hin
    simp
    exact hQ _ _ ⟨gg, .inr ⟨u, q, hfit, rfl, ow, hq⟩⟩

/-- One kind's Pack and the document's, as one answer. -/
theorem both_packs_uint32 {h : Heap} {v v' : Value} {cs : List (BitVec 64)} (r : Reads h v (cs.map (kv .u32))) (r' : Reads h v' (cs.map (kv .u64))) (w : Int) :
    Gives P T (.fn F_colonnaderef02_Pack) [v', .int .i64 w] h fun x h2 => Grow h h2 ∧ ∃ u f, x = .tuple #[u, .int .i64 f] ∧
      Gives P T (.fn F_pack_Pack_uint32) [v, .int .i64 w] h2 fun y h3 => Grow h2 h3 ∧ ∃ (u3 : Value) (q3 : Nat) (bs : List (BitVec 8)), y = .tuple #[u3, .int .i64 f] ∧ Reads h3 u (bs.map bv) ∧ (u = .slice none 0 0 ∨ ∃ q, Own h3 u q (bs.map bv) ∧ h.dyn.length ≤ q) ∧ Own h3 u3 q3 (bs.map bv) ∧ h2.dyn.length ≤ q3 ∧ bs.length ≤ 200000000 := by
  by_cases he : bytesE cs.length w = 0
  · obtain ⟨n, w, hn', rfl, hn, hw⟩ := bytesE_ok he
    have hn2 : cs.length ≤ 16777216 := by omega
    have hb : cs.length * w ≤ 16777216 * 64 := Nat.mul_le_mul hn2 hw
    refine (refPack_spec r' hn2 hw).mono ?_
    rintro _ h2 ⟨g2, ⟨hnf, rfl⟩ | ⟨u, bs, hf, rfl, rd, p, q, o, hq⟩⟩
    · refine ⟨g2, _, _, rfl, ?_⟩
      refine (Pack_uint32_spec (r.grow g2) hn2 hw).mono ?_
      rintro _ h3 ⟨g3, ⟨_, rfl⟩ | ⟨_, _, _, hf, _⟩⟩
      · exact ⟨g3, _, h2.dyn.length, [], rfl, .inl ⟨rfl, rfl⟩, .inl rfl, Own.nil _ _, Nat.le_refl _, by simp⟩
      · exact absurd hf hnf
    · refine ⟨g2, _, _, rfl, ?_⟩
      refine (Pack_uint32_spec (r.grow g2) hn2 hw).mono ?_
      rintro _ h3 ⟨g3, ⟨hnf, _⟩ | ⟨u3, q3, bs3, _, rfl, o3, hq3, p3, hne⟩⟩
      · exact absurd hf hnf
      · have := p3.ext p
        subst this
        refine ⟨g3, u3, q3, bs3, rfl, rd.grow g3, ?_, o3, hq3, by rw [p3.len]; omega⟩
        exact .inr ⟨q, o.grow g3, hq⟩
  · refine (refPack_bad r' he).mono ?_
    rintro _ h2 ⟨rfl, rfl⟩
    refine ⟨Chg.refl _, _, _, rfl, ?_⟩
    refine (Pack_uint32_bad r he).mono ?_
    rintro _ h3 ⟨rfl, rfl⟩
    exact ⟨Chg.refl _, _, _, [], rfl, .inl ⟨rfl, rfl⟩, .inl rfl, Own.nil _ _, Nat.le_refl _, by simp⟩

theorem packs_uint32_spec {h : Heap} {v : Value} {cs : List (BitVec 64)} (r : Reads h v (cs.map (kv .u64))) (hl : cs.length * 8 ≤ 140737488351232) (w : Int) :
    Gives P T (.fn F_colonnadelaw02_packs_uint32) [v, .int .i64 w] h fun r h' => r = .bool true ∧ Grow h h' := by
  refine gives_by t_colonnadelaw02_packs_uint32 (by simp [c_colonnadelaw02_packs_uint32]) fun Q hQ => ?_
  obtain ⟨N, hN⟩ : ∃ N, cs.length = N := ⟨_, rfl⟩
  simp [c_colonnadelaw02_packs_uint32]
  refine got_call (lent_uint32_spec r hl) ?_
  rintro u h1 ⟨q, rm, g1, hq⟩
  rw [hN] at hl
  obtain ⟨uu, eu, _⟩ := rm
  have eu' := eu
  simp only [List.length_map, hN] at eu
  subst eu
  simp
  refine go_loopK (fun kk ks h2 => ∃ (k : Nat) (cs : List (BitVec 64)), kk = 2 - k ∧ k ≤ 2 ∧ ks = [(1, .int .i64 w), (5, .slice (some ⟨q, 0, some uu⟩) N gcap), (6, .int .i64 k)] ∧ cs.length = N ∧ ofKind 32 cs ∧ Room h2 (.slice (some ⟨q, 0, some uu⟩) N gcap) q (cs.map (kv .u32)) ((marksK 66).map (kv .u32)) ∧ Grow h h2) (n := 2)
    ⟨0, _, rfl, by omega, rfl, by simpa using hN, ofKind_cut (by omega) cs, ⟨uu, eu', by assumption⟩, g1⟩ (by simp) ?_
  rintro I hI kk ks e h2 ⟨k, cs, rfl, hk, rfl, hN, hof, rm, gg⟩
  simp
  by_cases hlt : k < 2
  · have hlt' : (k : Int) < 2 := by omega
    have e4 : IntKind.i64.wrap ((k : Int) + 1) = ((k + 1 : Nat) : Int) := by rw [wrap_i64 (by omega) (by omega)]; omega
    simp [hlt, hlt']
    refine got_call (wider_uint32_spec rm.reads (by omega)) ?_
    rintro u3 h3 ⟨q3, o3, g3, hq3⟩
    have rm3 := rm.grow g3
    simp
    refine got_call (both_packs_uint32 rm3.reads o3.reads w) ?_
    rintro _ h4 ⟨g4, u4, f, rfl, hp⟩
    simp
    refine got_call hp ?_
    rintro _ h5 ⟨g5, u5, q5, bs, rfl, rd4, hu4, o5, hq5, hbl⟩
    simp
    refine got_call num_spec ?_
    rintro _ _ ⟨rfl, rfl⟩
    rename_i h5
    simp [b2s_reads rd4, b2s_reads o5.reads]
    have rm5 := (rm3.grow g4).grow g5
    refine got_call (kept_uint32_spec rm5 ((o3.reads.grow g4).grow g5) hof (by omega)) ?_
    rintro _ _ ⟨rfl, rfl⟩
    rename_i h5
    have hq5' : q < q5 := by have := rm3.lt; have := g4.len; omega
    have hql : q < h5.dyn.length := rm5.lt
    have gg5 := ((gg.trans g3).trans g4).trans g5
    simp
    refine go_loopK (fun kk ks h6 => ∃ (j : Nat) (cs : List (BitVec 64)), kk = N - j ∧ j ≤ N ∧ ks = [(1, .int .i64 w), (5, .slice (some ⟨q, 0, some uu⟩) N gcap), (6, .int .i64 k), (8, u4), (10, u5), (12, .int .i64 j)] ∧ cs.length = N ∧ ofKind 32 cs ∧ Room h6 (.slice (some ⟨q, 0, some uu⟩) N gcap) q (cs.map (kv .u32)) ((marksK 66).map (kv .u32)) ∧ Chg (· = q) h5 h6) (n := N)
      ⟨0, cs, rfl, by omega, rfl, hN, hof, rm5, Chg.refl _⟩ (by simp) ?_
    rintro I2 hI2 kk2 ks2 e2 h6 ⟨j, cs, rfl, hj, rfl, hN, hof, rm6, c6⟩
    simp
    refine branch_dec (fun hlt2 => ?_) (fun hge2 => ?_)
    · have hjN : j < N := by omega
      have e5 : IntKind.i64.wrap ((j : Int) + 1) = ((j + 1 : Nat) : Int) := by rw [wrap_i64 (by omega) (by omega)]; omega
      have fx : abin .xor .u32 (wi (numA cs j)) 1 = some (.int .u32 (wi (numA cs j ^^^ 1#64))) := xork_u32 (y := 1#64) (hof j (by omega)) (by decide)
      obtain ⟨u2, h7, ev2, es, rm7, c7, n7⟩ := rm6.set (i := j) (by simp; omega) (x := .int .u32 (wi (numA cs j ^^^ 1#64))) (by simp)
      have hu : uu = u2 := by simp at ev2; exact ev2.1
      subst hu
      have hld : hload h6 ⟨q, j, some uu⟩ = some (.int .u32 (wi (numA cs j))) := by
        obtain ⟨u3, e3, r3⟩ := rm6
        have : u3 = uu := by simp at e3; exact e3.1.symm
        subst this
        exact r3.get (by rw [List.getElem?_append_left (by simp; omega)]; exact kv_get (by omega))
      simp [-ab8_xor, hjN, hld, fx, es, e5]
      refine ⟨N - (j + 1), by omega, hI2 _ _ _ _ ⟨j + 1, cs.set j (numA cs j ^^^ 1#64), rfl, by omega, rfl, by simpa using hN, ofKind_set hof (xor_lt (hof j (by omega)) (by decide)), ?_, c6.trans c7⟩ (by simp)⟩
      rw [List.map_set]; exact rm7
    · have hjN : j = N := by omega
      subst hjN
      have o6 : Own h6 u5 q5 (bs.map bv) := o5.chg c6 (by omega)
      have rd6 : Reads h6 u4 (bs.map bv) := by
        rcases hu4 with rfl | ⟨q4, o4, hq4⟩
        · rcases rd4 with ⟨_, e⟩ | ⟨_, _, e, _⟩
          · exact .inl ⟨rfl, e⟩
          · cases e
        · exact (o4.chg c6 (by have := rm3.lt; omega)).reads
      simp
      refine got_call (wider_uint32_spec rm6.reads (by omega)) ?_
      rintro u7 h7 ⟨q7, o7, g7, hq7⟩
      simp [b2s_reads (rd6.grow g7), b2s_reads (o6.grow g7).reads]
      have c6l := c6.len
      have c7l := g7.len
      have rm7 := rm6.grow g7
      have hl7 := rm7.lt
      have hg5 := gg5.len
      have sp : ∃ q', Own h7 u5 q' (bs.map bv) ∧ q' ≠ q ∧ q' ≠ q7 ∧ h.dyn.length ≤ q' := by
        rcases o6.lt with h1 | h1
        · exact ⟨h7.dyn.length + q7 + 1, .inl h1, by omega, by omega, by omega⟩
        · exact ⟨q5, o6.grow g7, by omega, by omega, by omega⟩
      obtain ⟨q', o7', hn1, hn2, hn3⟩ := sp
      refine got_call (spoil_byte_spec (bv_kv bs ▸ o7') (bv_ofKind bs) (by simp; omega)) ?_
      rintro _ h8 c8
      have rm8 := rm7.chg c8 (fun e => hn1 e.symm)
      have rd8 := (o7.chg c8 (fun e => hn2 e.symm)).reads
      simp
      refine got_call (kept_uint32_spec rm8 rd8 hof (by omega)) ?_
      rintro _ _ ⟨rfl, rfl⟩
      rename_i h8
      simp [e4]
      exact ⟨2 - (k + 1), by omega, hI _ _ _ _ ⟨k + 1, cs, rfl, by omega, rfl, hN, hof, rm8, ((gg5.after c6 (fun n hn hb => by omega)).trans g7).after c8 (fun n hn hb => by omega)⟩ (by simp)⟩
  · have hk2 : k = 2 := by omega
    subst hk2
    simp
    exact hQ _ _ ⟨rfl, gg⟩

theorem Unpack_colonnadelaw02_tall_bad {h : Heap} {v : Value} {bs : List (BitVec 8)} (r : Bytes h v bs) (hl : bs.length ≤ 140737488351232) {w n : Int} (hf : ¬ faultE bs w n = 0) :
    Gives P T (.fn F_pack_Unpack_colonnadelaw02_tall) [v, .int .i64 w, .int .i64 n] h fun r h' => r = .tuple #[.slice none 0 0, .int .i64 (faultE bs w n)] ∧ h' = h := by
  obtain ⟨b, c, ev, hr⟩ := r.reads.shape
  simp only [List.length_map] at hr ev
  refine gives_by t_pack_Unpack_colonnadelaw02_tall (by simp [c_pack_Unpack_colonnadelaw02_tall]) fun Q hQ => ?_
  simp [c_pack_Unpack_colonnadelaw02_tall]
  refine got_call (may_spec _) ?_
  rintro _ _ ⟨rfl, rfl⟩
  rename_i h
  by_cases hm : 0 ≤ w ∧ w ≤ 64
  case neg =>
    have : faultE bs w n = 20 := by unfold faultE; rw [if_pos hm]
    rw [this] at hQ
    simp [hm]
    exact hQ _ _ ⟨rfl, rfl⟩
  simp [hm]
  by_cases hb : bytesE n w = 0
  case neg =>
    have : faultE bs w n = bytesE n w := by unfold faultE; rw [if_neg (by simpa using hm), if_pos hb]
    rw [this] at hQ
    refine got_call (Bytes_bad hb) ?_
    rintro _ _ ⟨rfl, rfl⟩
    simp [hb]
    exact hQ _ _ ⟨rfl, rfl⟩
  obtain ⟨n, w, rfl, rfl, hn, hw⟩ := bytesE_ok hb
  refine got_call (Bytes_spec hn hw) ?_
  rintro _ _ ⟨rfl, rfl⟩
  rename_i h
  obtain ⟨N, hN⟩ : ∃ N, bs.length = N := ⟨_, rfl⟩
  rw [hN] at ev
  have hlen : ∀ h, lenR h v = some (.int .i64 N, h) := fun h => by rw [ev]; simp
  have hb1 : n * w ≤ 16777216 * 64 := Nat.mul_le_mul hn hw
  obtain ⟨a, ha⟩ : ∃ a, n * w = a := ⟨_, rfl⟩
  obtain ⟨B, hB⟩ : ∃ B, (a + 7) / 8 = B := ⟨_, rfl⟩
  have f0 : (n : Int) * w = (a : Int) := by rw [← ha, Int.natCast_mul]
  rw [ha, hB]
  have hF : faultE bs w n = if (N : Int) < B then 22 else if (B : Int) < N then 23 else if anyFrom bs a then 23 else 0 := by
    unfold faultE
    rw [if_neg (by simpa using hm), if_neg (by simpa using hb), f0, hN, Int.toNat_natCast]
    have : ((a : Int) + 7) / 8 = (B : Nat) := by omega
    rw [this]
  by_cases h1 : (N : Int) < B
  · rw [hF, if_pos h1] at hQ
    simp [hlen, h1]
    exact hQ _ _ ⟨rfl, rfl⟩
  by_cases h2 : (B : Int) < N
  · rw [hF, if_neg h1, if_pos h2] at hQ
    simp [hlen, h1, h2]
    exact hQ _ _ ⟨rfl, rfl⟩
  have hany : anyFrom bs a = true := by
    rw [hF, if_neg h1, if_neg h2] at hf
    cases he : anyFrom bs a with
    | true => rfl
    | false => rw [he] at hf; simp at hf
  rw [hF, if_neg h1, if_neg h2, if_pos hany] at hQ
  have f1 : IntKind.i64.wrap (a : Int) = a := wrap_i64 (by omega) (by omega)
  have hwd : ¬ wordB bs a = 0#64 := by rw [word_any (by omega), hany]; simp
  simp [hlen, h1, h2, f0, f1]
  refine got_call (Word_spec r (by omega) (by omega)) ?_
  rintro _ _ ⟨rfl, rfl⟩
  simp [hwd]
  exact hQ _ _ ⟨rfl, rfl⟩

theorem Unpack_colonnadelaw02_tall_spec {h : Heap} {v : Value} {bs : List (BitVec 8)} (r : Bytes h v bs) {w n : Nat} (g : Fine bs w n) :
    Gives P T (.fn F_pack_Unpack_colonnadelaw02_tall) [v, .int .i64 w, .int .i64 n] h fun r h' => Grow h h' ∧ ((¬ lanesFit bs w n 16 ∧ r = .tuple #[.slice none 0 0, .int .i64 21]) ∨ ∃ u q, lanesFit bs w n 16 ∧ r = .tuple #[u, .int .i64 0] ∧ Own h' u q ((lanesL bs w n).map (kv .u16)) ∧ h.dyn.length ≤ q) := by
  obtain ⟨b, c, ev, hr⟩ := r.reads.shape
  simp only [List.length_map] at hr ev
  have hw := g.wle
  have hn := g.nle
  have hm : 0 ≤ (w : Int) ∧ (w : Int) ≤ 64 := by omega
  refine gives_by t_pack_Unpack_colonnadelaw02_tall (by simp [c_pack_Unpack_colonnadelaw02_tall]) fun Q hQ => ?_
  simp [c_pack_Unpack_colonnadelaw02_tall]
  refine got_call (may_spec _) ?_
  rintro _ _ ⟨rfl, rfl⟩
  rename_i h
  simp [hm]
  refine got_call (Bytes_spec hn hw) ?_
  rintro _ _ ⟨rfl, rfl⟩
  rename_i h
  obtain ⟨N, hN⟩ : ∃ N, bs.length = N := ⟨_, rfl⟩
  rw [hN] at ev
  have hlen : ∀ h, lenR h v = some (.int .i64 N, h) := fun h => by rw [ev]; simp
  have hb1 : n * w ≤ 16777216 * 64 := Nat.mul_le_mul hn hw
  have hgl := g.len
  obtain ⟨a, ha⟩ : ∃ a, n * w = a := ⟨_, rfl⟩
  obtain ⟨B, hB⟩ : ∃ B, (a + 7) / 8 = B := ⟨_, rfl⟩
  have f0 : (n : Int) * w = (a : Int) := by rw [← ha, Int.natCast_mul]
  rw [ha, hB, hN] at hgl
  subst hgl
  rw [ha, hB]
  have hout := g.out
  rw [ha] at hout
  have f1 : IntKind.i64.wrap (a : Int) = a := wrap_i64 (by omega) (by omega)
  have hwd : wordB bs a = 0#64 := by rw [word_any (by omega), anyFrom_false]; exact hout
  simp [hlen, f0, f1]
  refine got_call (Word_spec r (by omega) (by omega)) ?_
  rintro _ _ ⟨rfl, rfl⟩
  rename_i h
  have hmk : mkSR h 1 2 [.int .u16 0] (.int .i64 0) (.int .i64 n) = some (.slice (some (hnext h)) 0 n, hnew h (List.replicate n (.int .u16 0)) 1) := by
    unfold mkSR
    simp only
    rw [if_pos ⟨by omega, by omega, by omega, by omega, rfl⟩]
    have : ∀ n, (List.replicate n [Value.int .u16 0]).flatten = List.replicate n (.int .u16 0) := by
      intro n
      induction n with
      | zero => rfl
      | succ n ih => rw [List.replicate_succ, List.flatten_cons, ih]; rfl
    simp [this]
  simp [hwd, hmk]
  have own0 : Own (hnew h (List.replicate n (.int .u16 0)) 1) (.slice (some ⟨h.dyn.length, 0, some 0⟩) 0 n) h.dyn.length ((lanesL bs w 0).map (kv .u16)) :=
    .inr (.inr ⟨0, List.replicate n (.int .u16 0), by simp [lanesL], by simp [lanesL]; unfold gcap; omega, by simpa [lanesL] using RowAt.new h (List.replicate n (.int .u16 0)) 1⟩)
  refine go_loopK (fun kk ks h2 => ∃ (i : Nat) (u : Value) (q : Nat), kk = n - i ∧ i ≤ n ∧ ks = [(0, v), (1, .int .i64 w), (10, u), (45, .int .i64 n), (46, .int .i64 i)] ∧ Own h2 u q ((lanesL bs w i).map (kv .u16)) ∧ Grow h h2 ∧ h.dyn.length ≤ q ∧ lanesFit bs w i 16) (n := n)
    ⟨0, _, h.dyn.length, rfl, by omega, rfl, own0, Grow.new _ _ _, Nat.le_refl _, fun x hx => by omega⟩ (by simp) ?_
  rintro I2 hI2 kk2 ks2 e2 h4 ⟨i, u, q, rfl, hi, rfl, ow, gg, hq, hfit⟩
  simp
  refine branch_dec (fun hlt2 => ?_) (fun hge2 => ?_)
  · have hin : i < n := by omega
    have e4 : IntKind.i64.wrap ((i : Int) + 1) = ((i + 1 : Nat) : Int) := by rw [wrap_i64 (by omega) (by omega)]; omega
    have hiw : i * w ≤ 16777216 * 64 := Nat.mul_le_mul (by omega) hw
    obtain ⟨s, hs⟩ : ∃ s, i * w = s := ⟨_, rfl⟩
    have g0 : (i : Int) * w = (s : Int) := by rw [← hs, Int.natCast_mul]
    have g1 : IntKind.i64.wrap (s : Int) = s := wrap_i64 (by omega) (by omega)
    simp [g0, g1]
    refine got_call (Word_spec (r.grow gg) (by omega) (by omega)) ?_
    rintro _ _ ⟨rfl, rfl⟩
    rename_i h4
    simp
    refine got_call (mask_spec hw) ?_
    rintro _ _ ⟨rfl, rfl⟩
    rename_i h4
    have hlw : wordB bs s &&& maskW w = laneB bs w i := by rw [lane_word hw, laneB, hs]
    have fw := wrapk_u16 (laneB bs w i)
    by_cases hfi : (laneB bs w i).toNat < 2 ^ 16
    · rw [cutB_eq (by omega) hfi] at fw
      obtain ⟨v', h', q', e8, o', c', l', d'⟩ := ow.push (bytes := 2) (z := .int .u16 0) (x := .int .u16 (wi (laneB bs w i))) (by simp) (by simp [lanesL_len]; omega) (by simp [lanesL_len]; omega)
      simp [-wrap_u8_wi, hlw, fw, e8, e4]
      refine ⟨n - (i + 1), by omega, hI2 _ _ _ _ ⟨i + 1, v', q', rfl, by omega, rfl, ?_, gg.after c' (fun n hn hb => by have := hb.1; omega), own_q gg.len hq d', fun x hx => ?_⟩ (by simp)⟩
      · rw [lanesL_succ, List.map_append]; exact o'
      · by_cases hxi : x = i
        · rw [hxi]; exact hfi
        · exact hfit x (by omega)
    · have hcut : ¬ cutB 16 (laneB bs w i) = laneB bs w i := fun h => hfi ((cut_iff (by omega)).1 h)
      simp [-wrap_u8_wi, hlw, fw, hcut]
      exact hQ _ _ ⟨gg, .inl ⟨fun h => hfi (h i hin), rfl⟩⟩
  · have hin : i = n := by omega
    subst hin
    simp
    exact hQ _ _ ⟨gg, .inr ⟨u, q, hfit, rfl, ow, hq⟩⟩

/-- One kind's Pack and the document's, as one answer. -/
theorem both_packs_colonnadelaw02_tall {h : Heap} {v v' : Value} {cs : List (BitVec 64)} (r : Reads h v (cs.map (kv .u16))) (r' : Reads h v' (cs.map (kv .u64))) (w : Int) :
    Gives P T (.fn F_colonnaderef02_Pack) [v', .int .i64 w] h fun x h2 => Grow h h2 ∧ ∃ u f, x = .tuple #[u, .int .i64 f] ∧
      Gives P T (.fn F_pack_Pack_colonnadelaw02_tall) [v, .int .i64 w] h2 fun y h3 => Grow h2 h3 ∧ ∃ (u3 : Value) (q3 : Nat) (bs : List (BitVec 8)), y = .tuple #[u3, .int .i64 f] ∧ Reads h3 u (bs.map bv) ∧ (u = .slice none 0 0 ∨ ∃ q, Own h3 u q (bs.map bv) ∧ h.dyn.length ≤ q) ∧ Own h3 u3 q3 (bs.map bv) ∧ h2.dyn.length ≤ q3 ∧ bs.length ≤ 200000000 := by
  by_cases he : bytesE cs.length w = 0
  · obtain ⟨n, w, hn', rfl, hn, hw⟩ := bytesE_ok he
    have hn2 : cs.length ≤ 16777216 := by omega
    have hb : cs.length * w ≤ 16777216 * 64 := Nat.mul_le_mul hn2 hw
    refine (refPack_spec r' hn2 hw).mono ?_
    rintro _ h2 ⟨g2, ⟨hnf, rfl⟩ | ⟨u, bs, hf, rfl, rd, p, q, o, hq⟩⟩
    · refine ⟨g2, _, _, rfl, ?_⟩
      refine (Pack_colonnadelaw02_tall_spec (r.grow g2) hn2 hw).mono ?_
      rintro _ h3 ⟨g3, ⟨_, rfl⟩ | ⟨_, _, _, hf, _⟩⟩
      · exact ⟨g3, _, h2.dyn.length, [], rfl, .inl ⟨rfl, rfl⟩, .inl rfl, Own.nil _ _, Nat.le_refl _, by simp⟩
      · exact absurd hf hnf
    · refine ⟨g2, _, _, rfl, ?_⟩
      refine (Pack_colonnadelaw02_tall_spec (r.grow g2) hn2 hw).mono ?_
      rintro _ h3 ⟨g3, ⟨hnf, _⟩ | ⟨u3, q3, bs3, _, rfl, o3, hq3, p3, hne⟩⟩
      · exact absurd hf hnf
      · have := p3.ext p
        subst this
        refine ⟨g3, u3, q3, bs3, rfl, rd.grow g3, ?_, o3, hq3, by rw [p3.len]; omega⟩
        exact .inr ⟨q, o.grow g3, hq⟩
  · refine (refPack_bad r' he).mono ?_
    rintro _ h2 ⟨rfl, rfl⟩
    refine ⟨Chg.refl _, _, _, rfl, ?_⟩
    refine (Pack_colonnadelaw02_tall_bad r he).mono ?_
    rintro _ h3 ⟨rfl, rfl⟩
    exact ⟨Chg.refl _, _, _, [], rfl, .inl ⟨rfl, rfl⟩, .inl rfl, Own.nil _ _, Nat.le_refl _, by simp⟩

theorem packs_colonnadelaw02_tall_spec {h : Heap} {v : Value} {cs : List (BitVec 64)} (r : Reads h v (cs.map (kv .u64))) (hl : cs.length * 8 ≤ 140737488351232) (w : Int) :
    Gives P T (.fn F_colonnadelaw02_packs_colonnadelaw02_tall) [v, .int .i64 w] h fun r h' => r = .bool true ∧ Grow h h' := by
  refine gives_by t_colonnadelaw02_packs_colonnadelaw02_tall (by simp [c_colonnadelaw02_packs_colonnadelaw02_tall]) fun Q hQ => ?_
  obtain ⟨N, hN⟩ : ∃ N, cs.length = N := ⟨_, rfl⟩
  simp [c_colonnadelaw02_packs_colonnadelaw02_tall]
  refine got_call (lent_colonnadelaw02_tall_spec r hl) ?_
  rintro u h1 ⟨q, rm, g1, hq⟩
  rw [hN] at hl
  obtain ⟨uu, eu, _⟩ := rm
  have eu' := eu
  simp only [List.length_map, hN] at eu
  subst eu
  simp
  refine go_loopK (fun kk ks h2 => ∃ (k : Nat) (cs : List (BitVec 64)), kk = 2 - k ∧ k ≤ 2 ∧ ks = [(1, .int .i64 w), (5, .slice (some ⟨q, 0, some uu⟩) N gcap), (6, .int .i64 k)] ∧ cs.length = N ∧ ofKind 16 cs ∧ Room h2 (.slice (some ⟨q, 0, some uu⟩) N gcap) q (cs.map (kv .u16)) ((marksK 66).map (kv .u16)) ∧ Grow h h2) (n := 2)
    ⟨0, _, rfl, by omega, rfl, by simpa using hN, ofKind_cut (by omega) cs, ⟨uu, eu', by assumption⟩, g1⟩ (by simp) ?_
  rintro I hI kk ks e h2 ⟨k, cs, rfl, hk, rfl, hN, hof, rm, gg⟩
  simp
  by_cases hlt : k < 2
  · have hlt' : (k : Int) < 2 := by omega
    have e4 : IntKind.i64.wrap ((k : Int) + 1) = ((k + 1 : Nat) : Int) := by rw [wrap_i64 (by omega) (by omega)]; omega
    simp [hlt, hlt']
    refine got_call (wider_colonnadelaw02_tall_spec rm.reads (by omega)) ?_
    rintro u3 h3 ⟨q3, o3, g3, hq3⟩
    have rm3 := rm.grow g3
    simp
    refine got_call (both_packs_colonnadelaw02_tall rm3.reads o3.reads w) ?_
    rintro _ h4 ⟨g4, u4, f, rfl, hp⟩
    simp
    refine got_call hp ?_
    rintro _ h5 ⟨g5, u5, q5, bs, rfl, rd4, hu4, o5, hq5, hbl⟩
    simp
    refine got_call num_spec ?_
    rintro _ _ ⟨rfl, rfl⟩
    rename_i h5
    simp [b2s_reads rd4, b2s_reads o5.reads]
    have rm5 := (rm3.grow g4).grow g5
    refine got_call (kept_colonnadelaw02_tall_spec rm5 ((o3.reads.grow g4).grow g5) hof (by omega)) ?_
    rintro _ _ ⟨rfl, rfl⟩
    rename_i h5
    have hq5' : q < q5 := by have := rm3.lt; have := g4.len; omega
    have hql : q < h5.dyn.length := rm5.lt
    have gg5 := ((gg.trans g3).trans g4).trans g5
    simp
    refine go_loopK (fun kk ks h6 => ∃ (j : Nat) (cs : List (BitVec 64)), kk = N - j ∧ j ≤ N ∧ ks = [(1, .int .i64 w), (5, .slice (some ⟨q, 0, some uu⟩) N gcap), (6, .int .i64 k), (8, u4), (10, u5), (12, .int .i64 j)] ∧ cs.length = N ∧ ofKind 16 cs ∧ Room h6 (.slice (some ⟨q, 0, some uu⟩) N gcap) q (cs.map (kv .u16)) ((marksK 66).map (kv .u16)) ∧ Chg (· = q) h5 h6) (n := N)
      ⟨0, cs, rfl, by omega, rfl, hN, hof, rm5, Chg.refl _⟩ (by simp) ?_
    rintro I2 hI2 kk2 ks2 e2 h6 ⟨j, cs, rfl, hj, rfl, hN, hof, rm6, c6⟩
    simp
    refine branch_dec (fun hlt2 => ?_) (fun hge2 => ?_)
    · have hjN : j < N := by omega
      have e5 : IntKind.i64.wrap ((j : Int) + 1) = ((j + 1 : Nat) : Int) := by rw [wrap_i64 (by omega) (by omega)]; omega
      have fx : abin .xor .u16 (wi (numA cs j)) 1 = some (.int .u16 (wi (numA cs j ^^^ 1#64))) := xork_u16 (y := 1#64) (hof j (by omega)) (by decide)
      obtain ⟨u2, h7, ev2, es, rm7, c7, n7⟩ := rm6.set (i := j) (by simp; omega) (x := .int .u16 (wi (numA cs j ^^^ 1#64))) (by simp)
      have hu : uu = u2 := by simp at ev2; exact ev2.1
      subst hu
      have hld : hload h6 ⟨q, j, some uu⟩ = some (.int .u16 (wi (numA cs j))) := by
        obtain ⟨u3, e3, r3⟩ := rm6
        have : u3 = uu := by simp at e3; exact e3.1.symm
        subst this
        exact r3.get (by rw [List.getElem?_append_left (by simp; omega)]; exact kv_get (by omega))
      simp [-ab8_xor, hjN, hld, fx, es, e5]
      refine ⟨N - (j + 1), by omega, hI2 _ _ _ _ ⟨j + 1, cs.set j (numA cs j ^^^ 1#64), rfl, by omega, rfl, by simpa using hN, ofKind_set hof (xor_lt (hof j (by omega)) (by decide)), ?_, c6.trans c7⟩ (by simp)⟩
      rw [List.map_set]; exact rm7
    · have hjN : j = N := by omega
      subst hjN
      have o6 : Own h6 u5 q5 (bs.map bv) := o5.chg c6 (by omega)
      have rd6 : Reads h6 u4 (bs.map bv) := by
        rcases hu4 with rfl | ⟨q4, o4, hq4⟩
        · rcases rd4 with ⟨_, e⟩ | ⟨_, _, e, _⟩
          · exact .inl ⟨rfl, e⟩
          · cases e
        · exact (o4.chg c6 (by have := rm3.lt; omega)).reads
      simp
      refine got_call (wider_colonnadelaw02_tall_spec rm6.reads (by omega)) ?_
      rintro u7 h7 ⟨q7, o7, g7, hq7⟩
      simp [b2s_reads (rd6.grow g7), b2s_reads (o6.grow g7).reads]
      have c6l := c6.len
      have c7l := g7.len
      have rm7 := rm6.grow g7
      have hl7 := rm7.lt
      have hg5 := gg5.len
      have sp : ∃ q', Own h7 u5 q' (bs.map bv) ∧ q' ≠ q ∧ q' ≠ q7 ∧ h.dyn.length ≤ q' := by
        rcases o6.lt with h1 | h1
        · exact ⟨h7.dyn.length + q7 + 1, .inl h1, by omega, by omega, by omega⟩
        · exact ⟨q5, o6.grow g7, by omega, by omega, by omega⟩
      obtain ⟨q', o7', hn1, hn2, hn3⟩ := sp
      refine got_call (spoil_byte_spec (bv_kv bs ▸ o7') (bv_ofKind bs) (by simp; omega)) ?_
      rintro _ h8 c8
      have rm8 := rm7.chg c8 (fun e => hn1 e.symm)
      have rd8 := (o7.chg c8 (fun e => hn2 e.symm)).reads
      simp
      refine got_call (kept_colonnadelaw02_tall_spec rm8 rd8 hof (by omega)) ?_
      rintro _ _ ⟨rfl, rfl⟩
      rename_i h8
      simp [e4]
      exact ⟨2 - (k + 1), by omega, hI _ _ _ _ ⟨k + 1, cs, rfl, by omega, rfl, hN, hof, rm8, ((gg5.after c6 (fun n hn hb => by omega)).trans g7).after c8 (fun n hn hb => by omega)⟩ (by simp)⟩
  · have hk2 : k = 2 := by omega
    subst hk2
    simp
    exact hQ _ _ ⟨rfl, gg⟩

end Go.Ax
