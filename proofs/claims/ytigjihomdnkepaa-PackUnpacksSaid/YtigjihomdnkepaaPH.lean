/- Seat pack: the laws of Pack and Unpack. -/
import Derived.Test.YtigjihomdnkepaaPG
namespace Go.Ax
set_option linter.unusedVariables false
set_option linter.unusedSimpArgs false

theorem both_unpacks_uint64 {h : Heap} {v v' : Value} {bs : List (BitVec 8)} (r : Bytes h v bs) (r' : Reads h v' (bs.map bv)) (hl : bs.length ≤ 140737488351232) (w n : Int) :
    Gives P T (.fn F_colonnaderef02_Unpack) [v', .int .i64 w, .int .i64 n, .int .i64 64] h fun x h2 => Grow h h2 ∧ ∃ u f, x = .tuple #[u, .int .i64 f] ∧
      Gives P T (.fn F_pack_Unpack_uint64) [v, .int .i64 w, .int .i64 n] h2 fun y h3 => Grow h2 h3 ∧ ∃ (u3 : Value) (q3 : Nat) (cs : List (BitVec 64)), y = .tuple #[u3, .int .i64 f] ∧ ofKind 64 cs ∧ cs.length ≤ 16777216 ∧ ((u = .slice none 0 0 ∧ cs = []) ∨ ∃ q, Own h3 u q (cs.map (kv .u64)) ∧ h.dyn.length ≤ q) ∧ Own h3 u3 q3 (cs.map (kv .u64)) ∧ h2.dyn.length ≤ q3 := by
  by_cases hf : faultE bs w n = 0
  · obtain ⟨w, n, rfl, rfl, g⟩ := faultE_fine hf
    refine (refUnpack_spec r' g (kind := 64) (by omega)).mono ?_
    rintro _ h2 ⟨g2, ⟨hnf, rfl⟩ | ⟨u, q, hfit, rfl, o, hq⟩⟩
    · refine ⟨g2, _, _, rfl, ?_⟩
      refine (Unpack_uint64_spec (r.grow g2) g).mono ?_
      rintro _ h3 ⟨g3, ⟨_, rfl⟩ | ⟨_, _, hfit, _⟩⟩
      · exact ⟨g3, _, h2.dyn.length, [], rfl, fun i hi => by simp at hi, by simp, .inl ⟨rfl, rfl⟩, Own.nil _ _, Nat.le_refl _⟩
      · exact absurd hfit hnf
    · refine ⟨g2, _, _, rfl, ?_⟩
      refine (Unpack_uint64_spec (r.grow g2) g).mono ?_
      rintro _ h3 ⟨g3, ⟨hnf, _⟩ | ⟨u3, q3, _, rfl, o3, hq3⟩⟩
      · exact absurd hfit hnf
      · exact ⟨g3, u3, q3, _, rfl, ofKind_lanes hfit, by rw [lanesL_len]; exact g.nle, .inr ⟨q, o.grow g3, hq⟩, o3, hq3⟩
  · refine (refUnpack_bad r' hl (kind := 64) hf).mono ?_
    rintro _ h2 ⟨rfl, rfl⟩
    refine ⟨Chg.refl _, _, _, rfl, ?_⟩
    refine (Unpack_uint64_bad r hl hf).mono ?_
    rintro _ h3 ⟨rfl, rfl⟩
    exact ⟨Chg.refl _, _, h3.dyn.length, [], rfl, fun i hi => by simp at hi, by simp, .inl ⟨rfl, rfl⟩, Own.nil _ _, Nat.le_refl _⟩

theorem unpacks_uint64_spec {h : Heap} {v : Value} {bs : List (BitVec 8)} (r : Reads h v (bs.map bv)) (hl : bs.length ≤ 140737488351232) (w n : Int) :
    Gives P T (.fn F_colonnadelaw02_unpacks_uint64) [v, .int .i64 w, .int .i64 n, .int .i64 64] h fun r h' => r = .bool true ∧ Grow h h' := by
  refine gives_by t_colonnadelaw02_unpacks_uint64 (by simp [c_colonnadelaw02_unpacks_uint64]) fun Q hQ => ?_
  obtain ⟨N, hN⟩ : ∃ N, bs.length = N := ⟨_, rfl⟩
  simp [c_colonnadelaw02_unpacks_uint64]
  refine got_call (bytesLent_spec r hl) ?_
  rintro u h1 ⟨q, rm, g1, hq⟩
  rw [hN] at hl
  obtain ⟨uu, eu, _⟩ := rm
  have eu' := eu
  simp only [List.length_map, hN] at eu
  subst eu
  simp
  refine go_loopK (fun kk ks h2 => ∃ (k : Nat) (bs : List (BitVec 8)), kk = 2 - k ∧ k ≤ 2 ∧ ks = [(1, .int .i64 w), (2, .int .i64 n), (3, .int .i64 64), (9, .slice (some ⟨q, 0, some uu⟩) N gcap), (10, .int .i64 k)] ∧ bs.length = N ∧ Room h2 (.slice (some ⟨q, 0, some uu⟩) N gcap) q (bs.map bv) ((marksL 66).map bv) ∧ Grow h h2) (n := 2)
    ⟨0, bs, rfl, by omega, rfl, hN, ⟨uu, eu', by assumption⟩, g1⟩ (by simp) ?_
  rintro I hI kk ks e h2 ⟨k, bs, rfl, hk, rfl, hN, rm, gg⟩
  simp
  by_cases hlt : k < 2
  · have hlt' : (k : Int) < 2 := by omega
    have e4 : IntKind.i64.wrap ((k : Int) + 1) = ((k + 1 : Nat) : Int) := by rw [wrap_i64 (by omega) (by omega)]; omega
    obtain ⟨v3, h3, q3, e3, o3, g3, hq3, _⟩ := clone_app rm.reads (by omega)
    have rm3 := rm.grow g3
    simp [hlt, hlt', e3]
    refine got_call (both_unpacks_uint64 (room_bytes rm3) o3.reads (by omega) w n) ?_
    rintro _ h4 ⟨g4, u4, f, rfl, hp⟩
    simp
    refine got_call hp ?_
    rintro _ h5 ⟨g5, u5, q5, cs, rfl, hof, hcl, hu4, o5, hq5⟩
    have rd4 : Reads h5 u4 (cs.map (kv .u64)) := by
      rcases hu4 with ⟨rfl, rfl⟩ | ⟨q4, o4, hq4⟩
      · exact .inl ⟨rfl, rfl⟩
      · exact o4.reads
    simp
    refine got_call num_spec ?_
    rintro _ _ ⟨rfl, rfl⟩
    rename_i h5
    simp
    refine got_call (wider_uint64_spec o5.reads (by omega)) ?_
    rintro u6 h6 ⟨q6, o6, g6, hq6⟩
    simp
    refine got_call (Same_spec o6.reads (rd4.grow g6) (by omega)) ?_
    rintro _ _ ⟨rfl, rfl⟩
    rename_i h6
    simp
    have rm6 := ((rm3.grow g4).grow g5).grow g6
    refine got_call (bytesKept_spec rm6 (((o3.reads.grow g4).grow g5).grow g6) (by omega)) ?_
    rintro _ _ ⟨rfl, rfl⟩
    rename_i h6
    have hq5' : q < q5 := by have := rm3.lt; have := g4.len; omega
    have hql : q < h6.dyn.length := rm6.lt
    have gg6 := (((gg.trans g3).trans g4).trans g5).trans g6
    have O5 := o5.grow g6
    have RD4 := rd4.grow g6
    simp
    refine go_loopK (fun kk ks h7 => ∃ (j : Nat) (bs : List (BitVec 8)), kk = N - j ∧ j ≤ N ∧ ks = [(1, .int .i64 w), (2, .int .i64 n), (3, .int .i64 64), (9, .slice (some ⟨q, 0, some uu⟩) N gcap), (10, .int .i64 k), (12, u4), (14, u5), (16, .int .i64 j)] ∧ bs.length = N ∧ Room h7 (.slice (some ⟨q, 0, some uu⟩) N gcap) q (bs.map bv) ((marksL 66).map bv) ∧ Chg (· = q) h6 h7) (n := N)
      ⟨0, bs, rfl, by omega, rfl, hN, rm6, Chg.refl _⟩ (by simp) ?_
    rintro I2 hI2 kk2 ks2 e2 h7 ⟨j, bs, rfl, hj, rfl, hN, rm7, c7⟩
    simp
    refine branch_dec (fun hlt2 => ?_) (fun hge2 => ?_)
    · have hjN : j < N := by omega
      have e5 : IntKind.i64.wrap ((j : Int) + 1) = ((j + 1 : Nat) : Int) := by rw [wrap_i64 (by omega) (by omega)]; omega
      obtain ⟨u2, h8, ev2, es, rm8, c8, n8⟩ := rm7.set (i := j) (by simp; omega) (x := .int .u8 (bi (byteA bs j ^^^ 3#8))) (by simp)
      have hu : uu = u2 := by simp at ev2; exact ev2.1
      subst hu
      have hld : hload h7 ⟨q, j, some uu⟩ = some (.int .u8 (bi (byteA bs j))) := by
        obtain ⟨u3, e3, r3⟩ := rm7
        have : u3 = uu := by simp at e3; exact e3.1.symm
        subst this
        exact r3.get (by rw [List.getElem?_append_left (by simp; omega)]; exact bv_get (by omega))
      simp [hjN, hld, es, e5]
      refine ⟨N - (j + 1), by omega, hI2 _ _ _ _ ⟨j + 1, bs.set j (byteA bs j ^^^ 3#8), rfl, by omega, rfl, by simpa using hN, ?_, c7.trans c8⟩ (by simp)⟩
      rw [List.map_set]; exact rm8
    · have hjN : j = N := by omega
      subst hjN
      have o7 : Own h7 u5 q5 (cs.map (kv .u64)) := O5.chg c7 (by omega)
      have rd7 : Reads h7 u4 (cs.map (kv .u64)) := by
        rcases hu4 with ⟨rfl, rfl⟩ | ⟨q4, o4, hq4⟩
        · exact .inl ⟨rfl, rfl⟩
        · exact ((o4.grow g6).chg c7 (by have := rm3.lt; omega)).reads
      obtain ⟨v8, h8, q8, e8, o8, g8, hq8, _⟩ := clone_app rm7.reads (by omega)
      have rm8 := rm7.grow g8
      simp [e8]
      refine got_call (wider_uint64_spec (o7.grow g8).reads (by omega)) ?_
      rintro u9 h9 ⟨q9, o9, g9, hq9⟩
      simp
      refine got_call (Same_spec o9.reads ((rd7.grow g8).grow g9) (by omega)) ?_
      rintro _ _ ⟨rfl, rfl⟩
      rename_i h9
      have c7l := c7.len
      have c8l := g8.len
      have c9l := g9.len
      have rm9 := rm8.grow g9
      have hl9 := rm9.lt
      have hg6 := gg6.len
      have hg4 := g4.len
      have sp : ∃ q', Own h9 u5 q' (cs.map (kv .u64)) ∧ q' ≠ q ∧ q' ≠ q8 ∧ h.dyn.length ≤ q' := by
        rcases o7.lt with h1 | h1
        · exact ⟨h9.dyn.length + q8 + 1, .inl h1, by omega, by omega, by omega⟩
        · exact ⟨q5, (o7.grow g8).grow g9, by omega, by omega, by have := rm3.lt; omega⟩
      obtain ⟨q', o9', hn1, hn2, hn3⟩ := sp
      simp
      refine got_call (spoil_uint64_spec o9' hof (by omega)) ?_
      rintro _ h10 c10
      have rm10 := rm9.chg c10 (fun e => hn1 e.symm)
      have rd10 := ((o8.grow g9).chg c10 (fun e => hn2 e.symm)).reads
      simp
      refine got_call (bytesKept_spec rm10 rd10 (by omega)) ?_
      rintro _ _ ⟨rfl, rfl⟩
      rename_i h10
      simp [e4]
      exact ⟨2 - (k + 1), by omega, hI _ _ _ _ ⟨k + 1, bs, rfl, by omega, rfl, hN, rm10, (((gg6.after c7 (fun n hn hb => by omega)).trans g8).trans g9).after c10 (fun n hn hb => by omega)⟩ (by simp)⟩
  · have hk2 : k = 2 := by omega
    subst hk2
    simp
    exact hQ _ _ ⟨rfl, gg⟩

theorem both_unpacks_uint8 {h : Heap} {v v' : Value} {bs : List (BitVec 8)} (r : Bytes h v bs) (r' : Reads h v' (bs.map bv)) (hl : bs.length ≤ 140737488351232) (w n : Int) :
    Gives P T (.fn F_colonnaderef02_Unpack) [v', .int .i64 w, .int .i64 n, .int .i64 8] h fun x h2 => Grow h h2 ∧ ∃ u f, x = .tuple #[u, .int .i64 f] ∧
      Gives P T (.fn F_pack_Unpack_uint8) [v, .int .i64 w, .int .i64 n] h2 fun y h3 => Grow h2 h3 ∧ ∃ (u3 : Value) (q3 : Nat) (cs : List (BitVec 64)), y = .tuple #[u3, .int .i64 f] ∧ ofKind 8 cs ∧ cs.length ≤ 16777216 ∧ ((u = .slice none 0 0 ∧ cs = []) ∨ ∃ q, Own h3 u q (cs.map (kv .u64)) ∧ h.dyn.length ≤ q) ∧ Own h3 u3 q3 (cs.map (kv .u8)) ∧ h2.dyn.length ≤ q3 := by
  by_cases hf : faultE bs w n = 0
  · obtain ⟨w, n, rfl, rfl, g⟩ := faultE_fine hf
    refine (refUnpack_spec r' g (kind := 8) (by omega)).mono ?_
    rintro _ h2 ⟨g2, ⟨hnf, rfl⟩ | ⟨u, q, hfit, rfl, o, hq⟩⟩
    · refine ⟨g2, _, _, rfl, ?_⟩
      refine (Unpack_uint8_spec (r.grow g2) g).mono ?_
      rintro _ h3 ⟨g3, ⟨_, rfl⟩ | ⟨_, _, hfit, _⟩⟩
      · exact ⟨g3, _, h2.dyn.length, [], rfl, fun i hi => by simp at hi, by simp, .inl ⟨rfl, rfl⟩, Own.nil _ _, Nat.le_refl _⟩
      · exact absurd hfit hnf
    · refine ⟨g2, _, _, rfl, ?_⟩
      refine (Unpack_uint8_spec (r.grow g2) g).mono ?_
      rintro _ h3 ⟨g3, ⟨hnf, _⟩ | ⟨u3, q3, _, rfl, o3, hq3⟩⟩
      · exact absurd hfit hnf
      · exact ⟨g3, u3, q3, _, rfl, ofKind_lanes hfit, by rw [lanesL_len]; exact g.nle, .inr ⟨q, o.grow g3, hq⟩, o3, hq3⟩
  · refine (refUnpack_bad r' hl (kind := 8) hf).mono ?_
    rintro _ h2 ⟨rfl, rfl⟩
    refine ⟨Chg.refl _, _, _, rfl, ?_⟩
    refine (Unpack_uint8_bad r hl hf).mono ?_
    rintro _ h3 ⟨rfl, rfl⟩
    exact ⟨Chg.refl _, _, h3.dyn.length, [], rfl, fun i hi => by simp at hi, by simp, .inl ⟨rfl, rfl⟩, Own.nil _ _, Nat.le_refl _⟩

theorem unpacks_uint8_spec {h : Heap} {v : Value} {bs : List (BitVec 8)} (r : Reads h v (bs.map bv)) (hl : bs.length ≤ 140737488351232) (w n : Int) :
    Gives P T (.fn F_colonnadelaw02_unpacks_uint8) [v, .int .i64 w, .int .i64 n, .int .i64 8] h fun r h' => r = .bool true ∧ Grow h h' := by
  refine gives_by t_colonnadelaw02_unpacks_uint8 (by simp [c_colonnadelaw02_unpacks_uint8]) fun Q hQ => ?_
  obtain ⟨N, hN⟩ : ∃ N, bs.length = N := ⟨_, rfl⟩
  simp [c_colonnadelaw02_unpacks_uint8]
  refine got_call (bytesLent_spec r hl) ?_
  rintro u h1 ⟨q, rm, g1, hq⟩
  rw [hN] at hl
  obtain ⟨uu, eu, _⟩ := rm
  have eu' := eu
  simp only [List.length_map, hN] at eu
  subst eu
  simp
  refine go_loopK (fun kk ks h2 => ∃ (k : Nat) (bs : List (BitVec 8)), kk = 2 - k ∧ k ≤ 2 ∧ ks = [(1, .int .i64 w), (2, .int .i64 n), (3, .int .i64 8), (9, .slice (some ⟨q, 0, some uu⟩) N gcap), (10, .int .i64 k)] ∧ bs.length = N ∧ Room h2 (.slice (some ⟨q, 0, some uu⟩) N gcap) q (bs.map bv) ((marksL 66).map bv) ∧ Grow h h2) (n := 2)
    ⟨0, bs, rfl, by omega, rfl, hN, ⟨uu, eu', by assumption⟩, g1⟩ (by simp) ?_
  rintro I hI kk ks e h2 ⟨k, bs, rfl, hk, rfl, hN, rm, gg⟩
  simp
  by_cases hlt : k < 2
  · have hlt' : (k : Int) < 2 := by omega
    have e4 : IntKind.i64.wrap ((k : Int) + 1) = ((k + 1 : Nat) : Int) := by rw [wrap_i64 (by omega) (by omega)]; omega
    obtain ⟨v3, h3, q3, e3, o3, g3, hq3, _⟩ := clone_app rm.reads (by omega)
    have rm3 := rm.grow g3
    simp [hlt, hlt', e3]
    refine got_call (both_unpacks_uint8 (room_bytes rm3) o3.reads (by omega) w n) ?_
    rintro _ h4 ⟨g4, u4, f, rfl, hp⟩
    simp
    refine got_call hp ?_
    rintro _ h5 ⟨g5, u5, q5, cs, rfl, hof, hcl, hu4, o5, hq5⟩
    have rd4 : Reads h5 u4 (cs.map (kv .u64)) := by
      rcases hu4 with ⟨rfl, rfl⟩ | ⟨q4, o4, hq4⟩
      · exact .inl ⟨rfl, rfl⟩
      · exact o4.reads
    simp
    refine got_call num_spec ?_
    rintro _ _ ⟨rfl, rfl⟩
    rename_i h5
    simp
    refine got_call (wider_uint8_spec o5.reads (by omega)) ?_
    rintro u6 h6 ⟨q6, o6, g6, hq6⟩
    simp
    refine got_call (Same_spec o6.reads (rd4.grow g6) (by omega)) ?_
    rintro _ _ ⟨rfl, rfl⟩
    rename_i h6
    simp
    have rm6 := ((rm3.grow g4).grow g5).grow g6
    refine got_call (bytesKept_spec rm6 (((o3.reads.grow g4).grow g5).grow g6) (by omega)) ?_
    rintro _ _ ⟨rfl, rfl⟩
    rename_i h6
    have hq5' : q < q5 := by have := rm3.lt; have := g4.len; omega
    have hql : q < h6.dyn.length := rm6.lt
    have gg6 := (((gg.trans g3).trans g4).trans g5).trans g6
    have O5 := o5.grow g6
    have RD4 := rd4.grow g6
    simp
    refine go_loopK (fun kk ks h7 => ∃ (j : Nat) (bs : List (BitVec 8)), kk = N - j ∧ j ≤ N ∧ ks = [(1, .int .i64 w), (2, .int .i64 n), (3, .int .i64 8), (9, .slice (some ⟨q, 0, some uu⟩) N gcap), (10, .int .i64 k), (12, u4), (14, u5), (16, .int .i64 j)] ∧ bs.length = N ∧ Room h7 (.slice (some ⟨q, 0, some uu⟩) N gcap) q (bs.map bv) ((marksL 66).map bv) ∧ Chg (· = q) h6 h7) (n := N)
      ⟨0, bs, rfl, by omega, rfl, hN, rm6, Chg.refl _⟩ (by simp) ?_
    rintro I2 hI2 kk2 ks2 e2 h7 ⟨j, bs, rfl, hj, rfl, hN, rm7, c7⟩
    simp
    refine branch_dec (fun hlt2 => ?_) (fun hge2 => ?_)
    · have hjN : j < N := by omega
      have e5 : IntKind.i64.wrap ((j : Int) + 1) = ((j + 1 : Nat) : Int) := by rw [wrap_i64 (by omega) (by omega)]; omega
      obtain ⟨u2, h8, ev2, es, rm8, c8, n8⟩ := rm7.set (i := j) (by simp; omega) (x := .int .u8 (bi (byteA bs j ^^^ 3#8))) (by simp)
      have hu : uu = u2 := by simp at ev2; exact ev2.1
      subst hu
      have hld : hload h7 ⟨q, j, some uu⟩ = some (.int .u8 (bi (byteA bs j))) := by
        obtain ⟨u3, e3, r3⟩ := rm7
        have : u3 = uu := by simp at e3; exact e3.1.symm
        subst this
        exact r3.get (by rw [List.getElem?_append_left (by simp; omega)]; exact bv_get (by omega))
      simp [hjN, hld, es, e5]
      refine ⟨N - (j + 1), by omega, hI2 _ _ _ _ ⟨j + 1, bs.set j (byteA bs j ^^^ 3#8), rfl, by omega, rfl, by simpa using hN, ?_, c7.trans c8⟩ (by simp)⟩
      rw [List.map_set]; exact rm8
    · have hjN : j = N := by omega
      subst hjN
      have o7 : Own h7 u5 q5 (cs.map (kv .u8)) := O5.chg c7 (by omega)
      have rd7 : Reads h7 u4 (cs.map (kv .u64)) := by
        rcases hu4 with ⟨rfl, rfl⟩ | ⟨q4, o4, hq4⟩
        · exact .inl ⟨rfl, rfl⟩
        · exact ((o4.grow g6).chg c7 (by have := rm3.lt; omega)).reads
      obtain ⟨v8, h8, q8, e8, o8, g8, hq8, _⟩ := clone_app rm7.reads (by omega)
      have rm8 := rm7.grow g8
      simp [e8]
      refine got_call (wider_uint8_spec (o7.grow g8).reads (by omega)) ?_
      rintro u9 h9 ⟨q9, o9, g9, hq9⟩
      simp
      refine got_call (Same_spec o9.reads ((rd7.grow g8).grow g9) (by omega)) ?_
      rintro _ _ ⟨rfl, rfl⟩
      rename_i h9
      have c7l := c7.len
      have c8l := g8.len
      have c9l := g9.len
      have rm9 := rm8.grow g9
      have hl9 := rm9.lt
      have hg6 := gg6.len
      have hg4 := g4.len
      have sp : ∃ q', Own h9 u5 q' (cs.map (kv .u8)) ∧ q' ≠ q ∧ q' ≠ q8 ∧ h.dyn.length ≤ q' := by
        rcases o7.lt with h1 | h1
        · exact ⟨h9.dyn.length + q8 + 1, .inl h1, by omega, by omega, by omega⟩
        · exact ⟨q5, (o7.grow g8).grow g9, by omega, by omega, by have := rm3.lt; omega⟩
      obtain ⟨q', o9', hn1, hn2, hn3⟩ := sp
      simp
      refine got_call (spoil_byte_spec o9' hof (by omega)) ?_
      rintro _ h10 c10
      have rm10 := rm9.chg c10 (fun e => hn1 e.symm)
      have rd10 := ((o8.grow g9).chg c10 (fun e => hn2 e.symm)).reads
      simp
      refine got_call (bytesKept_spec rm10 rd10 (by omega)) ?_
      rintro _ _ ⟨rfl, rfl⟩
      rename_i h10
      simp [e4]
      exact ⟨2 - (k + 1), by omega, hI _ _ _ _ ⟨k + 1, bs, rfl, by omega, rfl, hN, rm10, (((gg6.after c7 (fun n hn hb => by omega)).trans g8).trans g9).after c10 (fun n hn hb => by omega)⟩ (by simp)⟩
  · have hk2 : k = 2 := by omega
    subst hk2
    simp
    exact hQ _ _ ⟨rfl, gg⟩

theorem both_unpacks_uint16 {h : Heap} {v v' : Value} {bs : List (BitVec 8)} (r : Bytes h v bs) (r' : Reads h v' (bs.map bv)) (hl : bs.length ≤ 140737488351232) (w n : Int) :
    Gives P T (.fn F_colonnaderef02_Unpack) [v', .int .i64 w, .int .i64 n, .int .i64 16] h fun x h2 => Grow h h2 ∧ ∃ u f, x = .tuple #[u, .int .i64 f] ∧
      Gives P T (.fn F_pack_Unpack_uint16) [v, .int .i64 w, .int .i64 n] h2 fun y h3 => Grow h2 h3 ∧ ∃ (u3 : Value) (q3 : Nat) (cs : List (BitVec 64)), y = .tuple #[u3, .int .i64 f] ∧ ofKind 16 cs ∧ cs.length ≤ 16777216 ∧ ((u = .slice none 0 0 ∧ cs = []) ∨ ∃ q, Own h3 u q (cs.map (kv .u64)) ∧ h.dyn.length ≤ q) ∧ Own h3 u3 q3 (cs.map (kv .u16)) ∧ h2.dyn.length ≤ q3 := by
  by_cases hf : faultE bs w n = 0
  · obtain ⟨w, n, rfl, rfl, g⟩ := faultE_fine hf
    refine (refUnpack_spec r' g (kind := 16) (by omega)).mono ?_
    rintro _ h2 ⟨g2, ⟨hnf, rfl⟩ | ⟨u, q, hfit, rfl, o, hq⟩⟩
    · refine ⟨g2, _, _, rfl, ?_⟩
      refine (Unpack_uint16_spec (r.grow g2) g).mono ?_
      rintro _ h3 ⟨g3, ⟨_, rfl⟩ | ⟨_, _, hfit, _⟩⟩
      · exact ⟨g3, _, h2.dyn.length, [], rfl, fun i hi => by simp at hi, by simp, .inl ⟨rfl, rfl⟩, Own.nil _ _, Nat.le_refl _⟩
      · exact absurd hfit hnf
    · refine ⟨g2, _, _, rfl, ?_⟩
      refine (Unpack_uint16_spec (r.grow g2) g).mono ?_
      rintro _ h3 ⟨g3, ⟨hnf, _⟩ | ⟨u3, q3, _, rfl, o3, hq3⟩⟩
      · exact absurd hfit hnf
      · exact ⟨g3, u3, q3, _, rfl, ofKind_lanes hfit, by rw [lanesL_len]; exact g.nle, .inr ⟨q, o.grow g3, hq⟩, o3, hq3⟩
  · refine (refUnpack_bad r' hl (kind := 16) hf).mono ?_
    rintro _ h2 ⟨rfl, rfl⟩
    refine ⟨Chg.refl _, _, _, rfl, ?_⟩
    refine (Unpack_uint16_bad r hl hf).mono ?_
    rintro _ h3 ⟨rfl, rfl⟩
    exact ⟨Chg.refl _, _, h3.dyn.length, [], rfl, fun i hi => by simp at hi, by simp, .inl ⟨rfl, rfl⟩, Own.nil _ _, Nat.le_refl _⟩

theorem unpacks_uint16_spec {h : Heap} {v : Value} {bs : List (BitVec 8)} (r : Reads h v (bs.map bv)) (hl : bs.length ≤ 140737488351232) (w n : Int) :
    Gives P T (.fn F_colonnadelaw02_unpacks_uint16) [v, .int .i64 w, .int .i64 n, .int .i64 16] h fun r h' => r = .bool true ∧ Grow h h' := by
  refine gives_by t_colonnadelaw02_unpacks_uint16 (by simp [c_colonnadelaw02_unpacks_uint16]) fun Q hQ => ?_
  obtain ⟨N, hN⟩ : ∃ N, bs.length = N := ⟨_, rfl⟩
  simp [c_colonnadelaw02_unpacks_uint16]
  refine got_call (bytesLent_spec r hl) ?_
  rintro u h1 ⟨q, rm, g1, hq⟩
  rw [hN] at hl
  obtain ⟨uu, eu, _⟩ := rm
  have eu' := eu
  simp only [List.length_map, hN] at eu
  subst eu
  simp
  refine go_loopK (fun kk ks h2 => ∃ (k : Nat) (bs : List (BitVec 8)), kk = 2 - k ∧ k ≤ 2 ∧ ks = [(1, .int .i64 w), (2, .int .i64 n), (3, .int .i64 16), (9, .slice (some ⟨q, 0, some uu⟩) N gcap), (10, .int .i64 k)] ∧ bs.length = N ∧ Room h2 (.slice (some ⟨q, 0, some uu⟩) N gcap) q (bs.map bv) ((marksL 66).map bv) ∧ Grow h h2) (n := 2)
    ⟨0, bs, rfl, by omega, rfl, hN, ⟨uu, eu', by assumption⟩, g1⟩ (by simp) ?_
  rintro I hI kk ks e h2 ⟨k, bs, rfl, hk, rfl, hN, rm, gg⟩
  simp
  by_cases hlt : k < 2
  · have hlt' : (k : Int) < 2 := by omega
    have e4 : IntKind.i64.wrap ((k : Int) + 1) = ((k + 1 : Nat) : Int) := by rw [wrap_i64 (by omega) (by omega)]; omega
    obtain ⟨v3, h3, q3, e3, o3, g3, hq3, _⟩ := clone_app rm.reads (by omega)
    have rm3 := rm.grow g3
    simp [hlt, hlt', e3]
    refine got_call (both_unpacks_uint16 (room_bytes rm3) o3.reads (by omega) w n) ?_
    rintro _ h4 ⟨g4, u4, f, rfl, hp⟩
    simp
    refine got_call hp ?_
    rintro _ h5 ⟨g5, u5, q5, cs, rfl, hof, hcl, hu4, o5, hq5⟩
    have rd4 : Reads h5 u4 (cs.map (kv .u64)) := by
      rcases hu4 with ⟨rfl, rfl⟩ | ⟨q4, o4, hq4⟩
      · exact .inl ⟨rfl, rfl⟩
      · exact o4.reads
    simp
    refine got_call num_spec ?_
    rintro _ _ ⟨rfl, rfl⟩
    rename_i h5
    simp
    refine got_call (wider_uint16_spec o5.reads (by omega)) ?_
    rintro u6 h6 ⟨q6, o6, g6, hq6⟩
    simp
    refine got_call (Same_spec o6.reads (rd4.grow g6) (by omega)) ?_
    rintro _ _ ⟨rfl, rfl⟩
    rename_i h6
    simp
    have rm6 := ((rm3.grow g4).grow g5).grow g6
    refine got_call (bytesKept_spec rm6 (((o3.reads.grow g4).grow g5).grow g6) (by omega)) ?_
    rintro _ _ ⟨rfl, rfl⟩
    rename_i h6
    have hq5' : q < q5 := by have := rm3.lt; have := g4.len; omega
    have hql : q < h6.dyn.length := rm6.lt
    have gg6 := (((gg.trans g3).trans g4).trans g5).trans g6
    have O5 := o5.grow g6
    have RD4 := rd4.grow g6
    simp
    refine go_loopK (fun kk ks h7 => ∃ (j : Nat) (bs : List (BitVec 8)), kk = N - j ∧ j ≤ N ∧ ks = [(1, .int .i64 w), (2, .int .i64 n), (3, .int .i64 16), (9, .slice (some ⟨q, 0, some uu⟩) N gcap), (10, .int .i64 k), (12, u4), (14, u5), (16, .int .i64 j)] ∧ bs.length = N ∧ Room h7 (.slice (some ⟨q, 0, some uu⟩) N gcap) q (bs.map bv) ((marksL 66).map bv) ∧ Chg (· = q) h6 h7) (n := N)
      ⟨0, bs, rfl, by omega, rfl, hN, rm6, Chg.refl _⟩ (by simp) ?_
    rintro I2 hI2 kk2 ks2 e2 h7 ⟨j, bs, rfl, hj, rfl, hN, rm7, c7⟩
    simp
    refine branch_dec (fun hlt2 => ?_) (fun hge2 => ?_)
    · have hjN : j < N := by omega
      have e5 : IntKind.i64.wrap ((j : Int) + 1) = ((j + 1 : Nat) : Int) := by rw [wrap_i64 (by omega) (by omega)]; omega
      obtain ⟨u2, h8, ev2, es, rm8, c8, n8⟩ := rm7.set (i := j) (by simp; omega) (x := .int .u8 (bi (byteA bs j ^^^ 3#8))) (by simp)
      have hu : uu = u2 := by simp at ev2; exact ev2.1
      subst hu
      have hld : hload h7 ⟨q, j, some uu⟩ = some (.int .u8 (bi (byteA bs j))) := by
        obtain ⟨u3, e3, r3⟩ := rm7
        have : u3 = uu := by simp at e3; exact e3.1.symm
        subst this
        exact r3.get (by rw [List.getElem?_append_left (by simp; omega)]; exact bv_get (by omega))
      simp [hjN, hld, es, e5]
      refine ⟨N - (j + 1), by omega, hI2 _ _ _ _ ⟨j + 1, bs.set j (byteA bs j ^^^ 3#8), rfl, by omega, rfl, by simpa using hN, ?_, c7.trans c8⟩ (by simp)⟩
      rw [List.map_set]; exact rm8
    · have hjN : j = N := by omega
      subst hjN
      have o7 : Own h7 u5 q5 (cs.map (kv .u16)) := O5.chg c7 (by omega)
      have rd7 : Reads h7 u4 (cs.map (kv .u64)) := by
        rcases hu4 with ⟨rfl, rfl⟩ | ⟨q4, o4, hq4⟩
        · exact .inl ⟨rfl, rfl⟩
        · exact ((o4.grow g6).chg c7 (by have := rm3.lt; omega)).reads
      obtain ⟨v8, h8, q8, e8, o8, g8, hq8, _⟩ := clone_app rm7.reads (by omega)
      have rm8 := rm7.grow g8
      simp [e8]
      refine got_call (wider_uint16_spec (o7.grow g8).reads (by omega)) ?_
      rintro u9 h9 ⟨q9, o9, g9, hq9⟩
      simp
      refine got_call (Same_spec o9.reads ((rd7.grow g8).grow g9) (by omega)) ?_
      rintro _ _ ⟨rfl, rfl⟩
      rename_i h9
      have c7l := c7.len
      have c8l := g8.len
      have c9l := g9.len
      have rm9 := rm8.grow g9
      have hl9 := rm9.lt
      have hg6 := gg6.len
      have hg4 := g4.len
      have sp : ∃ q', Own h9 u5 q' (cs.map (kv .u16)) ∧ q' ≠ q ∧ q' ≠ q8 ∧ h.dyn.length ≤ q' := by
        rcases o7.lt with h1 | h1
        · exact ⟨h9.dyn.length + q8 + 1, .inl h1, by omega, by omega, by omega⟩
        · exact ⟨q5, (o7.grow g8).grow g9, by omega, by omega, by have := rm3.lt; omega⟩
      obtain ⟨q', o9', hn1, hn2, hn3⟩ := sp
      simp
      refine got_call (spoil_uint16_spec o9' hof (by omega)) ?_
      rintro _ h10 c10
      have rm10 := rm9.chg c10 (fun e => hn1 e.symm)
      have rd10 := ((o8.grow g9).chg c10 (fun e => hn2 e.symm)).reads
      simp
      refine got_call (bytesKept_spec rm10 rd10 (by omega)) ?_
      rintro _ _ ⟨rfl, rfl⟩
      rename_i h10
      simp [e4]
      exact ⟨2 - (k + 1), by omega, hI _ _ _ _ ⟨k + 1, bs, rfl, by omega, rfl, hN, rm10, (((gg6.after c7 (fun n hn hb => by omega)).trans g8).trans g9).after c10 (fun n hn hb => by omega)⟩ (by simp)⟩
  · have hk2 : k = 2 := by omega
    subst hk2
    simp
    exact hQ _ _ ⟨rfl, gg⟩

theorem both_unpacks_uint32 {h : Heap} {v v' : Value} {bs : List (BitVec 8)} (r : Bytes h v bs) (r' : Reads h v' (bs.map bv)) (hl : bs.length ≤ 140737488351232) (w n : Int) :
    Gives P T (.fn F_colonnaderef02_Unpack) [v', .int .i64 w, .int .i64 n, .int .i64 32] h fun x h2 => Grow h h2 ∧ ∃ u f, x = .tuple #[u, .int .i64 f] ∧
      Gives P T (.fn F_pack_Unpack_uint32) [v, .int .i64 w, .int .i64 n] h2 fun y h3 => Grow h2 h3 ∧ ∃ (u3 : Value) (q3 : Nat) (cs : List (BitVec 64)), y = .tuple #[u3, .int .i64 f] ∧ ofKind 32 cs ∧ cs.length ≤ 16777216 ∧ ((u = .slice none 0 0 ∧ cs = []) ∨ ∃ q, Own h3 u q (cs.map (kv .u64)) ∧ h.dyn.length ≤ q) ∧ Own h3 u3 q3 (cs.map (kv .u32)) ∧ h2.dyn.length ≤ q3 := by
  by_cases hf : faultE bs w n = 0
  · obtain ⟨w, n, rfl, rfl, g⟩ := faultE_fine hf
    refine (refUnpack_spec r' g (kind := 32) (by omega)).mono ?_
    rintro _ h2 ⟨g2, ⟨hnf, rfl⟩ | ⟨u, q, hfit, rfl, o, hq⟩⟩
    · refine ⟨g2, _, _, rfl, ?_⟩
      refine (Unpack_uint32_spec (r.grow g2) g).mono ?_
      rintro _ h3 ⟨g3, ⟨_, rfl⟩ | ⟨_, _, hfit, _⟩⟩
      · exact ⟨g3, _, h2.dyn.length, [], rfl, fun i hi => by simp at hi, by simp, .inl ⟨rfl, rfl⟩, Own.nil _ _, Nat.le_refl _⟩
      · exact absurd hfit hnf
    · refine ⟨g2, _, _, rfl, ?_⟩
      refine (Unpack_uint32_spec (r.grow g2) g).mono ?_
      rintro _ h3 ⟨g3, ⟨hnf, _⟩ | ⟨u3, q3, _, rfl, o3, hq3⟩⟩
      · exact absurd hfit hnf
      · exact ⟨g3, u3, q3, _, rfl, ofKind_lanes hfit, by rw [lanesL_len]; exact g.nle, .inr ⟨q, o.grow g3, hq⟩, o3, hq3⟩
  · refine (refUnpack_bad r' hl (kind := 32) hf).mono ?_
    rintro _ h2 ⟨rfl, rfl⟩
    refine ⟨Chg.refl _, _, _, rfl, ?_⟩
    refine (Unpack_uint32_bad r hl hf).mono ?_
    rintro _ h3 ⟨rfl, rfl⟩
    exact ⟨Chg.refl _, _, h3.dyn.length, [], rfl, fun i hi => by simp at hi, by simp, .inl ⟨rfl, rfl⟩, Own.nil _ _, Nat.le_refl _⟩

theorem unpacks_uint32_spec {h : Heap} {v : Value} {bs : List (BitVec 8)} (r : Reads h v (bs.map bv)) (hl : bs.length ≤ 140737488351232) (w n : Int) :
    Gives P T (.fn F_colonnadelaw02_unpacks_uint32) [v, .int .i64 w, .int .i64 n, .int .i64 32] h fun r h' => r = .bool true ∧ Grow h h' := by
  refine gives_by t_colonnadelaw02_unpacks_uint32 (by simp [c_colonnadelaw02_unpacks_uint32]) fun Q hQ => ?_
  obtain ⟨N, hN⟩ : ∃ N, bs.length = N := ⟨_, rfl⟩
  simp [c_colonnadelaw02_unpacks_uint32]
  refine got_call (bytesLent_spec r hl) ?_
  rintro u h1 ⟨q, rm, g1, hq⟩
  rw [hN] at hl
  obtain ⟨uu, eu, _⟩ := rm
  have eu' := eu
  simp only [List.length_map, hN] at eu
  subst eu
  simp
  refine go_loopK (fun kk ks h2 => ∃ (k : Nat) (bs : List (BitVec 8)), kk = 2 - k ∧ k ≤ 2 ∧ ks = [(1, .int .i64 w), (2, .int .i64 n), (3, .int .i64 32), (9, .slice (some ⟨q, 0, some uu⟩) N gcap), (10, .int .i64 k)] ∧ bs.length = N ∧ Room h2 (.slice (some ⟨q, 0, some uu⟩) N gcap) q (bs.map bv) ((marksL 66).map bv) ∧ Grow h h2) (n := 2)
    ⟨0, bs, rfl, by omega, rfl, hN, ⟨uu, eu', by assumption⟩, g1⟩ (by simp) ?_
  rintro I hI kk ks e h2 ⟨k, bs, rfl, hk, rfl, hN, rm, gg⟩
  simp
  by_cases hlt : k < 2
  · have hlt' : (k : Int) < 2 := by omega
    have e4 : IntKind.i64.wrap ((k : Int) + 1) = ((k + 1 : Nat) : Int) := by rw [wrap_i64 (by omega) (by omega)]; omega
    obtain ⟨v3, h3, q3, e3, o3, g3, hq3, _⟩ := clone_app rm.reads (by omega)
    have rm3 := rm.grow g3
    simp [hlt, hlt', e3]
    refine got_call (both_unpacks_uint32 (room_bytes rm3) o3.reads (by omega) w n) ?_
    rintro _ h4 ⟨g4, u4, f, rfl, hp⟩
    simp
    refine got_call hp ?_
    rintro _ h5 ⟨g5, u5, q5, cs, rfl, hof, hcl, hu4, o5, hq5⟩
    have rd4 : Reads h5 u4 (cs.map (kv .u64)) := by
      rcases hu4 with ⟨rfl, rfl⟩ | ⟨q4, o4, hq4⟩
      · exact .inl ⟨rfl, rfl⟩
      · exact o4.reads
    simp
    refine got_call num_spec ?_
    rintro _ _ ⟨rfl, rfl⟩
    rename_i h5
    simp
    refine got_call (wider_uint32_spec o5.reads (by omega)) ?_
    rintro u6 h6 ⟨q6, o6, g6, hq6⟩
    simp
    refine got_call (Same_spec o6.reads (rd4.grow g6) (by omega)) ?_
    rintro _ _ ⟨rfl, rfl⟩
    rename_i h6
    simp
    have rm6 := ((rm3.grow g4).grow g5).grow g6
    refine got_call (bytesKept_spec rm6 (((o3.reads.grow g4).grow g5).grow g6) (by omega)) ?_
    rintro _ _ ⟨rfl, rfl⟩
    rename_i h6
    have hq5' : q < q5 := by have := rm3.lt; have := g4.len; omega
    have hql : q < h6.dyn.length := rm6.lt
    have gg6 := (((gg.trans g3).trans g4).trans g5).trans g6
    have O5 := o5.grow g6
    have RD4 := rd4.grow g6
    simp
    refine go_loopK (fun kk ks h7 => ∃ (j : Nat) (bs : List (BitVec 8)), kk = N - j ∧ j ≤ N ∧ ks = [(1, .int .i64 w), (2, .int .i64 n), (3, .int .i64 32), (9, .slice (some ⟨q, 0, some uu⟩) N gcap), (10, .int .i64 k), (12, u4), (14, u5), (16, .int .i64 j)] ∧ bs.length = N ∧ Room h7 (.slice (some ⟨q, 0, some uu⟩) N gcap) q (bs.map bv) ((marksL 66).map bv) ∧ Chg (· = q) h6 h7) (n := N)
      ⟨0, bs, rfl, by omega, rfl, hN, rm6, Chg.refl _⟩ (by simp) ?_
    rintro I2 hI2 kk2 ks2 e2 h7 ⟨j, bs, rfl, hj, rfl, hN, rm7, c7⟩
    simp
    refine branch_dec (fun hlt2 => ?_) (fun hge2 => ?_)
    · have hjN : j < N := by omega
      have e5 : IntKind.i64.wrap ((j : Int) + 1) = ((j + 1 : Nat) : Int) := by rw [wrap_i64 (by omega) (by omega)]; omega
      obtain ⟨u2, h8, ev2, es, rm8, c8, n8⟩ := rm7.set (i := j) (by simp; omega) (x := .int .u8 (bi (byteA bs j ^^^ 3#8))) (by simp)
      have hu : uu = u2 := by simp at ev2; exact ev2.1
      subst hu
      have hld : hload h7 ⟨q, j, some uu⟩ = some (.int .u8 (bi (byteA bs j))) := by
        obtain ⟨u3, e3, r3⟩ := rm7
        have : u3 = uu := by simp at e3; exact e3.1.symm
        subst this
        exact r3.get (by rw [List.getElem?_append_left (by simp; omega)]; exact bv_get (by omega))
      simp [hjN, hld, es, e5]
      refine ⟨N - (j + 1), by omega, hI2 _ _ _ _ ⟨j + 1, bs.set j (byteA bs j ^^^ 3#8), rfl, by omega, rfl, by simpa using hN, ?_, c7.trans c8⟩ (by simp)⟩
      rw [List.map_set]; exact rm8
    · have hjN : j = N := by omega
      subst hjN
      have o7 : Own h7 u5 q5 (cs.map (kv .u32)) := O5.chg c7 (by omega)
      have rd7 : Reads h7 u4 (cs.map (kv .u64)) := by
        rcases hu4 with ⟨rfl, rfl⟩ | ⟨q4, o4, hq4⟩
        · exact .inl ⟨rfl, rfl⟩
        · exact ((o4.grow g6).chg c7 (by have := rm3.lt; omega)).reads
      obtain ⟨v8, h8, q8, e8, o8, g8, hq8, _⟩ := clone_app rm7.reads (by omega)
      have rm8 := rm7.grow g8
      simp [e8]
      refine got_call (wider_uint32_spec (o7.grow g8).reads (by omega)) ?_
      rintro u9 h9 ⟨q9, o9, g9, hq9⟩
      simp
      refine got_call (Same_spec o9.reads ((rd7.grow g8).grow g9) (by omega)) ?_
      rintro _ _ ⟨rfl, rfl⟩
      rename_i h9
      have c7l := c7.len
      have c8l := g8.len
      have c9l := g9.len
      have rm9 := rm8.grow g9
      have hl9 := rm9.lt
      have hg6 := gg6.len
      have hg4 := g4.len
      have sp : ∃ q', Own h9 u5 q' (cs.map (kv .u32)) ∧ q' ≠ q ∧ q' ≠ q8 ∧ h.dyn.length ≤ q' := by
        rcases o7.lt with h1 | h1
        · exact ⟨h9.dyn.length + q8 + 1, .inl h1, by omega, by omega, by omega⟩
        · exact ⟨q5, (o7.grow g8).grow g9, by omega, by omega, by have := rm3.lt; omega⟩
      obtain ⟨q', o9', hn1, hn2, hn3⟩ := sp
      simp
      refine got_call (spoil_uint32_spec o9' hof (by omega)) ?_
      rintro _ h10 c10
      have rm10 := rm9.chg c10 (fun e => hn1 e.symm)
      have rd10 := ((o8.grow g9).chg c10 (fun e => hn2 e.symm)).reads
      simp
      refine got_call (bytesKept_spec rm10 rd10 (by omega)) ?_
      rintro _ _ ⟨rfl, rfl⟩
      rename_i h10
      simp [e4]
      exact ⟨2 - (k + 1), by omega, hI _ _ _ _ ⟨k + 1, bs, rfl, by omega, rfl, hN, rm10, (((gg6.after c7 (fun n hn hb => by omega)).trans g8).trans g9).after c10 (fun n hn hb => by omega)⟩ (by simp)⟩
  · have hk2 : k = 2 := by omega
    subst hk2
    simp
    exact hQ _ _ ⟨rfl, gg⟩

theorem both_unpacks_colonnadelaw02_tall {h : Heap} {v v' : Value} {bs : List (BitVec 8)} (r : Bytes h v bs) (r' : Reads h v' (bs.map bv)) (hl : bs.length ≤ 140737488351232) (w n : Int) :
    Gives P T (.fn F_colonnaderef02_Unpack) [v', .int .i64 w, .int .i64 n, .int .i64 16] h fun x h2 => Grow h h2 ∧ ∃ u f, x = .tuple #[u, .int .i64 f] ∧
      Gives P T (.fn F_pack_Unpack_colonnadelaw02_tall) [v, .int .i64 w, .int .i64 n] h2 fun y h3 => Grow h2 h3 ∧ ∃ (u3 : Value) (q3 : Nat) (cs : List (BitVec 64)), y = .tuple #[u3, .int .i64 f] ∧ ofKind 16 cs ∧ cs.length ≤ 16777216 ∧ ((u = .slice none 0 0 ∧ cs = []) ∨ ∃ q, Own h3 u q (cs.map (kv .u64)) ∧ h.dyn.length ≤ q) ∧ Own h3 u3 q3 (cs.map (kv .u16)) ∧ h2.dyn.length ≤ q3 := by
  by_cases hf : faultE bs w n = 0
  · obtain ⟨w, n, rfl, rfl, g⟩ := faultE_fine hf
    refine (refUnpack_spec r' g (kind := 16) (by omega)).mono ?_
    rintro _ h2 ⟨g2, ⟨hnf, rfl⟩ | ⟨u, q, hfit, rfl, o, hq⟩⟩
    · refine ⟨g2, _, _, rfl, ?_⟩
      refine (Unpack_colonnadelaw02_tall_spec (r.grow g2) g).mono ?_
      rintro _ h3 ⟨g3, ⟨_, rfl⟩ | ⟨_, _, hfit, _⟩⟩
      · exact ⟨g3, _, h2.dyn.length, [], rfl, fun i hi => by simp at hi, by simp, .inl ⟨rfl, rfl⟩, Own.nil _ _, Nat.le_refl _⟩
      · exact absurd hfit hnf
    · refine ⟨g2, _, _, rfl, ?_⟩
      refine (Unpack_colonnadelaw02_tall_spec (r.grow g2) g).mono ?_
      rintro _ h3 ⟨g3, ⟨hnf, _⟩ | ⟨u3, q3, _, rfl, o3, hq3⟩⟩
      · exact absurd hfit hnf
      · exact ⟨g3, u3, q3, _, rfl, ofKind_lanes hfit, by rw [lanesL_len]; exact g.nle, .inr ⟨q, o.grow g3, hq⟩, o3, hq3⟩
  · refine (refUnpack_bad r' hl (kind := 16) hf).mono ?_
    rintro _ h2 ⟨rfl, rfl⟩
    refine ⟨Chg.refl _, _, _, rfl, ?_⟩
    refine (Unpack_colonnadelaw02_tall_bad r hl hf).mono ?_
    rintro _ h3 ⟨rfl, rfl⟩
    exact ⟨Chg.refl _, _, h3.dyn.length, [], rfl, fun i hi => by simp at hi, by simp, .inl ⟨rfl, rfl⟩, Own.nil _ _, Nat.le_refl _⟩

theorem unpacks_colonnadelaw02_tall_spec {h : Heap} {v : Value} {bs : List (BitVec 8)} (r : Reads h v (bs.map bv)) (hl : bs.length ≤ 140737488351232) (w n : Int) :
    Gives P T (.fn F_colonnadelaw02_unpacks_colonnadelaw02_tall) [v, .int .i64 w, .int .i64 n, .int .i64 16] h fun r h' => r = .bool true ∧ Grow h h' := by
  refine gives_by t_colonnadelaw02_unpacks_colonnadelaw02_tall (by simp [c_colonnadelaw02_unpacks_colonnadelaw02_tall]) fun Q hQ => ?_
  obtain ⟨N, hN⟩ : ∃ N, bs.length = N := ⟨_, rfl⟩
  simp [c_colonnadelaw02_unpacks_colonnadelaw02_tall]
  refine got_call (bytesLent_spec r hl) ?_
  rintro u h1 ⟨q, rm, g1, hq⟩
  rw [hN] at hl
  obtain ⟨uu, eu, _⟩ := rm
  have eu' := eu
  simp only [List.length_map, hN] at eu
  subst eu
  simp
  refine go_loopK (fun kk ks h2 => ∃ (k : Nat) (bs : List (BitVec 8)), kk = 2 - k ∧ k ≤ 2 ∧ ks = [(1, .int .i64 w), (2, .int .i64 n), (3, .int .i64 16), (9, .slice (some ⟨q, 0, some uu⟩) N gcap), (10, .int .i64 k)] ∧ bs.length = N ∧ Room h2 (.slice (some ⟨q, 0, some uu⟩) N gcap) q (bs.map bv) ((marksL 66).map bv) ∧ Grow h h2) (n := 2)
    ⟨0, bs, rfl, by omega, rfl, hN, ⟨uu, eu', by assumption⟩, g1⟩ (by simp) ?_
  rintro I hI kk ks e h2 ⟨k, bs, rfl, hk, rfl, hN, rm, gg⟩
  simp
  by_cases hlt : k < 2
  · have hlt' : (k : Int) < 2 := by omega
    have e4 : IntKind.i64.wrap ((k : Int) + 1) = ((k + 1 : Nat) : Int) := by rw [wrap_i64 (by omega) (by omega)]; omega
    obtain ⟨v3, h3, q3, e3, o3, g3, hq3, _⟩ := clone_app rm.reads (by omega)
    have rm3 := rm.grow g3
    simp [hlt, hlt', e3]
    refine got_call (both_unpacks_colonnadelaw02_tall (room_bytes rm3) o3.reads (by omega) w n) ?_
    rintro _ h4 ⟨g4, u4, f, rfl, hp⟩
    simp
    refine got_call hp ?_
    rintro _ h5 ⟨g5, u5, q5, cs, rfl, hof, hcl, hu4, o5, hq5⟩
    have rd4 : Reads h5 u4 (cs.map (kv .u64)) := by
      rcases hu4 with ⟨rfl, rfl⟩ | ⟨q4, o4, hq4⟩
      · exact .inl ⟨rfl, rfl⟩
      · exact o4.reads
    simp
    refine got_call num_spec ?_
    rintro _ _ ⟨rfl, rfl⟩
    rename_i h5
    simp
    refine got_call (wider_colonnadelaw02_tall_spec o5.reads (by omega)) ?_
    rintro u6 h6 ⟨q6, o6, g6, hq6⟩
    simp
    refine got_call (Same_spec o6.reads (rd4.grow g6) (by omega)) ?_
    rintro _ _ ⟨rfl, rfl⟩
    rename_i h6
    simp
    have rm6 := ((rm3.grow g4).grow g5).grow g6
    refine got_call (bytesKept_spec rm6 (((o3.reads.grow g4).grow g5).grow g6) (by omega)) ?_
    rintro _ _ ⟨rfl, rfl⟩
    rename_i h6
    have hq5' : q < q5 := by have := rm3.lt; have := g4.len; omega
    have hql : q < h6.dyn.length := rm6.lt
    have gg6 := (((gg.trans g3).trans g4).trans g5).trans g6
    have O5 := o5.grow g6
    have RD4 := rd4.grow g6
    simp
    refine go_loopK (fun kk ks h7 => ∃ (j : Nat) (bs : List (BitVec 8)), kk = N - j ∧ j ≤ N ∧ ks = [(1, .int .i64 w), (2, .int .i64 n), (3, .int .i64 16), (9, .slice (some ⟨q, 0, some uu⟩) N gcap), (10, .int .i64 k), (12, u4), (14, u5), (16, .int .i64 j)] ∧ bs.length = N ∧ Room h7 (.slice (some ⟨q, 0, some uu⟩) N gcap) q (bs.map bv) ((marksL 66).map bv) ∧ Chg (· = q) h6 h7) (n := N)
      ⟨0, bs, rfl, by omega, rfl, hN, rm6, Chg.refl _⟩ (by simp) ?_
    rintro I2 hI2 kk2 ks2 e2 h7 ⟨j, bs, rfl, hj, rfl, hN, rm7, c7⟩
    simp
    refine branch_dec (fun hlt2 => ?_) (fun hge2 => ?_)
    · have hjN : j < N := by omega
      have e5 : IntKind.i64.wrap ((j : Int) + 1) = ((j + 1 : Nat) : Int) := by rw [wrap_i64 (by omega) (by omega)]; omega
      obtain ⟨u2, h8, ev2, es, rm8, c8, n8⟩ := rm7.set (i := j) (by simp; omega) (x := .int .u8 (bi (byteA bs j ^^^ 3#8))) (by simp)
      have hu : uu = u2 := by simp at ev2; exact ev2.1
      subst hu
      have hld : hload h7 ⟨q, j, some uu⟩ = some (.int .u8 (bi (byteA bs j))) := by
        obtain ⟨u3, e3, r3⟩ := rm7
        have : u3 = uu := by simp at e3; exact e3.1.symm
        subst this
        exact r3.get (by rw [List.getElem?_append_left (by simp; omega)]; exact bv_get (by omega))
      simp [hjN, hld, es, e5]
      refine ⟨N - (j + 1), by omega, hI2 _ _ _ _ ⟨j + 1, bs.set j (byteA bs j ^^^ 3#8), rfl, by omega, rfl, by simpa using hN, ?_, c7.trans c8⟩ (by simp)⟩
      rw [List.map_set]; exact rm8
    · have hjN : j = N := by omega
      subst hjN
      have o7 : Own h7 u5 q5 (cs.map (kv .u16)) := O5.chg c7 (by omega)
      have rd7 : Reads h7 u4 (cs.map (kv .u64)) := by
        rcases hu4 with ⟨rfl, rfl⟩ | ⟨q4, o4, hq4⟩
        · exact .inl ⟨rfl, rfl⟩
        · exact ((o4.grow g6).chg c7 (by have := rm3.lt; omega)).reads
      obtain ⟨v8, h8, q8, e8, o8, g8, hq8, _⟩ := clone_app rm7.reads (by omega)
      have rm8 := rm7.grow g8
      simp [e8]
      refine got_call (wider_colonnadelaw02_tall_spec (o7.grow g8).reads (by omega)) ?_
      rintro u9 h9 ⟨q9, o9, g9, hq9⟩
      simp
      refine got_call (Same_spec o9.reads ((rd7.grow g8).grow g9) (by omega)) ?_
      rintro _ _ ⟨rfl, rfl⟩
      rename_i h9
      have c7l := c7.len
      have c8l := g8.len
      have c9l := g9.len
      have rm9 := rm8.grow g9
      have hl9 := rm9.lt
      have hg6 := gg6.len
      have hg4 := g4.len
      have sp : ∃ q', Own h9 u5 q' (cs.map (kv .u16)) ∧ q' ≠ q ∧ q' ≠ q8 ∧ h.dyn.length ≤ q' := by
        rcases o7.lt with h1 | h1
        · exact ⟨h9.dyn.length + q8 + 1, .inl h1, by omega, by omega, by omega⟩
        · exact ⟨q5, (o7.grow g8).grow g9, by omega, by omega, by have := rm3.lt; omega⟩
      obtain ⟨q', o9', hn1, hn2, hn3⟩ := sp
      simp
      refine got_call (spoil_colonnadelaw02_tall_spec o9' hof (by omega)) ?_
      rintro _ h10 c10
      have rm10 := rm9.chg c10 (fun e => hn1 e.symm)
      have rd10 := ((o8.grow g9).chg c10 (fun e => hn2 e.symm)).reads
      simp
      refine got_call (bytesKept_spec rm10 rd10 (by omega)) ?_
      rintro _ _ ⟨rfl, rfl⟩
      rename_i h10
      simp [e4]
      exact ⟨2 - (k + 1), by omega, hI _ _ _ _ ⟨k + 1, bs, rfl, by omega, rfl, hN, rm10, (((gg6.after c7 (fun n hn hb => by omega)).trans g8).trans g9).after c10 (fun n hn hb => by omega)⟩ (by simp)⟩
  · have hk2 : k = 2 := by omega
    subst hk2
    simp
    exact hQ _ _ ⟨rfl, gg⟩

theorem packs_law {h : Heap} {v : Value} {cs : List (BitVec 64)} (r : ArgS h v (cs.map (kv .u64))) (hl : cs.length * 8 ≤ 140737488351232) (w : Int) :
    Gives P T (.fn F_colonnadelaw02_PackPacks) [v, .int .i64 w] h fun r _ => r = .bool true := by
  refine gives_by t_colonnadelaw02_PackPacks (by simp [c_colonnadelaw02_PackPacks]) fun Q hQ => ?_
  simp [c_colonnadelaw02_PackPacks]
  refine got_call (packs_uint64_spec r.reads hl w) ?_
  rintro _ h_uint64 ⟨rfl, g_uint64⟩
  simp
  refine got_call (packs_uint8_spec (r.reads.grow g_uint64) hl w) ?_
  rintro _ h_uint8 ⟨rfl, g_uint8⟩
  simp
  refine got_call (packs_uint16_spec ((r.reads.grow g_uint64).grow g_uint8) hl w) ?_
  rintro _ h_uint16 ⟨rfl, g_uint16⟩
  simp
  refine got_call (packs_uint32_spec (((r.reads.grow g_uint64).grow g_uint8).grow g_uint16) hl w) ?_
  rintro _ h_uint32 ⟨rfl, g_uint32⟩
  simp
  refine got_call (packs_colonnadelaw02_tall_spec ((((r.reads.grow g_uint64).grow g_uint8).grow g_uint16).grow g_uint32) hl w) ?_
  rintro _ h_colonnadelaw02_tall ⟨rfl, g_colonnadelaw02_tall⟩
  simp
  exact hQ _ _ rfl

theorem unpacks_law {h : Heap} {v : Value} {bs : List (BitVec 8)} (r : ArgS h v (bs.map bv)) (hl : bs.length ≤ 140737488351232) (w n : Int) :
    Gives P T (.fn F_colonnadelaw02_PackUnpacks) [v, .int .i64 w, .int .i64 n] h fun r _ => r = .bool true := by
  refine gives_by t_colonnadelaw02_PackUnpacks (by simp [c_colonnadelaw02_PackUnpacks]) fun Q hQ => ?_
  simp [c_colonnadelaw02_PackUnpacks]
  refine got_call (unpacks_uint64_spec r.reads hl w n) ?_
  rintro _ h_uint64 ⟨rfl, g_uint64⟩
  simp
  refine got_call (unpacks_uint8_spec (r.reads.grow g_uint64) hl w n) ?_
  rintro _ h_uint8 ⟨rfl, g_uint8⟩
  simp
  refine got_call (unpacks_uint16_spec ((r.reads.grow g_uint64).grow g_uint8) hl w n) ?_
  rintro _ h_uint16 ⟨rfl, g_uint16⟩
  simp
  refine got_call (unpacks_uint32_spec (((r.reads.grow g_uint64).grow g_uint8).grow g_uint16) hl w n) ?_
  rintro _ h_uint32 ⟨rfl, g_uint32⟩
  simp
  refine got_call (unpacks_colonnadelaw02_tall_spec ((((r.reads.grow g_uint64).grow g_uint8).grow g_uint16).grow g_uint32) hl w n) ?_
  rintro _ h_colonnadelaw02_tall ⟨rfl, g_colonnadelaw02_tall⟩
  simp
  exact hQ _ _ rfl

end Go.Ax
