/- Seat frame: the law of Values. -/
import Derived.Test.YthfgelbbcdgopaaFA
namespace Go.Ax
set_option linter.unusedVariables false
set_option linter.unusedSimpArgs false

theorem room_bytes2 {h : Heap} {v : Value} {q : Nat} {bs : List (BitVec 8)} {more : List Value} (rm : Room h v q (bs.map bv) more) : Bytes h v bs := by
  refine ⟨rm.reads, ?_⟩
  obtain ⟨u2, rfl, r2⟩ := rm
  intro a n c e _
  simp only [Value.slice.injEq, Option.some.injEq] at e
  obtain ⟨rfl, rfl, rfl⟩ := e
  exact ⟨r2.esOk _, fun h => absurd h (Nat.lt_irrefl _), Nat.le_refl _⟩

theorem both_values {h : Heap} {v v' : Value} {bs : List (BitVec 8)} (r : Bytes h v bs) (r' : Reads h v' (bs.map bv)) (hl : bs.length ≤ 140737488351232) (base w n : Int) :
    Gives P T (.fn F_colonnaderef11_Values) [.int .i64 base, v', .int .i64 n, .int .i64 w] h fun x h2 => Grow h h2 ∧ ∃ u f, x = .tuple #[u, .int .i64 f] ∧
      Gives P T (.fn F_frame_Values) [.int .i64 base, v, .int .i64 n, .int .i64 w] h2 fun y h3 => Grow h2 h3 ∧ ∃ (u3 : Value) (cs : List Int), y = .tuple #[u3, .int .i64 f] ∧ cs.length ≤ 16777216 ∧ Reads h3 u (cs.map iv) ∧ Reads h3 u3 (cs.map iv) := by
  by_cases hf : faultE bs w n = 0
  · obtain ⟨w, n, rfl, rfl, g⟩ := faultE_fine hf
    refine (refValues_spec r' g).mono ?_
    rintro _ h2 ⟨g2, ⟨hnf, rfl⟩ | ⟨u, q, hfit, rfl, o, hq⟩⟩
    · refine ⟨g2, _, _, rfl, ?_⟩
      refine (Values_spec (r.grow g2) g).mono ?_
      rintro _ h3 ⟨g3, ⟨_, rfl⟩ | ⟨_, _, hfit, _⟩⟩
      · exact ⟨g3, _, [], rfl, by simp, .inl ⟨rfl, rfl⟩, .inl ⟨rfl, rfl⟩⟩
      · exact absurd hfit hnf
    · refine ⟨g2, _, _, rfl, ?_⟩
      refine (Values_spec (r.grow g2) g).mono ?_
      rintro _ h3 ⟨g3, ⟨hnf, _⟩ | ⟨u3, q3, _, rfl, o3, _⟩⟩
      · exact absurd hfit hnf
      · exact ⟨g3, u3, _, rfl, by rw [valsL_len]; exact g.nle, o.reads.grow g3, o3.reads⟩
  · refine (refValues_bad r' hl hf).mono ?_
    rintro _ h2 ⟨rfl, rfl⟩
    refine ⟨Chg.refl _, _, _, rfl, ?_⟩
    refine (Values_bad r hl hf).mono ?_
    rintro _ h3 ⟨rfl, rfl⟩
    exact ⟨Chg.refl _, _, [], rfl, by simp, .inl ⟨rfl, rfl⟩, .inl ⟨rfl, rfl⟩⟩

theorem values_law {h : Heap} {v : Value} {bs : List (BitVec 8)} (r : ArgS h v (bs.map bv)) (hl : bs.length ≤ 140737488351232) (base w n : Int) :
    Gives P T (.fn F_colonnadelaw11_FrameValues) [.int .i64 base, v, .int .i64 n, .int .i64 w] h fun r h' => r = .bool true := by
  refine gives_by t_colonnadelaw11_FrameValues (by simp [c_colonnadelaw11_FrameValues]) fun Q hQ => ?_
  obtain ⟨N, hN⟩ : ∃ N, bs.length = N := ⟨_, rfl⟩
  simp [c_colonnadelaw11_FrameValues]
  refine got_call (bytesLent_spec r.reads hl) ?_
  rintro u h1 ⟨q, rm, g1, hq⟩
  rw [hN] at hl
  obtain ⟨uu, eu, _⟩ := rm
  have eu' := eu
  simp only [List.length_map, hN] at eu
  subst eu
  simp
  refine go_loopK (fun kk ks h2 => ∃ (k : Nat) (bs : List (BitVec 8)), kk = 2 - k ∧ k ≤ 2 ∧ ks = [(0, .int .i64 base), (2, .int .i64 n), (3, .int .i64 w), (9, .slice (some ⟨q, 0, some uu⟩) N gcap), (10, .int .i64 k)] ∧ bs.length = N ∧ Room h2 (.slice (some ⟨q, 0, some uu⟩) N gcap) q (bs.map bv) ((marksL 66).map bv)) (n := 2)
    ⟨0, bs, rfl, by omega, rfl, hN, ⟨uu, eu', by assumption⟩⟩ (by simp) ?_
  rintro I hI kk ks e h2 ⟨k, bs, rfl, hk, rfl, hN, rm⟩
  simp
  by_cases hlt : k < 2
  · have hlt' : (k : Int) < 2 := by omega
    have e4 : IntKind.i64.wrap ((k : Int) + 1) = ((k + 1 : Nat) : Int) := by rw [wrap_i64 (by omega) (by omega)]; omega
    obtain ⟨v3, h3, q3, e3, o3, g3, hq3, _⟩ := clone_app rm.reads (by omega)
    have rm3 := rm.grow g3
    simp [hlt, hlt', e3]
    refine got_call (both_values (room_bytes2 rm3) o3.reads (by omega) base w n) ?_
    rintro _ h4 ⟨g4, u4, f, rfl, hp⟩
    simp
    refine got_call hp ?_
    rintro _ h5 ⟨g5, u5, cs, rfl, hcl, rd4, rd5⟩
    simp
    refine got_call num_spec ?_
    rintro _ _ ⟨rfl, rfl⟩
    rename_i h5
    simp
    refine got_call (SameInts_spec rd5 rd4 (by omega)) ?_
    rintro _ _ ⟨rfl, rfl⟩
    rename_i h5
    simp
    have rm5 := (rm3.grow g4).grow g5
    refine got_call (bytesKept_spec rm5 ((o3.reads.grow g4).grow g5) (by omega)) ?_
    rintro _ _ ⟨rfl, rfl⟩
    rename_i h5
    simp
    refine go_loopK (fun kk ks h7 => ∃ (j : Nat) (bs : List (BitVec 8)), kk = N - j ∧ j ≤ N ∧ ks = [(0, .int .i64 base), (2, .int .i64 n), (3, .int .i64 w), (9, .slice (some ⟨q, 0, some uu⟩) N gcap), (10, .int .i64 k), (16, .int .i64 j)] ∧ bs.length = N ∧ Room h7 (.slice (some ⟨q, 0, some uu⟩) N gcap) q (bs.map bv) ((marksL 66).map bv)) (n := N)
      ⟨0, bs, rfl, by omega, rfl, hN, rm5⟩ (by simp) ?_
    rintro I2 hI2 kk2 ks2 e2 h7 ⟨j, bs, rfl, hj, rfl, hN, rm7⟩
    simp
    refine branch_dec (fun hlt2 => ?_) (fun hge2 => ?_)
    · have hjN : j < N := by omega
      have e5 : IntKind.i64.wrap ((j : Int) + 1) = ((j + 1 : Nat) : Int) := by rw [wrap_i64 (by omega) (by omega)]; omega
      obtain ⟨u2, h8, ev2, es, rm8, c8, n8⟩ := rm7.set (i := j) (by simp; omega) (x := .int .u8 (bi (byteA bs j ^^^ 1#8))) (by simp)
      have hu : uu = u2 := by simp at ev2; exact ev2.1
      subst hu
      have hld : hload h7 ⟨q, j, some uu⟩ = some (.int .u8 (bi (byteA bs j))) := by
        obtain ⟨u3, e3, r3⟩ := rm7
        have : u3 = uu := by simp at e3; exact e3.1.symm
        subst this
        exact r3.get (by rw [List.getElem?_append_left (by simp; omega)]; exact bv_get (by omega))
      simp [hjN, hld, es, e5]
      refine ⟨N - (j + 1), by omega, hI2 _ _ _ _ ⟨j + 1, bs.set j (byteA bs j ^^^ 1#8), rfl, by omega, rfl, by simpa using hN, ?_⟩ (by simp)⟩
      rw [List.map_set]; exact rm8
    · have hjN : j = N := by omega
      subst hjN
      simp [e4]
      exact ⟨2 - (k + 1), by omega, hI _ _ _ _ ⟨k + 1, bs, rfl, by omega, rfl, hN, rm7⟩ (by simp)⟩
  · have hk2 : k = 2 := by omega
    subst hk2
    simp
    exact hQ _ _ rfl

end Go.Ax
