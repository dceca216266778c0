/- Seat bits: the law BitsCounts, over the abstract machine. -/
import Derived.Test.YtpemffaclmpnnaaDoorYJ
import Derived.Test.YtpemffaclmpnnaaDoorYG
namespace Go.Ax
set_option linter.unusedVariables false
set_option linter.unusedSimpArgs false

def keptB : List Nat := [38, 39, 40, 41, 42, 58, 59, 81, 82, 83, 84, 85, 86, 89, 90, 93, 96, 97, 98, 99, 102, 103, 104, 105, 106, 107, 108, 113, 114, 115, 116, 117, 118, 119, 120, 121, 124, 125, 126, 127, 128, 129, 130, 131, 132, 133, 134, 135, 136, 137, 138, 139]

/-- What holds at the head of the law's loop. -/
def CInv (v0 : Value) (i : Int) (p n : Nat) (ws : List (BitVec 64)) (h1 : Heap) (m : Nat) (t : List Value) (h2 : Heap) : Prop :=
  ∃ (j c : Nat) (e : List (Nat × Value)), m = n - j ∧ j ≤ n ∧ t = envT 141 ((0, v0) :: (1, .int .i64 i) :: (5, ptr p) :: (6, .int .i64 c) :: (7, .int .i64 j) :: e) ∧ c = cnt (bit ws) j ∧ h2 = h1

theorem CInv.mk' {v0 : Value} {i : Int} {p n : Nat} {ws : List (BitVec 64)} {h1 : Heap} {j c : Nat} {l : List (Nat × Value)} (hj : j ≤ n) (hc : c = cnt (bit ws) j) (q0 : slot l 0 = v0) (q1 : slot l 1 = .int .i64 i) (q5 : slot l 5 = ptr p) (q6 : slot l 6 = .int .i64 c) (q7 : slot l 7 = .int .i64 j) :
    CInv v0 i p n ws h1 (n - j) (forget 1393780614432787650394534137574572184043747 (envT 141 l)) h1 := by
  obtain ⟨e, he⟩ := forget_some [0, 1, 5, 6, 7] keptB (keep := 1393780614432787650394534137574572184043747) (N := 141) (by decide) l
  refine ⟨j, c, e, rfl, hj, he.trans ?_, hc, rfl⟩
  simp [q0, q1, q5, q6, q7]

theorem counts_spec (L : Nat → Nat → Option Value) {v0 : Value} {bs : List Bool} (r0 : ArgS (heap0 (roBlk tabG L)) v0 (bs.map .bool)) (i : Int) :
    Gives P T (.fn F_colonnadelaw01_BitsCounts) [v0, .int .i64 i] (heap0 (roBlk tabG L)) fun v _ => v = .bool true := by
  refine gives_by t_colonnadelaw01_BitsCounts (by simp [c_colonnadelaw01_BitsCounts]) fun Q hQ => ?_
  obtain ⟨n, hn⟩ : ∃ n, bs.length = n := ⟨_, rfl⟩
  obtain ⟨b0, c0, e0, hr0⟩ := r0.reads.shape
  simp only [List.length_map, hn] at e0 hr0
  simp [c_colonnadelaw01_BitsCounts]
  refine got_call (awake_spec L) ?_
  rintro _ h ⟨rfl, hro⟩
  simp
  by_cases hb : n ≤ 16777216
  case neg =>
    refine got_call (Of_big (r0.ro hro).reads (by omega)) ?_
    rintro _ _ ⟨rfl, rfl⟩
    have hx : (16777216 : Int) < n := by omega
    simp [e0, hx]
    exact hQ _ _ rfl
  refine got_call (Of_spec (r0.ro hro).reads (by omega)) ?_
  rintro _ h1 ⟨p, q, ws, rfl, s, cn, hbit, g, _, _⟩
  rw [hn] at s cn
  have hro1 : h1.ro = roBlk tabG L := g.ro.trans hro
  have r1 := (r0.ro hro1).reads.shape
  simp only [List.length_map, hn] at r1
  obtain ⟨b1, c1, e1, hr1⟩ := r1
  subst e1
  simp [ptr]
  refine go_loop (CInv (.slice b1 n c1) i p n ws h1) (n := n) ?_ ?_
  · exact CInv.mk' (j := 0) (c := 0) (by omega) rfl rfl rfl rfl rfl rfl
  · rintro m t h2 ⟨j, c, e, rfl, hj, rfl, hc, rfl⟩
    simp
    refine branch_dec (fun hlt => ?_) (fun hge => ?_)
    · have hjn : j < n := by omega
      have hw1 : IntKind.i64.wrap ((j : Int) + 1) = ((j + 1 : Nat) : Int) := by rw [wrap_i64 (by omega) (by omega)]; omega
      have hcle := cnt_le (bit ws) j
      have hw2 : IntKind.i64.wrap ((c : Int) + 1) = ((c + 1 : Nat) : Int) := by rw [wrap_i64 (by omega) (by omega)]; omega
      obtain ⟨a, rfl, hla⟩ := hr1 j hjn
      have hld := hla j _ (hold_get (by omega))
      simp [hjn]
      refine got_call (get_spec s cn j) ?_
      rintro _ _ ⟨rfl, rfl⟩
      have hm : min (max (j : Int) 0) n = j := by omega
      rw [hbit]
      obtain ⟨bv, hbv⟩ : ∃ bv, hold bs j = bv := ⟨_, rfl⟩
      have hbw : bit ws j = bv := by rw [hbit]; exact hbv
      rw [hbv] at hld
      rename_i hh
      simp [hld, hjn, hbv]
      refine got_call (rank_spec s cn j) ?_
      rintro _ _ ⟨rfl, rfl⟩
      rw [hm]
      cases bv with
      | false =>
        simp [← hc, hw1, hjn, hld]
        exact ⟨n - (j + 1), by omega, CInv.mk' (j := j + 1) (c := c) (by omega) (by rw [cnt_step, hbw, hc]; rfl) rfl rfl rfl rfl rfl⟩
      | true =>
        simp [← hc, hw1, hjn, hld]
        refine got_call (select_spec hro1 s cn c (by omega)) ?_
        rintro v _ ⟨hsel, rfl⟩
        obtain rfl := hsel.found j hbw (by rw [hc])
        simp [hw1, hw2]
        exact ⟨n - (j + 1), by omega, CInv.mk' (j := j + 1) (c := c + 1) (by omega) (by rw [cnt_step, hbw, hc]; rfl) rfl rfl rfl rfl rfl⟩
    · have hjn : j = n := by omega
      subst hjn
      simp
      refine got_call (select_spec hro1 s cn c (by have := cnt_le (bit ws) j; omega)) ?_
      rintro v _ ⟨hsel, rfl⟩
      obtain rfl := hsel.none (by rw [← hc]; omega)
      have hcle : c ≤ j := by rw [hc]; exact cnt_le _ _
      have hw1 : IntKind.i64.wrap ((c : Int) - 1) = (c : Int) - 1 := wrap_i64 (by omega) (by omega)
      simp [hw1]
      refine got_call (select_spec hro1 s cn ((c : Int) - 1) (by omega)) ?_
      rintro v _ ⟨hsel2, rfl⟩
      rename_i hh
      have hmin : min (max (j : Int) 0) j = j := by omega
      have hi1 : i < 0 → (min (max i 0) (j : Int)).toNat = 0 := by omega
      have hi2 : (j : Int) ≤ i → (min (max i 0) (j : Int)).toNat = j := by omega
      by_cases hc0 : c = 0
      · obtain rfl := hsel2.none (by omega)
        simp
        refine got_call (count_spec s cn) ?_
        rintro _ _ ⟨rfl, rfl⟩
        simp [← hc]
        refine got_call (rank_spec s cn j) ?_
        rintro _ _ ⟨rfl, rfl⟩
        simp [hmin, ← hc, hc0, skipV]
        by_cases hineg : i < 0
        · have hi0 : ¬ 0 ≤ i := by omega
          simp [hineg, skipV]
          refine got_call (rank_spec s cn i) ?_
          rintro _ _ ⟨rfl, rfl⟩
          simp [hi1 hineg, cnt, skipV]
          refine got_call (get_spec s cn i) ?_
          rintro _ _ ⟨rfl, rfl⟩
          have hige : ¬ (j : Int) ≤ i := by omega
          simp [hi0, hige, skipV]
          exact hQ _ _ rfl
        · by_cases hige : (j : Int) ≤ i
          · simp [hineg, hige, skipV]
            refine got_call (rank_spec s cn i) ?_
            rintro _ _ ⟨rfl, rfl⟩
            simp [hi2 hige, ← hc, hc0, skipV]
            refine got_call (get_spec s cn i) ?_
            rintro _ _ ⟨rfl, rfl⟩
            have hout := cn.out i.toNat (by omega)
            simp [hout, skipV]
            exact hQ _ _ rfl
          · simp [hineg, hige, skipV]
            exact hQ _ _ rfl
      · obtain ⟨l, hl1, hl2, hl3⟩ := cnt_find (bit ws) j (c - 1) (by omega)
        obtain rfl := hsel2.found l hl2 (by omega)
        simp
        refine got_call (count_spec s cn) ?_
        rintro _ _ ⟨rfl, rfl⟩
        simp [← hc]
        refine got_call (rank_spec s cn j) ?_
        rintro _ _ ⟨rfl, rfl⟩
        have hcp : 0 < c := by omega
        simp [hmin, ← hc, hcp]
        refine got_call (get_spec s cn l) ?_
        rintro _ _ ⟨rfl, rfl⟩
        simp [hl2, skipV]
        by_cases hineg : i < 0
        · have hi0 : ¬ 0 ≤ i := by omega
          simp [hineg, skipV]
          refine got_call (rank_spec s cn i) ?_
          rintro _ _ ⟨rfl, rfl⟩
          simp [hi1 hineg, cnt, skipV]
          refine got_call (get_spec s cn i) ?_
          rintro _ _ ⟨rfl, rfl⟩
          have hige : ¬ (j : Int) ≤ i := by omega
          simp [hi0, hige, skipV]
          exact hQ _ _ rfl
        · by_cases hige : (j : Int) ≤ i
          · simp [hineg, hige, skipV]
            refine got_call (rank_spec s cn i) ?_
            rintro _ _ ⟨rfl, rfl⟩
            simp [hi2 hige, ← hc, skipV]
            refine got_call (get_spec s cn i) ?_
            rintro _ _ ⟨rfl, rfl⟩
            have hout := cn.out i.toNat (by omega)
            simp [hout, skipV]
            exact hQ _ _ rfl
          · simp [hineg, hige, skipV]
            exact hQ _ _ rfl
end Go.Ax
