/- Seat valuec: the law ValueOrder, walked. -/
import Derived.Test.YtjfdnmjjmbildaaGreatDoorKO
import Derived.Test.YtjfdnmjjmbildaaGreatDoorKP
import Derived.Test.YtjfdnmjjmbildaaGreatDoorVN
import Derived.Test.YtjfdnmjjmbildaaGreatDoorMX
namespace Go.Ax
open Go.Proofs
set_option linter.unusedVariables false
set_option linter.unusedSimpArgs false
set_option maxRecDepth 100000

theorem cutR_take {h : Heap} {bs : List (BitVec 8)} {k : Nat} (hk : k ≤ bs.length) : cutSR h none (some (.int .i64 k)) (.string (bstr bs)) = some (.string (bstr (bs.take k)), h) := by
  have hs := bstr_size bs
  simp only [cutSR, optBound, asliceBound, hs]
  rw [if_pos (by omega)]
  simp only [Int.toNat_natCast]
  congr 3
  unfold bstr
  apply ByteArray.ext
  rw [ByteArray.data_extract]
  apply Array.ext'
  simp [List.map_take]

theorem lit_lo {a : Int} (h : (Lit.int .i64 a).wf = true) : -9223372036854775808 ≤ a := by
  simp [Lit.wf, IntKind.min, IntKind.max, IntKind.signed, IntKind.bits] at h; omega
theorem lit_hi {a : Int} (h : (Lit.int .i64 a).wf = true) : a < 9223372036854775808 := by
  simp [Lit.wf, IntKind.min, IntKind.max, IntKind.signed, IntKind.bits] at h; omega

/-- A value that may be, of whole numbers and words within their bounds. -/
def Snd (k i : Int) (a : Nat) (bs : List (BitVec 8)) : Prop := mayB k i a bs.length = true ∧ a < 18446744073709551616 ∧ -9223372036854775808 ≤ i ∧ i < 9223372036854775808

theorem made_lt {a : Nat} (ha : a < 18446744073709551616) : made a < 18446744073709551616 := by unfold made; split <;> omega
theorem rg_made (a : Nat) : rg (made a) = rg a := by unfold made; split <;> simp_all [rg]
theorem made_ne {a : Nat} : made a ≠ 9223372036854775808 := by
  unfold made
  split
  · omega
  · rename_i h; intro e; apply h; rw [e]; rfl

theorem realC_snd {a : Nat} (ha : a < 18446744073709551616) : ∃ k i b bs, realC a = vCells k i b bs ∧ Snd k i b bs := by
  unfold realC
  split
  · rename_i h
    refine ⟨_, _, _, _, rfl, ?_, made_lt ha, by omega, by omega⟩
    simp [mayB, rg_made, h, made_ne]
  · exact ⟨_, _, _, _, rfl, rfl, by omega, by omega, by omega⟩

set_option maxHeartbeats 1000000 in
theorem sound_spec {h : Heap} {k i : Int} {a : Nat} {bs : List (BitVec 8)} (ha : a < 18446744073709551616) (h1 : -9223372036854775808 ≤ i) (h2 : i < 9223372036854775808) (hb : bs.length ≤ 140737488355328) :
    Gives P T (.fn F_colonnadelaw05_sound) [.agg (vCells k i a bs).toArray] h fun v h' => (∃ k' i' a' bs', v = .agg (vCells k' i' a' bs').toArray ∧ Snd k' i' a' bs') ∧ Grow h h' := by
  refine gives_by t_colonnadelaw05_sound (by simp [c_colonnadelaw05_sound]) fun Q hQ => ?_
  have r := RowAt.new h (vCells k i a bs) 0
  have g1 := Grow.new h (vCells k i a bs) 0
  obtain ⟨G, hG⟩ : ∃ G, hnew h (vCells k i a bs) 0 = G := ⟨_, rfl⟩
  rw [hG] at r g1
  have hGl : G.dyn.length = h.dyn.length + 1 := by rw [← hG]; simp
  have r' := RowAt.new G (vCells 0 0 0 []) 0
  have g2 := Grow.new G (vCells 0 0 0 []) 0
  obtain ⟨H, hH⟩ : ∃ H, hnew G (vCells 0 0 0 []) 0 = H := ⟨_, rfl⟩
  rw [hH] at r' g2
  have hH' : hnew G [Value.int .i64 0, .int .i64 0, .float .f64 0, .string (bstr [])] 0 = H := hH
  have rr := r.grow g2
  have lH := loadN_row_all rr (n := 4) rfl
  have gg := g1.trans g2
  have st : ∀ (J : Heap) (m : List Value), Grow H J → m.length = 4 → m.all goodC = true → ∃ h2, storeN J ⟨G.dyn.length, 0, some 0⟩ m = some h2 ∧ loadN h2 ⟨G.dyn.length, 0, some 0⟩ 4 = some m ∧ Grow h h2 := fun J m hJ hm hg => by
    obtain ⟨h2, e2, q2, c2, n2⟩ := (r'.grow hJ).storeN m 0 (by rw [hm]; exact Nat.le_refl _) hg
    have e3 : (vCells 0 0 0 []).take 0 ++ m ++ (vCells 0 0 0 []).drop (0 + m.length) = m := by rw [hm, List.take_zero, List.nil_append]; exact List.append_nil _
    rw [e3] at q2
    exact ⟨h2, e2, loadN_row_all q2 hm.symm, (gg.trans hJ).after c2 fun b hb e => by omega⟩
  simp only [vCells] at lH
  simp [c_colonnadelaw05_sound, str_nil, hG, hH', lH]
  refine got_call (refMay_spec (k := k) (i := i) (a := a) (bs := bs) ha) ?_
  rintro _ J ⟨rfl, gJ⟩
  have rJ := rr.grow gJ
  have lJ := loadN_row_all rJ (n := 4) rfl
  have a0 := rJ.get (i := 0) (x := .int .i64 k) rfl
  have a1 := rJ.get (i := 1) (x := .int .i64 i) rfl
  have a2 := rJ.get (i := 2) (x := .float .f64 a) rfl
  have a3 := rJ.get (i := 3) (x := .string (bstr bs)) rfl
  simp only [vCells] at lJ
  cases hm : mayB k i a bs.length with
  | true =>
    obtain ⟨h3, e3, l3, g3⟩ := st J (vCells k i a bs) gJ rfl rfl
    simp only [vCells] at e3 l3
    simp [lJ, e3]
    exact ⟨_, res_cell (by decide) (by simp) l3, hQ _ _ ⟨⟨k, i, a, bs, rfl, hm, ha, h1, h2⟩, g3⟩⟩
  | false =>
    by_cases k1 : k = 1
    · subst k1
      obtain ⟨h3, e3, l3, g3⟩ := st J (vCells 1 i 0 []) gJ rfl rfl
      simp only [vCells] at e3 l3
      simp [a0, a1, str_nil, e3]
      exact ⟨_, res_cell (by decide) (by simp) l3, hQ _ _ ⟨⟨1, i, 0, [], rfl, by simp [mayB], by omega, h1, h2⟩, g3⟩⟩
    by_cases k2 : k = 2
    · subst k2
      have hmin : min (bs.length : Int) 65535 = ((min bs.length 65535 : Nat) : Int) := by omega
      obtain ⟨h3, e3, l3, g3⟩ := st J (vCells 2 0 0 (bs.take (min bs.length 65535))) gJ rfl rfl
      simp only [vCells] at e3 l3
      simp [a0, a3, str_nil]
      rw [hmin]
      refine got_of (cutR_take (Nat.min_le_left _ _)) ?_
      simp [e3]
      refine ⟨_, res_cell (by decide) (by simp) l3, hQ _ _ ⟨⟨2, 0, 0, bs.take (min bs.length 65535), rfl, ?_, by omega, by omega, by omega⟩, g3⟩⟩
      simp [mayB]
      omega
    by_cases k3 : k = 3
    · subst k3
      simp [a0, a2]
      refine got_call (refReal_spec ha) ?_
      rintro _ J2 ⟨rfl, gJ2⟩
      obtain ⟨k', i', b', bs', er, sn⟩ := realC_snd ha
      obtain ⟨h3, e3, l3, g3⟩ := st J2 (vCells k' i' b' bs') (gJ.trans gJ2) rfl rfl
      simp only [vCells] at e3 l3 er
      rw [er]
      simp [e3]
      exact ⟨_, res_cell (by decide) (by simp) l3, hQ _ _ ⟨⟨k', i', b', bs', rfl, sn⟩, g3⟩⟩
    · obtain ⟨h3, e3, l3, g3⟩ := st J (vCells 0 0 0 []) gJ rfl rfl
      simp only [vCells] at e3 l3
      simp [a0, k1, k2, k3, str_nil, e3]
      exact ⟨_, res_cell (by decide) (by simp) l3, hQ _ _ ⟨⟨0, 0, 0, [], rfl, rfl, by omega, by omega, by omega⟩, g3⟩⟩

theorem Snd.key {k i : Int} {a : Nat} {bs : List (BitVec 8)} {k' i' : Int} {a' : Nat} {bs' : List (BitVec 8)} (s : Snd k i a bs) (s' : Snd k' i' a' bs') : cmpB k i a bs k' i' a' bs' = kf (keyV k i a bs) (keyV k' i' a' bs') :=
  cmpB_key s.1 s'.1 s.2.2.1 s.2.2.2 s'.2.2.1 s'.2.2.2

theorem Snd.same {k i : Int} {a : Nat} {bs : List (BitVec 8)} {k' i' : Int} {a' : Nat} {bs' : List (BitVec 8)} (s : Snd k i a bs) (s' : Snd k' i' a' bs') : sameV k i a bs k' i' a' bs' = decide (kf (keyV k i a bs) (keyV k' i' a' bs') = 0) := by
  unfold sameV
  rw [Bool.eq_iff_iff, decide_eq_true_eq, kf_TO.eq]
  simp only [Bool.and_eq_true, decide_eq_true_eq]
  constructor
  · rintro ⟨⟨⟨rfl, rfl⟩, rfl⟩, rfl⟩; rfl
  · intro e
    obtain ⟨rfl, rfl, rfl, rfl⟩ := key_inj s.1 s'.1 s.2.1 s'.2.1 e
    exact ⟨⟨⟨rfl, rfl⟩, rfl⟩, rfl⟩

theorem tcL_range : ∀ x y : List (BitVec 8), tcL x y = -1 ∨ tcL x y = 0 ∨ tcL x y = 1
  | [], [] => by simp [tcL]
  | [], _ :: _ => by simp [tcL]
  | _ :: _, [] => by simp [tcL]
  | a :: x, b :: y => by
    unfold tcL
    split
    · exact tcL_range x y
    · have := cmpI_range (a.toNat : Int) b.toNat
      omega

theorem lexC_range {α β : Type} {f : α → α → Int} {g : β → β → Int} (hf : ∀ x y, f x y = -1 ∨ f x y = 0 ∨ f x y = 1) (hg : ∀ x y, g x y = -1 ∨ g x y = 0 ∨ g x y = 1) (x y : α × β) : lexC f g x y = -1 ∨ lexC f g x y = 0 ∨ lexC f g x y = 1 := by
  unfold lexC
  split
  · exact hg _ _
  · exact hf _ _

theorem cmpI_range3 (x y : Int) : cmpI x y = -1 ∨ cmpI x y = 0 ∨ cmpI x y = 1 := by have := cmpI_range x y; omega

theorem kf_range (x y : Int × Int × Int × List (BitVec 8)) : kf x y = -1 ∨ kf x y = 0 ∨ kf x y = 1 :=
  lexC_range cmpI_range3 (lexC_range cmpI_range3 (lexC_range cmpI_range3 tcL_range)) x y

@[simp] theorem vsame_agg4 {x y : Int} {z : Nat} {s : ByteArray} {a b : IntKind} : vsame (.agg #[.int a x, .int b y, .float .f64 z, .string s]) (some (.agg #[.int a x, .int b y, .float .f64 z, .string s])) = true := by
  simp [vsame, veqN]

set_option maxHeartbeats 4000000 in
theorem order_law {k1 i1 : Int} {a1 : Nat} {b1 : List (BitVec 8)} {k2 i2 : Int} {a2 : Nat} {b2 : List (BitVec 8)} {k3 i3 : Int} {a3 : Nat} {b3 : List (BitVec 8)}
    (ha1 : a1 < 18446744073709551616) (hi1 : -9223372036854775808 ≤ i1) (hj1 : i1 < 9223372036854775808) (hb1 : b1.length ≤ 140737488355328)
    (ha2 : a2 < 18446744073709551616) (hi2 : -9223372036854775808 ≤ i2) (hj2 : i2 < 9223372036854775808) (hb2 : b2.length ≤ 140737488355328)
    (ha3 : a3 < 18446744073709551616) (hi3 : -9223372036854775808 ≤ i3) (hj3 : i3 < 9223372036854775808) (hb3 : b3.length ≤ 140737488355328) :
    Gives P T (.fn F_colonnadelaw05_ValueOrder) [.agg (vCells k1 i1 a1 b1).toArray, .agg (vCells k2 i2 a2 b2).toArray, .agg (vCells k3 i3 a3 b3).toArray] (heap0 roV) fun v _ => v = .bool true := by
  refine gives_by t_colonnadelaw05_ValueOrder (by simp [c_colonnadelaw05_ValueOrder]) fun Q hQ => ?_
  have r1 := RowAt.new (heap0 roV) (vCells k1 i1 a1 b1) 0
  obtain ⟨G1, hG1⟩ : ∃ G, hnew (heap0 roV) (vCells k1 i1 a1 b1) 0 = G := ⟨_, rfl⟩
  have d1 : G1.dyn.length = 1 := by rw [← hG1]; rfl
  have o1 : G1.ro = roV := by rw [← hG1]; rfl
  have p1 : G1.lps = [] := by rw [← hG1]; rfl
  have r2 := RowAt.new G1 (vCells k2 i2 a2 b2) 0
  have g2 := Grow.new G1 (vCells k2 i2 a2 b2) 0
  obtain ⟨G2, hG2⟩ : ∃ G, hnew G1 (vCells k2 i2 a2 b2) 0 = G := ⟨_, rfl⟩
  have d2 : G2.dyn.length = 2 := by rw [← hG2]; simp [d1]
  rw [hG2] at r2 g2
  have r3 := RowAt.new G2 (vCells k3 i3 a3 b3) 0
  have g3 := Grow.new G2 (vCells k3 i3 a3 b3) 0
  obtain ⟨G3, hG3⟩ : ∃ G, hnew G2 (vCells k3 i3 a3 b3) 0 = G := ⟨_, rfl⟩
  have d3 : G3.dyn.length = 3 := by rw [← hG3]; simp [d2]
  rw [hG3] at r3 g3
  rw [d1] at r2
  rw [d2] at r3
  have r1' : RowAt G1 0 0 0 (vCells k1 i1 a1 b1) := by rw [← hG1]; exact r1
  have q1 : RowAt G3 0 0 0 (vCells k1 i1 a1 b1) := (r1'.grow g2).grow g3
  have q2 : RowAt G3 1 0 0 (vCells k2 i2 a2 b2) := r2.grow g3
  have z0 : (heap0 roV).dyn.length = 0 := rfl
  simp [c_colonnadelaw05_ValueOrder, str_nil, hG1, hG2, hG3, d1, d2, d3, z0]
  refine got_call (awake_spec3 (by rw [g3.ro, g2.ro, o1]) (by rw [g3.lps, g2.lps, p1]) d3) ?_
  rintro _ H0 ⟨rfl, gH0⟩
  have l1 := loadN_row_all (q1.grow gH0) (n := 4) rfl
  simp [l1]
  refine got_call (sound_spec ha1 hi1 hj1 hb1) ?_
  rintro _ H1 ⟨⟨K1, I1, A1, B1, rfl, S1⟩, gH1⟩
  obtain ⟨J1, e1, R1, s1⟩ := store_new4 (h := H1) (l := vCells 0 0 0 []) (m := vCells K1 I1 A1 B1) rfl rfl
  have l2 := loadN_row_all (((q2.grow gH0).grow gH1).grow s1) (n := 4) rfl
  simp only [vCells] at e1
  simp [str_nil, e1, vCells, l2]
  refine got_call (sound_spec ha2 hi2 hj2 hb2) ?_
  rintro _ H2 ⟨⟨K2, I2, A2, B2, rfl, S2⟩, gH2⟩
  obtain ⟨J2, e2, R2, s2⟩ := store_new4 (h := H2) (l := vCells 0 0 0 []) (m := vCells K2 I2 A2 B2) rfl rfl
  have l3 := loadN_row_all (((((r3.grow gH0).grow gH1).grow s1).grow gH2).grow s2) (n := 4) rfl
  simp only [vCells] at e2
  simp [str_nil, e2, vCells, l3]
  refine got_call (sound_spec ha3 hi3 hj3 hb3) ?_
  rintro _ H3 ⟨⟨K3, I3, A3, B3, rfl, S3⟩, gH3⟩
  obtain ⟨J3, e3, R3, s3⟩ := store_new4 (h := H3) (l := vCells 0 0 0 []) (m := vCells K3 I3 A3 B3) rfl rfl
  have lx := fun J (g : Grow J3 J) => loadN_row_all ((((R1.grow gH2).grow s2).grow gH3).grow s3 |>.grow g) (n := 4) rfl
  have ly := fun J (g : Grow J3 J) => loadN_row_all ((R2.grow gH3).grow s3 |>.grow g) (n := 4) rfl
  have lz := fun J (g : Grow J3 J) => loadN_row_all (R3.grow g) (n := 4) rfl
  have b0 : Grow J3 J3 := Chg.refl J3
  have x0 := lx J3 b0
  have y0 := ly J3 b0
  have z0 := lz J3 b0
  simp only [vCells] at e3 x0 y0 z0
  simp [str_nil, e3, vCells, x0, y0, z0]
  have ha' := S1.2.1
  have hb' := S2.2.1
  have hc' := S3.2.1
  have E12 := S1.key S2
  have E21 := S2.key S1
  have E11 := S1.key S1
  have E23 := S2.key S3
  have E13 := S1.key S3
  have T12 := S1.same S2
  obtain ⟨X, hX⟩ : ∃ X, keyV K1 I1 A1 B1 = X := ⟨_, rfl⟩
  obtain ⟨Y, hY⟩ : ∃ X, keyV K2 I2 A2 B2 = X := ⟨_, rfl⟩
  obtain ⟨Z, hZ⟩ : ∃ X, keyV K3 I3 A3 B3 = X := ⟨_, rfl⟩
  rw [hX, hY] at E12 E21 T12
  rw [hX] at E11
  rw [hY, hZ] at E23
  rw [hX, hZ] at E13
  have k11 : kf X X = 0 := (kf_TO.eq X X).2 rfl
  have k21 := kf_TO.anti Y X
  have kle := kf_TO.le X Y Z
  have kp := kf_TO.le Y Z X
  have kq := kf_TO.le Z X Y
  have k31 := kf_TO.anti Z X
  have k32 := kf_TO.anti Z Y
  have n12 := kf_range X Y
  have n23 := kf_range Y Z
  have n13 := kf_range X Z
  obtain ⟨p, hp⟩ : ∃ p, kf X Y = p := ⟨_, rfl⟩
  obtain ⟨q, hq⟩ : ∃ p, kf Y Z = p := ⟨_, rfl⟩
  obtain ⟨r, hr⟩ : ∃ p, kf X Z = p := ⟨_, rfl⟩
  rw [hp] at E12 T12 k21 kle kq n12
  rw [k21] at E21 kp
  rw [hq] at E23 k32 kle kp n23
  rw [hr] at E13 k31 kle n13
  rw [k31] at kp kq
  rw [k32] at kq
  rw [k11] at E11
  clear hX hY hZ hp hq hr k21 k31 k32 k11 S1 S2 S3
  refine got_call (Compare_spec ha' hb') ?_
  rintro _ H4 ⟨rfl, g4⟩
  have b4 := b0.trans g4
  have x4 := lx _ b4
  have y4 := ly _ b4
  simp only [vCells] at x4 y4
  rw [E12]
  simp [x4, y4, x0, y0]
  refine got_call (Compare_spec hb' ha') ?_
  rintro _ H5 ⟨rfl, g5⟩
  have b5 := b4.trans g5
  have x5 := lx _ b5
  have y5 := ly _ b5
  simp only [vCells] at x5 y5
  rw [E21]
  have un : aun P .neg (.int .i64 (-p)) = some (.int .i64 p) := by
    show some (Value.int .i64 (IntKind.i64.wrap (0 - -p))) = _
    rw [wrap_i64 (by omega) (by omega)]
    congr 2; omega
  simp [x5, y5, un]
  refine got_call (Compare_spec ha' ha') ?_
  rintro _ H6 ⟨rfl, g6⟩
  have b6 := b5.trans g6
  have x6 := lx _ b6
  have y6 := ly _ b6
  simp only [vCells] at x6 y6
  rw [E11]
  simp [x6, y6]
  refine got_call (Compare_spec ha' hb') ?_
  rintro _ H7 ⟨rfl, g7⟩
  have b7 := b6.trans g7
  have x7 := lx _ b7
  have y7 := ly _ b7
  simp only [vCells] at x7 y7
  rw [E12]
  simp [x6, y6, x7, y7]
  refine got_call Same_spec ?_
  rintro _ H8 ⟨rfl, g8⟩
  have b8 := b7.trans g8
  have x8 := lx _ b8
  have y8 := ly _ b8
  simp only [vCells] at x8 y8
  rw [T12]
  simp [x8, y8]
  refine got_call (Compare_spec ha' hb') ?_
  rintro _ H9 ⟨rfl, g9⟩
  have b9 := b8.trans g9
  have x9 := lx _ b9
  have y9 := ly _ b9
  have z9 := lz _ b9
  simp only [vCells] at x9 y9 z9
  rw [E12]
  by_cases hp : ¬ p ≤ 0
  · simp [hp, skipV]
    exact hQ _ _ rfl
  replace hp : p ≤ 0 := by omega
  simp [hp, y9, z9]
  refine got_call (Compare_spec hb' hc') ?_
  rintro _ H10 ⟨rfl, g10⟩
  have b10 := b9.trans g10
  have x10 := lx _ b10
  have z10 := lz _ b10
  simp only [vCells] at x10 z10
  rw [E23]
  by_cases hq : ¬ q ≤ 0
  · simp [hq, skipV]
    exact hQ _ _ rfl
  replace hq : q ≤ 0 := by omega
  simp [hq, x10, z10]
  refine got_call (Compare_spec ha' hc') ?_
  rintro _ H11 ⟨rfl, g11⟩
  have b11 := b10.trans g11
  have x11 := lx _ b11
  have y11 := ly _ b11
  simp only [vCells] at x11 y11
  rw [E13]
  have hr := kle hp hq
  by_cases hr0 : r = 0
  · subst hr0
    have hp0 : p = 0 := by have := kp hq (by omega); omega
    have hq0 : q = 0 := by have := kq (by omega) hp; omega
    subst hp0 hq0
    simp [x11, y11]
    refine got_call (Compare_spec ha' hb') ?_
    rintro _ H12 ⟨rfl, g12⟩
    have b12 := b11.trans g12
    have y12 := ly _ b12
    have z12 := lz _ b12
    simp only [vCells] at y12 z12
    rw [E12]
    simp [y12, z12]
    refine got_call (Compare_spec hb' hc') ?_
    rintro _ H13 ⟨rfl, g13⟩
    rw [E23]
    simp
    exact hQ _ _ rfl
  · simp [hr, hr0, skipV]
    exact hQ _ _ rfl

end Go.Ax
