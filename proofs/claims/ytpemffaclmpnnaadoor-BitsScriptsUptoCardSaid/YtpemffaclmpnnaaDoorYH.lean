/- Seat bits: the law BitsAlgebra, over the abstract machine (written by genYH.py). -/
import Derived.Test.YtpemffaclmpnnaaDoorYG
namespace Go.Ax
set_option linter.unusedVariables false
set_option linter.unusedSimpArgs false

theorem cnt_and_or (f g u v : Nat → Bool) (hu : ∀ i, u i = (f i && g i)) (hv : ∀ i, v i = (f i || g i)) : ∀ n, cnt u n + cnt v n = cnt f n + cnt g n
  | 0 => rfl
  | n + 1 => by
    have := cnt_and_or f g u v hu hv n
    simp only [cnt, hu, hv]
    cases f n <;> cases g n <;> simp <;> omega

theorem cnt_all {f : Nat → Bool} : ∀ {n : Nat}, (∀ i, i < n → f i = true) → cnt f n = n
  | 0, _ => rfl
  | n + 1, h => by simp only [cnt]; rw [cnt_all fun i hi => h i (by omega), h n (by omega)]; rfl

theorem canon_zero {n : Nat} (hn : n ≤ 16777216) : Canon n (List.replicate ((n + 63) / 64) 0) ∧ ∀ i, bit (List.replicate ((n + 63) / 64) (0 : BitVec 64)) i = false := by
  have key : ∀ i, bit (List.replicate ((n + 63) / 64) (0 : BitVec 64)) i = false := by
    intro i
    have : word (List.replicate ((n + 63) / 64) 0) (i / 64) = 0#64 := by
      unfold word
      rw [List.getD_eq_getElem?_getD, List.getElem?_replicate]
      split <;> rfl
    unfold bit; rw [this]; simp
  exact ⟨⟨by simp, hn, fun i _ => key i⟩, key⟩

theorem algebra_spec (L : Nat → Nat → Option Value) {v0 v1 v2 : Value} {a b c : List Bool} (r0 : ArgS (heap0 (roBlk tabG L)) v0 (a.map .bool)) (r1 : ArgS (heap0 (roBlk tabG L)) v1 (b.map .bool)) (r2 : ArgS (heap0 (roBlk tabG L)) v2 (c.map .bool)) :
    Gives P T (.fn F_colonnadelaw01_BitsAlgebra) [v0, v1, v2] (heap0 (roBlk tabG L)) fun v _ => v = .bool true := by
  refine gives_by t_colonnadelaw01_BitsAlgebra (by simp [c_colonnadelaw01_BitsAlgebra]) fun Q hQ => ?_
  simp [c_colonnadelaw01_BitsAlgebra]
  refine got_call (awake_spec L) ?_
  rintro _ h ⟨rfl, hro⟩
  simp
  obtain ⟨n, hn⟩ : ∃ n, min (min a.length b.length) c.length = n := ⟨_, rfl⟩
  by_cases hb : n ≤ 16777216
  case neg =>
    refine got_call (three_big (r0.ro hro) (r1.ro hro) (r2.ro hro) hn (by omega)) ?_
    rintro _ _ ⟨rfl, rfl⟩
    obtain ⟨b0, c0, e0, _⟩ := r0.reads.shape
    obtain ⟨b1, c1, e1, _⟩ := r1.reads.shape
    obtain ⟨b2, c2, e2, _⟩ := r2.reads.shape
    simp only [List.length_map] at e0 e1 e2
    have l0 : ∀ h, lenR h v0 = some (.int .i64 a.length, h) := fun h => by rw [e0]; rfl
    have l1 : ∀ h, lenR h v1 = some (.int .i64 b.length, h) := fun h => by rw [e1]; rfl
    have l2 : ∀ h, lenR h v2 = some (.int .i64 c.length, h) := fun h => by rw [e2]; rfl
    have hm : min (min (a.length : Int) b.length) c.length = n := by omega
    have hx : (16777216 : Int) < n := by omega
    simp [l0, l1, l2, mm_min3, hm, hx]
    exact hQ _ _ rfl
  refine got_call (three_spec (r0.ro hro) (r1.ro hro) (r2.ro hro) hn hb) ?_
  rintro _ h0 ⟨px, qx, wx, py, qy, wy, pz, qz, wz, rfl, sx, sy, sz, cx, cy, cz, _⟩
  simp [ptr]
  refine got_call (And_spec sx sy cx cy) ?_
  rintro _ h1 ⟨p1, q1, w1, rfl, s1, c1, b1, g, _, _⟩
  replace sx := sx.grow g
  replace sy := sy.grow g
  replace sz := sz.grow g
  clear g
  simp [ptr]
  refine got_call (And_spec sy sx cy cx) ?_
  rintro _ h2 ⟨p2, q2, w2, rfl, s2, c2, b2, g, _, _⟩
  replace sx := sx.grow g
  replace sy := sy.grow g
  replace sz := sz.grow g
  replace s1 := s1.grow g
  clear g
  simp [ptr]
  refine got_call (Or_spec sx sy cx cy) ?_
  rintro _ h3 ⟨p3, q3, w3, rfl, s3, c3, b3, g, _, _⟩
  replace sx := sx.grow g
  replace sy := sy.grow g
  replace sz := sz.grow g
  replace s1 := s1.grow g
  replace s2 := s2.grow g
  clear g
  simp [ptr]
  refine got_call (Or_spec sy sx cy cx) ?_
  rintro _ h4 ⟨p4, q4, w4, rfl, s4, c4, b4, g, _, _⟩
  replace sx := sx.grow g
  replace sy := sy.grow g
  replace sz := sz.grow g
  replace s1 := s1.grow g
  replace s2 := s2.grow g
  replace s3 := s3.grow g
  clear g
  simp [ptr]
  have e12 : w1 = w2 := c1.ext c2 fun i hi => by
    rw [b1, b2, Bool.and_comm]
  refine got_call (alike_spec s1 s2 (by have := c1.len; omega) (by have := c2.len; omega)) ?_
  rintro _ h12 ⟨rfl, g⟩
  replace sx := sx.grow g
  replace sy := sy.grow g
  replace sz := sz.grow g
  replace s1 := s1.grow g
  replace s2 := s2.grow g
  replace s3 := s3.grow g
  replace s4 := s4.grow g
  clear g
  simp [e12, ptr]
  have e34 : w3 = w4 := c3.ext c4 fun i hi => by
    rw [b3, b4, Bool.or_comm]
  refine got_call (alike_spec s3 s4 (by have := c3.len; omega) (by have := c4.len; omega)) ?_
  rintro _ h34 ⟨rfl, g⟩
  replace sx := sx.grow g
  replace sy := sy.grow g
  replace sz := sz.grow g
  replace s1 := s1.grow g
  replace s2 := s2.grow g
  replace s3 := s3.grow g
  replace s4 := s4.grow g
  clear g
  simp [e34, ptr]
  have hcnt := cnt_and_or (bit wx) (bit wy) (bit w1) (bit w3) b1 b3 n
  have k1 := cnt_le (bit w1) n
  have k2 := cnt_le (bit w3) n
  have k3 := cnt_le (bit wx) n
  have k4 := cnt_le (bit wy) n
  refine got_call (count_spec s1 c1) ?_
  rintro _ _ ⟨rfl, rfl⟩
  simp [ptr]
  refine got_call (count_spec s3 c3) ?_
  rintro _ _ ⟨rfl, rfl⟩
  simp [ptr]
  refine got_call (count_spec sx cx) ?_
  rintro _ _ ⟨rfl, rfl⟩
  simp [ptr]
  have hs1 : IntKind.i64.wrap ((cnt (bit w1) n : Int) + cnt (bit w3) n) = ((cnt (bit w1) n + cnt (bit w3) n : Nat) : Int) := by rw [wrap_i64 (by omega) (by omega)]; omega
  have hs2 : IntKind.i64.wrap ((cnt (bit wx) n : Int) + cnt (bit wy) n) = ((cnt (bit w1) n + cnt (bit w3) n : Nat) : Int) := by rw [wrap_i64 (by omega) (by omega)]; omega
  refine got_call (count_spec sy cy) ?_
  rintro _ _ ⟨rfl, rfl⟩
  simp [ptr, hs1, hs2]
  refine got_call (Or_spec s1 sz c1 cz) ?_
  rintro _ h5 ⟨p5, q5, w5, rfl, s5, c5, b5, g, _, _⟩
  replace sx := sx.grow g
  replace sy := sy.grow g
  replace sz := sz.grow g
  replace s1 := s1.grow g
  replace s2 := s2.grow g
  replace s3 := s3.grow g
  replace s4 := s4.grow g
  clear g
  simp [ptr]
  refine got_call (Or_spec sx sz cx cz) ?_
  rintro _ h6 ⟨p6, q6, w6, rfl, s6, c6, b6, g, _, _⟩
  replace sx := sx.grow g
  replace sy := sy.grow g
  replace sz := sz.grow g
  replace s1 := s1.grow g
  replace s2 := s2.grow g
  replace s3 := s3.grow g
  replace s4 := s4.grow g
  replace s5 := s5.grow g
  clear g
  simp [ptr]
  refine got_call (Or_spec sy sz cy cz) ?_
  rintro _ h7 ⟨p7, q7, w7, rfl, s7, c7, b7, g, _, _⟩
  replace sx := sx.grow g
  replace sy := sy.grow g
  replace sz := sz.grow g
  replace s1 := s1.grow g
  replace s2 := s2.grow g
  replace s3 := s3.grow g
  replace s4 := s4.grow g
  replace s5 := s5.grow g
  replace s6 := s6.grow g
  clear g
  simp [ptr]
  refine got_call (And_spec s6 s7 c6 c7) ?_
  rintro _ h8 ⟨p8, q8, w8, rfl, s8, c8, b8, g, _, _⟩
  replace sx := sx.grow g
  replace sy := sy.grow g
  replace sz := sz.grow g
  replace s1 := s1.grow g
  replace s2 := s2.grow g
  replace s3 := s3.grow g
  replace s4 := s4.grow g
  replace s5 := s5.grow g
  replace s6 := s6.grow g
  replace s7 := s7.grow g
  clear g
  simp [ptr]
  refine got_call (Not_spec sx cx) ?_
  rintro _ h9 ⟨p9, q9, w9, rfl, s9, c9, b9, g, _, _⟩
  replace sx := sx.grow g
  replace sy := sy.grow g
  replace sz := sz.grow g
  replace s1 := s1.grow g
  replace s2 := s2.grow g
  replace s3 := s3.grow g
  replace s4 := s4.grow g
  replace s5 := s5.grow g
  replace s6 := s6.grow g
  replace s7 := s7.grow g
  replace s8 := s8.grow g
  clear g
  simp [ptr]
  refine got_call (Not_spec sy cy) ?_
  rintro _ h10 ⟨p10, q10, w10, rfl, s10, c10, b10, g, _, _⟩
  replace sx := sx.grow g
  replace sy := sy.grow g
  replace sz := sz.grow g
  replace s1 := s1.grow g
  replace s2 := s2.grow g
  replace s3 := s3.grow g
  replace s4 := s4.grow g
  replace s5 := s5.grow g
  replace s6 := s6.grow g
  replace s7 := s7.grow g
  replace s8 := s8.grow g
  replace s9 := s9.grow g
  clear g
  simp [ptr]
  refine got_call (Or_spec s9 s10 c9 c10) ?_
  rintro _ h11 ⟨p11, q11, w11, rfl, s11, c11, b11, g, _, _⟩
  replace sx := sx.grow g
  replace sy := sy.grow g
  replace sz := sz.grow g
  replace s1 := s1.grow g
  replace s2 := s2.grow g
  replace s3 := s3.grow g
  replace s4 := s4.grow g
  replace s5 := s5.grow g
  replace s6 := s6.grow g
  replace s7 := s7.grow g
  replace s8 := s8.grow g
  replace s9 := s9.grow g
  replace s10 := s10.grow g
  clear g
  simp [ptr]
  have e58 : w5 = w8 := c5.ext c8 fun i hi => by
    rw [b5, b8, b6, b7, b1]; cases bit wx i <;> cases bit wy i <;> cases bit wz i <;> rfl
  refine got_call (alike_spec s5 s8 (by have := c5.len; omega) (by have := c8.len; omega)) ?_
  rintro _ h58 ⟨rfl, g⟩
  replace sx := sx.grow g
  replace sy := sy.grow g
  replace sz := sz.grow g
  replace s1 := s1.grow g
  replace s2 := s2.grow g
  replace s3 := s3.grow g
  replace s4 := s4.grow g
  replace s5 := s5.grow g
  replace s6 := s6.grow g
  replace s7 := s7.grow g
  replace s8 := s8.grow g
  replace s9 := s9.grow g
  replace s10 := s10.grow g
  replace s11 := s11.grow g
  clear g
  simp [e58, ptr]
  refine got_call (Not_spec s1 c1) ?_
  rintro _ h12 ⟨p12, q12, w12, rfl, s12, c12, b12, g, _, _⟩
  replace sx := sx.grow g
  replace sy := sy.grow g
  replace sz := sz.grow g
  replace s1 := s1.grow g
  replace s2 := s2.grow g
  replace s3 := s3.grow g
  replace s4 := s4.grow g
  replace s5 := s5.grow g
  replace s6 := s6.grow g
  replace s7 := s7.grow g
  replace s8 := s8.grow g
  replace s9 := s9.grow g
  replace s10 := s10.grow g
  replace s11 := s11.grow g
  clear g
  simp [ptr]
  have e1211 : w12 = w11 := c12.ext c11 fun i hi => by
    rw [b12, b11, b9, b10, b1]; simp only [hi]; cases bit wx i <;> cases bit wy i <;> rfl
  refine got_call (alike_spec s12 s11 (by have := c12.len; omega) (by have := c11.len; omega)) ?_
  rintro _ h1211 ⟨rfl, g⟩
  replace sx := sx.grow g
  replace sy := sy.grow g
  replace sz := sz.grow g
  replace s1 := s1.grow g
  replace s2 := s2.grow g
  replace s3 := s3.grow g
  replace s4 := s4.grow g
  replace s5 := s5.grow g
  replace s6 := s6.grow g
  replace s7 := s7.grow g
  replace s8 := s8.grow g
  replace s9 := s9.grow g
  replace s10 := s10.grow g
  replace s11 := s11.grow g
  replace s12 := s12.grow g
  clear g
  simp [e1211, ptr]
  refine got_call (Not_spec sx cx) ?_
  rintro _ h13 ⟨p13, q13, w13, rfl, s13, c13, b13, g, _, _⟩
  replace sx := sx.grow g
  replace sy := sy.grow g
  replace sz := sz.grow g
  replace s1 := s1.grow g
  replace s2 := s2.grow g
  replace s3 := s3.grow g
  replace s4 := s4.grow g
  replace s5 := s5.grow g
  replace s6 := s6.grow g
  replace s7 := s7.grow g
  replace s8 := s8.grow g
  replace s9 := s9.grow g
  replace s10 := s10.grow g
  replace s11 := s11.grow g
  replace s12 := s12.grow g
  clear g
  simp [ptr]
  refine got_call (Not_spec s13 c13) ?_
  rintro _ h14 ⟨p14, q14, w14, rfl, s14, c14, b14, g, _, _⟩
  replace sx := sx.grow g
  replace sy := sy.grow g
  replace sz := sz.grow g
  replace s1 := s1.grow g
  replace s2 := s2.grow g
  replace s3 := s3.grow g
  replace s4 := s4.grow g
  replace s5 := s5.grow g
  replace s6 := s6.grow g
  replace s7 := s7.grow g
  replace s8 := s8.grow g
  replace s9 := s9.grow g
  replace s10 := s10.grow g
  replace s11 := s11.grow g
  replace s12 := s12.grow g
  replace s13 := s13.grow g
  clear g
  simp [ptr]
  have e14x : w14 = wx := c14.ext cx fun i hi => by
    rw [b14, b13]; simp only [hi]; cases bit wx i <;> rfl
  refine got_call (alike_spec s14 sx (by have := c14.len; omega) (by have := cx.len; omega)) ?_
  rintro _ h14x ⟨rfl, g⟩
  replace sx := sx.grow g
  replace sy := sy.grow g
  replace sz := sz.grow g
  replace s1 := s1.grow g
  replace s2 := s2.grow g
  replace s3 := s3.grow g
  replace s4 := s4.grow g
  replace s5 := s5.grow g
  replace s6 := s6.grow g
  replace s7 := s7.grow g
  replace s8 := s8.grow g
  replace s9 := s9.grow g
  replace s10 := s10.grow g
  replace s11 := s11.grow g
  replace s12 := s12.grow g
  replace s13 := s13.grow g
  replace s14 := s14.grow g
  clear g
  simp [e14x, ptr]
  refine got_call (Not_spec sx cx) ?_
  rintro _ h15 ⟨p15, q15, w15, rfl, s15, c15, b15, g, _, _⟩
  replace sx := sx.grow g
  replace sy := sy.grow g
  replace sz := sz.grow g
  replace s1 := s1.grow g
  replace s2 := s2.grow g
  replace s3 := s3.grow g
  replace s4 := s4.grow g
  replace s5 := s5.grow g
  replace s6 := s6.grow g
  replace s7 := s7.grow g
  replace s8 := s8.grow g
  replace s9 := s9.grow g
  replace s10 := s10.grow g
  replace s11 := s11.grow g
  replace s12 := s12.grow g
  replace s13 := s13.grow g
  replace s14 := s14.grow g
  clear g
  simp [ptr]
  refine got_call (And_spec sx s15 cx c15) ?_
  rintro _ h16 ⟨p16, q16, w16, rfl, s16, c16, b16, g, _, _⟩
  replace sx := sx.grow g
  replace sy := sy.grow g
  replace sz := sz.grow g
  replace s1 := s1.grow g
  replace s2 := s2.grow g
  replace s3 := s3.grow g
  replace s4 := s4.grow g
  replace s5 := s5.grow g
  replace s6 := s6.grow g
  replace s7 := s7.grow g
  replace s8 := s8.grow g
  replace s9 := s9.grow g
  replace s10 := s10.grow g
  replace s11 := s11.grow g
  replace s12 := s12.grow g
  replace s13 := s13.grow g
  replace s14 := s14.grow g
  replace s15 := s15.grow g
  clear g
  simp [ptr]
  refine got_call (Not_spec sx cx) ?_
  rintro _ h17 ⟨p17, q17, w17, rfl, s17, c17, b17, g, _, _⟩
  replace sx := sx.grow g
  replace sy := sy.grow g
  replace sz := sz.grow g
  replace s1 := s1.grow g
  replace s2 := s2.grow g
  replace s3 := s3.grow g
  replace s4 := s4.grow g
  replace s5 := s5.grow g
  replace s6 := s6.grow g
  replace s7 := s7.grow g
  replace s8 := s8.grow g
  replace s9 := s9.grow g
  replace s10 := s10.grow g
  replace s11 := s11.grow g
  replace s12 := s12.grow g
  replace s13 := s13.grow g
  replace s14 := s14.grow g
  replace s15 := s15.grow g
  replace s16 := s16.grow g
  clear g
  simp [ptr]
  refine got_call (Or_spec sx s17 cx c17) ?_
  rintro _ h18 ⟨p18, q18, w18, rfl, s18, c18, b18, g, _, _⟩
  replace sx := sx.grow g
  replace sy := sy.grow g
  replace sz := sz.grow g
  replace s1 := s1.grow g
  replace s2 := s2.grow g
  replace s3 := s3.grow g
  replace s4 := s4.grow g
  replace s5 := s5.grow g
  replace s6 := s6.grow g
  replace s7 := s7.grow g
  replace s8 := s8.grow g
  replace s9 := s9.grow g
  replace s10 := s10.grow g
  replace s11 := s11.grow g
  replace s12 := s12.grow g
  replace s13 := s13.grow g
  replace s14 := s14.grow g
  replace s15 := s15.grow g
  replace s16 := s16.grow g
  replace s17 := s17.grow g
  clear g
  simp [ptr]
  refine got_call (Less_spec sx sy cx cy) ?_
  rintro _ h19 ⟨p19, q19, w19, rfl, s19, c19, b19, g, _, _⟩
  replace sx := sx.grow g
  replace sy := sy.grow g
  replace sz := sz.grow g
  replace s1 := s1.grow g
  replace s2 := s2.grow g
  replace s3 := s3.grow g
  replace s4 := s4.grow g
  replace s5 := s5.grow g
  replace s6 := s6.grow g
  replace s7 := s7.grow g
  replace s8 := s8.grow g
  replace s9 := s9.grow g
  replace s10 := s10.grow g
  replace s11 := s11.grow g
  replace s12 := s12.grow g
  replace s13 := s13.grow g
  replace s14 := s14.grow g
  replace s15 := s15.grow g
  replace s16 := s16.grow g
  replace s17 := s17.grow g
  replace s18 := s18.grow g
  clear g
  simp [ptr]
  refine got_call (Not_spec sy cy) ?_
  rintro _ h20 ⟨p20, q20, w20, rfl, s20, c20, b20, g, _, _⟩
  replace sx := sx.grow g
  replace sy := sy.grow g
  replace sz := sz.grow g
  replace s1 := s1.grow g
  replace s2 := s2.grow g
  replace s3 := s3.grow g
  replace s4 := s4.grow g
  replace s5 := s5.grow g
  replace s6 := s6.grow g
  replace s7 := s7.grow g
  replace s8 := s8.grow g
  replace s9 := s9.grow g
  replace s10 := s10.grow g
  replace s11 := s11.grow g
  replace s12 := s12.grow g
  replace s13 := s13.grow g
  replace s14 := s14.grow g
  replace s15 := s15.grow g
  replace s16 := s16.grow g
  replace s17 := s17.grow g
  replace s18 := s18.grow g
  replace s19 := s19.grow g
  clear g
  simp [ptr]
  refine got_call (And_spec sx s20 cx c20) ?_
  rintro _ h21 ⟨p21, q21, w21, rfl, s21, c21, b21, g, _, _⟩
  replace sx := sx.grow g
  replace sy := sy.grow g
  replace sz := sz.grow g
  replace s1 := s1.grow g
  replace s2 := s2.grow g
  replace s3 := s3.grow g
  replace s4 := s4.grow g
  replace s5 := s5.grow g
  replace s6 := s6.grow g
  replace s7 := s7.grow g
  replace s8 := s8.grow g
  replace s9 := s9.grow g
  replace s10 := s10.grow g
  replace s11 := s11.grow g
  replace s12 := s12.grow g
  replace s13 := s13.grow g
  replace s14 := s14.grow g
  replace s15 := s15.grow g
  replace s16 := s16.grow g
  replace s17 := s17.grow g
  replace s18 := s18.grow g
  replace s19 := s19.grow g
  replace s20 := s20.grow g
  clear g
  simp [ptr]
  refine got_call (Xor_spec sx sy cx cy) ?_
  rintro _ h22 ⟨p22, q22, w22, rfl, s22, c22, b22, g, _, _⟩
  replace sx := sx.grow g
  replace sy := sy.grow g
  replace sz := sz.grow g
  replace s1 := s1.grow g
  replace s2 := s2.grow g
  replace s3 := s3.grow g
  replace s4 := s4.grow g
  replace s5 := s5.grow g
  replace s6 := s6.grow g
  replace s7 := s7.grow g
  replace s8 := s8.grow g
  replace s9 := s9.grow g
  replace s10 := s10.grow g
  replace s11 := s11.grow g
  replace s12 := s12.grow g
  replace s13 := s13.grow g
  replace s14 := s14.grow g
  replace s15 := s15.grow g
  replace s16 := s16.grow g
  replace s17 := s17.grow g
  replace s18 := s18.grow g
  replace s19 := s19.grow g
  replace s20 := s20.grow g
  replace s21 := s21.grow g
  clear g
  simp [ptr]
  refine got_call (Less_spec s3 s1 c3 c1) ?_
  rintro _ h23 ⟨p23, q23, w23, rfl, s23, c23, b23, g, _, _⟩
  replace sx := sx.grow g
  replace sy := sy.grow g
  replace sz := sz.grow g
  replace s1 := s1.grow g
  replace s2 := s2.grow g
  replace s3 := s3.grow g
  replace s4 := s4.grow g
  replace s5 := s5.grow g
  replace s6 := s6.grow g
  replace s7 := s7.grow g
  replace s8 := s8.grow g
  replace s9 := s9.grow g
  replace s10 := s10.grow g
  replace s11 := s11.grow g
  replace s12 := s12.grow g
  replace s13 := s13.grow g
  replace s14 := s14.grow g
  replace s15 := s15.grow g
  replace s16 := s16.grow g
  replace s17 := s17.grow g
  replace s18 := s18.grow g
  replace s19 := s19.grow g
  replace s20 := s20.grow g
  replace s21 := s21.grow g
  replace s22 := s22.grow g
  clear g
  simp [ptr]
  refine got_call (len_spec sx) ?_
  rintro _ _ ⟨rfl, rfl⟩
  simp
  refine got_call (new_spec hb) ?_
  rintro _ h24 ⟨p24, q24, rfl, s24, g, _, _⟩
  obtain ⟨c24, b24⟩ := canon_zero hb
  replace sx := sx.grow g
  replace sy := sy.grow g
  replace sz := sz.grow g
  replace s1 := s1.grow g
  replace s2 := s2.grow g
  replace s3 := s3.grow g
  replace s4 := s4.grow g
  replace s5 := s5.grow g
  replace s6 := s6.grow g
  replace s7 := s7.grow g
  replace s8 := s8.grow g
  replace s9 := s9.grow g
  replace s10 := s10.grow g
  replace s11 := s11.grow g
  replace s12 := s12.grow g
  replace s13 := s13.grow g
  replace s14 := s14.grow g
  replace s15 := s15.grow g
  replace s16 := s16.grow g
  replace s17 := s17.grow g
  replace s18 := s18.grow g
  replace s19 := s19.grow g
  replace s20 := s20.grow g
  replace s21 := s21.grow g
  replace s22 := s22.grow g
  replace s23 := s23.grow g
  clear g
  obtain ⟨w24, hw24⟩ : ∃ w, List.replicate ((n + 63) / 64) (0 : BitVec 64) = w := ⟨_, rfl⟩
  rw [hw24] at s24 c24 b24
  simp [ptr]
  have e1624 : w16 = w24 := c16.ext c24 fun i hi => by
    rw [b16, b24, b15]; cases bit wx i <;> simp
  refine got_call (alike_spec s16 s24 (by have := c16.len; omega) (by have := c24.len; omega)) ?_
  rintro _ h1624 ⟨rfl, g⟩
  replace sx := sx.grow g
  replace sy := sy.grow g
  replace sz := sz.grow g
  replace s1 := s1.grow g
  replace s2 := s2.grow g
  replace s3 := s3.grow g
  replace s4 := s4.grow g
  replace s5 := s5.grow g
  replace s6 := s6.grow g
  replace s7 := s7.grow g
  replace s8 := s8.grow g
  replace s9 := s9.grow g
  replace s10 := s10.grow g
  replace s11 := s11.grow g
  replace s12 := s12.grow g
  replace s13 := s13.grow g
  replace s14 := s14.grow g
  replace s15 := s15.grow g
  replace s16 := s16.grow g
  replace s17 := s17.grow g
  replace s18 := s18.grow g
  replace s19 := s19.grow g
  replace s20 := s20.grow g
  replace s21 := s21.grow g
  replace s22 := s22.grow g
  replace s23 := s23.grow g
  replace s24 := s24.grow g
  clear g
  simp [e1624, ptr]
  refine got_call (count_spec s18 c18) ?_
  rintro _ _ ⟨rfl, rfl⟩
  simp
  refine got_call (len_spec sx) ?_
  rintro _ _ ⟨rfl, rfl⟩
  have hall : cnt (bit w18) n = n := cnt_all fun i hi => by rw [b18, b17]; simp only [hi]; cases bit wx i <;> rfl
  simp [hall]
  have e1921 : w19 = w21 := c19.ext c21 fun i hi => by
    rw [b19, b21, b20]; simp only [hi]; cases bit wx i <;> cases bit wy i <;> rfl
  refine got_call (alike_spec s19 s21 (by have := c19.len; omega) (by have := c21.len; omega)) ?_
  rintro _ h1921 ⟨rfl, g⟩
  replace sx := sx.grow g
  replace sy := sy.grow g
  replace sz := sz.grow g
  replace s1 := s1.grow g
  replace s2 := s2.grow g
  replace s3 := s3.grow g
  replace s4 := s4.grow g
  replace s5 := s5.grow g
  replace s6 := s6.grow g
  replace s7 := s7.grow g
  replace s8 := s8.grow g
  replace s9 := s9.grow g
  replace s10 := s10.grow g
  replace s11 := s11.grow g
  replace s12 := s12.grow g
  replace s13 := s13.grow g
  replace s14 := s14.grow g
  replace s15 := s15.grow g
  replace s16 := s16.grow g
  replace s17 := s17.grow g
  replace s18 := s18.grow g
  replace s19 := s19.grow g
  replace s20 := s20.grow g
  replace s21 := s21.grow g
  replace s22 := s22.grow g
  replace s23 := s23.grow g
  replace s24 := s24.grow g
  clear g
  simp [e1921, ptr]
  have e2223 : w22 = w23 := c22.ext c23 fun i hi => by
    rw [b22, b23, b3, b1]; cases bit wx i <;> cases bit wy i <;> rfl
  refine got_call (alike_spec s22 s23 (by have := c22.len; omega) (by have := c23.len; omega)) ?_
  rintro _ h2223 ⟨rfl, g⟩
  replace sx := sx.grow g
  replace sy := sy.grow g
  replace sz := sz.grow g
  replace s1 := s1.grow g
  replace s2 := s2.grow g
  replace s3 := s3.grow g
  replace s4 := s4.grow g
  replace s5 := s5.grow g
  replace s6 := s6.grow g
  replace s7 := s7.grow g
  replace s8 := s8.grow g
  replace s9 := s9.grow g
  replace s10 := s10.grow g
  replace s11 := s11.grow g
  replace s12 := s12.grow g
  replace s13 := s13.grow g
  replace s14 := s14.grow g
  replace s15 := s15.grow g
  replace s16 := s16.grow g
  replace s17 := s17.grow g
  replace s18 := s18.grow g
  replace s19 := s19.grow g
  replace s20 := s20.grow g
  replace s21 := s21.grow g
  replace s22 := s22.grow g
  replace s23 := s23.grow g
  replace s24 := s24.grow g
  clear g
  simp [e2223, ptr]
  exact hQ _ _ rfl

end Go.Ax
