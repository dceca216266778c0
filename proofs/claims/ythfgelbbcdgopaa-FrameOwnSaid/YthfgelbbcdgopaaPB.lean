/- Seat pack: Width, Bytes, Pack of each kind of numbers. -/
import Derived.Test.YthfgelbbcdgopaaPA
import Derived.Test.YthfgelbbcdgopaaPW
namespace Go.Ax
set_option linter.unusedVariables false
set_option linter.unusedSimpArgs false

theorem Width_spec {h : Heap} {x : BitVec 64} : Gives P T (.fn F_pack_Width) [.int .u64 (wi x)] h fun r h' => r = .int .i64 (blen x.toNat : Nat) ∧ h' = h := by
  refine gives_by t_pack_Width (by simp [c_pack_Width]) fun Q hQ => ?_
  simp [c_pack_Width]
  refine got_call Len64_spec ?_
  rintro _ _ ⟨rfl, rfl⟩
  simp
  exact hQ _ _ ⟨rfl, rfl⟩

theorem may_spec {h : Heap} (w : Int) : Gives P T (.fn F_pack_may) [.int .i64 w] h fun r h' => r = .bool (decide (0 ≤ w ∧ w ≤ 64)) ∧ h' = h := by
  refine gives_by t_pack_may (by simp [c_pack_may]) fun Q hQ => ?_
  by_cases h1 : 0 ≤ w
  · simp [c_pack_may, h1]
    exact hQ _ _ ⟨by simp [h1], rfl⟩
  · simp [c_pack_may, h1, skipV]
    exact hQ _ _ ⟨by simp [h1], rfl⟩

/-- Why so many lanes are none. -/
def bytesE (n w : Int) : Int := if n < 0 then 2 else if 16777216 < n then 3 else if 0 ≤ w ∧ w ≤ 64 then 0 else 20

theorem bytesE_ok {n w : Int} (h : bytesE n w = 0) : ∃ n' w' : Nat, n = n' ∧ w = w' ∧ n' ≤ 16777216 ∧ w' ≤ 64 := by
  unfold bytesE at h
  split at h; · omega
  split at h; · omega
  split at h
  · exact ⟨n.toNat, w.toNat, by omega, by omega, by omega, by omega⟩
  · omega

theorem ok_bytesE {n w : Nat} (h1 : n ≤ 16777216) (h2 : w ≤ 64) : bytesE n w = 0 := by
  unfold bytesE; rw [if_neg (by omega), if_neg (by omega), if_pos (by omega)]

theorem Bytes_spec {h : Heap} {n w : Nat} (h1 : n ≤ 16777216) (h2 : w ≤ 64) : Gives P T (.fn F_pack_Bytes) [.int .i64 n, .int .i64 w] h fun r h' => r = .tuple #[.int .i64 ((n * w + 7) / 8 : Nat), .int .i64 0] ∧ h' = h := by
  refine gives_by t_pack_Bytes (by simp [c_pack_Bytes]) fun Q hQ => ?_
  have n0 : ¬ (n : Int) < 0 := by omega
  have n1 : ¬ 16777216 < (n : Int) := by omega
  have hw : (w : Int) ≤ 64 := by omega
  have hb : n * w ≤ 16777216 * 64 := Nat.mul_le_mul (by omega) (by omega)
  obtain ⟨a, ha⟩ : ∃ a, n * w = a := ⟨_, rfl⟩
  have f0 : (n : Int) * w = (a : Int) := by rw [← ha, Int.natCast_mul]
  have f1 : IntKind.i64.wrap (a : Int) = a := wrap_i64 (by omega) (by omega)
  have f2 : IntKind.i64.wrap ((a : Int) + 7) = ((a + 7 : Nat) : Int) := by rw [wrap_i64 (by omega) (by omega)]; omega
  have f3 := tdiv_nat (a + 7) 8
  obtain ⟨B, hB⟩ : ∃ B, (a + 7) / 8 = B := ⟨_, rfl⟩
  rw [hB] at f3
  obtain ⟨a7, ha7⟩ : ∃ x, a + 7 = x := ⟨_, rfl⟩
  rw [ha7] at f2 f3
  simp only [Int.cast_ofNat_Int] at f3
  have f4 : IntKind.i64.wrap (B : Int) = B := wrap_i64 (by omega) (by omega)
  simp [c_pack_Bytes, n0, n1]
  refine got_call (may_spec _) ?_
  rintro _ _ ⟨rfl, rfl⟩
  simp [hw, f0, f1, f2, f3, f4]
  exact hQ _ _ ⟨by rw [← hB, ← ha], rfl⟩

theorem Bytes_bad {h : Heap} {n w : Int} (he : ¬ bytesE n w = 0) : Gives P T (.fn F_pack_Bytes) [.int .i64 n, .int .i64 w] h fun r h' => r = .tuple #[.int .i64 0, .int .i64 (bytesE n w)] ∧ h' = h := by
  refine gives_by t_pack_Bytes (by simp [c_pack_Bytes]) fun Q hQ => ?_
  by_cases h1 : n < 0
  · have : bytesE n w = 2 := by unfold bytesE; rw [if_pos h1]
    rw [this] at hQ
    simp [c_pack_Bytes, h1]; exact hQ _ _ ⟨rfl, rfl⟩
  by_cases h2 : 16777216 < n
  · have : bytesE n w = 3 := by unfold bytesE; rw [if_neg h1, if_pos h2]
    rw [this] at hQ
    simp [c_pack_Bytes, h1, h2]; exact hQ _ _ ⟨rfl, rfl⟩
  by_cases h3 : 0 ≤ w ∧ w ≤ 64
  · exact absurd (by unfold bytesE; rw [if_neg h1, if_neg h2, if_pos h3]) he
  · have : bytesE n w = 20 := by unfold bytesE; rw [if_neg h1, if_neg h2, if_neg h3]
    rw [this] at hQ
    simp [c_pack_Bytes, h1, h2]
    refine got_call (may_spec _) ?_
    rintro _ _ ⟨rfl, rfl⟩
    simp [h3]; exact hQ _ _ ⟨rfl, rfl⟩

/-! ### numbers laid behind one another, as bits -/

def numA (cs : List (BitVec 64)) (i : Nat) : BitVec 64 := cs.getD i 0
/-- Bit j of numbers w bits wide. -/
def strm (cs : List (BitVec 64)) (w j : Nat) : Bool := (numA cs (j / w)).getLsbD (j % w)

theorem strm_at {cs : List (BitVec 64)} {w i b : Nat} (hb : b < w) : strm cs w (w * i + b) = (numA cs i).getLsbD b := by
  unfold strm; rw [lane_div hb, lane_mod hb]

/-- A number of a kind. -/
def kv (k : IntKind) (x : BitVec 64) : Value := .int k (wi x)
theorem kv_get {k : IntKind} {cs : List (BitVec 64)} {i : Nat} (hi : i < cs.length) : (cs.map (kv k))[i]? = some (.int k (wi (numA cs i))) := by
  unfold numA
  rw [List.getElem?_map, List.getElem?_eq_getElem hi, List.getD_eq_getElem?_getD, List.getElem?_eq_getElem hi]; rfl

/-- What is written so far: whole bytes, and the bits held back. -/
structure Wr (f : Nat → Bool) (ob : List (BitVec 8)) (held : BitVec 64) (n : Nat) : Prop where
  len : 8 * ob.length ≤ n
  lt : n < 8 * ob.length + 8
  out : ∀ j, j < 8 * ob.length → bbit ob j = f j
  held : ∀ j, held.getLsbD j = (decide (8 * ob.length + j < n) && f (8 * ob.length + j))

theorem bbit_app {ob : List (BitVec 8)} {x : BitVec 8} (j : Nat) : bbit (ob ++ [x]) j = if j < 8 * ob.length then bbit ob j else (decide (j < 8 * ob.length + 8) && x.getLsbD (j - 8 * ob.length)) := by
  unfold bbit byteA
  rw [List.getD_eq_getElem?_getD, List.getD_eq_getElem?_getD]
  by_cases h : j < 8 * ob.length
  · rw [if_pos h, List.getElem?_append_left (by omega)]
  · rw [if_neg h, List.getElem?_append_right (by omega)]
    by_cases h2 : j < 8 * ob.length + 8
    · have e : j / 8 - ob.length = 0 := by omega
      have e2 : j % 8 = j - 8 * ob.length := by omega
      simp [h2, e, e2]
    · have e : ¬ j / 8 - ob.length = 0 := by omega
      rw [List.getElem?_singleton, if_neg e]
      simp [h2]

/-- More bits put in: no whole byte yet. -/
theorem Wr.more {f : Nat → Bool} {ob : List (BitVec 8)} {held x : BitVec 64} {n t : Nat} (W : Wr f ob held n) (hx : ∀ b, b < t → x.getLsbD b = f (n + b)) (ht : n + t ≤ 8 * ob.length + 8) :
    (∀ j, (held ||| (x &&& (1#64 <<< t - 1#64)) <<< (n - 8 * ob.length)).getLsbD j = (decide (8 * ob.length + j < n + t) && f (8 * ob.length + j))) := by
  intro j
  have hl := W.len
  have hlt := W.lt
  rw [BitVec.getLsbD_or, W.held, BitVec.getLsbD_shiftLeft]
  obtain ⟨c, hc⟩ : ∃ c, n - 8 * ob.length = c := ⟨_, rfl⟩
  rw [hc]
  by_cases h1 : j < c
  · have h2 : 8 * ob.length + j < n := by omega
    have h3 : 8 * ob.length + j < n + t := by omega
    simp [h1, h2, h3]
  · have h2 : ¬ 8 * ob.length + j < n := by omega
    by_cases h3 : 8 * ob.length + j < n + t
    · have h4 : j < 64 := by omega
      have h5 : j - c < t := by omega
      rw [BitVec.getLsbD_and, mask_bit t _ (by omega) (by omega), hx _ h5, show n + (j - c) = 8 * ob.length + j by omega]
      simp [h1, h2, h3, h4, h5]
    · have h5 : ¬ j - c < t := by omega
      by_cases h6 : j - c < 64
      · rw [BitVec.getLsbD_and, mask_bit t _ (by omega) h6]
        simp [h2, h3, h5]
      · rw [BitVec.getLsbD_of_ge _ _ (by omega)]
        simp [h2, h3]

theorem Wr.step {f : Nat → Bool} {ob : List (BitVec 8)} {held x : BitVec 64} {n t : Nat} (W : Wr f ob held n) (hx : ∀ b, b < t → x.getLsbD b = f (n + b)) (ht : n + t < 8 * ob.length + 8) :
    Wr f ob (held ||| (x &&& (1#64 <<< t - 1#64)) <<< (n - 8 * ob.length)) (n + t) :=
  ⟨by have := W.len; omega, ht, W.out, W.more hx (by omega)⟩

theorem Wr.full {f : Nat → Bool} {ob : List (BitVec 8)} {held x : BitVec 64} {n t : Nat} (W : Wr f ob held n) (hx : ∀ b, b < t → x.getLsbD b = f (n + b)) (ht : n + t = 8 * ob.length + 8) :
    Wr f (ob ++ [(held ||| (x &&& (1#64 <<< t - 1#64)) <<< (n - 8 * ob.length)).setWidth 8]) 0#64 (n + t) := by
  have hm := W.more hx (by omega)
  refine ⟨by simp; omega, by simp; omega, fun j hj => ?_, fun j => ?_⟩
  · rw [bbit_app]
    simp only [List.length_append, List.length_singleton] at hj
    split
    · exact W.out j (by assumption)
    · rw [BitVec.getLsbD_setWidth, hm]
      have h1 : j - 8 * ob.length < 8 := by omega
      have h2 : 8 * ob.length + (j - 8 * ob.length) < n + t := by omega
      have h3 : j < 8 * ob.length + 8 := by omega
      have h4 : 8 * ob.length + (j - 8 * ob.length) = j := by omega
      simp only [h4] at h2 ⊢
      simp [h1, h2, h3]
  · have : ¬ 8 * (ob ++ [(held ||| (x &&& (1#64 <<< t - 1#64)) <<< (n - 8 * ob.length)).setWidth 8]).length + j < n + t := by simp; omega
    rw [decide_eq_false this]; simp

/-- What is written in the end. -/
structure Packs (cs : List (BitVec 64)) (w : Nat) (bs : List (BitVec 8)) : Prop where
  len : bs.length = (cs.length * w + 7) / 8
  bits : ∀ j, bbit bs j = (decide (j < cs.length * w) && strm cs w j)

theorem Wr.done {cs : List (BitVec 64)} {w : Nat} {ob : List (BitVec 8)} {held : BitVec 64} (W : Wr (strm cs w) ob held (cs.length * w)) (h0 : cs.length * w = 8 * ob.length) : Packs cs w ob := by
  refine ⟨by omega, fun j => ?_⟩
  by_cases h : j < 8 * ob.length
  · rw [W.out j h, h0]; simp [h]
  · rw [bbit_out (by omega), h0]; simp [h]

theorem Wr.last {cs : List (BitVec 64)} {w : Nat} {ob : List (BitVec 8)} {held : BitVec 64} (W : Wr (strm cs w) ob held (cs.length * w)) (h0 : 8 * ob.length < cs.length * w) : Packs cs w (ob ++ [held.setWidth 8]) := by
  have hl := W.lt
  refine ⟨by simp; omega, fun j => ?_⟩
  rw [bbit_app]
  split
  · rename_i h
    have : j < cs.length * w := by omega
    rw [W.out j h]; simp [this]
  · rename_i h
    rw [BitVec.getLsbD_setWidth, W.held]
    by_cases h2 : j < 8 * ob.length + 8
    · have e : 8 * ob.length + (j - 8 * ob.length) = j := by omega
      have e2 : j - 8 * ob.length < 8 := by omega
      simp [h2, e, e2]
    · have : ¬ j < cs.length * w := by omega
      simp [h2, this]

/-- Do all numbers fit? -/
def allFit (cs : List (BitVec 64)) (w : Nat) : Prop := ∀ i, i < cs.length → (numA cs i).toNat < 2 ^ w

theorem Pack_uint64_bad {h : Heap} {v : Value} {cs : List (BitVec 64)} (r : Reads h v (cs.map (kv .u64))) {w : Int} (he : ¬ bytesE cs.length w = 0) :
    Gives P T (.fn F_pack_Pack_uint64) [v, .int .i64 w] h fun r h' => r = .tuple #[.slice none 0 0, .int .i64 (bytesE cs.length w)] ∧ h' = h := by
  obtain ⟨b, c, rfl, hr⟩ := r.shape
  simp only [List.length_map] at hr ⊢
  refine gives_by t_pack_Pack_uint64 (by simp [c_pack_Pack_uint64]) fun Q hQ => ?_
  simp [c_pack_Pack_uint64]
  refine got_call (Bytes_bad he) ?_
  rintro _ _ ⟨rfl, rfl⟩
  simp [he]
  exact hQ _ _ ⟨rfl, rfl⟩

theorem Pack_uint64_spec {h : Heap} {v : Value} {cs : List (BitVec 64)} (r : Reads h v (cs.map (kv .u64))) {w : Nat} (hn : cs.length ≤ 16777216) (hw : w ≤ 64) :
    Gives P T (.fn F_pack_Pack_uint64) [v, .int .i64 w] h fun r h' => Grow h h' ∧ ((¬ allFit cs w ∧ r = .tuple #[.slice none 0 0, .int .i64 21]) ∨ ∃ u q bs, allFit cs w ∧ r = .tuple #[u, .int .i64 0] ∧ Own h' u q (bs.map bv) ∧ h.dyn.length ≤ q ∧ Packs cs w bs ∧ u ≠ .slice none 0 0) := by
  obtain ⟨b, c, rfl, hr⟩ := r.shape
  simp only [List.length_map] at hr ⊢
  obtain ⟨N, hN⟩ : ∃ N, cs.length = N := ⟨_, rfl⟩
  rw [hN] at hr hn ⊢
  refine gives_by t_pack_Pack_uint64 (by simp [c_pack_Pack_uint64]) fun Q hQ => ?_
  have hb : N * w ≤ 16777216 * 64 := Nat.mul_le_mul hn hw
  simp [c_pack_Pack_uint64]
  refine got_call (Bytes_spec hn hw) ?_
  rintro _ _ ⟨rfl, rfl⟩
  rename_i h
  obtain ⟨B, hB⟩ : ∃ B, (N * w + 7) / 8 = B := ⟨_, rfl⟩
  rw [hB]
  have hmk : mkSR h 1 1 [.int .u8 0] (.int .i64 0) (.int .i64 B) = some (.slice (some (hnext h)) 0 B, hnew h (List.replicate B (.int .u8 0)) 1) := by
    unfold mkSR
    simp only
    rw [if_pos ⟨by omega, by omega, by omega, by omega, rfl⟩]
    have : ∀ n, (List.replicate n [Value.int .u8 0]).flatten = List.replicate n (.int .u8 0) := by
      intro n
      induction n with
      | zero => rfl
      | succ n ih => rw [List.replicate_succ, List.flatten_cons, ih]; rfl
    simp [this]
  simp [hmk]
  have own0 : Own (hnew h (List.replicate B (.int .u8 0)) 1) (.slice (some ⟨h.dyn.length, 0, some 0⟩) 0 B) h.dyn.length (([] : List (BitVec 8)).map bv) :=
    .inr (.inr ⟨0, List.replicate B (.int .u8 0), by simp, by simp; unfold gcap; omega, by simpa using RowAt.new h (List.replicate B (.int .u8 0)) 1⟩)
  refine go_loopK (fun k ks h2 => ∃ (i : Nat) (u : Value) (q : Nat) (ob : List (BitVec 8)) (held : BitVec 64) (cnt : Nat), k = N - i ∧ i ≤ N ∧ ks = [(1, .int .i64 w), (8, u), (9, .int .u64 (wi held)), (10, .int .i64 cnt), (28, .slice b N c), (29, .int .i64 N), (30, .int .i64 i)] ∧
    Own h2 u q (ob.map bv) ∧ Grow h h2 ∧ h.dyn.length ≤ q ∧ Wr (strm cs w) ob held (w * i) ∧ cnt = w * i - 8 * ob.length ∧ (∀ j, j < i → (numA cs j).toNat < 2 ^ w) ∧ u ≠ .slice none 0 0) (n := N)
    ⟨0, _, h.dyn.length, [], 0#64, 0, rfl, by omega, rfl, own0, Grow.new _ _ _, Nat.le_refl _, ⟨by simp, by simp, by simp, by simp⟩, by simp, fun j hj => by omega, by simp⟩ (by simp) ?_
  rintro I hI k ks e h3 ⟨i, u, q, ob, held, cnt, rfl, hi, rfl, ow, gg, hq, W, hcnt, hfit, hune⟩
  simp
  refine branch_dec (fun hlt => ?_) (fun hge => ?_)
  · have hil : i < N := by omega
    obtain ⟨a, rfl, hla⟩ := hr i hil
    have hld := hload_grow gg (hla i _ (kv_get (by omega)))
    have e4 : IntKind.i64.wrap ((i : Int) + 1) = ((i + 1 : Nat) : Int) := by rw [wrap_i64 (by omega) (by omega)]; omega
    simp [hil, hld]
    refine got_call Width_spec ?_
    rintro _ _ ⟨rfl, rfl⟩
    rename_i h3
    by_cases hfi : (numA cs i).toNat < 2 ^ w
    case neg =>
      have h5 : (w : Int) < (blen (numA cs i).toNat : Nat) := by
        have : ¬ blen (numA cs i).toNat ≤ w := fun h => hfi (blen_le.1 h)
        omega
      simp [h5]
      exact hQ _ _ ⟨gg, .inl ⟨fun h => hfi (h i (by omega)), rfl⟩⟩
    have h5 : ¬ (w : Int) < (blen (numA cs i).toNat : Nat) := by
      have := blen_le.2 hfi
      omega
    have hwi : w * i ≤ 16777216 * 64 := (Nat.mul_comm w i ▸ Nat.mul_le_mul (by omega : i ≤ 16777216) hw)
    have hwi1 : w * (i + 1) = w * i + w := by rw [Nat.mul_add]; omega
    simp [h5]
    refine go_loopK (fun k ks h4 => ∃ (left : Nat) (u : Value) (q : Nat) (ob : List (BitVec 8)) (held x : BitVec 64) (cnt : Nat), k = left + 1 ∧ left ≤ w ∧ ks = [(1, .int .i64 w), (8, u), (9, .int .u64 (wi held)), (10, .int .i64 cnt), (13, .int .u64 (wi x)), (14, .int .i64 left), (28, .slice (some a) N c), (29, .int .i64 N), (30, .int .i64 i)] ∧
      Own h4 u q (ob.map bv) ∧ Grow h h4 ∧ h.dyn.length ≤ q ∧ Wr (strm cs w) ob held (w * i + (w - left)) ∧ cnt = w * i + (w - left) - 8 * ob.length ∧ (∀ b, x.getLsbD b = (numA cs i).getLsbD (w - left + b)) ∧ u ≠ .slice none 0 0) (n := w + 1)
      ⟨w, u, q, ob, held, numA cs i, cnt, rfl, Nat.le_refl _, rfl, ow, gg, hq, by simpa using W, by simpa using hcnt, fun b => by simp, hune⟩ (by simp) ?_
    rintro I2 hI2 k2 ks2 e2 h4 ⟨left, u, q, ob, held, x, cnt, rfl, hle, rfl, ow, gg, hq, W, hcnt, hx, hune⟩
    simp
    have hWl := W.len
    have hWt := W.lt
    refine branch_dec (fun hlt2 => ?_) (fun hge2 => ?_)
    · have hl0 : 0 < left := by omega
      have c1 : cnt < 8 := by omega
      have f1 : IntKind.i64.wrap (8 - (cnt : Int)) = ((8 - cnt : Nat) : Int) := by rw [wrap_i64 (by omega) (by omega)]; omega
      obtain ⟨c8, hc8⟩ : ∃ x, 8 - cnt = x := ⟨_, rfl⟩
      rw [hc8] at f1
      obtain ⟨tk, htk⟩ : ∃ tk, min left c8 = tk := ⟨_, rfl⟩
      have hmin : min (left : Int) c8 = (tk : Nat) := by omega
      have f2 : IntKind.i64.wrap ((left : Int) - tk) = ((left - tk : Nat) : Int) := by rw [wrap_i64 (by omega) (by omega)]; omega
      have f3 : IntKind.i64.wrap ((cnt : Int) + tk) = ((cnt + tk : Nat) : Int) := by rw [wrap_i64 (by omega) (by omega)]; omega
      obtain ⟨ct, hct⟩ : ∃ x, cnt + tk = x := ⟨_, rfl⟩
      rw [hct] at f3
      have hbits : ∀ b, b < tk → x.getLsbD b = strm cs w (w * i + (w - left) + b) := fun b hb => by
        rw [hx, show w * i + (w - left) + b = w * i + (w - left + b) by omega, strm_at (by omega)]
      have hx' : ∀ b, (x >>> tk).getLsbD b = (numA cs i).getLsbD (w - (left - tk) + b) := fun b => by
        rw [BitVec.getLsbD_ushiftRight, hx]; congr 1; omega
      have hpos : w * i + (w - (left - tk)) = w * i + (w - left) + tk := by omega
      obtain ⟨y, hy⟩ : ∃ y, held ||| (x &&& (1#64 <<< tk - 1#64)) <<< cnt = y := ⟨_, rfl⟩
      simp [f1, hmin, f2, f3, hy]
      by_cases h8 : ct = 8
      · have hfull := W.full hbits (by omega)
        rw [← hpos, ← hcnt, hy] at hfull
        obtain ⟨v', h', q', e8, o', c', l', d'⟩ := ow.push (bytes := 1) (z := .int .u8 0) (x := .int .u8 (bi (y.setWidth 8))) (by simp) (by simp; omega) (by simp; omega)
        simp [h8, e8]
        refine ⟨left - tk + 1, by omega, hI2 _ _ _ _ ⟨left - tk, v', q', _, 0#64, x >>> tk, 0, rfl, by omega, rfl, ?_, gg.after c' fun n hn hb => by have := hb.1; omega, ?_, hfull, ?_, hx', ?_⟩ (by simp)⟩
        · rw [List.map_append]; exact o'
        · have := gg.len
          rcases d' with ⟨h1, _⟩ | h1 <;> omega
        · simp; omega
        · rcases o'.shape with ⟨b', c', rfl, hk⟩
          obtain ⟨_, _, rfl, _⟩ := hk 0 (by simp)
          simp
      · have hstep := W.step hbits (by omega)
        rw [← hpos, ← hcnt, hy] at hstep
        have h8' : ¬ (ct : Int) = 8 := by omega
        simp [h8']
        exact ⟨left - tk + 1, by omega, hI2 _ _ _ _ ⟨left - tk, u, q, ob, _, x >>> tk, ct, rfl, by omega, rfl, ow, gg, hq, hstep, by omega, hx', hune⟩ (by simp)⟩
    · have hl0 : left = 0 := by omega
      subst hl0
      have ew : w * i + (w - 0) = w * (i + 1) := by omega
      rw [ew] at W hcnt
      simp [e4]
      refine ⟨N - (i + 1), by omega, hI _ _ _ _ ⟨i + 1, u, q, ob, held, cnt, rfl, by omega, rfl, ow, gg, hq, W, hcnt, fun j hj => ?_, hune⟩ (by simp)⟩
      by_cases hji : j = i
      · subst hji; exact hfi
      · exact hfit j (by omega)
  · have hil : i = N := by omega
    subst hil
    have hWl := W.len
    have hWt := W.lt
    rw [Nat.mul_comm w i, ← hN] at W
    rw [Nat.mul_comm w i, ← hN] at hcnt hWl hWt
    have hfits : allFit cs w := fun j hj => hfit j (by omega)
    have hBw : i * w = cs.length * w := by rw [hN]
    simp
    by_cases hc0 : cnt = 0
    · subst hc0
      have hd := W.done (by omega)
      simp
      exact hQ _ _ ⟨gg, .inr ⟨u, q, ob, hfits, rfl, ow, hq, hd, hune⟩⟩
    · have hcp : 0 < cnt := by omega
      have hd := W.last (by omega)
      obtain ⟨v', h', q', e8, o', c', l', d'⟩ := ow.push (bytes := 1) (z := .int .u8 0) (x := .int .u8 (bi (held.setWidth 8))) (by simp) (by simp; omega) (by simp; omega)
      simp [hcp, e8]
      refine hQ _ _ ⟨gg.after c' fun n hn hb => by have := hb.1; omega, .inr ⟨v', q', _, hfits, rfl, by rw [List.map_append]; exact o', ?_, hd, ?_⟩⟩
      · have := gg.len
        rcases d' with ⟨h1, _⟩ | h1 <;> omega
      · rcases o'.shape with ⟨b', c', rfl, hk⟩
        obtain ⟨_, _, rfl, _⟩ := hk 0 (by simp)
        simp

end Go.Ax
