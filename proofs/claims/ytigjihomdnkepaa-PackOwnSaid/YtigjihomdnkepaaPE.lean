/- Seat pack: numbers of each kind, lent and kept. -/
import Derived.Test.YtigjihomdnkepaaPD
namespace Go.Ax
set_option linter.unusedVariables false
set_option linter.unusedSimpArgs false

/-- A number brought into a kind of b bits. -/
def cutB (b : Nat) (x : BitVec 64) : BitVec 64 := x &&& maskW b

theorem maskW_nat {w : Nat} (hw : w ≤ 64) : (maskW w).toNat = 2 ^ w - 1 := by
  apply Nat.eq_of_testBit_eq
  intro i
  rw [Nat.testBit_two_pow_sub_one]
  show (maskW w).getLsbD i = _
  rw [maskW, bvOf_bit _ _ _ hw]; simp

theorem cutB_nat {b : Nat} (hb : b ≤ 64) (x : BitVec 64) : (cutB b x).toNat = x.toNat % 2 ^ b := by
  unfold cutB
  rw [BitVec.toNat_and, maskW_nat hb, Nat.and_two_pow_sub_one_eq_mod]
theorem cutB_lt {b : Nat} (hb : b ≤ 64) (x : BitVec 64) : (cutB b x).toNat < 2 ^ b := by rw [cutB_nat hb]; exact Nat.mod_lt _ (Nat.two_pow_pos b)
theorem cutB_eq {b : Nat} (hb : b ≤ 64) {x : BitVec 64} (hx : x.toNat < 2 ^ b) : cutB b x = x := by
  apply BitVec.eq_of_toNat_eq
  rw [cutB_nat hb, Nat.mod_eq_of_lt hx]

/-- A kind's width. -/
def kb : IntKind → Nat | .u8 => 8 | .u16 => 16 | .u32 => 32 | _ => 64

theorem kb_le (k : IntKind) : kb k ≤ 64 := by cases k <;> decide
theorem wrapk_u8 (x : BitVec 64) : IntKind.wrap .u8 (wi x) = wi (cutB 8 x) := by
  unfold wi; rw [cutB_nat (by omega)]; simp [IntKind.wrap, IntKind.bits, IntKind.signed]
theorem wrapk_u16 (x : BitVec 64) : IntKind.wrap .u16 (wi x) = wi (cutB 16 x) := by
  unfold wi; rw [cutB_nat (by omega)]; simp [IntKind.wrap, IntKind.bits, IntKind.signed]
theorem wrapk_u32 (x : BitVec 64) : IntKind.wrap .u32 (wi x) = wi (cutB 32 x) := by
  unfold wi; rw [cutB_nat (by omega)]; simp [IntKind.wrap, IntKind.bits, IntKind.signed]
theorem cutB_64 (x : BitVec 64) : cutB 64 x = x := cutB_eq (by omega) x.isLt
theorem wrapk_u64 (x : BitVec 64) : IntKind.wrap .u64 (wi x) = wi (cutB 64 x) := by
  rw [cutB_64, wrap_u64_wi]

theorem wrapn_u8 {n : Nat} (h : n < 256) : IntKind.wrap .u8 (n : Int) = wi (BitVec.ofNat 64 n) := by
  unfold wi; simp [IntKind.wrap, IntKind.bits, IntKind.signed] <;> omega
theorem wrapn_u16 {n : Nat} (h : n < 256) : IntKind.wrap .u16 (n : Int) = wi (BitVec.ofNat 64 n) := by
  unfold wi; simp [IntKind.wrap, IntKind.bits, IntKind.signed] <;> omega
theorem wrapn_u32 {n : Nat} (h : n < 256) : IntKind.wrap .u32 (n : Int) = wi (BitVec.ofNat 64 n) := by
  unfold wi; simp [IntKind.wrap, IntKind.bits, IntKind.signed] <;> omega
theorem wrapn_u64 {n : Nat} (h : n < 256) : IntKind.wrap .u64 (n : Int) = wi (BitVec.ofNat 64 n) := by
  unfold wi; simp [IntKind.wrap, IntKind.bits, IntKind.signed] <;> omega

theorem xor_nat {b : Nat} {x y : BitVec 64} (hx : x.toNat < 2 ^ b) (hy : y.toNat < 2 ^ b) : (BitVec.ofInt b (wi x) ^^^ BitVec.ofInt b (wi y)).toNat = (x ^^^ y).toNat := by
  rw [BitVec.toNat_xor, BitVec.toNat_xor, BitVec.toNat_ofInt, BitVec.toNat_ofInt]
  unfold wi
  rw [← Int.natCast_emod, Int.toNat_natCast, Nat.mod_eq_of_lt hx, ← Int.natCast_emod, Int.toNat_natCast, Nat.mod_eq_of_lt hy]
theorem xor_lt {b : Nat} {x y : BitVec 64} (hx : x.toNat < 2 ^ b) (hy : y.toNat < 2 ^ b) : (x ^^^ y).toNat < 2 ^ b := by
  rw [BitVec.toNat_xor]; exact Nat.xor_lt_two_pow hx hy

theorem xork_u8 {x y : BitVec 64} (hx : x.toNat < 2 ^ 8) (hy : y.toNat < 2 ^ 8) : abin .xor .u8 (wi x) (wi y) = some (.int .u8 (wi (x ^^^ y))) := by
  show some (Value.int .u8 (IntKind.wrap .u8 ((BitVec.ofInt 8 (wi x) ^^^ BitVec.ofInt 8 (wi y)).toNat : Nat))) = _
  rw [xor_nat hx hy, show (((x ^^^ y).toNat : Nat) : Int) = wi (x ^^^ y) from rfl, wrapk_u8, cutB_eq (by omega) (xor_lt hx hy)]
theorem xork_u16 {x y : BitVec 64} (hx : x.toNat < 2 ^ 16) (hy : y.toNat < 2 ^ 16) : abin .xor .u16 (wi x) (wi y) = some (.int .u16 (wi (x ^^^ y))) := by
  show some (Value.int .u16 (IntKind.wrap .u16 ((BitVec.ofInt 16 (wi x) ^^^ BitVec.ofInt 16 (wi y)).toNat : Nat))) = _
  rw [xor_nat hx hy, show (((x ^^^ y).toNat : Nat) : Int) = wi (x ^^^ y) from rfl, wrapk_u16, cutB_eq (by omega) (xor_lt hx hy)]
theorem xork_u32 {x y : BitVec 64} (hx : x.toNat < 2 ^ 32) (hy : y.toNat < 2 ^ 32) : abin .xor .u32 (wi x) (wi y) = some (.int .u32 (wi (x ^^^ y))) := by
  show some (Value.int .u32 (IntKind.wrap .u32 ((BitVec.ofInt 32 (wi x) ^^^ BitVec.ofInt 32 (wi y)).toNat : Nat))) = _
  rw [xor_nat hx hy, show (((x ^^^ y).toNat : Nat) : Int) = wi (x ^^^ y) from rfl, wrapk_u32, cutB_eq (by omega) (xor_lt hx hy)]
theorem xork_u64 {x y : BitVec 64} (hx : x.toNat < 2 ^ 64) (hy : y.toNat < 2 ^ 64) : abin .xor .u64 (wi x) (wi y) = some (.int .u64 (wi (x ^^^ y))) := by
  rw [ab64_xor]; simp

/-- All numbers of a kind of b bits. -/
def ofKind (b : Nat) (cs : List (BitVec 64)) : Prop := ∀ i, i < cs.length → (numA cs i).toNat < 2 ^ b

theorem ofKind_cut {b : Nat} (hb : b ≤ 64) (cs : List (BitVec 64)) : ofKind b (cs.map (cutB b)) := by
  intro i hi
  unfold numA
  rw [List.getD_eq_getElem?_getD, List.getElem?_map, List.getElem?_eq_getElem (by simpa using hi)]
  exact cutB_lt hb _

theorem numA_set {cs : List (BitVec 64)} {i j : Nat} {x : BitVec 64} : numA (cs.set i x) j = if i = j ∧ j < cs.length then x else numA cs j := by
  unfold numA
  rw [List.getD_eq_getElem?_getD, List.getD_eq_getElem?_getD, List.getElem?_set]
  by_cases h1 : i = j
  · subst h1
    by_cases h2 : i < cs.length
    · simp [h2]
    · simp [h2]
  · simp [h1]

theorem ofKind_set {b : Nat} {cs : List (BitVec 64)} (h : ofKind b cs) {i : Nat} {x : BitVec 64} (hx : x.toNat < 2 ^ b) : ofKind b (cs.set i x) := by
  intro j hj
  rw [numA_set]
  split
  · exact hx
  · exact h j (by simpa using hj)

/-- The marks behind lent numbers (the first k). -/
def marksK (k : Nat) : List (BitVec 64) := (List.range k).map fun i => BitVec.ofNat 64 (100 + i)
theorem marksK_succ (k : Nat) : marksK (k + 1) = marksK k ++ [BitVec.ofNat 64 (100 + k)] := by simp [marksK, List.range_succ]
theorem marksK_len (k : Nat) : (marksK k).length = k := by simp [marksK]

theorem take_map_succ {cs : List (BitVec 64)} {f : BitVec 64 → BitVec 64} {k : IntKind} {i : Nat} (hi : i < cs.length) : ((cs.take (i + 1)).map f).map (kv k) = ((cs.take i).map f).map (kv k) ++ [.int k (wi (f (numA cs i)))] := by
  rw [List.take_add_one, List.getElem?_eq_getElem hi]
  simp only [List.map_append, Option.toList_some, List.map_cons, List.map_nil]
  congr 2
  unfold numA kv
  rw [List.getD_eq_getElem?_getD, List.getElem?_eq_getElem hi]; rfl

theorem u64_get {cs : List (BitVec 64)} {i : Nat} (hi : i < cs.length) : (cs.map (kv .u64))[i]? = some (.int .u64 (wi (numA cs i))) := kv_get hi

theorem own_q {h : Heap} {v : Value} {q q' : Nat} {n : Nat} (hn : n ≤ h.dyn.length) (hq : n ≤ q) (d : q' = q ∧ v ≠ .slice none 0 0 ∨ q' = h.dyn.length + 1) : n ≤ q' := by
  rcases d with ⟨h1, _⟩ | h1 <;> omega

theorem bv_kv (bs : List (BitVec 8)) : bs.map bv = (bs.map fun x => x.setWidth 64).map (kv .u8) := by
  rw [List.map_map]
  apply List.map_congr_left
  intro x _
  simp only [Function.comp, kv, bv]
  congr 1
  first
    | done
    | (unfold wi bi; rw [BitVec.toNat_setWidth]; have := x.isLt; omega)
theorem bv_ofKind (bs : List (BitVec 8)) : ofKind 8 (bs.map fun x => x.setWidth 64) := by
  intro i hi
  unfold numA
  rw [List.getD_eq_getElem?_getD, List.getElem?_map, List.getElem?_eq_getElem (by simpa using hi)]
  simp only [Option.map_some, Option.getD_some, BitVec.toNat_setWidth]
  have := (bs[i]'(by simpa using hi)).isLt
  first | done | omega

theorem wider_uint64_spec {h : Heap} {v : Value} {cs : List (BitVec 64)} (r : Reads h v (cs.map (kv .u64))) (hl : cs.length * 8 ≤ 140737488351232) :
    Gives P T (.fn F_colonnadelaw02_wider_uint64) [v] h fun r h' => ∃ q, Own h' r q (cs.map (kv .u64)) ∧ Grow h h' ∧ h.dyn.length ≤ q := by
  obtain ⟨b, c, rfl, hr⟩ := r.shape
  simp only [List.length_map] at hr ⊢
  obtain ⟨N, hN⟩ : ∃ N, cs.length = N := ⟨_, rfl⟩
  rw [hN] at hr hl ⊢
  refine gives_by t_colonnadelaw02_wider_uint64 (by simp [c_colonnadelaw02_wider_uint64]) fun Q hQ => ?_
  simp [c_colonnadelaw02_wider_uint64]
  refine go_loopK (fun k ks h2 => ∃ (i : Nat) (u : Value) (q : Nat), k = N - i ∧ i ≤ N ∧ ks = [(0, .slice b N c), (3, u), (4, .int .i64 i)] ∧ Own h2 u q (((cs.take i).map id).map (kv .u64)) ∧ Grow h h2 ∧ h.dyn.length ≤ q) (n := N)
    ⟨0, .slice none 0 0, h.dyn.length, rfl, by omega, rfl, by simpa using Own.nil _ _, Chg.refl _, Nat.le_refl _⟩ (by simp) ?_
  rintro I hI k ks e h3 ⟨i, u, q, rfl, hi, rfl, ow, gg, hq⟩
  simp
  refine branch_dec (fun hlt => ?_) (fun hge => ?_)
  · have hil : i < N := by omega
    obtain ⟨a, rfl, hla⟩ := hr i hil
    have hld := hload_grow gg (hla i _ (kv_get (by omega)))
    have e4 : IntKind.i64.wrap ((i : Int) + 1) = ((i + 1 : Nat) : Int) := by rw [wrap_i64 (by omega) (by omega)]; omega
    obtain ⟨v', h', q', e8, o', c', l', d'⟩ := ow.push (bytes := 8) (z := .int .u64 0) (x := .int .u64 (wi (numA cs i))) (by simp) (by simp; omega) (by simp; omega)
    have := take_map_succ (f := id) (k := .u64) (show i < cs.length by omega)
    rw [show id (numA cs i) = numA cs i from rfl] at this
    rw [← this] at o'
    simp [hil, hld, e8, e4]
    exact ⟨N - (i + 1), by omega, hI _ _ _ _ ⟨i + 1, v', q', rfl, by omega, rfl, o', gg.after c' (fun n hn hb => by have := hb.1; omega), own_q gg.len hq d'⟩ (by simp)⟩
  · have hil : i = N := by omega
    subst hil
    rw [List.take_of_length_le (by omega), List.map_id] at ow
    simp
    exact hQ _ _ ⟨q, ow, gg, hq⟩

theorem lent_uint64_spec {h : Heap} {v : Value} {cs : List (BitVec 64)} (r : Reads h v (cs.map (kv .u64))) (hl : cs.length * 8 ≤ 140737488351232) :
    Gives P T (.fn F_colonnadelaw02_lent_uint64) [v] h fun r h' => ∃ q, Room h' r q ((cs.map (cutB 64)).map (kv .u64)) ((marksK 66).map (kv .u64)) ∧ Grow h h' ∧ h.dyn.length ≤ q := by
  obtain ⟨b, c, rfl, hr⟩ := r.shape
  simp only [List.length_map] at hr ⊢
  obtain ⟨N, hN⟩ : ∃ N, cs.length = N := ⟨_, rfl⟩
  rw [hN] at hr hl ⊢
  refine gives_by t_colonnadelaw02_lent_uint64 (by simp [c_colonnadelaw02_lent_uint64]) fun Q hQ => ?_
  simp [c_colonnadelaw02_lent_uint64]
  refine go_loopK (fun k ks h2 => ∃ (i : Nat) (u : Value) (q : Nat), k = N - i ∧ i ≤ N ∧ ks = [(0, .slice b N c), (3, u), (4, .int .i64 i)] ∧ Own h2 u q (((cs.take i).map (cutB 64)).map (kv .u64)) ∧ Grow h h2 ∧ h.dyn.length ≤ q ∧ TopS u) (n := N)
    ⟨0, .slice none 0 0, h.dyn.length, rfl, by omega, rfl, by simpa using Own.nil _ _, Chg.refl _, Nat.le_refl _, fun b n c e => by cases e; exact .inl rfl⟩ (by simp) ?_
  rintro I hI k ks e h3 ⟨i, u, q, rfl, hi, rfl, ow, gg, hq, ht⟩
  simp
  refine branch_dec (fun hlt => ?_) (fun hge => ?_)
  · have hil : i < N := by omega
    obtain ⟨a, rfl, hla⟩ := hr i hil
    have hld := hload_grow gg (hla i _ (kv_get (by omega)))
    have e4 : IntKind.i64.wrap ((i : Int) + 1) = ((i + 1 : Nat) : Int) := by rw [wrap_i64 (by omega) (by omega)]; omega
    have fw := wrapk_u64 (numA cs i)
    obtain ⟨v', h', q', e8, o', c', l', d'⟩ := ow.push (bytes := 8) (z := .int .u64 0) (x := .int .u64 (wi (cutB 64 (numA cs i)))) (by simp) (by simp; omega) (by simp; omega)
    obtain ⟨_, _, et⟩ := aappend_top e8 rfl (by simp) ht
    have := take_map_succ (f := cutB 64) (k := .u64) (show i < cs.length by omega)
    rw [← this] at o'
    rw [cutB_64] at e8
    simp [-wrap_u8_wi, hil, hld, fw, e8, e4]
    exact ⟨N - (i + 1), by omega, hI _ _ _ _ ⟨i + 1, v', q', rfl, by omega, rfl, o', gg.after c' (fun n hn hb => by have := hb.1; omega), own_q gg.len hq d', et ▸ TopS.full⟩ (by simp)⟩
  · have hil : i = N := by omega
    subst hil
    rw [List.take_of_length_le (by omega)] at ow
    simp
    refine go_loopK (fun kk ks h2 => ∃ (k : Nat) (u : Value) (q : Nat), kk = 66 - k ∧ k ≤ 66 ∧ ks = [(0, .slice b i c), (3, u), (5, .int .i64 k)] ∧ Own h2 u q ((cs.map (cutB 64) ++ marksK k).map (kv .u64)) ∧ Grow h h2 ∧ h.dyn.length ≤ q ∧ TopS u ∧ (k ≠ 0 → ∃ b n, u = .slice b n gcap)) (n := 66)
      ⟨0, u, q, rfl, by omega, rfl, by simpa [marksK] using ow, gg, hq, ht, fun h => absurd rfl h⟩ (by simp) ?_
    rintro I2 hI2 kk2 ks2 e2 h4 ⟨k, u, q, rfl, hk, rfl, ow, gg, hq, ht, htop⟩
    simp
    by_cases hlt : k < 66
    · have hlt' : (k : Int) < 66 := by omega
      have f1 : IntKind.i64.wrap (100 + (k : Int)) = ((100 + k : Nat) : Int) := by rw [wrap_i64 (by omega) (by omega)]; omega
      have f2 := @wrapn_u64 (100 + k) (by omega)
      obtain ⟨x, hx⟩ : ∃ x, BitVec.ofNat 64 (100 + k) = x := ⟨_, rfl⟩
      obtain ⟨n1, hn1⟩ : ∃ x, 100 + k = x := ⟨_, rfl⟩
      rw [hx, hn1] at f2
      rw [hn1] at f1
      have e4 : IntKind.i64.wrap ((k : Int) + 1) = ((k + 1 : Nat) : Int) := by rw [wrap_i64 (by omega) (by omega)]; omega
      obtain ⟨v', h', q', e8, o', c', l', d'⟩ := ow.push (bytes := 8) (z := .int .u64 0) (x := .int .u64 (wi x)) (by simp) (by simp [marksK_len]; omega) (by simp [marksK_len]; omega)
      obtain ⟨b', m', et⟩ := aappend_top e8 rfl (by simp) ht
      simp [hlt, hlt', f1, f2, e8, e4]
      refine ⟨66 - (k + 1), by omega, hI2 _ _ _ _ ⟨k + 1, v', q', rfl, by omega, rfl, ?_, gg.after c' (fun n hn hb => by have := hb.1; omega), own_q gg.len hq d', et ▸ TopS.full, fun _ => ⟨b', m', et⟩⟩ (by simp)⟩
      rw [marksK_succ, hx, ← List.append_assoc, List.map_append]; exact o'
    · have hk66 : k = 66 := by omega
      subst hk66
      obtain ⟨v2, e2, rm⟩ := room_mk (l := (cs.map (cutB 64)).map (kv .u64)) (more := (marksK 66).map (kv .u64)) ow (htop (by omega)) (by simp)
      simp only [List.length_map, hN] at e2
      simp [e2]
      exact hQ _ _ ⟨q, rm, gg, hq⟩

theorem kept_uint64_spec {h : Heap} {v v' : Value} {q : Nat} {cs : List (BitVec 64)} (r : Room h v q (cs.map (kv .u64)) ((marksK 66).map (kv .u64))) (r' : Reads h v' (cs.map (kv .u64))) (hk : ofKind 64 cs) (hl : cs.length * 8 ≤ 140737488351232) :
    Gives P T (.fn F_colonnadelaw02_kept_uint64) [v, v'] h fun r h' => r = .bool true ∧ h' = h := by
  obtain ⟨b, c, ev, hr⟩ := r'.shape
  simp only [List.length_map] at ev hr
  refine gives_by t_colonnadelaw02_kept_uint64 (by simp [c_colonnadelaw02_kept_uint64]) fun Q hQ => ?_
  obtain ⟨N, hN⟩ : ∃ N, cs.length = N := ⟨_, rfl⟩
  obtain ⟨M, hM⟩ : ∃ M, N + 66 = M := ⟨_, rfl⟩
  have f0 : IntKind.i64.wrap ((N : Int) + 66) = (M : Nat) := by rw [wrap_i64 (by omega) (by omega)]; omega
  obtain ⟨v2, e2, r2⟩ := r.reach (n := M) (by simp [marksK_len]; omega)
  rw [hN] at ev hr
  obtain ⟨b2, c2, ev2, hr2⟩ := r2.shape
  have hlen2 : (cs.map (kv .u64) ++ (marksK 66).map (kv .u64)).length = M := by simp [marksK_len]; omega
  rw [hlen2] at ev2 hr2
  subst ev2
  subst ev
  have hlv : lenR h v = some (.int .i64 N, h) := by obtain ⟨u, rfl, _⟩ := r; simp [hN]
  simp [c_colonnadelaw02_kept_uint64, hlv, f0, e2]
  refine go_loopK (fun kk ks h2 => ∃ (i : Nat), kk = M - i ∧ i ≤ M ∧ ks = [(1, .slice b N c), (5, .slice b2 M c2), (6, .int .i64 i)] ∧ h2 = h) (n := M) ⟨0, rfl, by omega, rfl, rfl⟩ (by simp) ?_
  rintro I hI kk ks e h3 ⟨i, rfl, hi, rfl, rfl⟩
  simp
  refine branch_dec (fun hlt => ?_) (fun hge => ?_)
  · have hiM : i < M := by omega
    have e4 : IntKind.i64.wrap ((i : Int) + 1) = ((i + 1 : Nat) : Int) := by rw [wrap_i64 (by omega) (by omega)]; omega
    obtain ⟨a, rfl, hla⟩ := hr2 i hiM
    by_cases hiN : i < N
    · have hget : (cs.map (kv .u64) ++ (marksK 66).map (kv .u64))[i]? = some (.int .u64 (wi (numA cs i))) := by
        rw [List.getElem?_append_left (by simp; omega)]; exact kv_get (by omega)
      have hld := hla i _ hget
      obtain ⟨a', rfl, hla'⟩ := hr i hiN
      have hld' := hla' i _ (u64_get (by omega))
      have fw := wrapk_u64 (numA cs i)
      rw [cutB_eq (by omega) (hk i (by omega))] at fw
      have hiN' : ¬ (N : Int) ≤ i := by omega
      have hiN2 : ¬ N ≤ i := by omega
      simp [-wrap_u8_wi, hiN, hiN', hiN2, hiM, hld, hld', fw, e4]
      exact ⟨M - (i + 1), by omega, hI _ _ _ _ ⟨i + 1, rfl, by omega, rfl, rfl⟩ (by simp)⟩
    · have hget : (cs.map (kv .u64) ++ (marksK 66).map (kv .u64))[i]? = some (.int .u64 (wi (BitVec.ofNat 64 (100 + (i - N))))) := by
        rw [List.getElem?_append_right (by simp; omega)]
        have : i - N < 66 := by omega
        simp [marksK, hN, this]; rfl
      have f1 : IntKind.i64.wrap (100 + (i : Int)) = ((100 + i : Nat) : Int) := by rw [wrap_i64 (by omega) (by omega)]; omega
      obtain ⟨n1, hn1⟩ : ∃ x, 100 + i = x := ⟨_, rfl⟩
      rw [hn1] at f1
      have f3 : IntKind.i64.wrap ((n1 : Int) - N) = ((100 + (i - N) : Nat) : Int) := by rw [wrap_i64 (by omega) (by omega)]; omega
      have f2 := @wrapn_u64 (100 + (i - N)) (by omega)
      obtain ⟨x, hx⟩ : ∃ x, BitVec.ofNat 64 (100 + (i - N)) = x := ⟨_, rfl⟩
      rw [hx] at hget f2
      obtain ⟨n2, hn2⟩ : ∃ x, 100 + (i - N) = x := ⟨_, rfl⟩
      rw [hn2] at f2 f3
      have hld := hla i _ hget
      have hiN' : (N : Int) ≤ i := by omega
      have hiN2 : N ≤ i := by omega
      simp [-wrap_u8_wi, hiN, hiN', hiN2, hiM, hld, f1, f2, f3, e4]
      exact ⟨M - (i + 1), by omega, hI _ _ _ _ ⟨i + 1, rfl, by omega, rfl, rfl⟩ (by simp)⟩
  · have hil : i = M := by omega
    subst hil
    simp
    exact hQ _ _ ⟨rfl, rfl⟩

theorem spoil_uint64_spec {h : Heap} {v : Value} {q : Nat} {cs : List (BitVec 64)} (o : Own h v q (cs.map (kv .u64))) (hk : ofKind 64 cs) (hl : cs.length * 8 ≤ 140737488351232) :
    Gives P T (.fn F_colonnadelaw02_spoil_uint64) [v] h fun r h' => Chg (· = q) h h' := by
  refine gives_by t_colonnadelaw02_spoil_uint64 (by simp [c_colonnadelaw02_spoil_uint64]) fun Q hQ => ?_
  obtain ⟨N, hN⟩ : ∃ N, cs.length = N := ⟨_, rfl⟩
  rw [hN] at hl
  obtain ⟨b, c, ev, _⟩ := o.shape
  simp only [List.length_map, hN] at ev
  simp [c_colonnadelaw02_spoil_uint64]
  refine go_loopK (fun k ks h2 => ∃ (i : Nat) (cs : List (BitVec 64)), k = N - i ∧ i ≤ N ∧ ks = [(0, v), (2, .int .i64 i)] ∧ cs.length = N ∧ ofKind 64 cs ∧ Own h2 v q (cs.map (kv .u64)) ∧ Chg (· = q) h h2) (n := N)
    ⟨0, cs, rfl, by omega, rfl, hN, hk, o, Chg.refl _⟩ (by simp) ?_
  rintro I hI k ks e h3 ⟨i, cs, rfl, hi, rfl, hN, hk, ow, gg⟩
  simp [ev]
  refine branch_dec (fun hlt => ?_) (fun hge => ?_)
  · have hil : i < N := by omega
    have e4 : IntKind.i64.wrap ((i : Int) + 1) = ((i + 1 : Nat) : Int) := by rw [wrap_i64 (by omega) (by omega)]; omega
    have fx : abin .xor .u64 (wi (numA cs i)) 85 = some (.int .u64 (wi (numA cs i ^^^ 85#64))) := xork_u64 (y := 85#64) (hk i (by omega)) (by decide)
    obtain ⟨u, cc, h', e1, es, o', c', n'⟩ := ow.set (i := i) (by simp; omega) (x := .int .u64 (wi (numA cs i ^^^ 85#64))) (by simp)
    obtain ⟨a, c2, e5, _, hld⟩ := ow.get (i := i) (kv_get (by omega))
    have hb : b = some ⟨q, 0, some u⟩ := by rw [ev] at e1; simp at e1; exact e1.1
    have ha : a = ⟨q, 0, some u⟩ := by rw [e1] at e5; simp at e5; exact e5.1.symm
    subst hb
    subst ha
    simp at hld
    simp [-ab8_xor, hil, hld, fx, es, e4]
    refine ⟨N - (i + 1), by omega, hI _ _ _ _ ⟨i + 1, cs.set i (numA cs i ^^^ 85#64), rfl, by omega, rfl, by simpa using hN, ofKind_set hk (xor_lt (hk i (by omega)) (by decide)), ?_, gg.trans c'⟩ (by simp [ev])⟩
    rw [List.map_set]; exact o'
  · have hil : i = N := by omega
    subst hil
    simp
    refine go_loopK (fun kk ks h2 => ∃ (k : Nat) (u : Value) (q' : Nat) (l : List Value), kk = 66 - k ∧ k ≤ 66 ∧ ks = [(0, u), (3, .int .i64 k)] ∧ Own h2 u q' l ∧ l.length = i + k ∧ Chg (· = q) h h2 ∧ (q' = q ∨ h.dyn.length ≤ q')) (n := 66)
      ⟨0, v, q, cs.map (kv .u64), rfl, by omega, rfl, ow, by simp [hN], gg, .inl rfl⟩ (by simp [ev]) ?_
    rintro I2 hI2 kk2 ks2 e2 h4 ⟨k, u, q', l, rfl, hk, rfl, ow, hll, gg, hq⟩
    simp
    by_cases hlt : k < 66
    · have hlt' : (k : Int) < 66 := by omega
      have f1 : IntKind.i64.wrap (7 + (k : Int)) = ((7 + k : Nat) : Int) := by rw [wrap_i64 (by omega) (by omega)]; omega
      have f2 := @wrapn_u64 (7 + k) (by omega)
      obtain ⟨x, hx⟩ : ∃ x, BitVec.ofNat 64 (7 + k) = x := ⟨_, rfl⟩
      obtain ⟨n1, hn1⟩ : ∃ x, 7 + k = x := ⟨_, rfl⟩
      rw [hx, hn1] at f2
      rw [hn1] at f1
      have e4 : IntKind.i64.wrap ((k : Int) + 1) = ((k + 1 : Nat) : Int) := by rw [wrap_i64 (by omega) (by omega)]; omega
      obtain ⟨v', h', q2, e8, o', c', l', d'⟩ := ow.push (bytes := 8) (z := .int .u64 0) (x := .int .u64 (wi x)) (by simp) (by omega) (by omega)
      simp [hlt, hlt', f1, f2, e8, e4]
      refine ⟨66 - (k + 1), by omega, hI2 _ _ _ _ ⟨k + 1, v', q2, _, rfl, by omega, rfl, o', by simp; omega, gg.after c' (fun n hn hb => by have := hb.1; omega), ?_⟩ (by simp)⟩
      have := gg.len
      rcases d' with ⟨h1, _⟩ | h1 <;> omega
    · have hk66 : k = 66 := by omega
      subst hk66
      simp
      exact hQ _ _ gg

theorem wider_uint8_spec {h : Heap} {v : Value} {cs : List (BitVec 64)} (r : Reads h v (cs.map (kv .u8))) (hl : cs.length * 8 ≤ 140737488351232) :
    Gives P T (.fn F_colonnadelaw02_wider_uint8) [v] h fun r h' => ∃ q, Own h' r q (cs.map (kv .u64)) ∧ Grow h h' ∧ h.dyn.length ≤ q := by
  obtain ⟨b, c, rfl, hr⟩ := r.shape
  simp only [List.length_map] at hr ⊢
  obtain ⟨N, hN⟩ : ∃ N, cs.length = N := ⟨_, rfl⟩
  rw [hN] at hr hl ⊢
  refine gives_by t_colonnadelaw02_wider_uint8 (by simp [c_colonnadelaw02_wider_uint8]) fun Q hQ => ?_
  simp [c_colonnadelaw02_wider_uint8]
  refine go_loopK (fun k ks h2 => ∃ (i : Nat) (u : Value) (q : Nat), k = N - i ∧ i ≤ N ∧ ks = [(0, .slice b N c), (3, u), (4, .int .i64 i)] ∧ Own h2 u q (((cs.take i).map id).map (kv .u64)) ∧ Grow h h2 ∧ h.dyn.length ≤ q) (n := N)
    ⟨0, .slice none 0 0, h.dyn.length, rfl, by omega, rfl, by simpa using Own.nil _ _, Chg.refl _, Nat.le_refl _⟩ (by simp) ?_
  rintro I hI k ks e h3 ⟨i, u, q, rfl, hi, rfl, ow, gg, hq⟩
  simp
  refine branch_dec (fun hlt => ?_) (fun hge => ?_)
  · have hil : i < N := by omega
    obtain ⟨a, rfl, hla⟩ := hr i hil
    have hld := hload_grow gg (hla i _ (kv_get (by omega)))
    have e4 : IntKind.i64.wrap ((i : Int) + 1) = ((i + 1 : Nat) : Int) := by rw [wrap_i64 (by omega) (by omega)]; omega
    obtain ⟨v', h', q', e8, o', c', l', d'⟩ := ow.push (bytes := 8) (z := .int .u64 0) (x := .int .u64 (wi (numA cs i))) (by simp) (by simp; omega) (by simp; omega)
    have := take_map_succ (f := id) (k := .u64) (show i < cs.length by omega)
    rw [show id (numA cs i) = numA cs i from rfl] at this
    rw [← this] at o'
    simp [hil, hld, e8, e4]
    exact ⟨N - (i + 1), by omega, hI _ _ _ _ ⟨i + 1, v', q', rfl, by omega, rfl, o', gg.after c' (fun n hn hb => by have := hb.1; omega), own_q gg.len hq d'⟩ (by simp)⟩
  · have hil : i = N := by omega
    subst hil
    rw [List.take_of_length_le (by omega), List.map_id] at ow
    simp
    exact hQ _ _ ⟨q, ow, gg, hq⟩

theorem lent_uint8_spec {h : Heap} {v : Value} {cs : List (BitVec 64)} (r : Reads h v (cs.map (kv .u64))) (hl : cs.length * 8 ≤ 140737488351232) :
    Gives P T (.fn F_colonnadelaw02_lent_uint8) [v] h fun r h' => ∃ q, Room h' r q ((cs.map (cutB 8)).map (kv .u8)) ((marksK 66).map (kv .u8)) ∧ Grow h h' ∧ h.dyn.length ≤ q := by
  obtain ⟨b, c, rfl, hr⟩ := r.shape
  simp only [List.length_map] at hr ⊢
  obtain ⟨N, hN⟩ : ∃ N, cs.length = N := ⟨_, rfl⟩
  rw [hN] at hr hl ⊢
  refine gives_by t_colonnadelaw02_lent_uint8 (by simp [c_colonnadelaw02_lent_uint8]) fun Q hQ => ?_
  simp [c_colonnadelaw02_lent_uint8]
  refine go_loopK (fun k ks h2 => ∃ (i : Nat) (u : Value) (q : Nat), k = N - i ∧ i ≤ N ∧ ks = [(0, .slice b N c), (3, u), (4, .int .i64 i)] ∧ Own h2 u q (((cs.take i).map (cutB 8)).map (kv .u8)) ∧ Grow h h2 ∧ h.dyn.length ≤ q ∧ TopS u) (n := N)
    ⟨0, .slice none 0 0, h.dyn.length, rfl, by omega, rfl, by simpa using Own.nil _ _, Chg.refl _, Nat.le_refl _, fun b n c e => by cases e; exact .inl rfl⟩ (by simp) ?_
  rintro I hI k ks e h3 ⟨i, u, q, rfl, hi, rfl, ow, gg, hq, ht⟩
  simp
  refine branch_dec (fun hlt => ?_) (fun hge => ?_)
  · have hil : i < N := by omega
    obtain ⟨a, rfl, hla⟩ := hr i hil
    have hld := hload_grow gg (hla i _ (kv_get (by omega)))
    have e4 : IntKind.i64.wrap ((i : Int) + 1) = ((i + 1 : Nat) : Int) := by rw [wrap_i64 (by omega) (by omega)]; omega
    have fw := wrapk_u8 (numA cs i)
    obtain ⟨v', h', q', e8, o', c', l', d'⟩ := ow.push (bytes := 1) (z := .int .u8 0) (x := .int .u8 (wi (cutB 8 (numA cs i)))) (by simp) (by simp; omega) (by simp; omega)
    obtain ⟨_, _, et⟩ := aappend_top e8 rfl (by simp) ht
    have := take_map_succ (f := cutB 8) (k := .u8) (show i < cs.length by omega)
    rw [← this] at o'
    simp [-wrap_u8_wi, hil, hld, fw, e8, e4]
    exact ⟨N - (i + 1), by omega, hI _ _ _ _ ⟨i + 1, v', q', rfl, by omega, rfl, o', gg.after c' (fun n hn hb => by have := hb.1; omega), own_q gg.len hq d', et ▸ TopS.full⟩ (by simp)⟩
  · have hil : i = N := by omega
    subst hil
    rw [List.take_of_length_le (by omega)] at ow
    simp
    refine go_loopK (fun kk ks h2 => ∃ (k : Nat) (u : Value) (q : Nat), kk = 66 - k ∧ k ≤ 66 ∧ ks = [(0, .slice b i c), (3, u), (5, .int .i64 k)] ∧ Own h2 u q ((cs.map (cutB 8) ++ marksK k).map (kv .u8)) ∧ Grow h h2 ∧ h.dyn.length ≤ q ∧ TopS u ∧ (k ≠ 0 → ∃ b n, u = .slice b n gcap)) (n := 66)
      ⟨0, u, q, rfl, by omega, rfl, by simpa [marksK] using ow, gg, hq, ht, fun h => absurd rfl h⟩ (by simp) ?_
    rintro I2 hI2 kk2 ks2 e2 h4 ⟨k, u, q, rfl, hk, rfl, ow, gg, hq, ht, htop⟩
    simp
    by_cases hlt : k < 66
    · have hlt' : (k : Int) < 66 := by omega
      have f1 : IntKind.i64.wrap (100 + (k : Int)) = ((100 + k : Nat) : Int) := by rw [wrap_i64 (by omega) (by omega)]; omega
      have f2 := @wrapn_u8 (100 + k) (by omega)
      obtain ⟨x, hx⟩ : ∃ x, BitVec.ofNat 64 (100 + k) = x := ⟨_, rfl⟩
      obtain ⟨n1, hn1⟩ : ∃ x, 100 + k = x := ⟨_, rfl⟩
      rw [hx, hn1] at f2
      rw [hn1] at f1
      have e4 : IntKind.i64.wrap ((k : Int) + 1) = ((k + 1 : Nat) : Int) := by rw [wrap_i64 (by omega) (by omega)]; omega
      obtain ⟨v', h', q', e8, o', c', l', d'⟩ := ow.push (bytes := 1) (z := .int .u8 0) (x := .int .u8 (wi x)) (by simp) (by simp [marksK_len]; omega) (by simp [marksK_len]; omega)
      obtain ⟨b', m', et⟩ := aappend_top e8 rfl (by simp) ht
      simp [hlt, hlt', f1, f2, e8, e4]
      refine ⟨66 - (k + 1), by omega, hI2 _ _ _ _ ⟨k + 1, v', q', rfl, by omega, rfl, ?_, gg.after c' (fun n hn hb => by have := hb.1; omega), own_q gg.len hq d', et ▸ TopS.full, fun _ => ⟨b', m', et⟩⟩ (by simp)⟩
      rw [marksK_succ, hx, ← List.append_assoc, List.map_append]; exact o'
    · have hk66 : k = 66 := by omega
      subst hk66
      obtain ⟨v2, e2, rm⟩ := room_mk (l := (cs.map (cutB 8)).map (kv .u8)) (more := (marksK 66).map (kv .u8)) ow (htop (by omega)) (by simp)
      simp only [List.length_map, hN] at e2
      simp [e2]
      exact hQ _ _ ⟨q, rm, gg, hq⟩

theorem kept_uint8_spec {h : Heap} {v v' : Value} {q : Nat} {cs : List (BitVec 64)} (r : Room h v q (cs.map (kv .u8)) ((marksK 66).map (kv .u8))) (r' : Reads h v' (cs.map (kv .u64))) (hk : ofKind 8 cs) (hl : cs.length * 8 ≤ 140737488351232) :
    Gives P T (.fn F_colonnadelaw02_kept_uint8) [v, v'] h fun r h' => r = .bool true ∧ h' = h := by
  obtain ⟨b, c, ev, hr⟩ := r'.shape
  simp only [List.length_map] at ev hr
  refine gives_by t_colonnadelaw02_kept_uint8 (by simp [c_colonnadelaw02_kept_uint8]) fun Q hQ => ?_
  obtain ⟨N, hN⟩ : ∃ N, cs.length = N := ⟨_, rfl⟩
  obtain ⟨M, hM⟩ : ∃ M, N + 66 = M := ⟨_, rfl⟩
  have f0 : IntKind.i64.wrap ((N : Int) + 66) = (M : Nat) := by rw [wrap_i64 (by omega) (by omega)]; omega
  obtain ⟨v2, e2, r2⟩ := r.reach (n := M) (by simp [marksK_len]; omega)
  rw [hN] at ev hr
  obtain ⟨b2, c2, ev2, hr2⟩ := r2.shape
  have hlen2 : (cs.map (kv .u8) ++ (marksK 66).map (kv .u8)).length = M := by simp [marksK_len]; omega
  rw [hlen2] at ev2 hr2
  subst ev2
  subst ev
  have hlv : lenR h v = some (.int .i64 N, h) := by obtain ⟨u, rfl, _⟩ := r; simp [hN]
  simp [c_colonnadelaw02_kept_uint8, hlv, f0, e2]
  refine go_loopK (fun kk ks h2 => ∃ (i : Nat), kk = M - i ∧ i ≤ M ∧ ks = [(1, .slice b N c), (5, .slice b2 M c2), (6, .int .i64 i)] ∧ h2 = h) (n := M) ⟨0, rfl, by omega, rfl, rfl⟩ (by simp) ?_
  rintro I hI kk ks e h3 ⟨i, rfl, hi, rfl, rfl⟩
  simp
  refine branch_dec (fun hlt => ?_) (fun hge => ?_)
  · have hiM : i < M := by omega
    have e4 : IntKind.i64.wrap ((i : Int) + 1) = ((i + 1 : Nat) : Int) := by rw [wrap_i64 (by omega) (by omega)]; omega
    obtain ⟨a, rfl, hla⟩ := hr2 i hiM
    by_cases hiN : i < N
    · have hget : (cs.map (kv .u8) ++ (marksK 66).map (kv .u8))[i]? = some (.int .u8 (wi (numA cs i))) := by
        rw [List.getElem?_append_left (by simp; omega)]; exact kv_get (by omega)
      have hld := hla i _ hget
      obtain ⟨a', rfl, hla'⟩ := hr i hiN
      have hld' := hla' i _ (u64_get (by omega))
      have fw := wrapk_u8 (numA cs i)
      rw [cutB_eq (by omega) (hk i (by omega))] at fw
      have hiN' : ¬ (N : Int) ≤ i := by omega
      have hiN2 : ¬ N ≤ i := by omega
      simp [-wrap_u8_wi, hiN, hiN', hiN2, hiM, hld, hld', fw, e4]
      exact ⟨M - (i + 1), by omega, hI _ _ _ _ ⟨i + 1, rfl, by omega, rfl, rfl⟩ (by simp)⟩
    · have hget : (cs.map (kv .u8) ++ (marksK 66).map (kv .u8))[i]? = some (.int .u8 (wi (BitVec.ofNat 64 (100 + (i - N))))) := by
        rw [List.getElem?_append_right (by simp; omega)]
        have : i - N < 66 := by omega
        simp [marksK, hN, this]; rfl
      have f1 : IntKind.i64.wrap (100 + (i : Int)) = ((100 + i : Nat) : Int) := by rw [wrap_i64 (by omega) (by omega)]; omega
      obtain ⟨n1, hn1⟩ : ∃ x, 100 + i = x := ⟨_, rfl⟩
      rw [hn1] at f1
      have f3 : IntKind.i64.wrap ((n1 : Int) - N) = ((100 + (i - N) : Nat) : Int) := by rw [wrap_i64 (by omega) (by omega)]; omega
      have f2 := @wrapn_u8 (100 + (i - N)) (by omega)
      obtain ⟨x, hx⟩ : ∃ x, BitVec.ofNat 64 (100 + (i - N)) = x := ⟨_, rfl⟩
      rw [hx] at hget f2
      obtain ⟨n2, hn2⟩ : ∃ x, 100 + (i - N) = x := ⟨_, rfl⟩
      rw [hn2] at f2 f3
      have hld := hla i _ hget
      have hiN' : (N : Int) ≤ i := by omega
      have hiN2 : N ≤ i := by omega
      simp [-wrap_u8_wi, hiN, hiN', hiN2, hiM, hld, f1, f2, f3, e4]
      exact ⟨M - (i + 1), by omega, hI _ _ _ _ ⟨i + 1, rfl, by omega, rfl, rfl⟩ (by simp)⟩
  · have hil : i = M := by omega
    subst hil
    simp
    exact hQ _ _ ⟨rfl, rfl⟩

theorem spoil_byte_spec {h : Heap} {v : Value} {q : Nat} {cs : List (BitVec 64)} (o : Own h v q (cs.map (kv .u8))) (hk : ofKind 8 cs) (hl : cs.length * 8 ≤ 140737488351232) :
    Gives P T (.fn F_colonnadelaw02_spoil_byte) [v] h fun r h' => Chg (· = q) h h' := by
  refine gives_by t_colonnadelaw02_spoil_byte (by simp [c_colonnadelaw02_spoil_byte]) fun Q hQ => ?_
  obtain ⟨N, hN⟩ : ∃ N, cs.length = N := ⟨_, rfl⟩
  rw [hN] at hl
  obtain ⟨b, c, ev, _⟩ := o.shape
  simp only [List.length_map, hN] at ev
  simp [c_colonnadelaw02_spoil_byte]
  refine go_loopK (fun k ks h2 => ∃ (i : Nat) (cs : List (BitVec 64)), k = N - i ∧ i ≤ N ∧ ks = [(0, v), (2, .int .i64 i)] ∧ cs.length = N ∧ ofKind 8 cs ∧ Own h2 v q (cs.map (kv .u8)) ∧ Chg (· = q) h h2) (n := N)
    ⟨0, cs, rfl, by omega, rfl, hN, hk, o, Chg.refl _⟩ (by simp) ?_
  rintro I hI k ks e h3 ⟨i, cs, rfl, hi, rfl, hN, hk, ow, gg⟩
  simp [ev]
  refine branch_dec (fun hlt => ?_) (fun hge => ?_)
  · have hil : i < N := by omega
    have e4 : IntKind.i64.wrap ((i : Int) + 1) = ((i + 1 : Nat) : Int) := by rw [wrap_i64 (by omega) (by omega)]; omega
    have fx : abin .xor .u8 (wi (numA cs i)) 85 = some (.int .u8 (wi (numA cs i ^^^ 85#64))) := xork_u8 (y := 85#64) (hk i (by omega)) (by decide)
    obtain ⟨u, cc, h', e1, es, o', c', n'⟩ := ow.set (i := i) (by simp; omega) (x := .int .u8 (wi (numA cs i ^^^ 85#64))) (by simp)
    obtain ⟨a, c2, e5, _, hld⟩ := ow.get (i := i) (kv_get (by omega))
    have hb : b = some ⟨q, 0, some u⟩ := by rw [ev] at e1; simp at e1; exact e1.1
    have ha : a = ⟨q, 0, some u⟩ := by rw [e1] at e5; simp at e5; exact e5.1.symm
    subst hb
    subst ha
    simp at hld
    simp [-ab8_xor, hil, hld, fx, es, e4]
    refine ⟨N - (i + 1), by omega, hI _ _ _ _ ⟨i + 1, cs.set i (numA cs i ^^^ 85#64), rfl, by omega, rfl, by simpa using hN, ofKind_set hk (xor_lt (hk i (by omega)) (by decide)), ?_, gg.trans c'⟩ (by simp [ev])⟩
    rw [List.map_set]; exact o'
  · have hil : i = N := by omega
    subst hil
    simp
    refine go_loopK (fun kk ks h2 => ∃ (k : Nat) (u : Value) (q' : Nat) (l : List Value), kk = 66 - k ∧ k ≤ 66 ∧ ks = [(0, u), (3, .int .i64 k)] ∧ Own h2 u q' l ∧ l.length = i + k ∧ Chg (· = q) h h2 ∧ (q' = q ∨ h.dyn.length ≤ q')) (n := 66)
      ⟨0, v, q, cs.map (kv .u8), rfl, by omega, rfl, ow, by simp [hN], gg, .inl rfl⟩ (by simp [ev]) ?_
    rintro I2 hI2 kk2 ks2 e2 h4 ⟨k, u, q', l, rfl, hk, rfl, ow, hll, gg, hq⟩
    simp
    by_cases hlt : k < 66
    · have hlt' : (k : Int) < 66 := by omega
      have f1 : IntKind.i64.wrap (7 + (k : Int)) = ((7 + k : Nat) : Int) := by rw [wrap_i64 (by omega) (by omega)]; omega
      have f2 := @wrapn_u8 (7 + k) (by omega)
      obtain ⟨x, hx⟩ : ∃ x, BitVec.ofNat 64 (7 + k) = x := ⟨_, rfl⟩
      obtain ⟨n1, hn1⟩ : ∃ x, 7 + k = x := ⟨_, rfl⟩
      rw [hx, hn1] at f2
      rw [hn1] at f1
      have e4 : IntKind.i64.wrap ((k : Int) + 1) = ((k + 1 : Nat) : Int) := by rw [wrap_i64 (by omega) (by omega)]; omega
      obtain ⟨v', h', q2, e8, o', c', l', d'⟩ := ow.push (bytes := 1) (z := .int .u8 0) (x := .int .u8 (wi x)) (by simp) (by omega) (by omega)
      simp [hlt, hlt', f1, f2, e8, e4]
      refine ⟨66 - (k + 1), by omega, hI2 _ _ _ _ ⟨k + 1, v', q2, _, rfl, by omega, rfl, o', by simp; omega, gg.after c' (fun n hn hb => by have := hb.1; omega), ?_⟩ (by simp)⟩
      have := gg.len
      rcases d' with ⟨h1, _⟩ | h1 <;> omega
    · have hk66 : k = 66 := by omega
      subst hk66
      simp
      exact hQ _ _ gg

theorem wider_uint16_spec {h : Heap} {v : Value} {cs : List (BitVec 64)} (r : Reads h v (cs.map (kv .u16))) (hl : cs.length * 8 ≤ 140737488351232) :
    Gives P T (.fn F_colonnadelaw02_wider_uint16) [v] h fun r h' => ∃ q, Own h' r q (cs.map (kv .u64)) ∧ Grow h h' ∧ h.dyn.length ≤ q := by
  obtain ⟨b, c, rfl, hr⟩ := r.shape
  simp only [List.length_map] at hr ⊢
  obtain ⟨N, hN⟩ : ∃ N, cs.length = N := ⟨_, rfl⟩
  rw [hN] at hr hl ⊢
  refine gives_by t_colonnadelaw02_wider_uint16 (by simp [c_colonnadelaw02_wider_uint16]) fun Q hQ => ?_
  simp [c_colonnadelaw02_wider_uint16]
  refine go_loopK (fun k ks h2 => ∃ (i : Nat) (u : Value) (q : Nat), k = N - i ∧ i ≤ N ∧ ks = [(0, .slice b N c), (3, u), (4, .int .i64 i)] ∧ Own h2 u q (((cs.take i).map id).map (kv .u64)) ∧ Grow h h2 ∧ h.dyn.length ≤ q) (n := N)
    ⟨0, .slice none 0 0, h.dyn.length, rfl, by omega, rfl, by simpa using Own.nil _ _, Chg.refl _, Nat.le_refl _⟩ (by simp) ?_
  rintro I hI k ks e h3 ⟨i, u, q, rfl, hi, rfl, ow, gg, hq⟩
  simp
  refine branch_dec (fun hlt => ?_) (fun hge => ?_)
  · have hil : i < N := by omega
    obtain ⟨a, rfl, hla⟩ := hr i hil
    have hld := hload_grow gg (hla i _ (kv_get (by omega)))
    have e4 : IntKind.i64.wrap ((i : Int) + 1) = ((i + 1 : Nat) : Int) := by rw [wrap_i64 (by omega) (by omega)]; omega
    obtain ⟨v', h', q', e8, o', c', l', d'⟩ := ow.push (bytes := 8) (z := .int .u64 0) (x := .int .u64 (wi (numA cs i))) (by simp) (by simp; omega) (by simp; omega)
    have := take_map_succ (f := id) (k := .u64) (show i < cs.length by omega)
    rw [show id (numA cs i) = numA cs i from rfl] at this
    rw [← this] at o'
    simp [hil, hld, e8, e4]
    exact ⟨N - (i + 1), by omega, hI _ _ _ _ ⟨i + 1, v', q', rfl, by omega, rfl, o', gg.after c' (fun n hn hb => by have := hb.1; omega), own_q gg.len hq d'⟩ (by simp)⟩
  · have hil : i = N := by omega
    subst hil
    rw [List.take_of_length_le (by omega), List.map_id] at ow
    simp
    exact hQ _ _ ⟨q, ow, gg, hq⟩

theorem lent_uint16_spec {h : Heap} {v : Value} {cs : List (BitVec 64)} (r : Reads h v (cs.map (kv .u64))) (hl : cs.length * 8 ≤ 140737488351232) :
    Gives P T (.fn F_colonnadelaw02_lent_uint16) [v] h fun r h' => ∃ q, Room h' r q ((cs.map (cutB 16)).map (kv .u16)) ((marksK 66).map (kv .u16)) ∧ Grow h h' ∧ h.dyn.length ≤ q := by
  obtain ⟨b, c, rfl, hr⟩ := r.shape
  simp only [List.length_map] at hr ⊢
  obtain ⟨N, hN⟩ : ∃ N, cs.length = N := ⟨_, rfl⟩
  rw [hN] at hr hl ⊢
  refine gives_by t_colonnadelaw02_lent_uint16 (by simp [c_colonnadelaw02_lent_uint16]) fun Q hQ => ?_
  simp [c_colonnadelaw02_lent_uint16]
  refine go_loopK (fun k ks h2 => ∃ (i : Nat) (u : Value) (q : Nat), k = N - i ∧ i ≤ N ∧ ks = [(0, .slice b N c), (3, u), (4, .int .i64 i)] ∧ Own h2 u q (((cs.take i).map (cutB 16)).map (kv .u16)) ∧ Grow h h2 ∧ h.dyn.length ≤ q ∧ TopS u) (n := N)
    ⟨0, .slice none 0 0, h.dyn.length, rfl, by omega, rfl, by simpa using Own.nil _ _, Chg.refl _, Nat.le_refl _, fun b n c e => by cases e; exact .inl rfl⟩ (by simp) ?_
  rintro I hI k ks e h3 ⟨i, u, q, rfl, hi, rfl, ow, gg, hq, ht⟩
  simp
  refine branch_dec (fun hlt => ?_) (fun hge => ?_)
  · have hil : i < N := by omega
    obtain ⟨a, rfl, hla⟩ := hr i hil
    have hld := hload_grow gg (hla i _ (kv_get (by omega)))
    have e4 : IntKind.i64.wrap ((i : Int) + 1) = ((i + 1 : Nat) : Int) := by rw [wrap_i64 (by omega) (by omega)]; omega
    have fw := wrapk_u16 (numA cs i)
    obtain ⟨v', h', q', e8, o', c', l', d'⟩ := ow.push (bytes := 2) (z := .int .u16 0) (x := .int .u16 (wi (cutB 16 (numA cs i)))) (by simp) (by simp; omega) (by simp; omega)
    obtain ⟨_, _, et⟩ := aappend_top e8 rfl (by simp) ht
    have := take_map_succ (f := cutB 16) (k := .u16) (show i < cs.length by omega)
    rw [← this] at o'
    simp [-wrap_u8_wi, hil, hld, fw, e8, e4]
    exact ⟨N - (i + 1), by omega, hI _ _ _ _ ⟨i + 1, v', q', rfl, by omega, rfl, o', gg.after c' (fun n hn hb => by have := hb.1; omega), own_q gg.len hq d', et ▸ TopS.full⟩ (by simp)⟩
  · have hil : i = N := by omega
    subst hil
    rw [List.take_of_length_le (by omega)] at ow
    simp
    refine go_loopK (fun kk ks h2 => ∃ (k : Nat) (u : Value) (q : Nat), kk = 66 - k ∧ k ≤ 66 ∧ ks = [(0, .slice b i c), (3, u), (5, .int .i64 k)] ∧ Own h2 u q ((cs.map (cutB 16) ++ marksK k).map (kv .u16)) ∧ Grow h h2 ∧ h.dyn.length ≤ q ∧ TopS u ∧ (k ≠ 0 → ∃ b n, u = .slice b n gcap)) (n := 66)
      ⟨0, u, q, rfl, by omega, rfl, by simpa [marksK] using ow, gg, hq, ht, fun h => absurd rfl h⟩ (by simp) ?_
    rintro I2 hI2 kk2 ks2 e2 h4 ⟨k, u, q, rfl, hk, rfl, ow, gg, hq, ht, htop⟩
    simp
    by_cases hlt : k < 66
    · have hlt' : (k : Int) < 66 := by omega
      have f1 : IntKind.i64.wrap (100 + (k : Int)) = ((100 + k : Nat) : Int) := by rw [wrap_i64 (by omega) (by omega)]; omega
      have f2 := @wrapn_u16 (100 + k) (by omega)
      obtain ⟨x, hx⟩ : ∃ x, BitVec.ofNat 64 (100 + k) = x := ⟨_, rfl⟩
      obtain ⟨n1, hn1⟩ : ∃ x, 100 + k = x := ⟨_, rfl⟩
      rw [hx, hn1] at f2
      rw [hn1] at f1
      have e4 : IntKind.i64.wrap ((k : Int) + 1) = ((k + 1 : Nat) : Int) := by rw [wrap_i64 (by omega) (by omega)]; omega
      obtain ⟨v', h', q', e8, o', c', l', d'⟩ := ow.push (bytes := 2) (z := .int .u16 0) (x := .int .u16 (wi x)) (by simp) (by simp [marksK_len]; omega) (by simp [marksK_len]; omega)
      obtain ⟨b', m', et⟩ := aappend_top e8 rfl (by simp) ht
      simp [hlt, hlt', f1, f2, e8, e4]
      refine ⟨66 - (k + 1), by omega, hI2 _ _ _ _ ⟨k + 1, v', q', rfl, by omega, rfl, ?_, gg.after c' (fun n hn hb => by have := hb.1; omega), own_q gg.len hq d', et ▸ TopS.full, fun _ => ⟨b', m', et⟩⟩ (by simp)⟩
      rw [marksK_succ, hx, ← List.append_assoc, List.map_append]; exact o'
    · have hk66 : k = 66 := by omega
      subst hk66
      obtain ⟨v2, e2, rm⟩ := room_mk (l := (cs.map (cutB 16)).map (kv .u16)) (more := (marksK 66).map (kv .u16)) ow (htop (by omega)) (by simp)
      simp only [List.length_map, hN] at e2
      simp [e2]
      exact hQ _ _ ⟨q, rm, gg, hq⟩

theorem kept_uint16_spec {h : Heap} {v v' : Value} {q : Nat} {cs : List (BitVec 64)} (r : Room h v q (cs.map (kv .u16)) ((marksK 66).map (kv .u16))) (r' : Reads h v' (cs.map (kv .u64))) (hk : ofKind 16 cs) (hl : cs.length * 8 ≤ 140737488351232) :
    Gives P T (.fn F_colonnadelaw02_kept_uint16) [v, v'] h fun r h' => r = .bool true ∧ h' = h := by
  obtain ⟨b, c, ev, hr⟩ := r'.shape
  simp only [List.length_map] at ev hr
  refine gives_by t_colonnadelaw02_kept_uint16 (by simp [c_colonnadelaw02_kept_uint16]) fun Q hQ => ?_
  obtain ⟨N, hN⟩ : ∃ N, cs.length = N := ⟨_, rfl⟩
  obtain ⟨M, hM⟩ : ∃ M, N + 66 = M := ⟨_, rfl⟩
  have f0 : IntKind.i64.wrap ((N : Int) + 66) = (M : Nat) := by rw [wrap_i64 (by omega) (by omega)]; omega
  obtain ⟨v2, e2, r2⟩ := r.reach (n := M) (by simp [marksK_len]; omega)
  rw [hN] at ev hr
  obtain ⟨b2, c2, ev2, hr2⟩ := r2.shape
  have hlen2 : (cs.map (kv .u16) ++ (marksK 66).map (kv .u16)).length = M := by simp [marksK_len]; omega
  rw [hlen2] at ev2 hr2
  subst ev2
  subst ev
  have hlv : lenR h v = some (.int .i64 N, h) := by obtain ⟨u, rfl, _⟩ := r; simp [hN]
  simp [c_colonnadelaw02_kept_uint16, hlv, f0, e2]
  refine go_loopK (fun kk ks h2 => ∃ (i : Nat), kk = M - i ∧ i ≤ M ∧ ks = [(1, .slice b N c), (5, .slice b2 M c2), (6, .int .i64 i)] ∧ h2 = h) (n := M) ⟨0, rfl, by omega, rfl, rfl⟩ (by simp) ?_
  rintro I hI kk ks e h3 ⟨i, rfl, hi, rfl, rfl⟩
  simp
  refine branch_dec (fun hlt => ?_) (fun hge => ?_)
  · have hiM : i < M := by omega
    have e4 : IntKind.i64.wrap ((i : Int) + 1) = ((i + 1 : Nat) : Int) := by rw [wrap_i64 (by omega) (by omega)]; omega
    obtain ⟨a, rfl, hla⟩ := hr2 i hiM
    by_cases hiN : i < N
    · have hget : (cs.map (kv .u16) ++ (marksK 66).map (kv .u16))[i]? = some (.int .u16 (wi (numA cs i))) := by
        rw [List.getElem?_append_left (by simp; omega)]; exact kv_get (by omega)
      have hld := hla i _ hget
      obtain ⟨a', rfl, hla'⟩ := hr i hiN
      have hld' := hla' i _ (u64_get (by omega))
      have fw := wrapk_u16 (numA cs i)
      rw [cutB_eq (by omega) (hk i (by omega))] at fw
      have hiN' : ¬ (N : Int) ≤ i := by omega
      have hiN2 : ¬ N ≤ i := by omega
      simp [-wrap_u8_wi, hiN, hiN', hiN2, hiM, hld, hld', fw, e4]
      exact ⟨M - (i + 1), by omega, hI _ _ _ _ ⟨i + 1, rfl, by omega, rfl, rfl⟩ (by simp)⟩
    · have hget : (cs.map (kv .u16) ++ (marksK 66).map (kv .u16))[i]? = some (.int .u16 (wi (BitVec.ofNat 64 (100 + (i - N))))) := by
        rw [List.getElem?_append_right (by simp; omega)]
        have : i - N < 66 := by omega
        simp [marksK, hN, this]; rfl
      have f1 : IntKind.i64.wrap (100 + (i : Int)) = ((100 + i : Nat) : Int) := by rw [wrap_i64 (by omega) (by omega)]; omega
      obtain ⟨n1, hn1⟩ : ∃ x, 100 + i = x := ⟨_, rfl⟩
      rw [hn1] at f1
      have f3 : IntKind.i64.wrap ((n1 : Int) - N) = ((100 + (i - N) : Nat) : Int) := by rw [wrap_i64 (by omega) (by omega)]; omega
      have f2 := @wrapn_u16 (100 + (i - N)) (by omega)
      obtain ⟨x, hx⟩ : ∃ x, BitVec.ofNat 64 (100 + (i - N)) = x := ⟨_, rfl⟩
      rw [hx] at hget f2
      obtain ⟨n2, hn2⟩ : ∃ x, 100 + (i - N) = x := ⟨_, rfl⟩
      rw [hn2] at f2 f3
      have hld := hla i _ hget
      have hiN' : (N : Int) ≤ i := by omega
      have hiN2 : N ≤ i := by omega
      simp [-wrap_u8_wi, hiN, hiN', hiN2, hiM, hld, f1, f2, f3, e4]
      exact ⟨M - (i + 1), by omega, hI _ _ _ _ ⟨i + 1, rfl, by omega, rfl, rfl⟩ (by simp)⟩
  · have hil : i = M := by omega
    subst hil
    simp
    exact hQ _ _ ⟨rfl, rfl⟩

theorem spoil_uint16_spec {h : Heap} {v : Value} {q : Nat} {cs : List (BitVec 64)} (o : Own h v q (cs.map (kv .u16))) (hk : ofKind 16 cs) (hl : cs.length * 8 ≤ 140737488351232) :
    Gives P T (.fn F_colonnadelaw02_spoil_uint16) [v] h fun r h' => Chg (· = q) h h' := by
  refine gives_by t_colonnadelaw02_spoil_uint16 (by simp [c_colonnadelaw02_spoil_uint16]) fun Q hQ => ?_
  obtain ⟨N, hN⟩ : ∃ N, cs.length = N := ⟨_, rfl⟩
  rw [hN] at hl
  obtain ⟨b, c, ev, _⟩ := o.shape
  simp only [List.length_map, hN] at ev
  simp [c_colonnadelaw02_spoil_uint16]
  refine go_loopK (fun k ks h2 => ∃ (i : Nat) (cs : List (BitVec 64)), k = N - i ∧ i ≤ N ∧ ks = [(0, v), (2, .int .i64 i)] ∧ cs.length = N ∧ ofKind 16 cs ∧ Own h2 v q (cs.map (kv .u16)) ∧ Chg (· = q) h h2) (n := N)
    ⟨0, cs, rfl, by omega, rfl, hN, hk, o, Chg.refl _⟩ (by simp) ?_
  rintro I hI k ks e h3 ⟨i, cs, rfl, hi, rfl, hN, hk, ow, gg⟩
  simp [ev]
  refine branch_dec (fun hlt => ?_) (fun hge => ?_)
  · have hil : i < N := by omega
    have e4 : IntKind.i64.wrap ((i : Int) + 1) = ((i + 1 : Nat) : Int) := by rw [wrap_i64 (by omega) (by omega)]; omega
    have fx : abin .xor .u16 (wi (numA cs i)) 85 = some (.int .u16 (wi (numA cs i ^^^ 85#64))) := xork_u16 (y := 85#64) (hk i (by omega)) (by decide)
    obtain ⟨u, cc, h', e1, es, o', c', n'⟩ := ow.set (i := i) (by simp; omega) (x := .int .u16 (wi (numA cs i ^^^ 85#64))) (by simp)
    obtain ⟨a, c2, e5, _, hld⟩ := ow.get (i := i) (kv_get (by omega))
    have hb : b = some ⟨q, 0, some u⟩ := by rw [ev] at e1; simp at e1; exact e1.1
    have ha : a = ⟨q, 0, some u⟩ := by rw [e1] at e5; simp at e5; exact e5.1.symm
    subst hb
    subst ha
    simp at hld
    simp [-ab8_xor, hil, hld, fx, es, e4]
    refine ⟨N - (i + 1), by omega, hI _ _ _ _ ⟨i + 1, cs.set i (numA cs i ^^^ 85#64), rfl, by omega, rfl, by simpa using hN, ofKind_set hk (xor_lt (hk i (by omega)) (by decide)), ?_, gg.trans c'⟩ (by simp [ev])⟩
    rw [List.map_set]; exact o'
  · have hil : i = N := by omega
    subst hil
    simp
    refine go_loopK (fun kk ks h2 => ∃ (k : Nat) (u : Value) (q' : Nat) (l : List Value), kk = 66 - k ∧ k ≤ 66 ∧ ks = [(0, u), (3, .int .i64 k)] ∧ Own h2 u q' l ∧ l.length = i + k ∧ Chg (· = q) h h2 ∧ (q' = q ∨ h.dyn.length ≤ q')) (n := 66)
      ⟨0, v, q, cs.map (kv .u16), rfl, by omega, rfl, ow, by simp [hN], gg, .inl rfl⟩ (by simp [ev]) ?_
    rintro I2 hI2 kk2 ks2 e2 h4 ⟨k, u, q', l, rfl, hk, rfl, ow, hll, gg, hq⟩
    simp
    by_cases hlt : k < 66
    · have hlt' : (k : Int) < 66 := by omega
      have f1 : IntKind.i64.wrap (7 + (k : Int)) = ((7 + k : Nat) : Int) := by rw [wrap_i64 (by omega) (by omega)]; omega
      have f2 := @wrapn_u16 (7 + k) (by omega)
      obtain ⟨x, hx⟩ : ∃ x, BitVec.ofNat 64 (7 + k) = x := ⟨_, rfl⟩
      obtain ⟨n1, hn1⟩ : ∃ x, 7 + k = x := ⟨_, rfl⟩
      rw [hx, hn1] at f2
      rw [hn1] at f1
      have e4 : IntKind.i64.wrap ((k : Int) + 1) = ((k + 1 : Nat) : Int) := by rw [wrap_i64 (by omega) (by omega)]; omega
      obtain ⟨v', h', q2, e8, o', c', l', d'⟩ := ow.push (bytes := 2) (z := .int .u16 0) (x := .int .u16 (wi x)) (by simp) (by omega) (by omega)
      simp [hlt, hlt', f1, f2, e8, e4]
      refine ⟨66 - (k + 1), by omega, hI2 _ _ _ _ ⟨k + 1, v', q2, _, rfl, by omega, rfl, o', by simp; omega, gg.after c' (fun n hn hb => by have := hb.1; omega), ?_⟩ (by simp)⟩
      have := gg.len
      rcases d' with ⟨h1, _⟩ | h1 <;> omega
    · have hk66 : k = 66 := by omega
      subst hk66
      simp
      exact hQ _ _ gg

theorem wider_uint32_spec {h : Heap} {v : Value} {cs : List (BitVec 64)} (r : Reads h v (cs.map (kv .u32))) (hl : cs.length * 8 ≤ 140737488351232) :
    Gives P T (.fn F_colonnadelaw02_wider_uint32) [v] h fun r h' => ∃ q, Own h' r q (cs.map (kv .u64)) ∧ Grow h h' ∧ h.dyn.length ≤ q := by
  obtain ⟨b, c, rfl, hr⟩ := r.shape
  simp only [List.length_map] at hr ⊢
  obtain ⟨N, hN⟩ : ∃ N, cs.length = N := ⟨_, rfl⟩
  rw [hN] at hr hl ⊢
  refine gives_by t_colonnadelaw02_wider_uint32 (by simp [c_colonnadelaw02_wider_uint32]) fun Q hQ => ?_
  simp [c_colonnadelaw02_wider_uint32]
  refine go_loopK (fun k ks h2 => ∃ (i : Nat) (u : Value) (q : Nat), k = N - i ∧ i ≤ N ∧ ks = [(0, .slice b N c), (3, u), (4, .int .i64 i)] ∧ Own h2 u q (((cs.take i).map id).map (kv .u64)) ∧ Grow h h2 ∧ h.dyn.length ≤ q) (n := N)
    ⟨0, .slice none 0 0, h.dyn.length, rfl, by omega, rfl, by simpa using Own.nil _ _, Chg.refl _, Nat.le_refl _⟩ (by simp) ?_
  rintro I hI k ks e h3 ⟨i, u, q, rfl, hi, rfl, ow, gg, hq⟩
  simp
  refine branch_dec (fun hlt => ?_) (fun hge => ?_)
  · have hil : i < N := by omega
    obtain ⟨a, rfl, hla⟩ := hr i hil
    have hld := hload_grow gg (hla i _ (kv_get (by omega)))
    have e4 : IntKind.i64.wrap ((i : Int) + 1) = ((i + 1 : Nat) : Int) := by rw [wrap_i64 (by omega) (by omega)]; omega
    obtain ⟨v', h', q', e8, o', c', l', d'⟩ := ow.push (bytes := 8) (z := .int .u64 0) (x := .int .u64 (wi (numA cs i))) (by simp) (by simp; omega) (by simp; omega)
    have := take_map_succ (f := id) (k := .u64) (show i < cs.length by omega)
    rw [show id (numA cs i) = numA cs i from rfl] at this
    rw [← this] at o'
    simp [hil, hld, e8, e4]
    exact ⟨N - (i + 1), by omega, hI _ _ _ _ ⟨i + 1, v', q', rfl, by omega, rfl, o', gg.after c' (fun n hn hb => by have := hb.1; omega), own_q gg.len hq d'⟩ (by simp)⟩
  · have hil : i = N := by omega
    subst hil
    rw [List.take_of_length_le (by omega), List.map_id] at ow
    simp
    exact hQ _ _ ⟨q, ow, gg, hq⟩

theorem lent_uint32_spec {h : Heap} {v : Value} {cs : List (BitVec 64)} (r : Reads h v (cs.map (kv .u64))) (hl : cs.length * 8 ≤ 140737488351232) :
    Gives P T (.fn F_colonnadelaw02_lent_uint32) [v] h fun r h' => ∃ q, Room h' r q ((cs.map (cutB 32)).map (kv .u32)) ((marksK 66).map (kv .u32)) ∧ Grow h h' ∧ h.dyn.length ≤ q := by
  obtain ⟨b, c, rfl, hr⟩ := r.shape
  simp only [List.length_map] at hr ⊢
  obtain ⟨N, hN⟩ : ∃ N, cs.length = N := ⟨_, rfl⟩
  rw [hN] at hr hl ⊢
  refine gives_by t_colonnadelaw02_lent_uint32 (by simp [c_colonnadelaw02_lent_uint32]) fun Q hQ => ?_
  simp [c_colonnadelaw02_lent_uint32]
  refine go_loopK (fun k ks h2 => ∃ (i : Nat) (u : Value) (q : Nat), k = N - i ∧ i ≤ N ∧ ks = [(0, .slice b N c), (3, u), (4, .int .i64 i)] ∧ Own h2 u q (((cs.take i).map (cutB 32)).map (kv .u32)) ∧ Grow h h2 ∧ h.dyn.length ≤ q ∧ TopS u) (n := N)
    ⟨0, .slice none 0 0, h.dyn.length, rfl, by omega, rfl, by simpa using Own.nil _ _, Chg.refl _, Nat.le_refl _, fun b n c e => by cases e; exact .inl rfl⟩ (by simp) ?_
  rintro I hI k ks e h3 ⟨i, u, q, rfl, hi, rfl, ow, gg, hq, ht⟩
  simp
  refine branch_dec (fun hlt => ?_) (fun hge => ?_)
  · have hil : i < N := by omega
    obtain ⟨a, rfl, hla⟩ := hr i hil
    have hld := hload_grow gg (hla i _ (kv_get (by omega)))
    have e4 : IntKind.i64.wrap ((i : Int) + 1) = ((i + 1 : Nat) : Int) := by rw [wrap_i64 (by omega) (by omega)]; omega
    have fw := wrapk_u32 (numA cs i)
    obtain ⟨v', h', q', e8, o', c', l', d'⟩ := ow.push (bytes := 4) (z := .int .u32 0) (x := .int .u32 (wi (cutB 32 (numA cs i)))) (by simp) (by simp; omega) (by simp; omega)
    obtain ⟨_, _, et⟩ := aappend_top e8 rfl (by simp) ht
    have := take_map_succ (f := cutB 32) (k := .u32) (show i < cs.length by omega)
    rw [← this] at o'
    simp [-wrap_u8_wi, hil, hld, fw, e8, e4]
    exact ⟨N - (i + 1), by omega, hI _ _ _ _ ⟨i + 1, v', q', rfl, by omega, rfl, o', gg.after c' (fun n hn hb => by have := hb.1; omega), own_q gg.len hq d', et ▸ TopS.full⟩ (by simp)⟩
  · have hil : i = N := by omega
    subst hil
    rw [List.take_of_length_le (by omega)] at ow
    simp
    refine go_loopK (fun kk ks h2 => ∃ (k : Nat) (u : Value) (q : Nat), kk = 66 - k ∧ k ≤ 66 ∧ ks = [(0, .slice b i c), (3, u), (5, .int .i64 k)] ∧ Own h2 u q ((cs.map (cutB 32) ++ marksK k).map (kv .u32)) ∧ Grow h h2 ∧ h.dyn.length ≤ q ∧ TopS u ∧ (k ≠ 0 → ∃ b n, u = .slice b n gcap)) (n := 66)
      ⟨0, u, q, rfl, by omega, rfl, by simpa [marksK] using ow, gg, hq, ht, fun h => absurd rfl h⟩ (by simp) ?_
    rintro I2 hI2 kk2 ks2 e2 h4 ⟨k, u, q, rfl, hk, rfl, ow, gg, hq, ht, htop⟩
    simp
    by_cases hlt : k < 66
    · have hlt' : (k : Int) < 66 := by omega
      have f1 : IntKind.i64.wrap (100 + (k : Int)) = ((100 + k : Nat) : Int) := by rw [wrap_i64 (by omega) (by omega)]; omega
      have f2 := @wrapn_u32 (100 + k) (by omega)
      obtain ⟨x, hx⟩ : ∃ x, BitVec.ofNat 64 (100 + k) = x := ⟨_, rfl⟩
      obtain ⟨n1, hn1⟩ : ∃ x, 100 + k = x := ⟨_, rfl⟩
      rw [hx, hn1] at f2
      rw [hn1] at f1
      have e4 : IntKind.i64.wrap ((k : Int) + 1) = ((k + 1 : Nat) : Int) := by rw [wrap_i64 (by omega) (by omega)]; omega
      obtain ⟨v', h', q', e8, o', c', l', d'⟩ := ow.push (bytes := 4) (z := .int .u32 0) (x := .int .u32 (wi x)) (by simp) (by simp [marksK_len]; omega) (by simp [marksK_len]; omega)
      obtain ⟨b', m', et⟩ := aappend_top e8 rfl (by simp) ht
      simp [hlt, hlt', f1, f2, e8, e4]
      refine ⟨66 - (k + 1), by omega, hI2 _ _ _ _ ⟨k + 1, v', q', rfl, by omega, rfl, ?_, gg.after c' (fun n hn hb => by have := hb.1; omega), own_q gg.len hq d', et ▸ TopS.full, fun _ => ⟨b', m', et⟩⟩ (by simp)⟩
      rw [marksK_succ, hx, ← List.append_assoc, List.map_append]; exact o'
    · have hk66 : k = 66 := by omega
      subst hk66
      obtain ⟨v2, e2, rm⟩ := room_mk (l := (cs.map (cutB 32)).map (kv .u32)) (more := (marksK 66).map (kv .u32)) ow (htop (by omega)) (by simp)
      simp only [List.length_map, hN] at e2
      simp [e2]
      exact hQ _ _ ⟨q, rm, gg, hq⟩

theorem kept_uint32_spec {h : Heap} {v v' : Value} {q : Nat} {cs : List (BitVec 64)} (r : Room h v q (cs.map (kv .u32)) ((marksK 66).map (kv .u32))) (r' : Reads h v' (cs.map (kv .u64))) (hk : ofKind 32 cs) (hl : cs.length * 8 ≤ 140737488351232) :
    Gives P T (.fn F_colonnadelaw02_kept_uint32) [v, v'] h fun r h' => r = .bool true ∧ h' = h := by
  obtain ⟨b, c, ev, hr⟩ := r'.shape
  simp only [List.length_map] at ev hr
  refine gives_by t_colonnadelaw02_kept_uint32 (by simp [c_colonnadelaw02_kept_uint32]) fun Q hQ => ?_
  obtain ⟨N, hN⟩ : ∃ N, cs.length = N := ⟨_, rfl⟩
  obtain ⟨M, hM⟩ : ∃ M, N + 66 = M := ⟨_, rfl⟩
  have f0 : IntKind.i64.wrap ((N : Int) + 66) = (M : Nat) := by rw [wrap_i64 (by omega) (by omega)]; omega
  obtain ⟨v2, e2, r2⟩ := r.reach (n := M) (by simp [marksK_len]; omega)
  rw [hN] at ev hr
  obtain ⟨b2, c2, ev2, hr2⟩ := r2.shape
  have hlen2 : (cs.map (kv .u32) ++ (marksK 66).map (kv .u32)).length = M := by simp [marksK_len]; omega
  rw [hlen2] at ev2 hr2
  subst ev2
  subst ev
  have hlv : lenR h v = some (.int .i64 N, h) := by obtain ⟨u, rfl, _⟩ := r; simp [hN]
  simp [c_colonnadelaw02_kept_uint32, hlv, f0, e2]
  refine go_loopK (fun kk ks h2 => ∃ (i : Nat), kk = M - i ∧ i ≤ M ∧ ks = [(1, .slice b N c), (5, .slice b2 M c2), (6, .int .i64 i)] ∧ h2 = h) (n := M) ⟨0, rfl, by omega, rfl, rfl⟩ (by simp) ?_
  rintro I hI kk ks e h3 ⟨i, rfl, hi, rfl, rfl⟩
  simp
  refine branch_dec (fun hlt => ?_) (fun hge => ?_)
  · have hiM : i < M := by omega
    have e4 : IntKind.i64.wrap ((i : Int) + 1) = ((i + 1 : Nat) : Int) := by rw [wrap_i64 (by omega) (by omega)]; omega
    obtain ⟨a, rfl, hla⟩ := hr2 i hiM
    by_cases hiN : i < N
    · have hget : (cs.map (kv .u32) ++ (marksK 66).map (kv .u32))[i]? = some (.int .u32 (wi (numA cs i))) := by
        rw [List.getElem?_append_left (by simp; omega)]; exact kv_get (by omega)
      have hld := hla i _ hget
      obtain ⟨a', rfl, hla'⟩ := hr i hiN
      have hld' := hla' i _ (u64_get (by omega))
      have fw := wrapk_u32 (numA cs i)
      rw [cutB_eq (by omega) (hk i (by omega))] at fw
      have hiN' : ¬ (N : Int) ≤ i := by omega
      have hiN2 : ¬ N ≤ i := by omega
      simp [-wrap_u8_wi, hiN, hiN', hiN2, hiM, hld, hld', fw, e4]
      exact ⟨M - (i + 1), by omega, hI _ _ _ _ ⟨i + 1, rfl, by omega, rfl, rfl⟩ (by simp)⟩
    · have hget : (cs.map (kv .u32) ++ (marksK 66).map (kv .u32))[i]? = some (.int .u32 (wi (BitVec.ofNat 64 (100 + (i - N))))) := by
        rw [List.getElem?_append_right (by simp; omega)]
        have : i - N < 66 := by omega
        simp [marksK, hN, this]; rfl
      have f1 : IntKind.i64.wrap (100 + (i : Int)) = ((100 + i : Nat) : Int) := by rw [wrap_i64 (by omega) (by omega)]; omega
      obtain ⟨n1, hn1⟩ : ∃ x, 100 + i = x := ⟨_, rfl⟩
      rw [hn1] at f1
      have f3 : IntKind.i64.wrap ((n1 : Int) - N) = ((100 + (i - N) : Nat) : Int) := by rw [wrap_i64 (by omega) (by omega)]; omega
      have f2 := @wrapn_u32 (100 + (i - N)) (by omega)
      obtain ⟨x, hx⟩ : ∃ x, BitVec.ofNat 64 (100 + (i - N)) = x := ⟨_, rfl⟩
      rw [hx] at hget f2
      obtain ⟨n2, hn2⟩ : ∃ x, 100 + (i - N) = x := ⟨_, rfl⟩
      rw [hn2] at f2 f3
      have hld := hla i _ hget
      have hiN' : (N : Int) ≤ i := by omega
      have hiN2 : N ≤ i := by omega
      simp [-wrap_u8_wi, hiN, hiN', hiN2, hiM, hld, f1, f2, f3, e4]
      exact ⟨M - (i + 1), by omega, hI _ _ _ _ ⟨i + 1, rfl, by omega, rfl, rfl⟩ (by simp)⟩
  · have hil : i = M := by omega
    subst hil
    simp
    exact hQ _ _ ⟨rfl, rfl⟩

theorem spoil_uint32_spec {h : Heap} {v : Value} {q : Nat} {cs : List (BitVec 64)} (o : Own h v q (cs.map (kv .u32))) (hk : ofKind 32 cs) (hl : cs.length * 8 ≤ 140737488351232) :
    Gives P T (.fn F_colonnadelaw02_spoil_uint32) [v] h fun r h' => Chg (· = q) h h' := by
  refine gives_by t_colonnadelaw02_spoil_uint32 (by simp [c_colonnadelaw02_spoil_uint32]) fun Q hQ => ?_
  obtain ⟨N, hN⟩ : ∃ N, cs.length = N := ⟨_, rfl⟩
  rw [hN] at hl
  obtain ⟨b, c, ev, _⟩ := o.shape
  simp only [List.length_map, hN] at ev
  simp [c_colonnadelaw02_spoil_uint32]
  refine go_loopK (fun k ks h2 => ∃ (i : Nat) (cs : List (BitVec 64)), k = N - i ∧ i ≤ N ∧ ks = [(0, v), (2, .int .i64 i)] ∧ cs.length = N ∧ ofKind 32 cs ∧ Own h2 v q (cs.map (kv .u32)) ∧ Chg (· = q) h h2) (n := N)
    ⟨0, cs, rfl, by omega, rfl, hN, hk, o, Chg.refl _⟩ (by simp) ?_
  rintro I hI k ks e h3 ⟨i, cs, rfl, hi, rfl, hN, hk, ow, gg⟩
  simp [ev]
  refine branch_dec (fun hlt => ?_) (fun hge => ?_)
  · have hil : i < N := by omega
    have e4 : IntKind.i64.wrap ((i : Int) + 1) = ((i + 1 : Nat) : Int) := by rw [wrap_i64 (by omega) (by omega)]; omega
    have fx : abin .xor .u32 (wi (numA cs i)) 85 = some (.int .u32 (wi (numA cs i ^^^ 85#64))) := xork_u32 (y := 85#64) (hk i (by omega)) (by decide)
    obtain ⟨u, cc, h', e1, es, o', c', n'⟩ := ow.set (i := i) (by simp; omega) (x := .int .u32 (wi (numA cs i ^^^ 85#64))) (by simp)
    obtain ⟨a, c2, e5, _, hld⟩ := ow.get (i := i) (kv_get (by omega))
    have hb : b = some ⟨q, 0, some u⟩ := by rw [ev] at e1; simp at e1; exact e1.1
    have ha : a = ⟨q, 0, some u⟩ := by rw [e1] at e5; simp at e5; exact e5.1.symm
    subst hb
    subst ha
    simp at hld
    simp [-ab8_xor, hil, hld, fx, es, e4]
    refine ⟨N - (i + 1), by omega, hI _ _ _ _ ⟨i + 1, cs.set i (numA cs i ^^^ 85#64), rfl, by omega, rfl, by simpa using hN, ofKind_set hk (xor_lt (hk i (by omega)) (by decide)), ?_, gg.trans c'⟩ (by simp [ev])⟩
    rw [List.map_set]; exact o'
  · have hil : i = N := by omega
    subst hil
    simp
    refine go_loopK (fun kk ks h2 => ∃ (k : Nat) (u : Value) (q' : Nat) (l : List Value), kk = 66 - k ∧ k ≤ 66 ∧ ks = [(0, u), (3, .int .i64 k)] ∧ Own h2 u q' l ∧ l.length = i + k ∧ Chg (· = q) h h2 ∧ (q' = q ∨ h.dyn.length ≤ q')) (n := 66)
      ⟨0, v, q, cs.map (kv .u32), rfl, by omega, rfl, ow, by simp [hN], gg, .inl rfl⟩ (by simp [ev]) ?_
    rintro I2 hI2 kk2 ks2 e2 h4 ⟨k, u, q', l, rfl, hk, rfl, ow, hll, gg, hq⟩
    simp
    by_cases hlt : k < 66
    · have hlt' : (k : Int) < 66 := by omega
      have f1 : IntKind.i64.wrap (7 + (k : Int)) = ((7 + k : Nat) : Int) := by rw [wrap_i64 (by omega) (by omega)]; omega
      have f2 := @wrapn_u32 (7 + k) (by omega)
      obtain ⟨x, hx⟩ : ∃ x, BitVec.ofNat 64 (7 + k) = x := ⟨_, rfl⟩
      obtain ⟨n1, hn1⟩ : ∃ x, 7 + k = x := ⟨_, rfl⟩
      rw [hx, hn1] at f2
      rw [hn1] at f1
      have e4 : IntKind.i64.wrap ((k : Int) + 1) = ((k + 1 : Nat) : Int) := by rw [wrap_i64 (by omega) (by omega)]; omega
      obtain ⟨v', h', q2, e8, o', c', l', d'⟩ := ow.push (bytes := 4) (z := .int .u32 0) (x := .int .u32 (wi x)) (by simp) (by omega) (by omega)
      simp [hlt, hlt', f1, f2, e8, e4]
      refine ⟨66 - (k + 1), by omega, hI2 _ _ _ _ ⟨k + 1, v', q2, _, rfl, by omega, rfl, o', by simp; omega, gg.after c' (fun n hn hb => by have := hb.1; omega), ?_⟩ (by simp)⟩
      have := gg.len
      rcases d' with ⟨h1, _⟩ | h1 <;> omega
    · have hk66 : k = 66 := by omega
      subst hk66
      simp
      exact hQ _ _ gg

theorem wider_colonnadelaw02_tall_spec {h : Heap} {v : Value} {cs : List (BitVec 64)} (r : Reads h v (cs.map (kv .u16))) (hl : cs.length * 8 ≤ 140737488351232) :
    Gives P T (.fn F_colonnadelaw02_wider_colonnadelaw02_tall) [v] h fun r h' => ∃ q, Own h' r q (cs.map (kv .u64)) ∧ Grow h h' ∧ h.dyn.length ≤ q := by
  obtain ⟨b, c, rfl, hr⟩ := r.shape
  simp only [List.length_map] at hr ⊢
  obtain ⟨N, hN⟩ : ∃ N, cs.length = N := ⟨_, rfl⟩
  rw [hN] at hr hl ⊢
  refine gives_by t_colonnadelaw02_wider_colonnadelaw02_tall (by simp [c_colonnadelaw02_wider_colonnadelaw02_tall]) fun Q hQ => ?_
  simp [c_colonnadelaw02_wider_colonnadelaw02_tall]
  refine go_loopK (fun k ks h2 => ∃ (i : Nat) (u : Value) (q : Nat), k = N - i ∧ i ≤ N ∧ ks = [(0, .slice b N c), (3, u), (4, .int .i64 i)] ∧ Own h2 u q (((cs.take i).map id).map (kv .u64)) ∧ Grow h h2 ∧ h.dyn.length ≤ q) (n := N)
    ⟨0, .slice none 0 0, h.dyn.length, rfl, by omega, rfl, by simpa using Own.nil _ _, Chg.refl _, Nat.le_refl _⟩ (by simp) ?_
  rintro I hI k ks e h3 ⟨i, u, q, rfl, hi, rfl, ow, gg, hq⟩
  simp
  refine branch_dec (fun hlt => ?_) (fun hge => ?_)
  · have hil : i < N := by omega
    obtain ⟨a, rfl, hla⟩ := hr i hil
    have hld := hload_grow gg (hla i _ (kv_get (by omega)))
    have e4 : IntKind.i64.wrap ((i : Int) + 1) = ((i + 1 : Nat) : Int) := by rw [wrap_i64 (by omega) (by omega)]; omega
    obtain ⟨v', h', q', e8, o', c', l', d'⟩ := ow.push (bytes := 8) (z := .int .u64 0) (x := .int .u64 (wi (numA cs i))) (by simp) (by simp; omega) (by simp; omega)
    have := take_map_succ (f := id) (k := .u64) (show i < cs.length by omega)
    rw [show id (numA cs i) = numA cs i from rfl] at this
    rw [← this] at o'
    simp [hil, hld, e8, e4]
    exact ⟨N - (i + 1), by omega, hI _ _ _ _ ⟨i + 1, v', q', rfl, by omega, rfl, o', gg.after c' (fun n hn hb => by have := hb.1; omega), own_q gg.len hq d'⟩ (by simp)⟩
  · have hil : i = N := by omega
    subst hil
    rw [List.take_of_length_le (by omega), List.map_id] at ow
    simp
    exact hQ _ _ ⟨q, ow, gg, hq⟩

theorem lent_colonnadelaw02_tall_spec {h : Heap} {v : Value} {cs : List (BitVec 64)} (r : Reads h v (cs.map (kv .u64))) (hl : cs.length * 8 ≤ 140737488351232) :
    Gives P T (.fn F_colonnadelaw02_lent_colonnadelaw02_tall) [v] h fun r h' => ∃ q, Room h' r q ((cs.map (cutB 16)).map (kv .u16)) ((marksK 66).map (kv .u16)) ∧ Grow h h' ∧ h.dyn.length ≤ q := by
  obtain ⟨b, c, rfl, hr⟩ := r.shape
  simp only [List.length_map] at hr ⊢
  obtain ⟨N, hN⟩ : ∃ N, cs.length = N := ⟨_, rfl⟩
  rw [hN] at hr hl ⊢
  refine gives_by t_colonnadelaw02_lent_colonnadelaw02_tall (by simp [c_colonnadelaw02_lent_colonnadelaw02_tall]) fun Q hQ => ?_
  simp [c_colonnadelaw02_lent_colonnadelaw02_tall]
  refine go_loopK (fun k ks h2 => ∃ (i : Nat) (u : Value) (q : Nat), k = N - i ∧ i ≤ N ∧ ks = [(0, .slice b N c), (3, u), (4, .int .i64 i)] ∧ Own h2 u q (((cs.take i).map (cutB 16)).map (kv .u16)) ∧ Grow h h2 ∧ h.dyn.length ≤ q ∧ TopS u) (n := N)
    ⟨0, .slice none 0 0, h.dyn.length, rfl, by omega, rfl, by simpa using Own.nil _ _, Chg.refl _, Nat.le_refl _, fun b n c e => by cases e; exact .inl rfl⟩ (by simp) ?_
  rintro I hI k ks e h3 ⟨i, u, q, rfl, hi, rfl, ow, gg, hq, ht⟩
  simp
  refine branch_dec (fun hlt => ?_) (fun hge => ?_)
  · have hil : i < N := by omega
    obtain ⟨a, rfl, hla⟩ := hr i hil
    have hld := hload_grow gg (hla i _ (kv_get (by omega)))
    have e4 : IntKind.i64.wrap ((i : Int) + 1) = ((i + 1 : Nat) : Int) := by rw [wrap_i64 (by omega) (by omega)]; omega
    have fw := wrapk_u16 (numA cs i)
    obtain ⟨v', h', q', e8, o', c', l', d'⟩ := ow.push (bytes := 2) (z := .int .u16 0) (x := .int .u16 (wi (cutB 16 (numA cs i)))) (by simp) (by simp; omega) (by simp; omega)
    obtain ⟨_, _, et⟩ := aappend_top e8 rfl (by simp) ht
    have := take_map_succ (f := cutB 16) (k := .u16) (show i < cs.length by omega)
    rw [← this] at o'
    simp [-wrap_u8_wi, hil, hld, fw, e8, e4]
    exact ⟨N - (i + 1), by omega, hI _ _ _ _ ⟨i + 1, v', q', rfl, by omega, rfl, o', gg.after c' (fun n hn hb => by have := hb.1; omega), own_q gg.len hq d', et ▸ TopS.full⟩ (by simp)⟩
  · have hil : i = N := by omega
    subst hil
    rw [List.take_of_length_le (by omega)] at ow
    simp
    refine go_loopK (fun kk ks h2 => ∃ (k : Nat) (u : Value) (q : Nat), kk = 66 - k ∧ k ≤ 66 ∧ ks = [(0, .slice b i c), (3, u), (5, .int .i64 k)] ∧ Own h2 u q ((cs.map (cutB 16) ++ marksK k).map (kv .u16)) ∧ Grow h h2 ∧ h.dyn.length ≤ q ∧ TopS u ∧ (k ≠ 0 → ∃ b n, u = .slice b n gcap)) (n := 66)
      ⟨0, u, q, rfl, by omega, rfl, by simpa [marksK] using ow, gg, hq, ht, fun h => absurd rfl h⟩ (by simp) ?_
    rintro I2 hI2 kk2 ks2 e2 h4 ⟨k, u, q, rfl, hk, rfl, ow, gg, hq, ht, htop⟩
    simp
    by_cases hlt : k < 66
    · have hlt' : (k : Int) < 66 := by omega
      have f1 : IntKind.i64.wrap (100 + (k : Int)) = ((100 + k : Nat) : Int) := by rw [wrap_i64 (by omega) (by omega)]; omega
      have f2 := @wrapn_u16 (100 + k) (by omega)
      obtain ⟨x, hx⟩ : ∃ x, BitVec.ofNat 64 (100 + k) = x := ⟨_, rfl⟩
      obtain ⟨n1, hn1⟩ : ∃ x, 100 + k = x := ⟨_, rfl⟩
      rw [hx, hn1] at f2
      rw [hn1] at f1
      have e4 : IntKind.i64.wrap ((k : Int) + 1) = ((k + 1 : Nat) : Int) := by rw [wrap_i64 (by omega) (by omega)]; omega
      obtain ⟨v', h', q', e8, o', c', l', d'⟩ := ow.push (bytes := 2) (z := .int .u16 0) (x := .int .u16 (wi x)) (by simp) (by simp [marksK_len]; omega) (by simp [marksK_len]; omega)
      obtain ⟨b', m', et⟩ := aappend_top e8 rfl (by simp) ht
      simp [hlt, hlt', f1, f2, e8, e4]
      refine ⟨66 - (k + 1), by omega, hI2 _ _ _ _ ⟨k + 1, v', q', rfl, by omega, rfl, ?_, gg.after c' (fun n hn hb => by have := hb.1; omega), own_q gg.len hq d', et ▸ TopS.full, fun _ => ⟨b', m', et⟩⟩ (by simp)⟩
      rw [marksK_succ, hx, ← List.append_assoc, List.map_append]; exact o'
    · have hk66 : k = 66 := by omega
      subst hk66
      obtain ⟨v2, e2, rm⟩ := room_mk (l := (cs.map (cutB 16)).map (kv .u16)) (more := (marksK 66).map (kv .u16)) ow (htop (by omega)) (by simp)
      simp only [List.length_map, hN] at e2
      simp [e2]
      exact hQ _ _ ⟨q, rm, gg, hq⟩

theorem kept_colonnadelaw02_tall_spec {h : Heap} {v v' : Value} {q : Nat} {cs : List (BitVec 64)} (r : Room h v q (cs.map (kv .u16)) ((marksK 66).map (kv .u16))) (r' : Reads h v' (cs.map (kv .u64))) (hk : ofKind 16 cs) (hl : cs.length * 8 ≤ 140737488351232) :
    Gives P T (.fn F_colonnadelaw02_kept_colonnadelaw02_tall) [v, v'] h fun r h' => r = .bool true ∧ h' = h := by
  obtain ⟨b, c, ev, hr⟩ := r'.shape
  simp only [List.length_map] at ev hr
  refine gives_by t_colonnadelaw02_kept_colonnadelaw02_tall (by simp [c_colonnadelaw02_kept_colonnadelaw02_tall]) fun Q hQ => ?_
  obtain ⟨N, hN⟩ : ∃ N, cs.length = N := ⟨_, rfl⟩
  obtain ⟨M, hM⟩ : ∃ M, N + 66 = M := ⟨_, rfl⟩
  have f0 : IntKind.i64.wrap ((N : Int) + 66) = (M : Nat) := by rw [wrap_i64 (by omega) (by omega)]; omega
  obtain ⟨v2, e2, r2⟩ := r.reach (n := M) (by simp [marksK_len]; omega)
  rw [hN] at ev hr
  obtain ⟨b2, c2, ev2, hr2⟩ := r2.shape
  have hlen2 : (cs.map (kv .u16) ++ (marksK 66).map (kv .u16)).length = M := by simp [marksK_len]; omega
  rw [hlen2] at ev2 hr2
  subst ev2
  subst ev
  have hlv : lenR h v = some (.int .i64 N, h) := by obtain ⟨u, rfl, _⟩ := r; simp [hN]
  simp [c_colonnadelaw02_kept_colonnadelaw02_tall, hlv, f0, e2]
  refine go_loopK (fun kk ks h2 => ∃ (i : Nat), kk = M - i ∧ i ≤ M ∧ ks = [(1, .slice b N c), (5, .slice b2 M c2), (6, .int .i64 i)] ∧ h2 = h) (n := M) ⟨0, rfl, by omega, rfl, rfl⟩ (by simp) ?_
  rintro I hI kk ks e h3 ⟨i, rfl, hi, rfl, rfl⟩
  simp
  refine branch_dec (fun hlt => ?_) (fun hge => ?_)
  · have hiM : i < M := by omega
    have e4 : IntKind.i64.wrap ((i : Int) + 1) = ((i + 1 : Nat) : Int) := by rw [wrap_i64 (by omega) (by omega)]; omega
    obtain ⟨a, rfl, hla⟩ := hr2 i hiM
    by_cases hiN : i < N
    · have hget : (cs.map (kv .u16) ++ (marksK 66).map (kv .u16))[i]? = some (.int .u16 (wi (numA cs i))) := by
        rw [List.getElem?_append_left (by simp; omega)]; exact kv_get (by omega)
      have hld := hla i _ hget
      obtain ⟨a', rfl, hla'⟩ := hr i hiN
      have hld' := hla' i _ (u64_get (by omega))
      have fw := wrapk_u16 (numA cs i)
      rw [cutB_eq (by omega) (hk i (by omega))] at fw
      have hiN' : ¬ (N : Int) ≤ i := by omega
      have hiN2 : ¬ N ≤ i := by omega
      simp [-wrap_u8_wi, hiN, hiN', hiN2, hiM, hld, hld', fw, e4]
      exact ⟨M - (i + 1), by omega, hI _ _ _ _ ⟨i + 1, rfl, by omega, rfl, rfl⟩ (by simp)⟩
    · have hget : (cs.map (kv .u16) ++ (marksK 66).map (kv .u16))[i]? = some (.int .u16 (wi (BitVec.ofNat 64 (100 + (i - N))))) := by
        rw [List.getElem?_append_right (by simp; omega)]
        have : i - N < 66 := by omega
        simp [marksK, hN, this]; rfl
      have f1 : IntKind.i64.wrap (100 + (i : Int)) = ((100 + i : Nat) : Int) := by rw [wrap_i64 (by omega) (by omega)]; omega
      obtain ⟨n1, hn1⟩ : ∃ x, 100 + i = x := ⟨_, rfl⟩
      rw [hn1] at f1
      have f3 : IntKind.i64.wrap ((n1 : Int) - N) = ((100 + (i - N) : Nat) : Int) := by rw [wrap_i64 (by omega) (by omega)]; omega
      have f2 := @wrapn_u16 (100 + (i - N)) (by omega)
      obtain ⟨x, hx⟩ : ∃ x, BitVec.ofNat 64 (100 + (i - N)) = x := ⟨_, rfl⟩
      rw [hx] at hget f2
      obtain ⟨n2, hn2⟩ : ∃ x, 100 + (i - N) = x := ⟨_, rfl⟩
      rw [hn2] at f2 f3
      have hld := hla i _ hget
      have hiN' : (N : Int) ≤ i := by omega
      have hiN2 : N ≤ i := by omega
      simp [-wrap_u8_wi, hiN, hiN', hiN2, hiM, hld, f1, f2, f3, e4]
      exact ⟨M - (i + 1), by omega, hI _ _ _ _ ⟨i + 1, rfl, by omega, rfl, rfl⟩ (by simp)⟩
  · have hil : i = M := by omega
    subst hil
    simp
    exact hQ _ _ ⟨rfl, rfl⟩

theorem spoil_colonnadelaw02_tall_spec {h : Heap} {v : Value} {q : Nat} {cs : List (BitVec 64)} (o : Own h v q (cs.map (kv .u16))) (hk : ofKind 16 cs) (hl : cs.length * 8 ≤ 140737488351232) :
    Gives P T (.fn F_colonnadelaw02_spoil_colonnadelaw02_tall) [v] h fun r h' => Chg (· = q) h h' := by
  refine gives_by t_colonnadelaw02_spoil_colonnadelaw02_tall (by simp [c_colonnadelaw02_spoil_colonnadelaw02_tall]) fun Q hQ => ?_
  obtain ⟨N, hN⟩ : ∃ N, cs.length = N := ⟨_, rfl⟩
  rw [hN] at hl
  obtain ⟨b, c, ev, _⟩ := o.shape
  simp only [List.length_map, hN] at ev
  simp [c_colonnadelaw02_spoil_colonnadelaw02_tall]
  refine go_loopK (fun k ks h2 => ∃ (i : Nat) (cs : List (BitVec 64)), k = N - i ∧ i ≤ N ∧ ks = [(0, v), (2, .int .i64 i)] ∧ cs.length = N ∧ ofKind 16 cs ∧ Own h2 v q (cs.map (kv .u16)) ∧ Chg (· = q) h h2) (n := N)
    ⟨0, cs, rfl, by omega, rfl, hN, hk, o, Chg.refl _⟩ (by simp) ?_
  rintro I hI k ks e h3 ⟨i, cs, rfl, hi, rfl, hN, hk, ow, gg⟩
  simp [ev]
  refine branch_dec (fun hlt => ?_) (fun hge => ?_)
  · have hil : i < N := by omega
    have e4 : IntKind.i64.wrap ((i : Int) + 1) = ((i + 1 : Nat) : Int) := by rw [wrap_i64 (by omega) (by omega)]; omega
    have fx : abin .xor .u16 (wi (numA cs i)) 85 = some (.int .u16 (wi (numA cs i ^^^ 85#64))) := xork_u16 (y := 85#64) (hk i (by omega)) (by decide)
    obtain ⟨u, cc, h', e1, es, o', c', n'⟩ := ow.set (i := i) (by simp; omega) (x := .int .u16 (wi (numA cs i ^^^ 85#64))) (by simp)
    obtain ⟨a, c2, e5, _, hld⟩ := ow.get (i := i) (kv_get (by omega))
    have hb : b = some ⟨q, 0, some u⟩ := by rw [ev] at e1; simp at e1; exact e1.1
    have ha : a = ⟨q, 0, some u⟩ := by rw [e1] at e5; simp at e5; exact e5.1.symm
    subst hb
    subst ha
    simp at hld
    simp [-ab8_xor, hil, hld, fx, es, e4]
    refine ⟨N - (i + 1), by omega, hI _ _ _ _ ⟨i + 1, cs.set i (numA cs i ^^^ 85#64), rfl, by omega, rfl, by simpa using hN, ofKind_set hk (xor_lt (hk i (by omega)) (by decide)), ?_, gg.trans c'⟩ (by simp [ev])⟩
    rw [List.map_set]; exact o'
  · have hil : i = N := by omega
    subst hil
    simp
    refine go_loopK (fun kk ks h2 => ∃ (k : Nat) (u : Value) (q' : Nat) (l : List Value), kk = 66 - k ∧ k ≤ 66 ∧ ks = [(0, u), (3, .int .i64 k)] ∧ Own h2 u q' l ∧ l.length = i + k ∧ Chg (· = q) h h2 ∧ (q' = q ∨ h.dyn.length ≤ q')) (n := 66)
      ⟨0, v, q, cs.map (kv .u16), rfl, by omega, rfl, ow, by simp [hN], gg, .inl rfl⟩ (by simp [ev]) ?_
    rintro I2 hI2 kk2 ks2 e2 h4 ⟨k, u, q', l, rfl, hk, rfl, ow, hll, gg, hq⟩
    simp
    by_cases hlt : k < 66
    · have hlt' : (k : Int) < 66 := by omega
      have f1 : IntKind.i64.wrap (7 + (k : Int)) = ((7 + k : Nat) : Int) := by rw [wrap_i64 (by omega) (by omega)]; omega
      have f2 := @wrapn_u16 (7 + k) (by omega)
      obtain ⟨x, hx⟩ : ∃ x, BitVec.ofNat 64 (7 + k) = x := ⟨_, rfl⟩
      obtain ⟨n1, hn1⟩ : ∃ x, 7 + k = x := ⟨_, rfl⟩
      rw [hx, hn1] at f2
      rw [hn1] at f1
      have e4 : IntKind.i64.wrap ((k : Int) + 1) = ((k + 1 : Nat) : Int) := by rw [wrap_i64 (by omega) (by omega)]; omega
      obtain ⟨v', h', q2, e8, o', c', l', d'⟩ := ow.push (bytes := 2) (z := .int .u16 0) (x := .int .u16 (wi x)) (by simp) (by omega) (by omega)
      simp [hlt, hlt', f1, f2, e8, e4]
      refine ⟨66 - (k + 1), by omega, hI2 _ _ _ _ ⟨k + 1, v', q2, _, rfl, by omega, rfl, o', by simp; omega, gg.after c' (fun n hn hb => by have := hb.1; omega), ?_⟩ (by simp)⟩
      have := gg.len
      rcases d' with ⟨h1, _⟩ | h1 <;> omega
    · have hk66 : k = 66 := by omega
      subst hk66
      simp
      exact hQ _ _ gg

end Go.Ax
