/- Seat frame: a frame opened. -/
import Derived.Test.YthfgelbbcdgopaaFB
namespace Go.Ax
set_option linter.unusedVariables false
set_option linter.unusedSimpArgs false

theorem esOk_aadd {h : Heap} {a : Addr} {k : Nat} : esOk h 1 (aadd a k) = esOk h 1 a := rfl

/-- The eight bytes ahead, and those behind. -/
theorem Bytes.cut8 {h : Heap} {v : Value} {bs : List (BitVec 8)} (r : Bytes h v bs) (h8 : 8 ≤ bs.length) :
    (∃ v2, aslice h 1 v (some (.int .i64 8)) none none = some v2 ∧ Bytes h v2 (bs.drop 8)) ∧ (∃ v3, aslice h 1 v none (some (.int .i64 8)) none = some v3 ∧ Bytes h v3 (bs.take 8)) := by
  obtain ⟨rd, ct⟩ := r
  rcases rd with ⟨rfl, h0⟩ | ⟨a, c, rfl, hl⟩
  · have := congrArg List.length h0; rw [List.length_map, List.length_nil] at this; omega
  rw [List.length_map] at ct ⊢
  obtain ⟨k1, k2, k3⟩ := ct a _ c rfl (by omega)
  have hd : ∀ (a2 : Addr) (c2 : Nat), (8 < bs.length → a2 = aadd a 8) → Reads h (.slice (some a2) (bs.length - 8) c2) ((bs.drop 8).map bv) := by
    intro a2 c2 ha
    refine .inr ⟨a2, c2, by simp, fun i x hx => ?_⟩
    have hi := (List.getElem?_eq_some_iff.1 hx).1
    simp only [List.length_map, List.length_drop] at hi
    rw [ha (by omega)]
    have := hl (8 + i) x (by rw [List.getElem?_map] at hx ⊢; rw [List.getElem?_drop] at hx; exact hx)
    rw [← this]; congr 1; simp [aadd]; omega
  have ht : ∀ (c2 : Nat), Reads h (.slice (some a) 8 c2) ((bs.take 8).map bv) := by
    intro c2
    refine .inr ⟨a, c2, by simp; omega, fun i x hx => ?_⟩
    have hi := (List.getElem?_eq_some_iff.1 hx).1
    simp only [List.length_map, List.length_take] at hi
    exact hl i x (by rw [List.getElem?_map, List.getElem?_take_of_lt (by omega)] at hx; rw [List.getElem?_map]; exact hx)
  by_cases hc : c < gcap
  · have hn := k2 hc
    constructor
    · refine ⟨.slice (if c = 8 then some a else some (aadd a 8)) (bs.length - 8) (c - 8), ?_, ?_, ?_⟩
      · have e1 : (8 : Int) ≤ (bs.length : Int) := by omega
        simp [aslice, hc, cutK, optBound, asliceBound, e1]
      · by_cases h88 : c = 8
        · rw [if_pos h88]; exact hd a _ (fun h => by omega)
        · rw [if_neg h88]; exact hd _ _ (fun _ => rfl)
      · intro a2 n2 c2 e hn2
        by_cases h88 : c = 8
        · rw [if_pos h88] at e; simp only [Value.slice.injEq, Option.some.injEq] at e
          obtain ⟨rfl, rfl, rfl⟩ := e; omega
        · rw [if_neg h88] at e; simp only [Value.slice.injEq, Option.some.injEq] at e
          obtain ⟨rfl, rfl, rfl⟩ := e
          exact ⟨k1, fun _ => by omega, by omega⟩
    · refine ⟨.slice (some a) 8 c, ?_, ht c, ?_⟩
      · have e1 : (8 : Int) ≤ (c : Int) := by omega
        simp [aslice, hc, cutK, optBound, asliceBound, e1]
      · intro a2 n2 c2 e hn2
        simp only [Value.slice.injEq, Option.some.injEq] at e
        obtain ⟨rfl, rfl, rfl⟩ := e
        exact ⟨k1, fun _ => by omega, by omega⟩
  · have hcg : c = gcap := by omega
    subst hcg
    constructor
    · by_cases h9 : 8 < bs.length
      · refine ⟨.slice (some (aadd a 8)) (bs.length - 8) gcap, ?_, hd _ _ (fun _ => rfl), ?_⟩
        · have e1 : (8 : Int) ≤ (bs.length : Int) := by omega
          simp [aslice, optBound, asliceBound, e1, h9, k1]
        · intro a2 n2 c2 e hn2
          simp only [Value.slice.injEq, Option.some.injEq] at e
          obtain ⟨rfl, rfl, rfl⟩ := e
          exact ⟨k1, fun h => absurd h (Nat.lt_irrefl _), Nat.le_refl _⟩
      · have h88 : bs.length = 8 := by omega
        refine ⟨.slice (some ⟨0, 0, none⟩) 0 (gcap + 1), ?_, ?_, ?_⟩
        · simp [aslice, optBound, asliceBound, h88]
        · have := hd ⟨0, 0, none⟩ (gcap + 1) (fun h => by omega)
          rw [h88] at this; exact this
        · intro a2 n2 c2 e hn2
          simp only [Value.slice.injEq] at e
          omega
    · refine ⟨.slice (some a) 8 gcap, ?_, ht _, ?_⟩
      · have e1 : (8 : Int) ≤ ((max bs.length (topOf h 1 a bs.length) : Nat) : Int) := by omega
        simp only [aslice, Nat.lt_irrefl, ↓reduceIte, Option.isSome_none, Bool.false_eq_true, ne_eq, not_true_eq_false, Option.isNone_some, optBound, asliceBound]
        rw [if_pos ⟨by omega, e1⟩]
        simp
      · intro a2 n2 c2 e hn2
        simp only [Value.slice.injEq, Option.some.injEq] at e
        obtain ⟨rfl, rfl, rfl⟩ := e
        exact ⟨k1, fun h => absurd h (Nat.lt_irrefl _), Nat.le_refl _⟩

theorem low_step8 {bs : List (BitVec 8)} {j : Nat} : wordB bs (8 * (j + 1)) * 256#64 + (byteA bs j).setWidth 64 = wordB bs (8 * j) := by
  have e1 : wordB bs (8 * (j + 1)) * 256#64 = wordB bs (8 * (j + 1)) <<< 8 := by
    rw [BitVec.shiftLeft_eq_mul_twoPow]; rfl
  rw [e1, BitVec.add_eq_or_of_and_eq_zero]
  · apply BitVec.eq_of_getLsbD_eq
    intro k hk
    rw [BitVec.getLsbD_or, BitVec.getLsbD_shiftLeft, BitVec.getLsbD_setWidth, wordB, wordB, bvOf_bit _ _ _ (Nat.le_refl _), bvOf_bit _ _ _ (Nat.le_refl _)]
    by_cases h8 : k < 8
    · have : bbit bs (8 * j + k) = (byteA bs j).getLsbD k := by unfold bbit; rw [show (8 * j + k) / 8 = j by omega, show (8 * j + k) % 8 = k by omega]
      simp [h8, hk, this]
    · rw [BitVec.getLsbD_of_ge (byteA bs j) k (by omega), show 8 * (j + 1) + (k - 8) = 8 * j + k by omega]
      have : k - 8 < 64 := by omega
      simp [h8, hk, this]
  · apply BitVec.eq_of_getLsbD_eq
    intro k hk
    rw [BitVec.getLsbD_and, BitVec.getLsbD_shiftLeft, BitVec.getLsbD_setWidth]
    by_cases h8 : k < 8
    · simp [h8]
    · rw [BitVec.getLsbD_of_ge (byteA bs j) k (by omega)]; simp

theorem Low_spec {h : Heap} {v : Value} {bs : List (BitVec 8)} (r : Reads h v (bs.map bv)) (hl : bs.length ≤ 1000) :
    Gives P T (.fn F_colonnaderef08_Low) [v] h fun r h' => r = .int .u64 (wi (wordB bs 0)) ∧ h' = h := by
  obtain ⟨b, c, rfl, hr⟩ := r.shape
  simp only [List.length_map] at hr ⊢
  obtain ⟨N, hN⟩ : ∃ N, bs.length = N := ⟨_, rfl⟩
  rw [hN] at hr hl ⊢
  refine gives_by t_colonnaderef08_Low (by simp [c_colonnaderef08_Low]) fun Q hQ => ?_
  have f0 : IntKind.i64.wrap ((N : Int) - 1) = (N : Int) - 1 := wrap_i64 (by omega) (by omega)
  have hz : wordB bs (8 * N) = 0#64 := by
    apply BitVec.eq_of_getLsbD_eq
    intro k hk
    rw [wordB, bvOf_bit _ _ _ (Nat.le_refl _), bbit_out (by omega)]; simp
  simp [c_colonnaderef08_Low, f0]
  refine go_loopK (fun kk ks h2 => ∃ (j : Nat), kk = j + 1 ∧ j ≤ N ∧ ks = [(0, .slice b N c), (3, .int .u64 (wi (wordB bs (8 * j)))), (4, .int .i64 ((j : Int) - 1))] ∧ h2 = h) (n := N + 1) ⟨N, rfl, by omega, rfl, rfl⟩ (by simp [hz]) ?_
  rintro I hI kk ks e h3 ⟨j, rfl, hj, rfl, rfl⟩
  simp
  by_cases hj0 : j = 0
  · subst hj0
    simp
    exact hQ _ _ ⟨rfl, rfl⟩
  · obtain ⟨m, rfl⟩ : ∃ m, j = m + 1 := ⟨j - 1, by omega⟩
    have e0 : ((m + 1 : Nat) : Int) - 1 = m := by omega
    have hmN : m < N := by omega
    have f1 : IntKind.i64.wrap ((m : Int) - 1) = (m : Int) - 1 := wrap_i64 (by omega) (by omega)
    obtain ⟨a, rfl, hla⟩ := hr m hmN
    have hld := hla m _ (bv_get (by omega))
    have hge : (1 : Int) ≤ (m : Int) + 1 := by omega
    simp [hge, hmN, hld, f1, low_step8]
    exact ⟨m + 1, by omega, hI _ _ _ _ ⟨m, rfl, by omega, rfl, rfl⟩ (by simp)⟩


theorem own_spec {h : Heap} {v : Value} {bs : List (BitVec 8)} (r : Reads h v (bs.map bv)) (hl : bs.length ≤ 140737488351232) :
    Gives P T (.fn F_frame_own) [v] h fun r h' => ∃ q, Own h' r q (bs.map bv) ∧ Grow h h' ∧ h.dyn.length ≤ q ∧ q < h'.dyn.length := by
  obtain ⟨b, c, ev, _⟩ := r.shape
  simp only [List.length_map] at ev
  obtain ⟨N, hN⟩ : ∃ N, bs.length = N := ⟨_, rfl⟩
  rw [hN] at ev hl
  refine gives_by t_frame_own (by simp [c_frame_own]) fun Q hQ => ?_
  have hlen : lenR h v = some (.int .i64 N, h) := by rw [ev]; simp
  simp [c_frame_own, hlen, mkS_nat (h := h) (bytes := 1) (n := N) (z := .int .u8 0) (by omega) (by omega)]
  have row0 := RowAt.new h (List.replicate N (Value.int .u8 0)) 1
  have hg : (bs.map bv).all goodC = true := by rw [List.all_eq_true]; intro x hx; rw [List.mem_map] at hx; obtain ⟨y, _, rfl⟩ := hx; simp [bv]
  obtain ⟨h2, e2, row2, c2, n2⟩ := row0.storeN (bs.map bv) 0 (by simp [hN]) hg
  have hs : slen v = some N := by rw [ev]; rfl
  have hf : firstN (hnew h (List.replicate N (.int .u8 0)) 1) 1 N v = some (bs.map bv) := by
    rcases r.grow (Grow.new h (List.replicate N (.int .u8 0)) 1) with ⟨rfl, h0⟩ | ⟨a, c, rfl, hl⟩
    · rw [h0]; rfl
    · simp only [firstN, Nat.mul_one]
      have := loadN_of _ _ hl
      rw [List.length_map, hN] at this
      exact this
  have hcp : acopy (hnew h (List.replicate N (.int .u8 0)) 1) 1 (.slice (some ⟨h.dyn.length, 0, some 0⟩) N N) v = some (.int .i64 (N : Nat), h2) := by
    simp only [acopy, hs, Nat.min_self, hf, e2]
  have hrow : (List.replicate N (Value.int .u8 0)).take 0 ++ bs.map bv ++ (List.replicate N (Value.int .u8 0)).drop (0 + (bs.map bv).length) = bs.map bv := by simp [hN]
  rw [hrow] at row2
  have hcut : aslice h2 1 (.slice (some ⟨h.dyn.length, 0, some 0⟩) N N) none (some (.int .i64 N)) (some (.int .i64 N)) = some (.slice (some ⟨h.dyn.length, 0, some 0⟩) N N) := by
    have : N < gcap := by unfold gcap; omega
    simp [aslice, this, cutK, optBound, asliceBound]
  simp [hcp, hcut]
  refine hQ _ _ ⟨h.dyn.length, .inr (.inr ⟨0, [], by simp [hN], by simp [hN]; unfold gcap; omega, by simpa using row2⟩), (Grow.new h _ 1).after c2 (fun n hn hb => by omega), Nat.le_refl _, row2.lt⟩

/-- The base that stands ahead. -/
def baseF (bs : List (BitVec 8)) : Int := IntKind.i64.wrap (wi (wordB (bs.take 8) 0))
/-- Is one of the first i codes 0, or are there none over 0? -/
def zeroF (bs : List (BitVec 8)) (w n i : Nat) (base : Int) : Bool := (decide (n = 0) && decide (base = 0)) || (List.range i).any fun j => decide (laneB bs w j = 0#64)
theorem zeroF_succ (bs : List (BitVec 8)) (w n i : Nat) (base : Int) : zeroF bs w n (i + 1) base = (zeroF bs w n i base || decide (laneB bs w i = 0#64)) := by
  simp [zeroF, List.range_succ, Bool.or_assoc]

/-- Why a frame is none. -/
def openE (bs : List (BitVec 8)) (w n : Int) : Int :=
  if ¬ bytesE n w = 0 then bytesE n w else if bs.length < 8 then 22 else faultE (bs.drop 8) w n

theorem OpenFrame_bad {h : Heap} {v : Value} {bs : List (BitVec 8)} (r : Bytes h v bs) (hl : bs.length ≤ 140737488351232) {w n : Int} (he : ¬ openE bs w n = 0) :
    Gives P T (.fn F_frame_OpenFrame) [v, .int .i64 n, .int .i64 w] h fun r h' => r = .tuple #[.int .i64 0, .slice none 0 0, .int .i64 (openE bs w n)] ∧ h' = h := by
  obtain ⟨b, c, ev, hsh⟩ := r.reads.shape
  clear hsh
  simp only [List.length_map] at ev
  obtain ⟨N, hN⟩ : ∃ N, bs.length = N := ⟨_, rfl⟩
  have hlen : ∀ h, lenR h v = some (.int .i64 N, h) := fun h => by rw [ev, hN]; simp
  refine gives_by t_frame_OpenFrame (by simp [c_frame_OpenFrame]) fun Q hQ => ?_
  simp [c_frame_OpenFrame]
  by_cases hb : bytesE n w = 0
  case neg =>
    have : openE bs w n = bytesE n w := by unfold openE; rw [if_pos hb]
    rw [this] at hQ
    refine got_call (Bytes_bad hb) ?_
    rintro _ _ ⟨rfl, rfl⟩
    simp [hb]
    exact hQ _ _ ⟨rfl, rfl⟩
  obtain ⟨n, w, rfl, rfl, hn, hw⟩ := bytesE_ok hb
  refine got_call (Bytes_spec hn hw) ?_
  rintro _ _ ⟨rfl, rfl⟩
  rename_i h
  by_cases h8 : N < 8
  · have : openE bs w n = 22 := by unfold openE; rw [if_neg (by simpa using hb), if_pos (by omega)]
    rw [this] at hQ
    have h8' : (N : Int) < 8 := by omega
    simp [hlen, h8', h8]
    exact hQ _ _ ⟨rfl, rfl⟩
  have h8' : ¬ (N : Int) < 8 := by omega
  have hE : openE bs w n = faultE (bs.drop 8) w n := by unfold openE; rw [if_neg (by simpa using hb), if_neg (by omega)]
  rw [hE] at hQ he
  obtain ⟨⟨v2, e2, B2⟩, v3, e3, B3⟩ := r.cut8 (by omega)
  simp [hlen, h8', h8, e3]
  have hw0 := @Word_spec h v3 (bs.take 8) B3 0 (by simp; omega) (by omega)
  refine got_call hw0 ?_
  rintro _ _ ⟨rfl, rfl⟩
  rename_i h
  simp [e2]
  refine got_call (Unpack_uint64_bad B2 (by simp; omega) he) ?_
  rintro _ _ ⟨rfl, rfl⟩
  simp [he]
  exact hQ _ _ ⟨rfl, rfl⟩

theorem refOpenFrame_bad {h : Heap} {v : Value} {bs : List (BitVec 8)} (r : Bytes h v bs) (hl : bs.length ≤ 140737488351232) {w n : Int} (he : ¬ openE bs w n = 0) :
    Gives P T (.fn F_colonnaderef11_OpenFrame) [v, .int .i64 n, .int .i64 w] h fun r h' => r = .tuple #[.int .i64 0, .slice none 0 0, .int .i64 (openE bs w n)] ∧ h' = h := by
  obtain ⟨b, c, ev, hsh⟩ := r.reads.shape
  clear hsh
  simp only [List.length_map] at ev
  obtain ⟨N, hN⟩ : ∃ N, bs.length = N := ⟨_, rfl⟩
  have hlen : ∀ h, lenR h v = some (.int .i64 N, h) := fun h => by rw [ev, hN]; simp
  refine gives_by t_colonnaderef11_OpenFrame (by simp [c_colonnaderef11_OpenFrame]) fun Q hQ => ?_
  simp [c_colonnaderef11_OpenFrame]
  by_cases hb : bytesE n w = 0
  case neg =>
    have : openE bs w n = bytesE n w := by unfold openE; rw [if_pos hb]
    rw [this] at hQ
    refine got_call (refBytes_bad hb) ?_
    rintro _ _ ⟨rfl, rfl⟩
    simp [hb]
    exact hQ _ _ ⟨rfl, rfl⟩
  obtain ⟨n, w, rfl, rfl, hn, hw⟩ := bytesE_ok hb
  refine got_call (refBytes_spec hn hw) ?_
  rintro _ _ ⟨rfl, rfl⟩
  rename_i h
  by_cases h8 : N < 8
  · have : openE bs w n = 22 := by unfold openE; rw [if_neg (by simpa using hb), if_pos (by omega)]
    rw [this] at hQ
    have h8' : (N : Int) < 8 := by omega
    simp [hlen, h8', h8]
    exact hQ _ _ ⟨rfl, rfl⟩
  have h8' : ¬ (N : Int) < 8 := by omega
  have hE : openE bs w n = faultE (bs.drop 8) w n := by unfold openE; rw [if_neg (by simpa using hb), if_neg (by omega)]
  rw [hE] at hQ he
  obtain ⟨⟨v2, e2, B2⟩, v3, e3, B3⟩ := r.cut8 (by omega)
  simp [hlen, h8', h8, e3]
  refine got_call (Low_spec B3.reads (by simp; omega)) ?_
  rintro _ _ ⟨rfl, rfl⟩
  rename_i h
  simp [e2]
  refine got_call (refUnpack_bad B2.reads (by simp; omega) (kind := 64) he) ?_
  rintro _ _ ⟨rfl, rfl⟩
  simp [he]
  exact hQ _ _ ⟨rfl, rfl⟩

theorem openE_ok {bs : List (BitVec 8)} {w n : Int} (h : openE bs w n = 0) : 8 ≤ bs.length ∧ ∃ w' n' : Nat, w = w' ∧ n = n' ∧ Fine (bs.drop 8) w' n' := by
  unfold openE at h
  split at h
  · rename_i h1; exact absurd h h1
  split at h; · omega
  exact ⟨by omega, faultE_fine h⟩

/-- A frame's codes are good. -/
def goodF (bs : List (BitVec 8)) (w n : Nat) : Prop := within (bs.drop 8) w n (baseF bs) ∧ zeroF (bs.drop 8) w n n (baseF bs) = true

end Go.Ax
