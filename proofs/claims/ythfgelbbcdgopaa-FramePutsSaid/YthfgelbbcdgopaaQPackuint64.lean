/- Pack at uint64: numbers as lanes. -/
import Derived.Test.YthfgelbbcdgopaaSx8
import Derived.Test.YthfgelbbcdgopaaQWidth
import Derived.Test.YthfgelbbcdgopaaQWord
import Derived.Test.YthfgelbbcdgopaaVL
set_option linter.unusedVariables false
set_option linter.unusedSimpArgs false
namespace Go.Proofs.Ythfgelbbcdgopaa.S
open Go.RowKit Go.Proofs.YthfgelbbcdgopaaV Go.Proofs.YthfgelbbcdgopaaW.PrintWords Go.Proofs.YthfgelbbcdgopaaW.PrintLast Go.Proofs.YthfgelbbcdgopaaW.PrintMore

/-- One round's bits. -/
theorem uint64_step (held v count take : Nat) (hh : held < 2 ^ count) (hc : count + take ≤ 8) (hv : v < 18446744073709551616) :
    Go.bits .or .u64 (held : Int) (shl .u64 (Go.bits .and .u64 (v : Int) (IntKind.u64.wrap ((shl .u64 1 (take : Int)) - 1))) (count : Int)) = ((held + v % 2 ^ take * 2 ^ count : Nat) : Int) := by
  have h1 : 2 ^ take ≤ 2 ^ 8 := Nat.pow_le_pow_right (by decide) (by omega)
  have h0 := Nat.two_pow_pos take
  have h2 : held < 2 ^ 8 := Nat.lt_of_lt_of_le hh (Nat.pow_le_pow_right (by decide) (by omega))
  rw [show (1 : Int) = ((1 : Nat) : Int) from rfl, shl_u64' (by omega), wrap_u64, Nat.one_mul, Nat.mod_eq_of_lt (show 2 ^ take < 18446744073709551616 by omega)]
  rw [show (((2 ^ take : Nat) : Int) - ((1 : Nat) : Int)) % 18446744073709551616 = ((2 ^ take - 1 : Nat) : Int) by omega]
  rw [and_u64 hv (by omega), and_mask, shl_u64' (by omega)]
  have h3 : v % 2 ^ take < 2 ^ take := Nat.mod_lt _ h0
  have h4 : v % 2 ^ take * 2 ^ count < 2 ^ take * 2 ^ count := Nat.mul_lt_mul_of_pos_right h3 (Nat.two_pow_pos _)
  rw [← Nat.pow_add] at h4
  have h5 : 2 ^ (take + count) ≤ 2 ^ 8 := Nat.pow_le_pow_right (by decide) (by omega)
  rw [Nat.mod_eq_of_lt (show v % 2 ^ take * 2 ^ count < 18446744073709551616 by omega), or_u64 (by omega) (by omega), or_add hh]
theorem uint64_l1 (l : List Int) (len i : Int) (w T : Nat) (hw : w ≤ 64) (left : Nat) : ∀ (k : Nat) (out : List Int) (held count v : Nat),
    Bytes out → held < 2 ^ count → count < 8 → left ≤ 64 → v < 2 ^ left → num out + 2 ^ (8 * out.length) * (held + 2 ^ count * v) = T → out.length + left < 1000000000 → left + 1 ≤ k →
    ∃ (k' : Nat) (out' : List Int) (held' count' : Nat), k ≤ k' + left + 1 ∧ pack_Pack_uint64.l1 k (w : Int) out (held : Int) (count : Int) (v : Int) (left : Int) l len i = pack_Pack_uint64.l0 k' (w : Int) out' (held' : Int) (count' : Int) l len (wrap64 (i + 1)) ∧
      Bytes out' ∧ held' < 2 ^ count' ∧ count' < 8 ∧ 8 * out'.length + count' = 8 * out.length + count + left ∧ num out' + 2 ^ (8 * out'.length) * held' = T := by
  induction left using Nat.strongRecOn with
  | _ left ih =>
    intro k out held count v hb hh hc hl hv hT hlen hk
    obtain ⟨k, rfl⟩ : ∃ m, k = m + 1 := ⟨k - 1, by omega⟩
    rw [pack_Pack_uint64.l1]
    by_cases h0 : left = 0
    · subst h0
      rw [if_neg (by omega)]
      have : v = 0 := by simpa using hv
      subst this
      exact ⟨k, out, held, count, by omega, rfl, hb, hh, hc, by omega, by simpa using hT⟩
    · rw [if_pos (by omega), w64 (n := 8 - (count : Int)) (by omega) (by omega)]
      obtain ⟨take, ht⟩ : ∃ t : Nat, t = min left (8 - count) := ⟨_, rfl⟩
      have hm : mn (left : Int) (8 - (count : Int)) = (take : Int) := by unfold mn; split <;> omega
      rw [hm, if_pos (by omega), if_pos (by omega), w64 (n := (count : Int) + (take : Int)) (by omega) (by omega), w64 (n := (left : Int) - (take : Int)) (by omega) (by omega)]
      have hv2 : v < 18446744073709551616 := Nat.lt_of_lt_of_le hv (Nat.pow_le_pow_right (by decide) hl)
      rw [uint64_step held v count take hh (by omega) hv2, shr_u64' (show take ≤ 64 by omega), show (left : Int) - (take : Int) = ((left - take : Nat) : Int) by omega, show (count : Int) + (take : Int) = ((count + take : Nat) : Int) by omega]
      have hp0 := Nat.two_pow_pos take
      have hmod : v % 2 ^ take < 2 ^ take := Nat.mod_lt _ hp0
      have hh2 : held + v % 2 ^ take * 2 ^ count < 2 ^ (count + take) := by
        rw [Nat.pow_add]
        have : (v % 2 ^ take + 1) * 2 ^ count ≤ 2 ^ take * 2 ^ count := Nat.mul_le_mul_right _ hmod
        rw [Nat.add_mul, Nat.one_mul, Nat.mul_comm (2 ^ take)] at this
        omega
      have hv3 : v / 2 ^ take < 2 ^ (left - take) := by
        rw [Nat.div_lt_iff_lt_mul hp0, ← Nat.pow_add, show left - take + take = left by omega]; exact hv
      have hsplit : held + 2 ^ count * v = held + v % 2 ^ take * 2 ^ count + 2 ^ (count + take) * (v / 2 ^ take) := by
        have := Nat.div_add_mod v (2 ^ take)
        rw [Nat.pow_add, Nat.mul_assoc, Nat.mul_comm (v % 2 ^ take), Nat.add_assoc, ← Nat.mul_add, Nat.add_comm (v % 2 ^ take), this]
      rw [hsplit] at hT
      by_cases h8 : count + take = 8
      · rw [if_pos (by omega), if_pos (by omega)]
        have h256 : held + v % 2 ^ take * 2 ^ count < 256 := by rw [h8] at hh2; exact hh2
        rw [show ((held + v % 2 ^ take * 2 ^ count : Nat) : Int) % 256 = ((held + v % 2 ^ take * 2 ^ count : Nat) : Int) by omega]
        obtain ⟨k', out', held', count', a1, a2, a3, a4, a5, a6, a7⟩ := ih (left - take) (by omega) k (out ++ [((held + v % 2 ^ take * 2 ^ count : Nat) : Int)]) 0 0 (v / 2 ^ take)
          (Bytes.append.2 ⟨hb, Bytes.cons.2 ⟨⟨by omega, by omega⟩, Bytes.nil⟩⟩) (by simp) (by omega) (by omega) hv3
          (by
            rw [← hT, num_append, List.length_append, h8, pow256]
            simp only [num, List.length_cons, List.length_nil, Int.toNat_natCast, Nat.mul_zero, Nat.add_zero, Nat.zero_add, Nat.pow_zero, Nat.one_mul, Nat.mul_add, Nat.mul_one, Nat.pow_add]
            rw [show (2 : Nat) ^ 8 = 256 from rfl]
            simp only [Nat.mul_assoc, Nat.add_assoc])
          (by simp; omega) (by omega)
        exact ⟨k', out', held', count', by omega, a2, a3, a4, a5, by simp at a6; omega, a7⟩
      · rw [if_neg (by omega)]
        obtain ⟨k', out', held', count', a1, a2, a3, a4, a5, a6, a7⟩ := ih (left - take) (by omega) k out (held + v % 2 ^ take * 2 ^ count) (count + take) (v / 2 ^ take) hb hh2 (by omega) (by omega) hv3 hT (by omega) (by omega)
        exact ⟨k', out', held', count', by omega, a2, a3, a4, a5, by omega, a7⟩
theorem uint64_l0 (l : List Int) (w : Nat) (hw : w ≤ 64) (hn : l.length ≤ 16777216) (hl : Fit 64 l) (d : Nat) : ∀ (k i : Nat) (out : List Int) (held count : Nat),
    i + d = l.length → Bytes out → held < 2 ^ count → count < 8 → 8 * out.length + count = i * w → num out + 2 ^ (8 * out.length) * held = lanes w (l.take i) → Fit w (l.take i) → d * (w + 2) + 1 ≤ k →
    (Fit w l → ∃ b, pack_Pack_uint64.l0 k (w : Int) out (held : Int) (count : Int) l (l.length : Int) (i : Int) = some (b, 0) ∧ Bytes b ∧ b.length = (l.length * w + 7) / 8 ∧ num b = lanes w l) ∧
    (¬ Fit w l → pack_Pack_uint64.l0 k (w : Int) out (held : Int) (count : Int) l (l.length : Int) (i : Int) = some ([], 21)) := by
  induction d with
  | zero =>
    intro k i out held count hi hb hh hc hlen hT hf hk
    obtain ⟨k, rfl⟩ : ∃ m, k = m + 1 := ⟨k - 1, by omega⟩
    have hil : i = l.length := by omega
    subst hil
    rw [List.take_of_length_le (Nat.le_refl _)] at hT hf
    refine ⟨fun _ => ?_, fun h => absurd hf h⟩
    rw [pack_Pack_uint64.l0, if_neg (by omega)]
    have hbd : l.length * w ≤ 16777216 * 64 := Nat.mul_le_mul hn hw
    by_cases h0 : count = 0
    · subst h0
      rw [if_neg (by omega)]
      have : held = 0 := by simpa using hh
      subst this
      exact ⟨out, rfl, hb, by omega, by simpa using hT⟩
    · rw [if_pos (by omega), if_pos (by omega)]
      have h256 : held < 256 := Nat.lt_of_lt_of_le hh (Nat.pow_le_pow_right (show 0 < 2 by decide) (show count ≤ 8 by omega))
      rw [show (held : Int) % 256 = (held : Int) by omega]
      refine ⟨_, rfl, Bytes.append.2 ⟨hb, Bytes.cons.2 ⟨⟨by omega, by omega⟩, Bytes.nil⟩⟩, ?_, ?_⟩
      · simp; omega
      · rw [← hT, num_append, pow256]; simp [num]
  | succ d ih =>
    intro k i out held count hi hb hh hc hlen hT hf hk
    rw [Nat.succ_mul] at hk
    obtain ⟨k, rfl⟩ : ∃ m, k = m + 1 := ⟨k - 1, by omega⟩
    have hx := hl.get i
    obtain ⟨x, hxe⟩ : ∃ x : Nat, l.getD i 0 = (x : Int) := ⟨(l.getD i 0).toNat, by omega⟩
    have hrd : rd l (i : Int) = (x : Int) := by unfold rd; rw [Int.toNat_natCast, hxe]
    rw [hxe, Int.toNat_natCast] at hx
    have hx64 : x < 2 ^ 64 := Nat.lt_of_lt_of_le hx.2 (Nat.pow_le_pow_right (by decide) (by decide))
    have hbd : i * w ≤ 16777216 * 64 := Nat.mul_le_mul (by omega) hw
    rw [pack_Pack_uint64.l0, if_pos (by omega), if_pos (by omega), if_pos (by omega), hrd]
    obtain ⟨k0, rfl⟩ : ∃ m, k = m + 1 := ⟨k - 1, by omega⟩
    rw [width_is k0 x hx64]
    simp only [Option.bind_some]
    have hmem : l.getD i 0 ∈ l := by
      rw [List.getD_eq_getElem?_getD, List.getElem?_eq_getElem (show i < l.length by omega)]; exact List.getElem_mem _
    by_cases hfit : wid x ≤ w
    · rw [if_neg (by omega)]
      have hxw := wid_le.1 hfit
      have hts := lanes_take_succ (w := w) l i (by omega)
      rw [hxe, Int.toNat_natCast] at hts
      obtain ⟨k', out', held', count', a1, a2, a3, a4, a5, a6, a7⟩ := uint64_l1 l (l.length : Int) (i : Int) w (lanes w (l.take (i + 1))) hw w (k0 + 1) out held count x hb hh hc hw hxw
        (by rw [hts, ← hT, Nat.mul_add, ← Nat.mul_assoc, ← Nat.pow_add, hlen, Nat.mul_comm i w, Nat.add_assoc]) (by omega) (by omega)
      rw [a2, w64 (by omega) (by omega)]
      have hf2 : Fit w (l.take (i + 1)) := by
        rw [List.take_succ_eq_append_getElem (show i < l.length by omega)]
        refine Fit.append.2 ⟨hf, Fit.cons.2 ⟨?_, fun _ h => by cases h⟩⟩
        have : l[i]'(show i < l.length by omega) = (x : Int) := by
          rw [← hxe, List.getD_eq_getElem?_getD, List.getElem?_eq_getElem (show i < l.length by omega)]; rfl
        rw [this, Int.toNat_natCast]
        exact ⟨by omega, hxw⟩
      exact ih k' (i + 1) out' held' count' (by omega) a3 a4 a5 (by rw [Nat.add_mul i 1 w, Nat.one_mul]; omega) a7 hf2 (by omega)
    · rw [if_pos (by omega)]
      refine ⟨fun h => ?_, fun _ => rfl⟩
      exfalso
      have h2 := (h _ hmem).2
      rw [hxe, Int.toNat_natCast] at h2
      exact hfit (wid_le.2 h2)
/-- Pack of numbers of a width that may be: lanes, or ErrOver. -/
theorem uint64_pack (l : List Int) (w : Nat) (hw : w ≤ 64) (hn : l.length ≤ 16777216) (hl : Fit 64 l) (k : Nat) (hk : l.length * (w + 2) + 1 ≤ k) :
    (Fit w l → ∃ b, pack_Pack_uint64.f k l (w : Int) = some (b, 0) ∧ Bytes b ∧ b.length = (l.length * w + 7) / 8 ∧ num b = lanes w l) ∧ (¬ Fit w l → pack_Pack_uint64.f k l (w : Int) = some ([], 21)) := by
  have hbd : l.length * w ≤ 16777216 * 64 := Nat.mul_le_mul hn hw
  have h := uint64_l0 l w hw hn hl l.length k 0 [] 0 0 (by omega) Bytes.nil (by decide) (by decide) (by simp) (by simp [num, lanes]) (fun _ h => by cases h) hk
  unfold pack_Pack_uint64.f
  rw [bytes_ok l.length w hn hw]
  simp only [Option.bind_some]
  rw [if_pos trivial, if_pos (by omega), if_pos (by omega)]
  exact h
/-- Pack beside the limits. -/
theorem uint64_refused (l : List Int) (w : Int) (hlen : l.length ≤ 9223372036854775807) (h : 16777216 < l.length ∨ w < 0 ∨ 64 < w) (k : Nat) :
    pack_Pack_uint64.f k l w = some ([], if 16777216 < l.length then 3 else 20) := by
  unfold pack_Pack_uint64.f pack_Bytes.f
  rw [if_neg (by omega)]
  by_cases h1 : 16777216 < l.length
  · rw [if_pos (by omega), if_pos h1]; simp
  · rw [if_neg (by omega), if_neg h1, may_is]
    simp only [Option.bind_some]
    rw [if_neg (by simp; omega)]
    simp
end Go.Proofs.Ythfgelbbcdgopaa.S
