/- Seat lanes: memory of its own. -/
import Derived.Test.YtffakcgcemaokaaZP
import Derived.Test.YtffakcgcemaokaaYR
import Derived.Test.YtffakcgcemaokaaMT
namespace Go.Ax
open Go.Proofs
set_option linter.unusedVariables false
set_option linter.unusedSimpArgs false

theorem said_spec {h0 h : Heap} {p n : Nat} {f : Nat → Bool} (s : SaysAt h0 h p n f) :
    Gives P T (.fn F_colonnadelaw03_said) [ptr p] h fun r h' => ∃ q, Own h' r q (tL f n) ∧ Grow h h' ∧ h.dyn.length ≤ q := by
  refine gives_by t_colonnadelaw03_said (by simp [c_colonnadelaw03_said]) fun Q hQ => ?_
  have hn : n ≤ 16777216 := by obtain ⟨q, ws, s, c, _⟩ := s; exact c.le
  simp [c_colonnadelaw03_said]
  refine go_loopK (fun k ks h2 => ∃ (i : Nat) (u : Value) (q : Nat), k = n - i ∧ i ≤ n ∧ ks = [(0, ptr p), (3, u), (4, .int .i64 i)] ∧ Own h2 u q (tL f i) ∧ Grow h h2 ∧ h.dyn.length ≤ q) (n := n)
    ⟨0, .slice none 0 0, h.dyn.length, rfl, by omega, rfl, Own.nil _ _, Chg.refl _, Nat.le_refl _⟩ (by simp [ptr]) ?_
  rintro I hI k ks e h3 ⟨i, u, q, rfl, hi, rfl, ow, gg, hq⟩
  have s3 := s.grow gg
  simp
  obtain ⟨qq, ws, S, C, _⟩ := id s3
  refine got_call (len_spec S) ?_
  rintro _ _ ⟨rfl, rfl⟩
  rename_i h3
  simp
  refine branch_dec (fun hlt => ?_) (fun hge => ?_)
  · have hil : i < n := by omega
    have e4 : IntKind.i64.wrap ((i : Int) + 1) = ((i + 1 : Nat) : Int) := by rw [wrap_i64 (by omega) (by omega)]; omega
    simp
    refine got_call (get_says s3 hil) ?_
    rintro _ _ ⟨rfl, rfl⟩
    rename_i h3
    obtain ⟨v', h', q', e8, o', c', l', d'⟩ := ow.push (bytes := 1) (z := .bool false) (x := .bool (f i)) (by simp) (by rw [tL_len]; omega) (by rw [tL_len]; omega)
    rw [← tL_succ] at o'
    simp [e8, e4]
    refine ⟨n - (i + 1), by omega, hI _ _ _ _ ⟨i + 1, v', q', rfl, by omega, rfl, o', gg.after c' fun n hn hb => by have := hb.1; omega, ?_⟩ (by simp [ptr])⟩
    have := gg.len
    rcases d' with ⟨h1, _⟩ | h1 <;> omega
  · have hil : i = n := by omega
    subst hil
    simp
    exact hQ _ _ ⟨q, ow, gg, hq⟩

theorem turned_spec {h : Heap} {p q n : Nat} {ws : List (BitVec 64)} (s : SetAt h p q n ws) (cn : Canon n ws) :
    Gives P T (.fn F_colonnadelaw03_turned) [ptr p] h fun _ h' => Chg (fun b => b = q ∧ ws ≠ []) h h' := by
  refine gives_by t_colonnadelaw03_turned (by simp [c_colonnadelaw03_turned]) fun Q hQ => ?_
  have hn := cn.le
  simp [c_colonnadelaw03_turned]
  refine go_loopK (fun k ks h2 => ∃ (i : Nat) (ws2 : List (BitVec 64)), k = n - i ∧ i ≤ n ∧ ks = [(0, ptr p), (2, .int .i64 i)] ∧ SetAt h2 p q n ws2 ∧ Canon n ws2 ∧ Chg (fun b => b = q ∧ ws ≠ []) h h2) (n := n)
    ⟨0, ws, rfl, by omega, rfl, s, cn, Chg.refl _⟩ (by simp [ptr]) ?_
  rintro I hI k ks e h3 ⟨i, ws2, rfl, hi, rfl, S, C, gg⟩
  simp
  refine got_call (len_spec S) ?_
  rintro _ _ ⟨rfl, rfl⟩
  rename_i h3
  simp
  refine branch_dec (fun hlt => ?_) (fun hge => ?_)
  · have hil : i < n := by omega
    have e4 : IntKind.i64.wrap ((i : Int) + 1) = ((i + 1 : Nat) : Int) := by rw [wrap_i64 (by omega) (by omega)]; omega
    have hne : ws ≠ [] := by intro e; have := cn.len; rw [e] at this; simp at this; omega
    simp
    refine got_call (get_spec S C i) ?_
    rintro _ _ ⟨rfl, rfl⟩
    rename_i h3
    simp
    refine got_call (Put_spec S C hil _) ?_
    rintro _ h4 ⟨rfl, ws3, S3, C3, _, c3⟩
    simp [e4]
    exact ⟨n - (i + 1), by omega, hI _ _ _ _ ⟨i + 1, ws3, rfl, by omega, rfl, S3, C3, gg.trans (c3.mono fun b _ e => ⟨e, hne⟩)⟩ (by simp [ptr])⟩
  · simp
    exact hQ _ _ gg

theorem twin2_spec {h : Heap} {v : Value} {bs : List (BitVec 8)} (r : Reads h v (bs.map bv)) (hl : bs.length ≤ 140737488351232) :
    Gives P T (.fn F_colonnadelaw03_twin) [v] h fun r h' => ∃ q, Own h' r q (bs.map bv) ∧ Grow h h' ∧ h.dyn.length ≤ q ∧ TopS r := by
  refine gives_by t_colonnadelaw03_twin (by simp [c_colonnadelaw03_twin]) fun Q hQ => ?_
  simp [c_colonnadelaw03_twin]
  have hv : slen v = some (bs.map bv).length ∧ firstN h 1 (bs.map bv).length v = some (bs.map bv) := by
    rcases r with ⟨rfl, h0⟩ | ⟨a, c, rfl, hl⟩
    · rw [h0]; exact ⟨rfl, rfl⟩
    · refine ⟨rfl, ?_⟩
      simp only [firstN, Nat.mul_one]
      exact loadN_of _ _ hl
  have tn : TopS (.slice none 0 0) := fun b n c e => by cases e; exact .inl rfl
  by_cases h0 : bs = []
  · subst h0
    have e := (Own.nil h h.dyn.length).app0 (by simp) (bytes := 1) (z := .int .u8 0) hv.1 hv.2
    rw [e]
    simp
    exact hQ _ _ ⟨h.dyn.length, Own.nil _ _, Chg.refl _, Nat.le_refl _, tn⟩
  · have hg : (bs.map bv).all goodC = true := by rw [List.all_eq_true]; intro x hx; rw [List.mem_map] at hx; obtain ⟨y, _, rfl⟩ := hx; simp [bv]
    obtain ⟨v', h', q', e, o, c, _, d⟩ := (Own.nil h h.dyn.length).app (bytes := 1) (z := .int .u8 0) (by simpa using h0) hv.1 hv.2 hg (by simp; omega) (by simp; omega)
    obtain ⟨b, m, ht⟩ := aappend_top e hv.1 (by simpa using h0) tn
    rw [e]
    simp
    refine hQ _ _ ⟨q', by simpa using o, c.mono fun n hn hb => by have := hb.1; omega, ?_, ht ▸ TopS.full⟩
    rcases d with ⟨h1, _⟩ | h1 <;> omega

/-- A block for a list that is there. -/
theorem Own.low {h : Heap} {v : Value} {q : Nat} {l : List Value} (o : Own h v q l) : ∃ q', Own h v q' l ∧ (q' = q ∧ q < h.dyn.length ∨ v = .slice none 0 0 ∧ q' = 0) := by
  rcases o.lt with ⟨rfl, rfl⟩ | h1
  · exact ⟨0, Own.nil _ _, .inr ⟨rfl, rfl⟩⟩
  · exact ⟨q, o, .inl ⟨rfl, h1⟩⟩

/-- Appending what can be read, anything. -/
theorem app_any {h : Heap} {l : List Value} {x : Value} {bytes : Nat} {z : Value} (r : Reads h x l) (hg : l.all goodC = true) (hb : l.length * bytes ≤ 140737488355328) (hb' : l.length ≤ 140737488355328) :
    ∃ v1 h1 q1, aappend h 1 bytes [z] (.slice none 0 0) x = some (v1, h1) ∧ Own h1 v1 q1 l ∧ Grow h h1 ∧ h.dyn.length ≤ q1 ∧ TopS v1 := by
  have hv : slen x = some l.length ∧ firstN h 1 l.length x = some l := by
    rcases r with ⟨rfl, h0⟩ | ⟨a, c, rfl, hl⟩
    · rw [h0]; exact ⟨rfl, rfl⟩
    · refine ⟨rfl, ?_⟩
      simp only [firstN, Nat.mul_one]
      exact loadN_of _ _ hl
  have tn : TopS (.slice none 0 0) := fun b n c e => by cases e; exact .inl rfl
  by_cases h0 : l = []
  · subst h0
    exact ⟨_, _, h.dyn.length, (Own.nil h h.dyn.length).app0 (by simp) hv.1 hv.2, Own.nil _ _, Chg.refl _, Nat.le_refl _, tn⟩
  · obtain ⟨v', h', q', e, o, c, _, d⟩ := (Own.nil h h.dyn.length).app (bytes := bytes) (z := z) h0 hv.1 hv.2 hg (by simpa using hb) (by simpa using hb')
    obtain ⟨b, m, ht⟩ := aappend_top e hv.1 (by simpa using h0) tn
    refine ⟨v', h', q', e, by simpa using o, c.mono fun n hn hb => by have := hb.1; omega, ?_, ht ▸ TopS.full⟩
    rcases d with ⟨h1, _⟩ | h1 <;> omega

def m8 : List (BitVec 8) := [201#8, 202#8, 203#8, 204#8, 205#8, 206#8, 207#8, 208#8]
theorem m8_str : Value.string ⟨#[201, 202, 203, 204, 205, 206, 207, 208]⟩ = .string (bstr m8) := by
  unfold bstr m8; rfl


theorem SetAt.lt {h : Heap} {p q n : Nat} {ws : List (BitVec 64)} (s : SetAt h p q n ws) : ws ≠ [] → q < h.dyn.length := by
  obtain ⟨b, c, _, w⟩ := s.ex
  exact fun hne => w.le.resolve_left hne

theorem like_says {h0 h : Heap} {p n : Nat} {f : Nat → Bool} {v : Value} (s : SaysAt h0 h p n f) (r : Reads h v (tL f n)) :
    Gives P T (.fn F_colonnadelaw03_like) [ptr p, v, .int .i64 0] h fun r h' => r = .bool true ∧ h' = h := by
  obtain ⟨q, ws, S, C, b, _, _⟩ := s
  exact like_true S C r fun i hi => by rw [b]; simp [hi]

theorem take_drop_set {a b : List (BitVec 8)} {i : Nat} (ha : i < a.length) (hb : i < b.length) : (a.take i ++ b.drop i).set i (byteA a i) = a.take (i + 1) ++ b.drop (i + 1) := by
  have h1 : (a.take i).length = i := by simp; omega
  rw [List.set_append_right _ _ (by omega), h1, Nat.sub_self, List.drop_eq_getElem_cons hb, List.set_cons_zero, List.take_add_one, List.getElem?_eq_getElem ha]
  simp only [Option.toList_some, List.append_assoc, List.singleton_append]
  congr 2
  unfold byteA
  rw [List.getD_eq_getElem?_getD, List.getElem?_eq_getElem ha]; rfl

end Go.Ax
