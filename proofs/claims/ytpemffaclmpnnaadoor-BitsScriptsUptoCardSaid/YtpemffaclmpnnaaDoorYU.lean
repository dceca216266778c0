/- Seat bits: a loop over what a set holds. -/
import Derived.Test.YtpemffaclmpnnaaDoorYQ
import Derived.Test.YtpemffaclmpnnaaDoorYR
namespace Go.Ax
open Go.Proofs
set_option linter.unusedVariables false
set_option linter.unusedSimpArgs false

theorem SetAt.lps {h : Heap} {p q n : Nat} {ws : List (BitVec 64)} (s : SetAt h p q n ws) (m : List Lp) : SetAt (hlps h m) p q n ws := by
  obtain ⟨b, c, r, w⟩ := s.ex
  refine ⟨⟨b, c, r.lps m, ?_⟩, s.ne⟩
  rcases w with w | ⟨v, h1, h2, h3⟩
  · exact .inl w
  · exact .inr ⟨v, h1, h2.lps m, h3⟩
theorem SetAt.unlps {h : Heap} {p q n : Nat} {ws : List (BitVec 64)} {m : List Lp} (s : SetAt (hlps h m) p q n ws) : SetAt h p q n ws := by
  have := s.lps h.lps
  rwa [hlps_hlps, hlps_self] at this
theorem SetAt.chgL {S : Nat → Prop} {h h' : Heap} {p q n : Nat} {ws : List (BitVec 64)} (s : SetAt h p q n ws) (g : ChgL S h h') (hp : ¬ S p) (hq : ¬ S q) : SetAt h' p q n ws := ((s.lps []).chg g hp hq).unlps

theorem SetAt.pl {h : Heap} {p q n : Nat} {ws : List (BitVec 64)} (s : SetAt h p q n ws) : p < h.dyn.length := by
  obtain ⟨b, c, r, w⟩ := s.ex
  exact r.lt
theorem SetAt.ql {h : Heap} {p q n : Nat} {ws : List (BitVec 64)} (s : SetAt h p q n ws) : ws = [] ∨ q < h.dyn.length := by
  obtain ⟨b, c, r, w⟩ := s.ex
  rcases w with ⟨_, _, e⟩ | ⟨v, _, r2, _⟩
  · exact .inl e
  · exact .inr r2.lt

theorem SetAt.norm' {h : Heap} {p q n : Nat} {ws : List (BitVec 64)} (s : SetAt h p q n ws) : ∃ q', SetAt h p q' n ws ∧ q' < h.dyn.length ∧ (q' = q ∨ q' = p) := by
  obtain ⟨b, c, r, w⟩ := s.ex
  rcases w with ⟨rfl, rfl, rfl⟩ | ⟨v, rfl, r2, h3⟩
  · exact ⟨p, ⟨⟨none, 0, r, .inl ⟨rfl, rfl, rfl⟩⟩, fun h => absurd rfl h⟩, r.lt, .inr rfl⟩
  · exact ⟨q, s, r2.lt, .inl rfl⟩

/-- A loop over a set: J holds at each round of the k-th number, w the block of the words that the walk took. -/
theorem go_walk {N d : Nat} {l : List (Nat × Value)} {asn bd : AC} {f : Operand} {k : Cont} {h : Heap} {L : Nat → Nat → Option Value} (hro : h.ro = roBlk tabG L) {p q n : Nat} {ws : List (BitVec 64)} {box : Addr}
    (hf : evalT (envT N l) f = .func (.func F_bits_Set_All_1) #[] #[.pointer (some box)]) (hbox : hload h box = some (ptr p)) (s : SetAt h p q n ws) (cn : Canon n ws)
    (J : Nat → Nat → Heap → Prop) (Stop : Ex → Heap → Prop) (hJ : ∀ w k h m, J w k h → J w k (hlps h m)) (hS : ∀ e h m, Stop e h → Stop e (hlps h m))
    (start : ∀ w h', GrowL h h' → h.dyn.length ≤ w → (ws ≠ [] → w < h'.dyn.length) → J w 0 h')
    (pre : Value → List (Nat × Value)) (asg : ∀ x h', Go P T asn (envT N ((d, x) :: l)) h' (.of fun e t1 h1 => e = .normal ∧ h1 = h' ∧ t1 = envT N (pre x ++ l)))
    (step : ∀ w k x h', h.dyn.length ≤ w → x < n → bit ws x = true → cnt (bit ws) x = k → J w k h' → h'.ro = h.ro → LP h h' → h.lps.length < h'.lps.length →
      Go P T bd (envT N (pre (.int .i64 (x : Nat)) ++ l)) h' (.of fun e _ h3 => h3.ro = h'.ro ∧ h3.dyn[w]? = h'.dyn[w]? ∧ LP h' h3 ∧ (e = .normal ∧ J w (k + 1) h3 ∨ e ≠ .normal ∧ Stop e h3)))
    (fin : ∀ w h', J w (cnt (bit ws) n) h' → LP h h' → h'.ro = h.ro → k.meets P T .normal (envT N l) h')
    (fin2 : ∀ e h', e ≠ .normal → Stop e h' → LP h h' → h'.ro = h.ro → k.meets P T e (envT N l) h') :
    Go P T (.rangeF f [d] asn bd) (envT N l) h k := by
  refine go_range (f' := F_bits_Set_All_1) (args := [.func (.yield h.lps.length) #[] #[], .pointer (some box)]) (by rw [hf]; rfl) (by kernel_rfl) ?_
  obtain ⟨y, hy⟩ : ∃ y, h.lps.length = y := ⟨_, rfl⟩
  rw [hy]
  have hlen : (hlps h (h.lps ++ [⟨.ready, none, envT N l, [d], asn, bd⟩])).lps.length = y + 1 := by simp [hy]
  have base := All1_spec (h := hlps h (h.lps ++ [⟨.ready, none, envT N l, [d], asn, bd⟩])) (y := y) (L := L) hro (p := p) (q := q) (n := n) (ws := ws) (box := box) hbox (s.lps _) cn
    (J := fun w k h' => J w k h' ∧ h'.ro = h.ro ∧ LP h h' ∧ h'.lps[y]? = some ⟨.ready, none, envT N l, [d], asn, bd⟩)
    (stop := fun h' => ∃ e, e ≠ .normal ∧ Stop e h' ∧ LP h h' ∧ h'.lps[y]? = some ⟨.done, some e, envT N l, [d], asn, bd⟩)
    (fun w h' g hw hne => ⟨start w h' (g.l (h := hlps h _) |> fun g => g.lps (l := h.lps) (m := h'.lps)) hw hne, g.ro, (LP.app h _).trans (LP.of g), by rw [g.lps, hlps_lps, ← hy, List.getElem?_append_right (Nat.le_refl _)]; simp⟩)
    (fun w hw k x h' hb hk ⟨j, r, lp, ly⟩ => by
      have hyl : y < h'.lps.length := (List.getElem?_eq_some_iff.1 ly).1
      refine gives_yield ly (Does.mono (asg (.int .i64 (x : Nat)) h') ?_)
      rintro e t1 h1 ⟨rfl, rfl, rfl⟩
      rw [meets_of]
      refine ⟨rfl, rfl, ?_⟩
      have hxn : x < n := by
        apply Classical.byContradiction
        intro hc
        rw [cn.out x (by omega)] at hb
        cases hb
      refine Does.mono (step w k x (hlps h1 (h1.lps.set y ⟨.busy, none, envT N l, [d], asn, bd⟩)) hw hxn hb hk (hJ _ _ _ _ j) r (lp.set (by omega) _) (by simpa [hy] using hyl)) ?_
      rintro e t3 h3 ⟨r3, d3, l3, hq⟩
      rw [meets_of]
      have hy3 : h3.lps[y]? = some ⟨.busy, none, envT N l, [d], asn, bd⟩ := by
        rw [l3.2 y (by simpa using hyl), hlps_lps, List.getElem?_set_self hyl]
      have hy3l : y < h3.lps.length := (List.getElem?_eq_some_iff.1 hy3).1
      have lp3 : LP h h3 := (lp.set (by omega) _).trans l3
      refine ⟨_, hy3, ?_⟩
      rcases hq with ⟨rfl, j3⟩ | ⟨hne, s3⟩
      · rw [if_pos rfl]
        exact ⟨r3, d3, .inl ⟨rfl, hJ _ _ _ _ j3, r3.trans r, lp3.set (by omega) _, by rw [hlps_lps, List.getElem?_set_self hy3l]⟩⟩
      · rw [if_neg hne]
        exact ⟨r3, d3, .inr ⟨rfl, e, hne, hS _ _ _ s3, lp3.set (by omega) _, by rw [hlps_lps, List.getElem?_set_self hy3l]⟩⟩)
  refine base.mono ?_
  rintro v h2 ⟨r2, ⟨w, j, r, lp, ly⟩ | ⟨e, hne, st, lp, ly⟩⟩
  · refine ⟨_, ly, by simp, ?_⟩
    exact fin w _ (hJ _ _ _ _ j) (lp.set (by omega) _) r2
  · refine ⟨_, ly, by simp, ?_⟩
    exact fin2 e _ hne (hS _ _ _ st) (lp.set (by omega) _) r2

/-- A loop that is left at once. -/
theorem nest_walk {N d id id2 : Nat} {l : List (Nat × Value)} {f : Operand} {k : Cont} {h : Heap} {L : Nat → Nat → Option Value} (hro : h.ro = roBlk tabG L) {p q n : Nat} {ws : List (BitVec 64)} {box : Addr} (hne : id2 ≠ id)
    (hf : evalT (envT N l) f = .func (.func F_bits_Set_All_1) #[] #[.pointer (some box)]) (hbox : hload h box = some (ptr p)) (s : SetAt h p q n ws) (cn : Canon n ws)
    (K : ∀ h' e, (e = .normal ∨ e = .exit id) → GrowL h h' → LP h h' → h'.ro = h.ro → k.meets P T e (envT N l) h') :
    Go P T (.rangeF f [d] .skip (.block id2 (.exit id))) (envT N l) h k := by
  refine go_walk hro hf hbox s cn (fun _ _ h' => GrowL h h') (fun e h' => e = .exit id ∧ GrowL h h') (fun w k h' m j => j) (fun e h' m j => j) (fun w h' g _ _ => g) (fun x => [(d, x)]) (fun x h' => by simp) ?_ (fun w h' j lp r => K h' _ (.inl rfl) j lp r) (fun e h' _ st lp r => K h' e (.inr st.1) st.2 lp r)
  intro w k x h' _ _ _ _ j _ _ _
  have hne' : ¬ id = id2 := fun e => hne e.symm
  simp [hne']
  exact ⟨LP.refl _, j⟩

end Go.Ax
