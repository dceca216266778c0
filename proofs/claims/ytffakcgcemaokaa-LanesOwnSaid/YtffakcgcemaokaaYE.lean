/- Seat bits: slices that are read; Of, sameWords, alike. -/
import Derived.Test.YtffakcgcemaokaaYD
namespace Go.Ax
set_option linter.unusedVariables false
set_option linter.unusedSimpArgs false

theorem Words.reads {h : Heap} {b : Option Addr} {c q : Nat} {ws : List (BitVec 64)} (w : Words h b c q ws) : Reads h (.slice b ws.length c) (ws.map wv) := by
  rcases w with ⟨rfl, rfl, rfl⟩ | ⟨v, rfl, r, _⟩
  · exact .inl ⟨rfl, rfl⟩
  · exact .inr ⟨⟨q, 0, some v⟩, c, by simp, fun i x hx => by simpa using r.get hx⟩

theorem new_big {h : Heap} {n : Nat} (hn : 16777216 < n) : Gives P T (.fn F_bits_New) [.int .i64 n] h fun v h' => v = .pointer none ∧ h' = h := by
  refine gives_by t_bits_New (by simp [c_bits_New]) fun Q hQ => ?_
  have h1 : (16777216 : Int) < n := by omega
  have h0 : ¬ ((n : Int) < 0) := by omega
  simp [c_bits_New, h1, h0]
  exact hQ _ _ ⟨rfl, rfl⟩

end Go.Ax
