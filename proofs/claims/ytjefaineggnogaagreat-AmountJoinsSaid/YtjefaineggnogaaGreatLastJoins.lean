/- AmountJoins at an input. -/
import Derived.Test.YtjefaineggnogaaGreatJoins
set_option linter.unusedVariables false
set_option linter.unusedSimpArgs false
namespace Go.Proofs.YtjefaineggnogaaGreat
set_option maxRecDepth 100000
open Go.RowKit SM
theorem joins_walk (W : World) (v0 v1 v2 : Value) (h0 : ∃ l, PartsIn W v0 l) (h1 : ∃ l, PartsIn W v1 l) (h2 : ∃ l, PartsIn W v2 l) :
    Calls Tryz.prog 3 #[v0, v1, v2] W fun e w' => e = .returned (.bool true) ∧ Below W.heap.size W w' := by
  obtain ⟨la, Aa, ca, rfl, a1, a2, a3, a4, a5⟩ := h0
  obtain ⟨lb, Ab, cb, rfl, b1, b2, b3, b4, b5⟩ := h1
  obtain ⟨lc, Ac, cc, rfl, c1, c2, c3, c4, c5⟩ := h2
  refine joins_any la lb lc Aa Ab Ac ca cb cc W a1 a2 a3 b1 b2 b3 c1 c2 c3 ⟨a4, b4, c4⟩ fun p hp => ?_
  rcases List.mem_append.1 hp with h | h
  · exact (a5 p h).1
  · rcases List.mem_append.1 h with h | h
    · exact (b5 p h).1
    · exact (c5 p h).1
end Go.Proofs.YtjefaineggnogaaGreat
