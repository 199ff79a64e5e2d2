/- AmountPieces at an input. -/
import Derived.Test.YtjefaineggnogaaPieces
import Derived.Test.YtjefaineggnogaaOpenParts
set_option linter.unusedVariables false
set_option linter.unusedSimpArgs false
namespace Go.Proofs.Ytjefaineggnogaa
open Go.RowKit SM
theorem pieces_walk (W : World) (v : Value) (x : Int) (h : ∃ l, PartsIn W v l) (hx : (Lit.int .i64 x).wf = true) :
    Calls Try.prog 6 #[v, .int .i64 x] W fun e w' => e = .returned (.bool true) ∧ Below W.heap.size W w' := by
  obtain ⟨l, A, c, rfl, h1, h2, h3, h4, h5⟩ := h
  have hw : -9223372036854775808 ≤ x ∧ x ≤ 9223372036854775807 := (Lit.wf_int_iff .i64 x).1 hx
  exact pieces_any l A c x W h1 h2 h3 (by omega) (fun p hp => by have := (h5 p hp).1; omega) hw.1 hw.2
end Go.Proofs.Ytjefaineggnogaa
