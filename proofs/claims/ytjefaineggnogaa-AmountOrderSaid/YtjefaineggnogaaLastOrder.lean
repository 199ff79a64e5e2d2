/- AmountOrder returns true: the walk, out of its core. -/
import Derived.Test.YtjefaineggnogaaWalkOrder
set_option linter.unusedVariables false
set_option linter.unusedSimpArgs false
namespace Go.Proofs.Ytjefaineggnogaa
open Go.RowKit SM
theorem order_walk (a b c : Int) (w : World) : Calls Try.prog 5 #[.int .i64 a, .int .i64 b, .int .i64 c] w fun e w' => e = .returned (.bool true) ∧ Below w.heap.size w w' := by
  obtain ⟨f1, f2, f3, f4⟩ := order_facts a b c
  have h2 := addC w b a
  rw [addI_comm] at h2
  have h4 := mulC w b a
  rw [mulI_comm] at h4
  have h6 := sumC w c a b
  rw [sumI_rot] at h6
  refine order_core w a b c (addI a b).1 (addI (addI a b).1 c).1 (addI b c).1 (addI a (addI b c).1).1 (sumI [a, b, c]).1 (mulI a b).1 (mulI a c).1 (mulI a (addI b c).1).1 (addI (mulI a b).1 (mulI a c).1).1
    (addI a b).2 (sumI [a, b, c]).2 (addI (addI a b).1 c).2 (addI b c).2 (addI a (addI b c).1).2 (mulI a b).2 (mulI a c).2 (addI (mulI a b).1 (mulI a c).1).2 (mulI a (addI b c).1).2
    (addC w a b) h2 (mulC w a b) h4 (sumC w a b c) h6 (addC w _ c) (addC w b c) (addC w a _) (mulC w a _) (mulC w a c) (addC w _ _) (awakeC w) f1 f2 ?_ f4
  intro h
  obtain ⟨g1, g2, g3, g4, g5, g6, g7, g8, g9⟩ := f3 h
  exact ⟨g1, g2, g3, g4, rightC w a g5, rightC w b g6, rightC w c g7, rightC w _ g8, g9⟩
end Go.Proofs.Ytjefaineggnogaa
