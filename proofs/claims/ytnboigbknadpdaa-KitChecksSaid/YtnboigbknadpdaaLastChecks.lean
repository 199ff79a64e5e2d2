/- KitChecks, at an input. -/
import Derived.Test.YtnboigbknadpdaaKitChecks
import Derived.Test.YtnboigbknadpdaaOpenItems
set_option linter.unusedVariables false
set_option linter.unusedSimpArgs false
namespace Go.Proofs.Ytnboigbknadpdaa
set_option maxRecDepth 100000
open Go.RowKit SM
theorem kitChecks_walk (w : World) (v : Value) (h : ∃ l, ItemsIn w v l) : Calls Try.prog 3 #[v] w fun e w' => e = .returned (.bool true) ∧ Below w.heap.size w w' := by
  obtain ⟨l, h⟩ := h
  obtain ⟨A, c, rfl, h1, h2, h3, h4⟩ := h.at
  exact kitChecks_any l A c w h1 h2 h3 h4
end Go.Proofs.Ytnboigbknadpdaa
