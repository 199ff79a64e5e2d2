/- The marks of parts. -/
import Derived.Test.YtnboigbknadpdaaMark
import Derived.Test.YtnboigbknadpdaaSame
set_option linter.unusedVariables false
set_option linter.unusedSimpArgs false
namespace Go.Proofs.Ytnboigbknadpdaa
set_option maxRecDepth 100000
open Go.RowKit SM
def markP (k i : Int) : Prt := (⟨#[]⟩, markI k i)
set_option maxHeartbeats 1000000 in
theorem markPart_any (k i : Int) (w : World) (hk0 : 0 ≤ k) (hk : k ≤ 1000000000) (hi0 : 0 ≤ i) (hi : i ≤ 1000000000) :
    Calls Try.prog 64 #[.int .i64 k, .int .i64 i] w fun e w' => e = .returned (.agg #[.string ⟨#[]⟩, .int .i64 (markI k i)]) ∧ w.alloc (.cells #[.string ⟨#[]⟩, .int .i64 (markI k i)] 39) = w' := by
  have hc := fun w => mark_any k i w hk0 hk hi0 hi
  have HC := Lib.hid hc
  clear hc
  generalize markI k i = m at *
  go_enter Try.func64, Try.ntmps64
  go_wp2_with ((go_at_call 47; (with_reducible refine (HC.out _).mono ?_); rintro e w' ⟨rfl, rfl⟩))
  exact bodyPost_ret (v := .agg #[.string ⟨#[]⟩, .int .i64 m]) (by simp [results, Try.results64, go_sem]) rfl ⟨rfl, rfl⟩
end Go.Proofs.Ytnboigbknadpdaa
