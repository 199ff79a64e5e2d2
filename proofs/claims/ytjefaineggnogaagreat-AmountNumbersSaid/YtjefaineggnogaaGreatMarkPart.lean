/- The marks of parts. -/
import Derived.Test.YtjefaineggnogaaGreatMark
import Derived.Test.YtjefaineggnogaaGreatSame
set_option linter.unusedVariables false
set_option linter.unusedSimpArgs false
namespace Go.Proofs.YtjefaineggnogaaGreat
set_option maxRecDepth 100000
open Go.RowKit SM
def markP (k i : Int) : Prt := (⟨#[]⟩, markI k i)
set_option maxHeartbeats 1000000 in
theorem markPart_any (k i : Int) (w : World) (hk0 : 0 ≤ k) (hk : k ≤ 1000000000) (hi0 : 0 ≤ i) (hi : i ≤ 1000000000) :
    Calls Tryz.prog 20 #[.int .i64 k, .int .i64 i] w fun e w' => e = .returned (.agg #[.string ⟨#[]⟩, .int .i64 (markI k i)]) ∧ w.alloc (.cells #[.string ⟨#[]⟩, .int .i64 (markI k i)] 38) = w' := by
  have hc := fun w => mark_any k i w hk0 hk hi0 hi
  have HC := Lib.hid hc
  clear hc
  generalize markI k i = m at *
  go_enter Tryz.func20, Tryz.ntmps20
  go_wp2_with ((go_at_call 34; (with_reducible refine (HC.out _).mono ?_); rintro e w' ⟨rfl, rfl⟩))
  exact bodyPost_ret (v := .agg #[.string ⟨#[]⟩, .int .i64 m]) (by simp [results, Tryz.results20, go_sem]) rfl ⟨rfl, rfl⟩
end Go.Proofs.YtjefaineggnogaaGreat
