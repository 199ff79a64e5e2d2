/- The marks of what is lent. -/
import Derived.Test.YtnboigbknadpdaaProg
import Derived.Test.YtnboigbknadpdaaHeap
import Derived.Lib.Hide
set_option linter.unusedVariables false
set_option linter.unusedSimpArgs false
namespace Go.Proofs.Ytnboigbknadpdaa
set_option maxRecDepth 100000
open Go.RowKit SM

def markI (k i : Int) : Int := 1000003 * (k + 7) + i
theorem mark_any (k i : Int) (w : World) (hk0 : 0 ≤ k) (hk : k ≤ 1000000000) (hi0 : 0 ≤ i) (hi : i ≤ 1000000000) :
    Calls Try.prog 47 #[.int .i64 k, .int .i64 i] w fun e w' => e = .returned (.int .i64 (markI k i)) ∧ w = w' := by
  have h1 : wrap64 (1000003 * (k + 7)) = 1000003 * (k + 7) := by unfold wrap64; omega
  have h2 : wrap64 (1000003 * (k + 7) + i) = 1000003 * (k + 7) + i := by unfold wrap64; omega
  have HE : Hid (markI k i = 1000003 * (k + 7) + i) := rfl
  go_enter Try.func47, Try.ntmps47
  go_wp2
  go_ret
  exact ⟨by rw [HE.out]; first | exact rfl | (simp only [h1, h2]; exact rfl), rfl⟩
end Go.Proofs.Ytnboigbknadpdaa
