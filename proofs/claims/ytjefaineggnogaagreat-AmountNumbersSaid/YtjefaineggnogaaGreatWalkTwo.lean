/- AmountTwo returns true. -/
import Derived.Test.YtjefaineggnogaaGreatAwakeB
import Derived.Test.YtjefaineggnogaaGreatRef02
set_option linter.unusedVariables false
set_option linter.unusedSimpArgs false
namespace Go.Proofs.YtjefaineggnogaaGreat
set_option maxRecDepth 100000
open Go.RowKit SM
set_option maxHeartbeats 4000000 in
theorem two_walk (a b : Int) (w : World) : Calls Tryz.prog 14 #[.int .i64 a, .int .i64 b] w fun e w' => e = .returned (.bool true) ∧ Below w.heap.size w w' := by
  have h1 := fun w => add_any a b w
  have h2 := fun w => refAdd_any a b w
  have h3 := fun w => times_any a b w
  have h4 := fun w => refTimes_any a b w
  generalize addI a b = x at h1 h2
  generalize mulI a b = y at h3 h4
  obtain ⟨x1, x2⟩ := x
  obtain ⟨y1, y2⟩ := y
  have HA := Lib.hid (awake_any (w.alloc (.cells #[.int .i64 a, .int .i64 b] 2)))
  have HB : Hid (∀ w', Below (w.alloc (.cells #[.int .i64 a, .int .i64 b] 2)).heap.size (w.alloc (.cells #[.int .i64 a, .int .i64 b] 2)) w' → Below w.heap.size w w') := fun w' h => ((Below.refl _ w).alloc (Nat.le_refl _) _).trans (h.mono (by simp))
  have H1 := Lib.hid h1
  have H2 := Lib.hid h2
  have H3 := Lib.hid h3
  have H4 := Lib.hid h4
  clear h1 h2 h3 h4
  by_cases ha : okI a
  · have H5 := Lib.hid (fun w => right_yes a w ha)
    have H6 := Lib.hid (fun w => refRight_yes a w ha)
    clear ha
    go_enter Tryz.func14, Tryz.ntmps14
    go_wp2_with (first | (go_at_call 18; (with_reducible refine (H1.out _).mono ?_); rintro e w' ⟨rfl, rfl⟩) | (go_at_call 25; (with_reducible refine (H2.out _).mono ?_); rintro e w' ⟨rfl, rfl⟩) | (go_at_call 16; (with_reducible refine (H3.out _).mono ?_); rintro e w' ⟨rfl, rfl⟩) | (go_at_call 28; (with_reducible refine (H4.out _).mono ?_); rintro e w' ⟨rfl, rfl⟩) | (go_at_call 19; (with_reducible refine (H5.out _).mono ?_); rintro e w' ⟨rfl, rfl⟩) | (go_at_call 29; (with_reducible refine (H6.out _).mono ?_); rintro e w' ⟨rfl, rfl⟩) | (go_at_call 6; (with_reducible refine HA.out.mono ?_); rintro e w' ⟨rfl, hb⟩; have HW := Lib.hid hb; clear hb))
    go_ret
    exact ⟨by simp, HB.out _ HW.out⟩
  · have H5 := Lib.hid (fun w => right_no a w ha)
    have H6 := Lib.hid (fun w => refRight_no a w ha)
    clear ha
    go_enter Tryz.func14, Tryz.ntmps14
    go_wp2_with (first | (go_at_call 18; (with_reducible refine (H1.out _).mono ?_); rintro e w' ⟨rfl, rfl⟩) | (go_at_call 25; (with_reducible refine (H2.out _).mono ?_); rintro e w' ⟨rfl, rfl⟩) | (go_at_call 16; (with_reducible refine (H3.out _).mono ?_); rintro e w' ⟨rfl, rfl⟩) | (go_at_call 28; (with_reducible refine (H4.out _).mono ?_); rintro e w' ⟨rfl, rfl⟩) | (go_at_call 19; (with_reducible refine (H5.out _).mono ?_); rintro e w' ⟨rfl, rfl⟩) | (go_at_call 29; (with_reducible refine (H6.out _).mono ?_); rintro e w' ⟨rfl, rfl⟩) | (go_at_call 6; (with_reducible refine HA.out.mono ?_); rintro e w' ⟨rfl, hb⟩; have HW := Lib.hid hb; clear hb))
    go_ret
    exact ⟨by simp, HB.out _ HW.out⟩
end Go.Proofs.YtjefaineggnogaaGreat
