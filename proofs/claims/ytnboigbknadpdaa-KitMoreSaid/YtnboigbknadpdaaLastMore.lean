/- KitMore, at an input. -/
import Derived.Test.YtnboigbknadpdaaKitMore
import Derived.Test.YtnboigbknadpdaaOpenItems
set_option linter.unusedVariables false
set_option linter.unusedSimpArgs false
namespace Go.Proofs.Ytnboigbknadpdaa
set_option maxRecDepth 100000
open Go.RowKit SM
theorem low_or {l : List Iv} (hr : Rises (itsOf l)) (h : ¬ ∀ x ∈ itsOf l, ltS x.code ⟨#[90, 56]⟩) : ∃ n, ∃ hn : l.length = n + 1, ¬ ltS (l[n]'(by omega)).it.code ⟨#[90, 56]⟩ := by
  have hne : l.length ≠ 0 := fun e => h fun x hx => by
    rw [List.eq_nil_of_length_eq_zero e] at hx; cases hx
  refine ⟨l.length - 1, by omega, fun hlt => h fun x hx => ?_⟩
  obtain ⟨i, hi, rfl⟩ := List.getElem_of_mem hx
  have hi2 : i < l.length := by rw [itsOf_len] at hi; exact hi
  by_cases hin : i = l.length - 1
  · subst hin
    simpa [itsOf] using hlt
  · have h' := List.pairwise_iff_getElem.1 hr i (l.length - 1) hi (by rw [itsOf_len]; omega) (by omega)
    refine ltS_trans h' ?_
    simpa [itsOf] using hlt
theorem kitMore_walk (w : World) (v1 v2 : Value) (h1 : ∃ l, ItemsIn w v1 l) (h2 : ∃ ps, PartsIn w v2 ps) : Calls Try.prog 5 #[v1, v2] w fun e w' => e = .returned (.bool true) ∧ Below w.heap.size w w' := by
  obtain ⟨l, h1⟩ := h1
  obtain ⟨A, c, rfl, a1, a2, a3, a4⟩ := h1.at
  obtain ⟨ps, pA, pc, rfl, b1, b2, b3, b4, b5⟩ := h2
  have h : ArgsOk l A c ps pA pc w := ⟨a1, a2, a3, a4, b1, b2, b3, fun p hp => ⟨by have := (b5 p hp).1; omega, (b5 p hp).2⟩⟩
  by_cases h0 : checkE (itsOf l) = 0
  · by_cases hl : l.length ≤ 58
    · by_cases hlow : ∀ x ∈ itsOf l, ltS x.code ⟨#[90, 56]⟩
      · exact kitMore_good l A c ps pA pc w h ⟨h0, by rw [itsOf_len]; exact hl, hlow⟩
      · obtain ⟨n, hn, hx⟩ := low_or (check_sound h0).rises hlow
        exact kitMore_high l A c ps pA pc w h h0 hl n hn hx
    · exact kitMore_long l A c ps pA pc w h h0 (by omega)
  · exact kitMore_bad l A c ps pA pc w h h0
end Go.Proofs.Ytnboigbknadpdaa
