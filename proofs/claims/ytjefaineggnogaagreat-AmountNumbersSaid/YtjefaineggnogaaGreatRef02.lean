/- The document's answers of chapter 2, but for Join. -/
import Derived.Test.YtjefaineggnogaaGreatAmount
set_option linter.unusedVariables false
set_option linter.unusedSimpArgs false
namespace Go.Proofs.YtjefaineggnogaaGreat
set_option maxRecDepth 100000
open Go.RowKit SM

theorem refRight_yes (n : Int) (w : World) (h : okI n) : Calls Tryz.prog 29 #[.int .i64 n] w fun e w' => e = .returned (.bool true) ∧ w = w' := by
  obtain ⟨h1, h2⟩ := h
  go_enter Tryz.func29, Tryz.ntmps29
  go_wp2
  go_ret
  exact ⟨by simp, rfl⟩
theorem refRight_no (n : Int) (w : World) (h : ¬ okI n) : Calls Tryz.prog 29 #[.int .i64 n] w fun e w' => e = .returned (.bool false) ∧ w = w' := by
  by_cases h1 : 0 ≤ n
  · have h2 : ¬ n ≤ 1125899906842624 := fun h2 => h ⟨h1, h2⟩
    clear h
    go_enter Tryz.func29, Tryz.ntmps29
    go_wp2
    go_ret
    exact ⟨by simp, rfl⟩
  · clear h
    go_enter Tryz.func29, Tryz.ntmps29
    go_wp2
    go_ret
    exact ⟨by simp, rfl⟩

set_option maxHeartbeats 2000000 in
theorem refAdd_any (a b : Int) (w : World) :
    Calls Tryz.prog 25 #[.int .i64 a, .int .i64 b] w fun e w' => e = .returned (.tuple #[.int .i64 (addI a b).1, .bool (addI a b).2]) ∧ w = w' := by
  by_cases ha : okI a
  · have hc := fun w => refRight_yes a w ha
    have HC := Lib.hid hc
    clear hc
    by_cases hb : okI b
    · have hd := fun w => refRight_yes b w hb
      have HD := Lib.hid hd
      clear hd
      by_cases hs : a + b ≤ 1125899906842624
      · have HE : Hid (addI a b = (a + b, true)) := by unfold addI; rw [if_pos ⟨ha, hb, hs⟩]; exact rfl
        obtain ⟨ha1, ha2⟩ := ha
        obtain ⟨hb1, hb2⟩ := hb
        go_enter Tryz.func25, Tryz.ntmps25
        go_wp2_with (go_at_call 29; first | ((with_reducible refine (HC.out _).mono ?_); rintro e w' ⟨rfl, rfl⟩) | ((with_reducible refine (HD.out _).mono ?_); rintro e w' ⟨rfl, rfl⟩))
        go_ret2
        exact ⟨by rw [HE.out]; exact rfl, rfl⟩
      · have HE : Hid (addI a b = (0, false)) := by unfold addI; rw [if_neg (fun h => hs h.2.2)]; exact rfl
        obtain ⟨ha1, ha2⟩ := ha
        obtain ⟨hb1, hb2⟩ := hb
        go_enter Tryz.func25, Tryz.ntmps25
        go_wp2_with (go_at_call 29; first | ((with_reducible refine (HC.out _).mono ?_); rintro e w' ⟨rfl, rfl⟩) | ((with_reducible refine (HD.out _).mono ?_); rintro e w' ⟨rfl, rfl⟩))
        go_ret2
        exact ⟨by rw [HE.out]; exact rfl, rfl⟩
    · have HE : Hid (addI a b = (0, false)) := by unfold addI; rw [if_neg (fun h => hb h.2.1)]; exact rfl
      have hd := fun w => refRight_no b w hb
      have HD := Lib.hid hd
      clear hd hb ha
      go_enter Tryz.func25, Tryz.ntmps25
      go_wp2_with (go_at_call 29; first | ((with_reducible refine (HC.out _).mono ?_); rintro e w' ⟨rfl, rfl⟩) | ((with_reducible refine (HD.out _).mono ?_); rintro e w' ⟨rfl, rfl⟩))
      go_ret2
      exact ⟨by rw [HE.out]; exact rfl, rfl⟩
  · have HE : Hid (addI a b = (0, false)) := by unfold addI; rw [if_neg (fun h => ha h.1)]; exact rfl
    have hd := fun w => refRight_no a w ha
    have HD := Lib.hid hd
    clear hd ha
    go_enter Tryz.func25, Tryz.ntmps25
    go_wp2_with (go_at_call 29; ((with_reducible refine (HD.out _).mono ?_); rintro e w' ⟨rfl, rfl⟩))
    go_ret2
    exact ⟨by rw [HE.out]; exact rfl, rfl⟩

set_option maxHeartbeats 2000000 in
theorem refTimes_any (a b : Int) (w : World) :
    Calls Tryz.prog 28 #[.int .i64 a, .int .i64 b] w fun e w' => e = .returned (.tuple #[.int .i64 (mulI a b).1, .bool (mulI a b).2]) ∧ w = w' := by
  by_cases ha : okI a
  · have hc := fun w => refRight_yes a w ha
    have HC := Lib.hid hc
    clear hc
    by_cases hb : okI b
    · have hd := fun w => refRight_yes b w hb
      have HD := Lib.hid hd
      clear hd
      by_cases hb0 : b = 0
      · subst hb0
        have HE : Hid (mulI a 0 = (0, true)) := by show mulI a 0 = (0, true); unfold mulI; rw [if_pos ⟨ha, by decide, by simp⟩]; simp
        obtain ⟨ha1, ha2⟩ := ha
        clear hb
        go_enter Tryz.func28, Tryz.ntmps28
        go_wp2_with (go_at_call 29; first | ((with_reducible refine (HC.out _).mono ?_); rintro e w' ⟨rfl, rfl⟩) | ((with_reducible refine (HD.out _).mono ?_); rintro e w' ⟨rfl, rfl⟩))
        go_ret2
        exact ⟨by rw [HE.out]; exact rfl, rfl⟩
      · have hbp : 0 < b := by unfold okI at hb; omega
        have hdiv : (1125899906842624 / b < a) ↔ ¬ a * b ≤ 1125899906842624 := by
          rw [Int.not_le]
          exact Int.ediv_lt_iff_lt_mul hbp
        by_cases hs : a * b ≤ 1125899906842624
        · have HE : Hid (mulI a b = (a * b, true)) := by unfold mulI; rw [if_pos ⟨ha, hb, hs⟩]; exact rfl
          have hq : ¬ (1125899906842624 / b < a) := fun h => (hdiv.1 h) hs
          obtain ⟨ha1, ha2⟩ := ha
          obtain ⟨hb1, hb2⟩ := hb
          have hab0 : 0 ≤ a * b := Int.mul_nonneg ha1 hb1
          have hwr : wrap64 (a * b) = a * b := by unfold wrap64; omega
          clear hdiv hb0
          go_enter Tryz.func28, Tryz.ntmps28
          go_wp2_with (go_at_call 29; first | ((with_reducible refine (HC.out _).mono ?_); rintro e w' ⟨rfl, rfl⟩) | ((with_reducible refine (HD.out _).mono ?_); rintro e w' ⟨rfl, rfl⟩))
          go_ret2
          exact ⟨by rw [HE.out]; exact rfl, rfl⟩
        · have HE : Hid (mulI a b = (0, false)) := by unfold mulI; rw [if_neg (fun h => hs h.2.2)]; exact rfl
          have hq : 1125899906842624 / b < a := hdiv.2 hs
          obtain ⟨ha1, ha2⟩ := ha
          obtain ⟨hb1, hb2⟩ := hb
          clear hdiv hb0 hs
          go_enter Tryz.func28, Tryz.ntmps28
          go_wp2_with (go_at_call 29; first | ((with_reducible refine (HC.out _).mono ?_); rintro e w' ⟨rfl, rfl⟩) | ((with_reducible refine (HD.out _).mono ?_); rintro e w' ⟨rfl, rfl⟩))
          go_ret2
          exact ⟨by rw [HE.out]; exact rfl, rfl⟩
    · have HE : Hid (mulI a b = (0, false)) := by unfold mulI; rw [if_neg (fun h => hb h.2.1)]; exact rfl
      have hd := fun w => refRight_no b w hb
      have HD := Lib.hid hd
      clear hd hb ha
      go_enter Tryz.func28, Tryz.ntmps28
      go_wp2_with (go_at_call 29; first | ((with_reducible refine (HC.out _).mono ?_); rintro e w' ⟨rfl, rfl⟩) | ((with_reducible refine (HD.out _).mono ?_); rintro e w' ⟨rfl, rfl⟩))
      go_ret2
      exact ⟨by rw [HE.out]; exact rfl, rfl⟩
  · have HE : Hid (mulI a b = (0, false)) := by unfold mulI; rw [if_neg (fun h => ha h.1)]; exact rfl
    have hd := fun w => refRight_no a w ha
    have HD := Lib.hid hd
    clear hd ha
    go_enter Tryz.func28, Tryz.ntmps28
    go_wp2_with (go_at_call 29; ((with_reducible refine (HD.out _).mono ?_); rintro e w' ⟨rfl, rfl⟩))
    go_ret2
    exact ⟨by rw [HE.out]; exact rfl, rfl⟩
end Go.Proofs.YtjefaineggnogaaGreat
