/- AmountOrder returns true. -/
import Derived.Test.YtjefaineggnogaaAwakeB
import Derived.Test.YtjefaineggnogaaRef02
set_option linter.unusedVariables false
set_option linter.unusedSimpArgs false
namespace Go.Proofs.Ytjefaineggnogaa
open Go.RowKit SM

theorem addI_comm (a b : Int) : addI b a = addI a b := by
  unfold addI
  by_cases h1 : okI a <;> by_cases h2 : okI b <;> simp [h1, h2, Int.add_comm]
theorem mulI_comm (a b : Int) : mulI b a = mulI a b := by
  unfold mulI
  by_cases h1 : okI a <;> by_cases h2 : okI b <;> simp [h1, h2, Int.mul_comm]
theorem sumI3 (a b c : Int) : sumI [a, b, c] = if okI a ∧ okI b ∧ okI c ∧ a + b + c ≤ 1125899906842624 then (a + b + c, true) else (0, false) := by
  unfold sumI sumGo sumGo sumGo sumGo
  simp only [Int.zero_add]
  by_cases h1 : okI a
  · have := h1; unfold okI at this
    rw [if_pos ⟨h1, by omega⟩]
    by_cases h2 : okI b
    · have := h2; unfold okI at this
      by_cases h3 : okI c
      · have := h3; unfold okI at this
        by_cases h4 : a + b + c ≤ 1125899906842624
        · rw [if_pos ⟨h2, by omega⟩, if_pos ⟨h3, h4⟩, if_pos ⟨h1, h2, h3, h4⟩]
        · rw [if_neg (fun h : okI a ∧ okI b ∧ okI c ∧ a + b + c ≤ 1125899906842624 => h4 h.2.2.2)]
          by_cases h5 : a + b ≤ 1125899906842624
          · rw [if_pos ⟨h2, h5⟩, if_neg (fun h => h4 h.2)]
          · rw [if_neg (fun h => h5 h.2)]
      · rw [if_neg (fun h : okI a ∧ okI b ∧ okI c ∧ a + b + c ≤ 1125899906842624 => h3 h.2.2.1)]
        by_cases h5 : a + b ≤ 1125899906842624
        · rw [if_pos ⟨h2, h5⟩, if_neg (fun h => h3 h.1)]
        · rw [if_neg (fun h => h5 h.2)]
    · rw [if_neg (fun h : okI a ∧ okI b ∧ okI c ∧ a + b + c ≤ 1125899906842624 => h2 h.2.1), if_neg (fun h => h2 h.1)]
  · rw [if_neg (fun h : okI a ∧ okI b ∧ okI c ∧ a + b + c ≤ 1125899906842624 => h1 h.1), if_neg (fun h => h1 h.1)]
theorem sumI_rot (a b c : Int) : sumI [c, a, b] = sumI [a, b, c] := by
  rw [sumI3, sumI3]
  by_cases h1 : okI a <;> by_cases h2 : okI b <;> by_cases h3 : okI c <;> simp [h1, h2, h3]
  rw [show c + a + b = a + b + c by omega]
theorem addI_true {a b : Int} : (addI a b).2 = true ↔ okI a ∧ okI b ∧ a + b ≤ 1125899906842624 := by
  unfold addI; split <;> simp_all
theorem addI_val {a b : Int} (h : (addI a b).2 = true) : (addI a b).1 = a + b := by
  unfold addI at *; split <;> simp_all
theorem mulI_true {a b : Int} : (mulI a b).2 = true ↔ okI a ∧ okI b ∧ a * b ≤ 1125899906842624 := by
  unfold mulI; split <;> simp_all
theorem mulI_val {a b : Int} (h : (mulI a b).2 = true) : (mulI a b).1 = a * b := by
  unfold mulI at *; split <;> simp_all
theorem sumI_true {a b c : Int} : (sumI [a, b, c]).2 = true ↔ okI a ∧ okI b ∧ okI c ∧ a + b + c ≤ 1125899906842624 := by
  rw [sumI3]; split <;> simp_all
theorem sumI_val {a b c : Int} (h : (sumI [a, b, c]).2 = true) : (sumI [a, b, c]).1 = a + b + c := by
  rw [sumI3] at *; split <;> simp_all

/-- What the tests ask. -/
theorem order_facts (a b c : Int) :
    ((addI a b).2 = true → (addI (addI a b).1 c).2 = (sumI [a, b, c]).2) ∧
    ((addI b c).2 = true → (addI a (addI b c).1).2 = (sumI [a, b, c]).2) ∧
    ((sumI [a, b, c]).2 = true → (addI a b).2 = true ∧ (addI b c).2 = true ∧ (addI (addI a b).1 c).1 = (sumI [a, b, c]).1 ∧ (addI a (addI b c).1).1 = (sumI [a, b, c]).1 ∧ okI a ∧ okI b ∧ okI c ∧ okI (sumI [a, b, c]).1 ∧ a ≤ (sumI [a, b, c]).1) ∧
    ((addI b c).2 = true → (mulI a b).2 = true → (mulI a c).2 = true → (addI (mulI a b).1 (mulI a c).1).2 = true →
      (mulI a (addI b c).1).2 = true ∧ (mulI a (addI b c).1).1 = (addI (mulI a b).1 (mulI a c).1).1) := by
  refine ⟨fun h => ?_, fun h => ?_, fun h => ?_, fun h1 h2 h3 h4 => ?_⟩
  · rw [addI_val h, Bool.eq_iff_iff, addI_true, sumI_true]
    obtain ⟨h1, h2, h3⟩ := addI_true.1 h
    unfold okI at *
    constructor
    · rintro ⟨_, h5, h6⟩; exact ⟨h1, h2, h5, h6⟩
    · rintro ⟨_, _, h5, h6⟩; exact ⟨by omega, h5, h6⟩
  · rw [addI_val h, Bool.eq_iff_iff, addI_true, sumI_true]
    obtain ⟨h1, h2, h3⟩ := addI_true.1 h
    unfold okI at *
    constructor
    · rintro ⟨h4, h5, h6⟩; exact ⟨h4, h1, h2, by omega⟩
    · rintro ⟨h4, _, _, h6⟩; exact ⟨h4, by omega, by omega⟩
  · obtain ⟨h1, h2, h3, h4⟩ := sumI_true.1 h
    have e1 : (addI a b).2 = true := addI_true.2 ⟨h1, h2, by unfold okI at *; omega⟩
    have e2 : (addI b c).2 = true := addI_true.2 ⟨h2, h3, by unfold okI at *; omega⟩
    rw [sumI_val h, addI_val e1, addI_val e2]
    have e3 : (addI (a + b) c).2 = true := addI_true.2 ⟨by unfold okI at *; omega, h3, h4⟩
    have e4 : (addI a (b + c)).2 = true := addI_true.2 ⟨h1, by unfold okI at *; omega, by omega⟩
    refine ⟨e1, e2, addI_val e3, by rw [addI_val e4]; omega, h1, h2, h3, ?_, ?_⟩
    · unfold okI at *; omega
    · unfold okI at *; omega
  · obtain ⟨b1, c1, bc⟩ := addI_true.1 h1
    obtain ⟨a1, _, ab⟩ := mulI_true.1 h2
    rw [mulI_val h2, mulI_val h3] at h4 ⊢
    obtain ⟨x1, x2, x3⟩ := addI_true.1 h4
    rw [addI_val h1, addI_val h4]
    have e : (mulI a (b + c)).2 = true := mulI_true.2 ⟨a1, by unfold okI at *; omega, by rw [Int.mul_add]; exact x3⟩
    exact ⟨e, by rw [mulI_val e, Int.mul_add]⟩

/-- Contracts that carry along that nothing elder has turned. -/
def AddC (w : World) (a b : Int) (r : Int × Bool) : Prop := ∀ W, Below w.heap.size w W → Calls Try.prog 7 #[.int .i64 a, .int .i64 b] W fun e w' => e = .returned (.tuple #[.int .i64 r.1, .bool r.2]) ∧ Below w.heap.size w w'
def MulC (w : World) (a b : Int) (r : Int × Bool) : Prop := ∀ W, Below w.heap.size w W → Calls Try.prog 9 #[.int .i64 a, .int .i64 b] W fun e w' => e = .returned (.tuple #[.int .i64 r.1, .bool r.2]) ∧ Below w.heap.size w w'
def SumC (w : World) (a b c : Int) (r : Int × Bool) : Prop := ∀ W, Below w.heap.size w W → Calls Try.prog 15 #[.slice (some ⟨W.heap.size, 0, none⟩) 3 3] (W.alloc (.cells #[.int .i64 a, .int .i64 b, .int .i64 c] 2)) fun e w' => e = .returned (.tuple #[.int .i64 r.1, .bool r.2]) ∧ Below w.heap.size w w'
def RightC (w : World) (a : Int) : Prop := ∀ W, Below w.heap.size w W → Calls Try.prog 11 #[.int .i64 a] W fun e w' => e = .returned (.bool true) ∧ Below w.heap.size w w'
def AwakeC (w : World) : Prop := ∀ W, Below w.heap.size w W → Calls Try.prog 13 #[] W fun e w' => e = .returned (.bool true) ∧ Below w.heap.size w w'
theorem addC (w : World) (a b : Int) : AddC w a b (addI a b) := fun W hb => (add_any a b W).mono (by
  rintro e w' ⟨rfl, rfl⟩
  exact ⟨rfl, hb.alloc hb.size _⟩)
theorem mulC (w : World) (a b : Int) : MulC w a b (mulI a b) := fun W hb => (times_any a b W).mono (by
  rintro e w' ⟨rfl, rfl⟩
  exact ⟨rfl, hb⟩)
theorem sumC (w : World) (a b c : Int) : SumC w a b c (sumI [a, b, c]) := fun W hb => by
  have h := sum_any [a, b, c] (some ⟨W.heap.size, 0, none⟩) 3 (W.alloc (.cells #[.int .i64 a, .int .i64 b, .int .i64 c] 2)) (Nat.le_refl _) (by decide) (cells_rd W #[.int .i64 a, .int .i64 b, .int .i64 c] 2)
  refine Calls.mono (R := _) h ?_
  rintro e w' ⟨rfl, rfl⟩
  exact ⟨rfl, hb.alloc hb.size _⟩
theorem rightC (w : World) (a : Int) (h : okI a) : RightC w a := fun W hb => (right_yes a W h).mono (by
  rintro e w' ⟨rfl, rfl⟩
  exact ⟨rfl, hb⟩)
theorem awakeC (w : World) : AwakeC w := fun W hb => (awake_any W).mono (by
  rintro e w' ⟨rfl, h⟩
  exact ⟨rfl, hb.trans (h.mono hb.size)⟩)

set_option maxHeartbeats 8000000 in
set_option maxRecDepth 100000 in
theorem order_core (w : World) (a b c x z W0 v s p e d f : Int) (ok all left right whole fine second made sum : Bool)
    (h1 : AddC w a b (x, ok)) (h2 : AddC w b a (x, ok)) (h3 : MulC w a b (p, fine)) (h4 : MulC w b a (p, fine)) (h5 : SumC w a b c (s, all)) (h6 : SumC w c a b (s, all))
    (h7 : AddC w x c (z, left)) (h8 : AddC w b c (W0, right)) (h9 : AddC w a W0 (v, whole)) (h10 : MulC w a W0 (d, sum)) (h11 : MulC w a c (e, second)) (h12 : AddC w p e (f, made)) (h13 : AwakeC w)
    (f1 : ok = true → left = all) (f2 : right = true → whole = all) (f3 : all = true → ok = true ∧ right = true ∧ z = s ∧ v = s ∧ RightC w a ∧ RightC w b ∧ RightC w c ∧ RightC w s ∧ a ≤ s)
    (f4 : right = true → fine = true → second = true → made = true → sum = true ∧ d = f) :
    Calls Try.prog 5 #[.int .i64 a, .int .i64 b, .int .i64 c] w fun e w' => e = .returned (.bool true) ∧ Below w.heap.size w w' := by
  unfold AddC at h1 h2 h7 h8 h9 h12
  unfold MulC at h3 h4 h10 h11
  unfold SumC at h5 h6
  unfold AwakeC at h13
  unfold RightC at f3
  have H1 := Lib.hid h1
  have H2 := Lib.hid h2
  have H3 := Lib.hid h3
  have H4 := Lib.hid h4
  have H5 := Lib.hid h5
  have H6 := Lib.hid h6
  have H7 := Lib.hid h7
  have H8 := Lib.hid h8
  have H9 := Lib.hid h9
  have H10 := Lib.hid h10
  have H11 := Lib.hid h11
  have H12 := Lib.hid h12
  have H13 := Lib.hid h13
  clear h1 h2 h3 h4 h5 h6 h7 h8 h9 h10 h11 h12 h13
  have hb0 : Below w.heap.size w w := Below.refl _ _
  have step : (all = true ∧ ok = true ∧ right = true ∧ left = true ∧ whole = true) ∨ (all = false ∧ ((ok = true ∧ left = false) ∨ ok = false) ∧ ((right = true ∧ whole = false) ∨ right = false)) := by
    cases all
    · cases ok <;> cases right <;> simp_all
    · obtain ⟨h1, h2, _⟩ := f3 rfl
      simp_all
  have step2 : right = false ∨ fine = false ∨ (fine = true ∧ second = false) ∨ (fine = true ∧ second = true ∧ made = false) ∨ (fine = true ∧ second = true ∧ made = true ∧ sum = true ∧ d = f) := by
    cases right <;> cases fine <;> cases second <;> cases made <;> simp_all
  rcases step with ⟨rfl, rfl, rfl, rfl, rfl⟩ | ⟨rfl, ho, hr⟩
  · obtain ⟨_, _, rfl, rfl, g1, g2, g3, g4, g5⟩ := f3 rfl
    have H14 := Lib.hid g1
    have H15 := Lib.hid g2
    have H16 := Lib.hid g3
    have H17 := Lib.hid g4
    clear f1 f2 f3 f4 g1 g2 g3 g4
    rcases step2 with h | rfl | ⟨rfl, rfl⟩ | ⟨rfl, rfl, rfl⟩ | ⟨rfl, rfl, rfl, rfl, rfl⟩
    · cases h
    all_goals
      go_enter Try.func5, Try.ntmps5
      go_wp2_with (first | (go_at_call 13; (with_reducible refine (H13.out _ (by assumption)).mono ?_); rintro e w' ⟨rfl, hb⟩) | (go_at_call 7; first | ((with_reducible refine (H1.out _ (by assumption)).mono ?_); rintro e w' ⟨rfl, hb⟩) | ((with_reducible refine (H2.out _ (by assumption)).mono ?_); rintro e w' ⟨rfl, hb⟩) | ((with_reducible refine (H7.out _ (by assumption)).mono ?_); rintro e w' ⟨rfl, hb⟩) | ((with_reducible refine (H8.out _ (by assumption)).mono ?_); rintro e w' ⟨rfl, hb⟩) | ((with_reducible refine (H9.out _ (by assumption)).mono ?_); rintro e w' ⟨rfl, hb⟩) | ((with_reducible refine (H12.out _ (by assumption)).mono ?_); rintro e w' ⟨rfl, hb⟩)) | (go_at_call 9; first | ((with_reducible refine (H3.out _ (by assumption)).mono ?_); rintro e w' ⟨rfl, hb⟩) | ((with_reducible refine (H4.out _ (by assumption)).mono ?_); rintro e w' ⟨rfl, hb⟩) | ((with_reducible refine (H10.out _ (by assumption)).mono ?_); rintro e w' ⟨rfl, hb⟩) | ((with_reducible refine (H11.out _ (by assumption)).mono ?_); rintro e w' ⟨rfl, hb⟩)) | (go_at_call 15; first | ((with_reducible refine (H5.out _ (by assumption)).mono ?_); rintro e w' ⟨rfl, hb⟩) | ((with_reducible refine (H6.out _ (by assumption)).mono ?_); rintro e w' ⟨rfl, hb⟩)) | (go_at_call 11; first | ((with_reducible refine (H14.out _ (by assumption)).mono ?_); rintro e w' ⟨rfl, hb⟩) | ((with_reducible refine (H15.out _ (by assumption)).mono ?_); rintro e w' ⟨rfl, hb⟩) | ((with_reducible refine (H16.out _ (by assumption)).mono ?_); rintro e w' ⟨rfl, hb⟩) | ((with_reducible refine (H17.out _ (by assumption)).mono ?_); rintro e w' ⟨rfl, hb⟩)))
      go_ret
      exact ⟨by simp, by assumption⟩
  · clear f1 f2 f3 f4
    rcases ho with ⟨rfl, rfl⟩ | rfl <;> rcases hr with ⟨rfl, rfl⟩ | rfl <;> rcases step2 with h | rfl | ⟨rfl, rfl⟩ | ⟨rfl, rfl, rfl⟩ | ⟨rfl, rfl, rfl, rfl, rfl⟩
    all_goals first | (cases h; done) | skip
    all_goals
      go_enter Try.func5, Try.ntmps5
      go_wp2_with (first | (go_at_call 13; (with_reducible refine (H13.out _ (by assumption)).mono ?_); rintro e w' ⟨rfl, hb⟩) | (go_at_call 7; first | ((with_reducible refine (H1.out _ (by assumption)).mono ?_); rintro e w' ⟨rfl, hb⟩) | ((with_reducible refine (H2.out _ (by assumption)).mono ?_); rintro e w' ⟨rfl, hb⟩) | ((with_reducible refine (H7.out _ (by assumption)).mono ?_); rintro e w' ⟨rfl, hb⟩) | ((with_reducible refine (H8.out _ (by assumption)).mono ?_); rintro e w' ⟨rfl, hb⟩) | ((with_reducible refine (H9.out _ (by assumption)).mono ?_); rintro e w' ⟨rfl, hb⟩) | ((with_reducible refine (H12.out _ (by assumption)).mono ?_); rintro e w' ⟨rfl, hb⟩)) | (go_at_call 9; first | ((with_reducible refine (H3.out _ (by assumption)).mono ?_); rintro e w' ⟨rfl, hb⟩) | ((with_reducible refine (H4.out _ (by assumption)).mono ?_); rintro e w' ⟨rfl, hb⟩) | ((with_reducible refine (H10.out _ (by assumption)).mono ?_); rintro e w' ⟨rfl, hb⟩) | ((with_reducible refine (H11.out _ (by assumption)).mono ?_); rintro e w' ⟨rfl, hb⟩)) | (go_at_call 15; first | ((with_reducible refine (H5.out _ (by assumption)).mono ?_); rintro e w' ⟨rfl, hb⟩) | ((with_reducible refine (H6.out _ (by assumption)).mono ?_); rintro e w' ⟨rfl, hb⟩)))
      go_ret
      exact ⟨by simp, by assumption⟩
end Go.Proofs.Ytjefaineggnogaa
