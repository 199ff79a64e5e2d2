/- Package amount without Join: whether a number is an amount, sums, products. -/
import Derived.Test.YtnboigbknadpdaaProg
import Derived.Test.YtnboigbknadpdaaHeap
import Derived.Test.YtnboigbknadpdaaShelf
import Derived.Lib.Hide
set_option linter.unusedVariables false
set_option linter.unusedSimpArgs false
namespace Go.Proofs.Ytnboigbknadpdaa
set_option maxRecDepth 100000
open Go.RowKit SM

def okI (n : Int) : Prop := 0 ≤ n ∧ n ≤ 1125899906842624
instance (n : Int) : Decidable (okI n) := by unfold okI; infer_instance
/-- The sum from n on. -/
def sumGo (n : Int) : List Int → Int × Bool
  | [] => (n, true)
  | m :: r => if okI m ∧ n + m ≤ 1125899906842624 then sumGo (n + m) r else (0, false)
def sumI (l : List Int) : Int × Bool := sumGo 0 l
def addI (a b : Int) : Int × Bool := if okI a ∧ okI b ∧ a + b ≤ 1125899906842624 then (a + b, true) else (0, false)
def mulI (a b : Int) : Int × Bool := if okI a ∧ okI b ∧ a * b ≤ 1125899906842624 then (a * b, true) else (0, false)
theorem addI_sum (a b : Int) : sumI [a, b] = addI a b := by
  unfold sumI sumGo sumGo sumGo addI
  simp only [Int.zero_add]
  by_cases h1 : okI a
  · have := h1; unfold okI at this
    rw [if_pos ⟨h1, by omega⟩]
    by_cases h2 : okI b ∧ a + b ≤ 1125899906842624
    · rw [if_pos h2, if_pos ⟨h1, h2⟩]
    · rw [if_neg h2, if_neg (fun h => h2 h.2)]
  · rw [if_neg (fun h => h1 h.1), if_neg (fun h => h1 h.1)]

theorem right_yes (n : Int) (w : World) (h : okI n) : Calls Try.prog 33 #[.int .i64 n] w fun e w' => e = .returned (.bool true) ∧ w = w' := by
  obtain ⟨h1, h2⟩ := h
  go_enter Try.func33, Try.ntmps33
  go_wp2
  go_ret
  exact ⟨by simp, rfl⟩
theorem right_no (n : Int) (w : World) (h : ¬ okI n) : Calls Try.prog 33 #[.int .i64 n] w fun e w' => e = .returned (.bool false) ∧ w = w' := by
  by_cases h1 : 0 ≤ n
  · have h2 : ¬ n ≤ 1125899906842624 := fun h2 => h ⟨h1, h2⟩
    clear h
    go_enter Try.func33, Try.ntmps33
    go_wp2
    go_ret
    exact ⟨by simp, rfl⟩
  · clear h
    go_enter Try.func33, Try.ntmps33
    go_wp2
    go_ret
    exact ⟨by simp, rfl⟩

def encI (n : Int) : List Value := [.int .i64 n]
theorem encI_len (p : Int) : (encI p).length = 1 := rfl
theorem encI_one (p : Int) : ∀ u ∈ encI p, u.oneCell' = true := by intro u hu; simp [encI] at hu; subst hu; rfl

set_option maxHeartbeats 2000000 in
theorem sum_any (l : List Int) (A : Option Addr) (c : Nat) (w : World) (hc : l.length ≤ c) (hm : c ≤ maxLen) (hA : Rd w A (l.flatMap encI)) :
    Calls Try.prog 59 #[.slice A l.length c] w fun e w' => e = .returned (.tuple #[.int .i64 (sumI l).1, .bool (sumI l).2]) ∧ w = w' := by
  unfold maxLen at hm
  go_enter Try.func59, Try.ntmps59
  go_wp2
  go_loop [4, 9] (fun s i => ∃ (k : Nat) (n : Int), k ≤ l.length ∧ i = .int .i64 k ∧ s = .int .i64 n ∧ okI n ∧ Hid (sumI l = sumGo n (l.drop k))) (fun _ i => l.length - (intOf i).toNat)
  case atStart => exact ⟨0, 0, Nat.zero_le _, rfl, rfl, by unfold okI; omega, by exact rfl⟩
  case round =>
    obtain ⟨k, n, hk, rfl, rfl, ⟨hn1, hn2⟩, HS⟩ := hrel
    by_cases hlt : k < l.length
    · obtain ⟨m, hm0⟩ : ∃ m, l[k]? = some m := ⟨_, List.getElem?_eq_getElem hlt⟩
      obtain ⟨b, o, rfl, hcell⟩ := Rd.elem (enc := encI) (k := 1) encI_len (by omega) hA (j := k) (x := m) hm0
      have h0 := hcell 0 _ rfl
      simp only [Nat.mul_one, Nat.add_zero] at h0
      have HD : Hid (l.drop k = m :: l.drop (k + 1)) := by
        rw [List.drop_eq_getElem_cons hlt]
        rw [List.getElem?_eq_getElem hlt] at hm0
        injection hm0 with hm0
        rw [hm0]; exact rfl
      clear hcell hA hm0
      by_cases hr : okI m
      · obtain ⟨hm1, hm2⟩ := hr
        have hc := fun w => right_yes m w ⟨hm1, hm2⟩
        have HC := Lib.hid hc
        clear hc
        by_cases hs : n + m ≤ 1125899906842624
        · go_wp2_with (go_at_call 33; (with_reducible refine (HC.out _).mono ?_); rintro e w' ⟨rfl, rfl⟩)
          go_round
          case rel => exact ⟨k + 1, n + m, by omega, by go_num, rfl, by unfold okI; omega, by rw [HS.out, HD.out, sumGo, if_pos ⟨⟨hm1, hm2⟩, hs⟩]; exact rfl⟩
          case measure => simp [intOf]; omega
        · have HE : Hid (sumI l = (0, false)) := by rw [HS.out, HD.out, sumGo, if_neg (fun h => hs h.2)]; exact rfl
          clear HS
          go_wp2_with (go_at_call 33; (with_reducible refine (HC.out _).mono ?_); rintro e w' ⟨rfl, rfl⟩)
          go_ret2
          exact ⟨by rw [HE.out]; exact rfl, rfl⟩
      · have hc := fun w => right_no m w hr
        have HE : Hid (sumI l = (0, false)) := by rw [HS.out, HD.out, sumGo, if_neg (fun h => hr h.1)]; exact rfl
        have HC := Lib.hid hc
        clear hc hr HS
        go_wp2_with (go_at_call 33; (with_reducible refine (HC.out _).mono ?_); rintro e w' ⟨rfl, rfl⟩)
        go_ret2
        exact ⟨by rw [HE.out]; exact rfl, rfl⟩
    · obtain rfl : k = l.length := by omega
      have HE : Hid (sumI l = (n, true)) := by rw [HS.out, List.drop_length]; exact rfl
      clear HS
      go_wp2
      go_ret2
      exact ⟨by rw [HE.out]; exact rfl, rfl⟩

theorem cells_two (w : World) (u v : Value) (t : TypeId) : Rd (w.alloc (.cells #[u, v] t)) (some ⟨w.heap.size, 0, none⟩) [u, v] := fun _ =>
  ⟨w.heap.size, 0, rfl, fun j x hx => by
    rw [cell_of_row _ w.heap.size _ #[u, v] t (0, 0) (heap_alloc_new w _)]
    rw [Nat.zero_add, ← Array.getElem?_toList]
    exact hx⟩

set_option maxHeartbeats 2000000 in
theorem add_any (a b : Int) (w : World) :
    Calls Try.prog 41 #[.int .i64 a, .int .i64 b] w fun e w' => e = .returned (.tuple #[.int .i64 (addI a b).1, .bool (addI a b).2]) ∧ w.alloc (.cells #[.int .i64 a, .int .i64 b] 2) = w' := by
  have hs : Calls Try.prog 59 #[.slice (some ⟨w.heap.size, 0, none⟩) 2 2] (w.alloc (.cells #[.int .i64 a, .int .i64 b] 2)) fun e w' => e = .returned (.tuple #[.int .i64 (addI a b).1, .bool (addI a b).2]) ∧ w.alloc (.cells #[.int .i64 a, .int .i64 b] 2) = w' := by
    have h := sum_any [a, b] (some ⟨w.heap.size, 0, none⟩) 2 (w.alloc (.cells #[.int .i64 a, .int .i64 b] 2)) (by simp) (by decide) (cells_two w _ _ _)
    rw [addI_sum] at h
    exact h
  have HS := Lib.hid hs
  clear hs
  go_enter Try.func41, Try.ntmps41
  go_wp2_with (go_at_call 59; (with_reducible refine HS.out.mono ?_); rintro e w' ⟨rfl, rfl⟩)
  go_ret2
  exact ⟨rfl, rfl⟩

theorem nat_of_okI {a : Int} (h : okI a) : ∃ n : Nat, a = n ∧ n ≤ 1125899906842624 := ⟨a.toNat, by unfold okI at h; omega, by unfold okI at h; omega⟩
set_option maxHeartbeats 2000000 in
theorem times_any (a b : Int) (w : World) :
    Calls Try.prog 16 #[.int .i64 a, .int .i64 b] w fun e w' => e = .returned (.tuple #[.int .i64 (mulI a b).1, .bool (mulI a b).2]) ∧ w = w' := by
  by_cases ha : okI a
  · have hc := fun w => right_yes a w ha
    have HC := Lib.hid hc
    clear hc
    by_cases hb : okI b
    · have hd := fun w => right_yes b w hb
      have HD := Lib.hid hd
      clear hd
      obtain ⟨m, rfl, hm⟩ := nat_of_okI ha
      obtain ⟨n, rfl, hn⟩ := nat_of_okI hb
      have hmn : m * n ≤ 1125899906842624 * 1125899906842624 := Nat.mul_le_mul hm hn
      have hx := Try.bits_Mul64 m n (by omega) (by omega)
      have HX := Lib.hid hx
      clear hx
      by_cases hs : m * n ≤ 1125899906842624
      · have HE : Hid (mulI m n = (((m * n : Nat) : Int), true)) := by
          unfold mulI; rw [if_pos ⟨ha, hb, by rw [← Int.natCast_mul]; omega⟩]; exact rfl
        have h1 : m * n / 18446744073709551616 = 0 := Nat.div_eq_of_lt (by omega)
        have h2 : m * n % 18446744073709551616 = m * n := Nat.mod_eq_of_lt (by omega)
        rw [h1, h2] at HX
        clear h1 h2 ha hb
        generalize m * n = p at *
        go_enter Try.func16, Try.ntmps16
        go_wp2_with (first | (go_at_call 39; (with_reducible refine (HX.out _).mono ?_); rintro e w' ⟨rfl, rfl⟩) | (go_at_call 33; first | ((with_reducible refine (HC.out _).mono ?_); rintro e w' ⟨rfl, rfl⟩) | ((with_reducible refine (HD.out _).mono ?_); rintro e w' ⟨rfl, rfl⟩)))
        go_ret2
        exact ⟨by rw [HE.out]; exact rfl, rfl⟩
      · have HE : Hid (mulI m n = (0, false)) := by
          unfold mulI; rw [if_neg (fun h => hs (by have := h.2.2; rw [← Int.natCast_mul] at this; omega))]; exact rfl
        by_cases hq : m * n / 18446744073709551616 = 0
        · have h2 : m * n % 18446744073709551616 = m * n := Nat.mod_eq_of_lt (by omega)
          rw [hq, h2] at HX
          clear hq h2 ha hb
          generalize m * n = p at *
          go_enter Try.func16, Try.ntmps16
          go_wp2_with (first | (go_at_call 39; (with_reducible refine (HX.out _).mono ?_); rintro e w' ⟨rfl, rfl⟩) | (go_at_call 33; first | ((with_reducible refine (HC.out _).mono ?_); rintro e w' ⟨rfl, rfl⟩) | ((with_reducible refine (HD.out _).mono ?_); rintro e w' ⟨rfl, rfl⟩)))
          go_ret2
          exact ⟨by rw [HE.out]; exact rfl, rfl⟩
        · have hq2 : 0 < m * n / 18446744073709551616 := by omega
          clear hq ha hb hs hmn
          generalize m * n / 18446744073709551616 = q at *
          generalize m * n % 18446744073709551616 = r at *
          go_enter Try.func16, Try.ntmps16
          go_wp2_with (first | (go_at_call 39; (with_reducible refine (HX.out _).mono ?_); rintro e w' ⟨rfl, rfl⟩) | (go_at_call 33; first | ((with_reducible refine (HC.out _).mono ?_); rintro e w' ⟨rfl, rfl⟩) | ((with_reducible refine (HD.out _).mono ?_); rintro e w' ⟨rfl, rfl⟩)))
          go_ret2
          exact ⟨by rw [HE.out]; exact rfl, rfl⟩
    · have HE : Hid (mulI a b = (0, false)) := by
        unfold mulI; rw [if_neg (fun h => hb h.2.1)]; exact rfl
      have hd := fun w => right_no b w hb
      have HD := Lib.hid hd
      clear hd hb ha
      go_enter Try.func16, Try.ntmps16
      go_wp2_with (go_at_call 33; first | ((with_reducible refine (HC.out _).mono ?_); rintro e w' ⟨rfl, rfl⟩) | ((with_reducible refine (HD.out _).mono ?_); rintro e w' ⟨rfl, rfl⟩))
      go_ret2
      exact ⟨by rw [HE.out]; exact rfl, rfl⟩
  · have HE : Hid (mulI a b = (0, false)) := by
      unfold mulI; rw [if_neg (fun h => ha h.1)]; exact rfl
    have hd := fun w => right_no a w ha
    have HD := Lib.hid hd
    clear hd ha
    go_enter Try.func16, Try.ntmps16
    go_wp2_with (go_at_call 33; ((with_reducible refine (HD.out _).mono ?_); rintro e w' ⟨rfl, rfl⟩))
    go_ret2
    exact ⟨by rw [HE.out]; exact rfl, rfl⟩
end Go.Proofs.Ytnboigbknadpdaa
