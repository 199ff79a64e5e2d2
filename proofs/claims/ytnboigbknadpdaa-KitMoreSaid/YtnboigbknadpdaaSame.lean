/- Whether two lists of parts are the same. -/
import Derived.Test.YtnboigbknadpdaaConcat
import Derived.Laws.StructEq
import Derived.Deep.QuietTactic
import Derived.BigQuiet
set_option linter.unusedVariables false
set_option linter.unusedSimpArgs false
namespace Go.Proofs.Ytnboigbknadpdaa
set_option maxRecDepth 100000
open Go.RowKit SM

theorem str_eq_iff (a b : ByteArray) : (a.toList == b.toList) = decide (a = b) := by
  rw [← beq_toListBytes]
  have h : (a == b) = (a.data == b.data) := rfl
  rw [h]
  by_cases e : a = b
  · subst e; simp
  · have : a.data ≠ b.data := fun h => e (by cases a; cases b; simpa using h)
    simp [e, this]
theorem eqPart (x y : Prt) (w : World) : (Op.equalIn 10000 39 (.agg #[.string x.1, .int .i64 x.2]) (.agg #[.string y.1, .int .i64 y.2])).run Try.prog w = .ok (decide (x = y)) w := by
  have hS : Try.prog.underlying 39 = some (.struct (Try.prog.fieldsOf 39)) := by kernel_rfl
  have hp : Try.prog.stoodInHeld 39 = false := by kernel_rfl
  rw [show (10000 : Nat) = 9999 + 1 from rfl, run_equalIn_agg w 9999 39 _ _ hS hp]
  simp only [Program.fieldsOf, Try.underlying39]
  go_simp
  obtain ⟨a, b⟩ := x
  obtain ⟨c, d⟩ := y
  have e := str_eq_iff a c
  by_cases h1 : a = c <;> by_cases h2 : b = d <;> simp [h1] at e <;> simp [h1, h2, e]

theorem neqPart (x y : Prt) (w : World) : (binOp .neq 39 (.agg #[.string x.1, .int .i64 x.2]) (.agg #[.string y.1, .int .i64 y.2])).run Try.prog w = .ok (.bool (!decide (x = y))) w := by
  rw [run_neq_struct, eqPart]; rfl

theorem eqlPart (x y : Prt) (w : World) : (binOp .eql 39 (.agg #[.string x.1, .int .i64 x.2]) (.agg #[.string y.1, .int .i64 y.2])).run Try.prog w = .ok (.bool (decide (x = y))) w := by
  rw [run_eql_struct, eqPart]; rfl

set_option maxHeartbeats 4000000 in
theorem same_parts (xs ys : List Prt) (A B : Option Addr) (c d : Nat) (w : World) (hc : xs.length ≤ c) (hd : ys.length ≤ d) (hcm : c ≤ maxLen) (hdm : d ≤ maxLen) (hA : Rd w A (xs.flatMap encP)) (hB : Rd w B (ys.flatMap encP)) :
    Calls Try.prog 20 #[.slice A xs.length c, .slice B ys.length d] w fun e w' => e = .returned (.bool (decide (xs = ys))) ∧ ∃ n, w' = w.drewN n := by
  unfold maxLen at hcm hdm
  by_cases hl : xs.length = ys.length
  · have c3b1 : ((xs.length : Int) != (ys.length : Int)) = false := bne_eq_false_iff_eq.mpr (by omega)
    have c3b2 : (xs.length == ys.length) = true := by simpa using hl
    have HL := Lib.hid hl
    clear hl
    go_enter Try.func20, Try.ntmps20
    go_wp2
    clear c3b1 c3b2
    go_loopw [5] (fun i wr => ∃ (k m : Nat), k ≤ xs.length ∧ i = .int .i64 k ∧ Hid (xs.take k = ys.take k) ∧ wr = w.drewN m) (fun i _ => xs.length - (intOf i).toNat)
    case atStart => exact ⟨0, 0, Nat.zero_le _, rfl, (by simp : xs.take 0 = ys.take 0), rfl⟩
    case round =>
      obtain ⟨k, m, hk, rfl, HT, rfl⟩ := hrel
      by_cases hlt : k < xs.length
      · have hlt2 : k < ys.length := by have := HL.out; omega
        have hx : xs[k]? = some xs[k] := List.getElem?_eq_getElem hlt
        have hy : ys[k]? = some ys[k] := List.getElem?_eq_getElem hlt2
        obtain ⟨x, hxe⟩ : ∃ x, x = xs[k] := ⟨_, rfl⟩
        obtain ⟨y, hye⟩ : ∃ y, y = ys[k] := ⟨_, rfl⟩
        rw [← hxe] at hx
        rw [← hye] at hy
        obtain ⟨b, o, rfl, hcell⟩ := Rd.elem (enc := encP) (k := 2) encP_len (by omega) hA hx
        obtain ⟨b', o', rfl, hcell'⟩ := Rd.elem (enc := encP) (k := 2) encP_len (by omega) hB hy
        have h0 := hcell 0 (.string x.1) rfl
        have h1 := hcell 1 (.int .i64 x.2) rfl
        have h2 := hcell' 0 (.string y.1) rfl
        have h3 := hcell' 1 (.int .i64 y.2) rfl
        simp only [Nat.add_zero] at h0 h2
        have hneq := fun w => neqPart x y w
        have hki : decide ((k : Int) < (ys.length : Int)) = true := decide_eq_true (by omega)
        have hki2 : (k : Int) < (ys.length : Int) := by omega
        have hki3 : (k : Int) < (xs.length : Int) := by omega
        have hk0 : (0 : Int) ≤ (k : Int) := by omega
        have HXE := Lib.hid (And.intro hxe hye)
        by_cases he : x = y
        · have HT2 : Hid (xs.take (k + 1) = ys.take (k + 1)) := by
            rw [List.take_succ_eq_append_getElem hlt, List.take_succ_eq_append_getElem hlt2, ← hxe, ← hye, he, HT.out]; exact rfl
          have hd1 : decide (x = y) = true := decide_eq_true he
          simp only [hd1, Bool.not_true] at hneq
          clear hcell hcell' hA hB hx hy hxe hye hd1 he
          go_wp2
          go_quiet (fail)
          go_wp2
          go_roundw
          case rel => exact ⟨k + 1, _, by omega, by go_num, HT2, rfl⟩
          case measure => simp [intOf]; omega
        · have HN : Hid (decide (xs = ys) = false) := decide_eq_false (fun e => he (by rw [hxe, hye]; simp only [e]))
          have hd1 : decide (x = y) = false := decide_eq_false he
          simp only [hd1, Bool.not_false] at hneq
          clear hcell hcell' hA hB hx hy hxe hye hd1 he
          go_wp2
          go_quiet (fail)
          go_wp2
          go_ret
          exact ⟨by rw [HN.out]; exact rfl, _, World.drewN_drewN ..⟩
      · obtain rfl : k = xs.length := by omega
        have HY : Hid (decide (xs = ys) = true) := decide_eq_true (by
          have h := HT.out
          rw [List.take_length] at h
          rw [h, HL.out, List.take_length])
        clear HT
        go_wp2
        go_ret
        exact ⟨by rw [HY.out]; exact rfl, _, rfl⟩
  · have c3b1 : ((xs.length : Int) != (ys.length : Int)) = true := by rw [bne_iff_ne]; omega
    have c3b2 : (xs.length == ys.length) = false := by simpa using hl
    have HN : Hid (decide (xs = ys) = false) := decide_eq_false (fun e => hl (by rw [e]))
    clear hl
    go_enter Try.func20, Try.ntmps20
    go_wp2
    go_ret
    exact ⟨by rw [HN.out]; exact rfl, 0, rfl⟩
end Go.Proofs.Ytnboigbknadpdaa
