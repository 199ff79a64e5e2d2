/- Lists of lists that are none: they lie apart. -/
import Derived.Test.YtjefaineggnogaaGreatRows2
import Derived.Test.YtjefaineggnogaaGreatProg
import Derived.Lib.Hide
set_option linter.unusedVariables false
set_option linter.unusedSimpArgs false
namespace Go.Proofs.YtjefaineggnogaaGreat
set_option maxRecDepth 100000
open Go.RowKit SM

set_option maxHeartbeats 2000000 in
theorem flatWords_nil (w : World) : Calls Tryz.prog 39 #[.slice none 0 0] w fun e w' => e = .returned (.bool true) ∧ Below w.heap.size w w' := by
  have hinfo : (Tryz.prog.info? 118).map (fun i => (i.zero, i.size, i.bytes)) = some (some (.slice none 0 0), 1, 24) := by kernel_rfl
  obtain ⟨i0, hi, hz0, hz1, hz2⟩ := info_parts hinfo
  obtain ⟨v1, w1, hmk, _, hg⟩ : ∃ v1 w1, (Instr.makeSlice 50 (.int .i64 0) (.int .i64 0)).run Tryz.prog w = .ok v1 w1 ∧ True ∧ w.grownBy w1 none := by
    obtain ⟨w1, h1, _, h3⟩ := run_makeSlice_full (P := Tryz.prog) w w.heap.size 50 118 i0 _ 1 Tryz.underlying50 hi hz0 hz1 .i64 .i64 0 (by omega) (by omega) (by unfold maxLen; omega) (Nat.le_refl _)
    exact ⟨_, w1, h1, trivial, h3⟩
  have hb : Below w.heap.size w w1 := (Below.refl _ w).grown hg (Nat.le_refl _) (fun j hj => by cases hj)
  have HB := Lib.hid hb
  clear hg hb hi hz0 hz1 hz2 hinfo
  go_enter Tryz.func39, Tryz.ntmps39
  go_wp2
  go_loopw [3] (fun i wr => i = .int .i64 0 ∧ wr = w) (fun i _ => 0)
  case atStart => exact ⟨rfl, rfl⟩
  case round =>
    obtain ⟨rfl, rfl⟩ := hrel
    go_wp2
    go_loopw [6] (fun i wr => i = .int .i64 0 ∧ wr = w1) (fun i _ => 0)
    case atStart => exact ⟨rfl, rfl⟩
    case round =>
      obtain ⟨rfl, rfl⟩ := hrel
      go_wp2
      go_loopw [9] (fun i w2 => i = .int .i64 0 ∧ w2 = wr) (fun i _ => 0)
      case atStart => exact ⟨rfl, rfl⟩
      case round =>
        obtain ⟨rfl, rfl⟩ := hrel
        go_wp2
        go_loopw [11] (fun i w2 => i = .int .i64 0 ∧ w2 = wr) (fun i _ => 0)
        case atStart => exact ⟨rfl, rfl⟩
        case round =>
          obtain ⟨rfl, rfl⟩ := hrel
          go_wp2
          go_loopw [14] (fun i w2 => i = .int .i64 0 ∧ w2 = wr) (fun i _ => 0)
          case atStart => exact ⟨rfl, rfl⟩
          case round =>
            obtain ⟨rfl, rfl⟩ := hrel
            go_wp2
            go_ret
            exact ⟨rfl, HB.out⟩
set_option maxHeartbeats 2000000 in
theorem flatInts_nil (w : World) : Calls Tryz.prog 40 #[.slice none 0 0] w fun e w' => e = .returned (.bool true) ∧ Below w.heap.size w w' := by
  have hinfo : (Tryz.prog.info? 119).map (fun i => (i.zero, i.size, i.bytes)) = some (some (.slice none 0 0), 1, 24) := by kernel_rfl
  obtain ⟨i0, hi, hz0, hz1, hz2⟩ := info_parts hinfo
  obtain ⟨v1, w1, hmk, _, hg⟩ : ∃ v1 w1, (Instr.makeSlice 51 (.int .i64 0) (.int .i64 0)).run Tryz.prog w = .ok v1 w1 ∧ True ∧ w.grownBy w1 none := by
    obtain ⟨w1, h1, _, h3⟩ := run_makeSlice_full (P := Tryz.prog) w w.heap.size 51 119 i0 _ 1 Tryz.underlying51 hi hz0 hz1 .i64 .i64 0 (by omega) (by omega) (by unfold maxLen; omega) (Nat.le_refl _)
    exact ⟨_, w1, h1, trivial, h3⟩
  have hb : Below w.heap.size w w1 := (Below.refl _ w).grown hg (Nat.le_refl _) (fun j hj => by cases hj)
  have HB := Lib.hid hb
  clear hg hb hi hz0 hz1 hz2 hinfo
  go_enter Tryz.func40, Tryz.ntmps40
  go_wp2
  go_loopw [3] (fun i wr => i = .int .i64 0 ∧ wr = w) (fun i _ => 0)
  case atStart => exact ⟨rfl, rfl⟩
  case round =>
    obtain ⟨rfl, rfl⟩ := hrel
    go_wp2
    go_loopw [6] (fun i wr => i = .int .i64 0 ∧ wr = w1) (fun i _ => 0)
    case atStart => exact ⟨rfl, rfl⟩
    case round =>
      obtain ⟨rfl, rfl⟩ := hrel
      go_wp2
      go_loopw [9] (fun i w2 => i = .int .i64 0 ∧ w2 = wr) (fun i _ => 0)
      case atStart => exact ⟨rfl, rfl⟩
      case round =>
        obtain ⟨rfl, rfl⟩ := hrel
        go_wp2
        go_loopw [11] (fun i w2 => i = .int .i64 0 ∧ w2 = wr) (fun i _ => 0)
        case atStart => exact ⟨rfl, rfl⟩
        case round =>
          obtain ⟨rfl, rfl⟩ := hrel
          go_wp2
          go_loopw [14] (fun i w2 => i = .int .i64 0 ∧ w2 = wr) (fun i _ => 0)
          case atStart => exact ⟨rfl, rfl⟩
          case round =>
            obtain ⟨rfl, rfl⟩ := hrel
            go_wp2
            go_ret
            exact ⟨rfl, HB.out⟩
set_option maxHeartbeats 2000000 in
theorem flatLongs_nil (w : World) : Calls Tryz.prog 41 #[.slice none 0 0] w fun e w' => e = .returned (.bool true) ∧ Below w.heap.size w w' := by
  have hinfo : (Tryz.prog.info? 34).map (fun i => (i.zero, i.size, i.bytes)) = some (some (.slice none 0 0), 1, 24) := by kernel_rfl
  obtain ⟨i0, hi, hz0, hz1, hz2⟩ := info_parts hinfo
  obtain ⟨v1, w1, hmk, _, hg⟩ : ∃ v1 w1, (Instr.makeSlice 52 (.int .i64 0) (.int .i64 0)).run Tryz.prog w = .ok v1 w1 ∧ True ∧ w.grownBy w1 none := by
    obtain ⟨w1, h1, _, h3⟩ := run_makeSlice_full (P := Tryz.prog) w w.heap.size 52 34 i0 _ 1 Tryz.underlying52 hi hz0 hz1 .i64 .i64 0 (by omega) (by omega) (by unfold maxLen; omega) (Nat.le_refl _)
    exact ⟨_, w1, h1, trivial, h3⟩
  have hb : Below w.heap.size w w1 := (Below.refl _ w).grown hg (Nat.le_refl _) (fun j hj => by cases hj)
  have HB := Lib.hid hb
  clear hg hb hi hz0 hz1 hz2 hinfo
  go_enter Tryz.func41, Tryz.ntmps41
  go_wp2
  go_loopw [3] (fun i wr => i = .int .i64 0 ∧ wr = w) (fun i _ => 0)
  case atStart => exact ⟨rfl, rfl⟩
  case round =>
    obtain ⟨rfl, rfl⟩ := hrel
    go_wp2
    go_loopw [6] (fun i wr => i = .int .i64 0 ∧ wr = w1) (fun i _ => 0)
    case atStart => exact ⟨rfl, rfl⟩
    case round =>
      obtain ⟨rfl, rfl⟩ := hrel
      go_wp2
      go_loopw [9] (fun i w2 => i = .int .i64 0 ∧ w2 = wr) (fun i _ => 0)
      case atStart => exact ⟨rfl, rfl⟩
      case round =>
        obtain ⟨rfl, rfl⟩ := hrel
        go_wp2
        go_loopw [11] (fun i w2 => i = .int .i64 0 ∧ w2 = wr) (fun i _ => 0)
        case atStart => exact ⟨rfl, rfl⟩
        case round =>
          obtain ⟨rfl, rfl⟩ := hrel
          go_wp2
          go_loopw [14] (fun i w2 => i = .int .i64 0 ∧ w2 = wr) (fun i _ => 0)
          case atStart => exact ⟨rfl, rfl⟩
          case round =>
            obtain ⟨rfl, rfl⟩ := hrel
            go_wp2
            go_ret
            exact ⟨rfl, HB.out⟩
set_option maxHeartbeats 2000000 in
theorem flatTexts_nil (w : World) : Calls Tryz.prog 42 #[.slice none 0 0] w fun e w' => e = .returned (.bool true) ∧ Below w.heap.size w w' := by
  have hinfo : (Tryz.prog.info? 120).map (fun i => (i.zero, i.size, i.bytes)) = some (some (.slice none 0 0), 1, 24) := by kernel_rfl
  obtain ⟨i0, hi, hz0, hz1, hz2⟩ := info_parts hinfo
  obtain ⟨v1, w1, hmk, _, hg⟩ : ∃ v1 w1, (Instr.makeSlice 53 (.int .i64 0) (.int .i64 0)).run Tryz.prog w = .ok v1 w1 ∧ True ∧ w.grownBy w1 none := by
    obtain ⟨w1, h1, _, h3⟩ := run_makeSlice_full (P := Tryz.prog) w w.heap.size 53 120 i0 _ 1 Tryz.underlying53 hi hz0 hz1 .i64 .i64 0 (by omega) (by omega) (by unfold maxLen; omega) (Nat.le_refl _)
    exact ⟨_, w1, h1, trivial, h3⟩
  have hb : Below w.heap.size w w1 := (Below.refl _ w).grown hg (Nat.le_refl _) (fun j hj => by cases hj)
  have HB := Lib.hid hb
  clear hg hb hi hz0 hz1 hz2 hinfo
  go_enter Tryz.func42, Tryz.ntmps42
  go_wp2
  go_loopw [3] (fun i wr => i = .int .i64 0 ∧ wr = w) (fun i _ => 0)
  case atStart => exact ⟨rfl, rfl⟩
  case round =>
    obtain ⟨rfl, rfl⟩ := hrel
    go_wp2
    go_loopw [6] (fun i wr => i = .int .i64 0 ∧ wr = w1) (fun i _ => 0)
    case atStart => exact ⟨rfl, rfl⟩
    case round =>
      obtain ⟨rfl, rfl⟩ := hrel
      go_wp2
      go_loopw [9] (fun i w2 => i = .int .i64 0 ∧ w2 = wr) (fun i _ => 0)
      case atStart => exact ⟨rfl, rfl⟩
      case round =>
        obtain ⟨rfl, rfl⟩ := hrel
        go_wp2
        go_loopw [11] (fun i w2 => i = .int .i64 0 ∧ w2 = wr) (fun i _ => 0)
        case atStart => exact ⟨rfl, rfl⟩
        case round =>
          obtain ⟨rfl, rfl⟩ := hrel
          go_wp2
          go_loopw [14] (fun i w2 => i = .int .i64 0 ∧ w2 = wr) (fun i _ => 0)
          case atStart => exact ⟨rfl, rfl⟩
          case round =>
            obtain ⟨rfl, rfl⟩ := hrel
            go_wp2
            go_ret
            exact ⟨rfl, HB.out⟩
set_option maxHeartbeats 2000000 in
theorem flatBytes_nil (w : World) : Calls Tryz.prog 43 #[.slice none 0 0] w fun e w' => e = .returned (.bool true) ∧ Below w.heap.size w w' := by
  have hinfo : (Tryz.prog.info? 122).map (fun i => (i.zero, i.size, i.bytes)) = some (some (.slice none 0 0), 1, 24) := by kernel_rfl
  obtain ⟨i0, hi, hz0, hz1, hz2⟩ := info_parts hinfo
  obtain ⟨v1, w1, hmk, _, hg⟩ : ∃ v1 w1, (Instr.makeSlice 54 (.int .i64 0) (.int .i64 0)).run Tryz.prog w = .ok v1 w1 ∧ True ∧ w.grownBy w1 none := by
    obtain ⟨w1, h1, _, h3⟩ := run_makeSlice_full (P := Tryz.prog) w w.heap.size 54 122 i0 _ 1 Tryz.underlying54 hi hz0 hz1 .i64 .i64 0 (by omega) (by omega) (by unfold maxLen; omega) (Nat.le_refl _)
    exact ⟨_, w1, h1, trivial, h3⟩
  have hb : Below w.heap.size w w1 := (Below.refl _ w).grown hg (Nat.le_refl _) (fun j hj => by cases hj)
  have HB := Lib.hid hb
  clear hg hb hi hz0 hz1 hz2 hinfo
  go_enter Tryz.func43, Tryz.ntmps43
  go_wp2
  go_loopw [3] (fun i wr => i = .int .i64 0 ∧ wr = w) (fun i _ => 0)
  case atStart => exact ⟨rfl, rfl⟩
  case round =>
    obtain ⟨rfl, rfl⟩ := hrel
    go_wp2
    go_loopw [6] (fun i wr => i = .int .i64 0 ∧ wr = w1) (fun i _ => 0)
    case atStart => exact ⟨rfl, rfl⟩
    case round =>
      obtain ⟨rfl, rfl⟩ := hrel
      go_wp2
      go_loopw [9] (fun i w2 => i = .int .i64 0 ∧ w2 = wr) (fun i _ => 0)
      case atStart => exact ⟨rfl, rfl⟩
      case round =>
        obtain ⟨rfl, rfl⟩ := hrel
        go_wp2
        go_loopw [11] (fun i w2 => i = .int .i64 0 ∧ w2 = wr) (fun i _ => 0)
        case atStart => exact ⟨rfl, rfl⟩
        case round =>
          obtain ⟨rfl, rfl⟩ := hrel
          go_wp2
          go_loopw [14] (fun i w2 => i = .int .i64 0 ∧ w2 = wr) (fun i _ => 0)
          case atStart => exact ⟨rfl, rfl⟩
          case round =>
            obtain ⟨rfl, rfl⟩ := hrel
            go_wp2
            go_ret
            exact ⟨rfl, HB.out⟩
set_option maxHeartbeats 2000000 in
theorem flatWindows_nil (w : World) : Calls Tryz.prog 44 #[.slice none 0 0] w fun e w' => e = .returned (.bool true) ∧ Below w.heap.size w w' := by
  have hinfo : (Tryz.prog.info? 124).map (fun i => (i.zero, i.size, i.bytes)) = some (some (.slice none 0 0), 1, 24) := by kernel_rfl
  obtain ⟨i0, hi, hz0, hz1, hz2⟩ := info_parts hinfo
  obtain ⟨v1, w1, hmk, _, hg⟩ : ∃ v1 w1, (Instr.makeSlice 55 (.int .i64 0) (.int .i64 0)).run Tryz.prog w = .ok v1 w1 ∧ True ∧ w.grownBy w1 none := by
    obtain ⟨w1, h1, _, h3⟩ := run_makeSlice_full (P := Tryz.prog) w w.heap.size 55 124 i0 _ 1 Tryz.underlying55 hi hz0 hz1 .i64 .i64 0 (by omega) (by omega) (by unfold maxLen; omega) (Nat.le_refl _)
    exact ⟨_, w1, h1, trivial, h3⟩
  have hb : Below w.heap.size w w1 := (Below.refl _ w).grown hg (Nat.le_refl _) (fun j hj => by cases hj)
  have HB := Lib.hid hb
  clear hg hb hi hz0 hz1 hz2 hinfo
  go_enter Tryz.func44, Tryz.ntmps44
  go_wp2
  go_loopw [3] (fun i wr => i = .int .i64 0 ∧ wr = w) (fun i _ => 0)
  case atStart => exact ⟨rfl, rfl⟩
  case round =>
    obtain ⟨rfl, rfl⟩ := hrel
    go_wp2
    go_loopw [6] (fun i wr => i = .int .i64 0 ∧ wr = w1) (fun i _ => 0)
    case atStart => exact ⟨rfl, rfl⟩
    case round =>
      obtain ⟨rfl, rfl⟩ := hrel
      go_wp2
      go_loopw [9] (fun i w2 => i = .int .i64 0 ∧ w2 = wr) (fun i _ => 0)
      case atStart => exact ⟨rfl, rfl⟩
      case round =>
        obtain ⟨rfl, rfl⟩ := hrel
        go_wp2
        go_loopw [11] (fun i w2 => i = .int .i64 0 ∧ w2 = wr) (fun i _ => 0)
        case atStart => exact ⟨rfl, rfl⟩
        case round =>
          obtain ⟨rfl, rfl⟩ := hrel
          go_wp2
          go_loopw [14] (fun i w2 => i = .int .i64 0 ∧ w2 = wr) (fun i _ => 0)
          case atStart => exact ⟨rfl, rfl⟩
          case round =>
            obtain ⟨rfl, rfl⟩ := hrel
            go_wp2
            go_ret
            exact ⟨rfl, HB.out⟩
set_option maxHeartbeats 2000000 in
theorem flatLots_nil (w : World) : Calls Tryz.prog 45 #[.slice none 0 0] w fun e w' => e = .returned (.bool true) ∧ Below w.heap.size w w' := by
  have hinfo : (Tryz.prog.info? 128).map (fun i => (i.zero, i.size, i.bytes)) = some (some (.slice none 0 0), 1, 24) := by kernel_rfl
  obtain ⟨i0, hi, hz0, hz1, hz2⟩ := info_parts hinfo
  obtain ⟨v1, w1, hmk, _, hg⟩ : ∃ v1 w1, (Instr.makeSlice 56 (.int .i64 0) (.int .i64 0)).run Tryz.prog w = .ok v1 w1 ∧ True ∧ w.grownBy w1 none := by
    obtain ⟨w1, h1, _, h3⟩ := run_makeSlice_full (P := Tryz.prog) w w.heap.size 56 128 i0 _ 1 Tryz.underlying56 hi hz0 hz1 .i64 .i64 0 (by omega) (by omega) (by unfold maxLen; omega) (Nat.le_refl _)
    exact ⟨_, w1, h1, trivial, h3⟩
  have hb : Below w.heap.size w w1 := (Below.refl _ w).grown hg (Nat.le_refl _) (fun j hj => by cases hj)
  have HB := Lib.hid hb
  clear hg hb hi hz0 hz1 hz2 hinfo
  go_enter Tryz.func45, Tryz.ntmps45
  go_wp2
  go_loopw [3] (fun i wr => i = .int .i64 0 ∧ wr = w) (fun i _ => 0)
  case atStart => exact ⟨rfl, rfl⟩
  case round =>
    obtain ⟨rfl, rfl⟩ := hrel
    go_wp2
    go_loopw [6] (fun i wr => i = .int .i64 0 ∧ wr = w1) (fun i _ => 0)
    case atStart => exact ⟨rfl, rfl⟩
    case round =>
      obtain ⟨rfl, rfl⟩ := hrel
      go_wp2
      go_loopw [9] (fun i w2 => i = .int .i64 0 ∧ w2 = wr) (fun i _ => 0)
      case atStart => exact ⟨rfl, rfl⟩
      case round =>
        obtain ⟨rfl, rfl⟩ := hrel
        go_wp2
        go_loopw [11] (fun i w2 => i = .int .i64 0 ∧ w2 = wr) (fun i _ => 0)
        case atStart => exact ⟨rfl, rfl⟩
        case round =>
          obtain ⟨rfl, rfl⟩ := hrel
          go_wp2
          go_loopw [14] (fun i w2 => i = .int .i64 0 ∧ w2 = wr) (fun i _ => 0)
          case atStart => exact ⟨rfl, rfl⟩
          case round =>
            obtain ⟨rfl, rfl⟩ := hrel
            go_wp2
            go_ret
            exact ⟨rfl, HB.out⟩
set_option maxHeartbeats 2000000 in
theorem flatWants_nil (w : World) : Calls Tryz.prog 46 #[.slice none 0 0] w fun e w' => e = .returned (.bool true) ∧ Below w.heap.size w w' := by
  have hinfo : (Tryz.prog.info? 132).map (fun i => (i.zero, i.size, i.bytes)) = some (some (.slice none 0 0), 1, 24) := by kernel_rfl
  obtain ⟨i0, hi, hz0, hz1, hz2⟩ := info_parts hinfo
  obtain ⟨v1, w1, hmk, _, hg⟩ : ∃ v1 w1, (Instr.makeSlice 57 (.int .i64 0) (.int .i64 0)).run Tryz.prog w = .ok v1 w1 ∧ True ∧ w.grownBy w1 none := by
    obtain ⟨w1, h1, _, h3⟩ := run_makeSlice_full (P := Tryz.prog) w w.heap.size 57 132 i0 _ 1 Tryz.underlying57 hi hz0 hz1 .i64 .i64 0 (by omega) (by omega) (by unfold maxLen; omega) (Nat.le_refl _)
    exact ⟨_, w1, h1, trivial, h3⟩
  have hb : Below w.heap.size w w1 := (Below.refl _ w).grown hg (Nat.le_refl _) (fun j hj => by cases hj)
  have HB := Lib.hid hb
  clear hg hb hi hz0 hz1 hz2 hinfo
  go_enter Tryz.func46, Tryz.ntmps46
  go_wp2
  go_loopw [3] (fun i wr => i = .int .i64 0 ∧ wr = w) (fun i _ => 0)
  case atStart => exact ⟨rfl, rfl⟩
  case round =>
    obtain ⟨rfl, rfl⟩ := hrel
    go_wp2
    go_loopw [6] (fun i wr => i = .int .i64 0 ∧ wr = w1) (fun i _ => 0)
    case atStart => exact ⟨rfl, rfl⟩
    case round =>
      obtain ⟨rfl, rfl⟩ := hrel
      go_wp2
      go_loopw [9] (fun i w2 => i = .int .i64 0 ∧ w2 = wr) (fun i _ => 0)
      case atStart => exact ⟨rfl, rfl⟩
      case round =>
        obtain ⟨rfl, rfl⟩ := hrel
        go_wp2
        go_loopw [11] (fun i w2 => i = .int .i64 0 ∧ w2 = wr) (fun i _ => 0)
        case atStart => exact ⟨rfl, rfl⟩
        case round =>
          obtain ⟨rfl, rfl⟩ := hrel
          go_wp2
          go_loopw [14] (fun i w2 => i = .int .i64 0 ∧ w2 = wr) (fun i _ => 0)
          case atStart => exact ⟨rfl, rfl⟩
          case round =>
            obtain ⟨rfl, rfl⟩ := hrel
            go_wp2
            go_ret
            exact ⟨rfl, HB.out⟩
set_option maxHeartbeats 2000000 in
theorem flatUses_nil (w : World) : Calls Tryz.prog 47 #[.slice none 0 0] w fun e w' => e = .returned (.bool true) ∧ Below w.heap.size w w' := by
  have hinfo : (Tryz.prog.info? 136).map (fun i => (i.zero, i.size, i.bytes)) = some (some (.slice none 0 0), 1, 24) := by kernel_rfl
  obtain ⟨i0, hi, hz0, hz1, hz2⟩ := info_parts hinfo
  obtain ⟨v1, w1, hmk, _, hg⟩ : ∃ v1 w1, (Instr.makeSlice 58 (.int .i64 0) (.int .i64 0)).run Tryz.prog w = .ok v1 w1 ∧ True ∧ w.grownBy w1 none := by
    obtain ⟨w1, h1, _, h3⟩ := run_makeSlice_full (P := Tryz.prog) w w.heap.size 58 136 i0 _ 1 Tryz.underlying58 hi hz0 hz1 .i64 .i64 0 (by omega) (by omega) (by unfold maxLen; omega) (Nat.le_refl _)
    exact ⟨_, w1, h1, trivial, h3⟩
  have hb : Below w.heap.size w w1 := (Below.refl _ w).grown hg (Nat.le_refl _) (fun j hj => by cases hj)
  have HB := Lib.hid hb
  clear hg hb hi hz0 hz1 hz2 hinfo
  go_enter Tryz.func47, Tryz.ntmps47
  go_wp2
  go_loopw [3] (fun i wr => i = .int .i64 0 ∧ wr = w) (fun i _ => 0)
  case atStart => exact ⟨rfl, rfl⟩
  case round =>
    obtain ⟨rfl, rfl⟩ := hrel
    go_wp2
    go_loopw [6] (fun i wr => i = .int .i64 0 ∧ wr = w1) (fun i _ => 0)
    case atStart => exact ⟨rfl, rfl⟩
    case round =>
      obtain ⟨rfl, rfl⟩ := hrel
      go_wp2
      go_loopw [9] (fun i w2 => i = .int .i64 0 ∧ w2 = wr) (fun i _ => 0)
      case atStart => exact ⟨rfl, rfl⟩
      case round =>
        obtain ⟨rfl, rfl⟩ := hrel
        go_wp2
        go_loopw [11] (fun i w2 => i = .int .i64 0 ∧ w2 = wr) (fun i _ => 0)
        case atStart => exact ⟨rfl, rfl⟩
        case round =>
          obtain ⟨rfl, rfl⟩ := hrel
          go_wp2
          go_loopw [14] (fun i w2 => i = .int .i64 0 ∧ w2 = wr) (fun i _ => 0)
          case atStart => exact ⟨rfl, rfl⟩
          case round =>
            obtain ⟨rfl, rfl⟩ := hrel
            go_wp2
            go_ret
            exact ⟨rfl, HB.out⟩
set_option maxHeartbeats 2000000 in
theorem flatParts_nil (w : World) : Calls Tryz.prog 48 #[.slice none 0 0] w fun e w' => e = .returned (.bool true) ∧ Below w.heap.size w w' := by
  have hinfo : (Tryz.prog.info? 22).map (fun i => (i.zero, i.size, i.bytes)) = some (some (.slice none 0 0), 1, 24) := by kernel_rfl
  obtain ⟨i0, hi, hz0, hz1, hz2⟩ := info_parts hinfo
  obtain ⟨v1, w1, hmk, _, hg⟩ : ∃ v1 w1, (Instr.makeSlice 31 (.int .i64 0) (.int .i64 0)).run Tryz.prog w = .ok v1 w1 ∧ True ∧ w.grownBy w1 none := by
    obtain ⟨w1, h1, _, h3⟩ := run_makeSlice_full (P := Tryz.prog) w w.heap.size 31 22 i0 _ 1 Tryz.underlying31 hi hz0 hz1 .i64 .i64 0 (by omega) (by omega) (by unfold maxLen; omega) (Nat.le_refl _)
    exact ⟨_, w1, h1, trivial, h3⟩
  have hb : Below w.heap.size w w1 := (Below.refl _ w).grown hg (Nat.le_refl _) (fun j hj => by cases hj)
  have HB := Lib.hid hb
  clear hg hb hi hz0 hz1 hz2 hinfo
  go_enter Tryz.func48, Tryz.ntmps48
  go_wp2
  go_loopw [3] (fun i wr => i = .int .i64 0 ∧ wr = w) (fun i _ => 0)
  case atStart => exact ⟨rfl, rfl⟩
  case round =>
    obtain ⟨rfl, rfl⟩ := hrel
    go_wp2
    go_loopw [6] (fun i wr => i = .int .i64 0 ∧ wr = w1) (fun i _ => 0)
    case atStart => exact ⟨rfl, rfl⟩
    case round =>
      obtain ⟨rfl, rfl⟩ := hrel
      go_wp2
      go_loopw [9] (fun i w2 => i = .int .i64 0 ∧ w2 = wr) (fun i _ => 0)
      case atStart => exact ⟨rfl, rfl⟩
      case round =>
        obtain ⟨rfl, rfl⟩ := hrel
        go_wp2
        go_loopw [11] (fun i w2 => i = .int .i64 0 ∧ w2 = wr) (fun i _ => 0)
        case atStart => exact ⟨rfl, rfl⟩
        case round =>
          obtain ⟨rfl, rfl⟩ := hrel
          go_wp2
          go_loopw [14] (fun i w2 => i = .int .i64 0 ∧ w2 = wr) (fun i _ => 0)
          case atStart => exact ⟨rfl, rfl⟩
          case round =>
            obtain ⟨rfl, rfl⟩ := hrel
            go_wp2
            go_ret
            exact ⟨rfl, HB.out⟩
set_option maxHeartbeats 2000000 in
theorem flatItems_nil (w : World) : Calls Tryz.prog 49 #[.slice none 0 0] w fun e w' => e = .returned (.bool true) ∧ Below w.heap.size w w' := by
  have hinfo : (Tryz.prog.info? 140).map (fun i => (i.zero, i.size, i.bytes)) = some (some (.slice none 0 0), 1, 24) := by kernel_rfl
  obtain ⟨i0, hi, hz0, hz1, hz2⟩ := info_parts hinfo
  obtain ⟨v1, w1, hmk, _, hg⟩ : ∃ v1 w1, (Instr.makeSlice 59 (.int .i64 0) (.int .i64 0)).run Tryz.prog w = .ok v1 w1 ∧ True ∧ w.grownBy w1 none := by
    obtain ⟨w1, h1, _, h3⟩ := run_makeSlice_full (P := Tryz.prog) w w.heap.size 59 140 i0 _ 1 Tryz.underlying59 hi hz0 hz1 .i64 .i64 0 (by omega) (by omega) (by unfold maxLen; omega) (Nat.le_refl _)
    exact ⟨_, w1, h1, trivial, h3⟩
  have hb : Below w.heap.size w w1 := (Below.refl _ w).grown hg (Nat.le_refl _) (fun j hj => by cases hj)
  have HB := Lib.hid hb
  clear hg hb hi hz0 hz1 hz2 hinfo
  go_enter Tryz.func49, Tryz.ntmps49
  go_wp2
  go_loopw [3] (fun i wr => i = .int .i64 0 ∧ wr = w) (fun i _ => 0)
  case atStart => exact ⟨rfl, rfl⟩
  case round =>
    obtain ⟨rfl, rfl⟩ := hrel
    go_wp2
    go_loopw [6] (fun i wr => i = .int .i64 0 ∧ wr = w1) (fun i _ => 0)
    case atStart => exact ⟨rfl, rfl⟩
    case round =>
      obtain ⟨rfl, rfl⟩ := hrel
      go_wp2
      go_loopw [9] (fun i w2 => i = .int .i64 0 ∧ w2 = wr) (fun i _ => 0)
      case atStart => exact ⟨rfl, rfl⟩
      case round =>
        obtain ⟨rfl, rfl⟩ := hrel
        go_wp2
        go_loopw [11] (fun i w2 => i = .int .i64 0 ∧ w2 = wr) (fun i _ => 0)
        case atStart => exact ⟨rfl, rfl⟩
        case round =>
          obtain ⟨rfl, rfl⟩ := hrel
          go_wp2
          go_loopw [14] (fun i w2 => i = .int .i64 0 ∧ w2 = wr) (fun i _ => 0)
          case atStart => exact ⟨rfl, rfl⟩
          case round =>
            obtain ⟨rfl, rfl⟩ := hrel
            go_wp2
            go_ret
            exact ⟨rfl, HB.out⟩
set_option maxHeartbeats 2000000 in
theorem flatLines_nil (w : World) : Calls Tryz.prog 50 #[.slice none 0 0] w fun e w' => e = .returned (.bool true) ∧ Below w.heap.size w w' := by
  have hinfo : (Tryz.prog.info? 145).map (fun i => (i.zero, i.size, i.bytes)) = some (some (.slice none 0 0), 1, 24) := by kernel_rfl
  obtain ⟨i0, hi, hz0, hz1, hz2⟩ := info_parts hinfo
  obtain ⟨v1, w1, hmk, _, hg⟩ : ∃ v1 w1, (Instr.makeSlice 60 (.int .i64 0) (.int .i64 0)).run Tryz.prog w = .ok v1 w1 ∧ True ∧ w.grownBy w1 none := by
    obtain ⟨w1, h1, _, h3⟩ := run_makeSlice_full (P := Tryz.prog) w w.heap.size 60 145 i0 _ 1 Tryz.underlying60 hi hz0 hz1 .i64 .i64 0 (by omega) (by omega) (by unfold maxLen; omega) (Nat.le_refl _)
    exact ⟨_, w1, h1, trivial, h3⟩
  have hb : Below w.heap.size w w1 := (Below.refl _ w).grown hg (Nat.le_refl _) (fun j hj => by cases hj)
  have HB := Lib.hid hb
  clear hg hb hi hz0 hz1 hz2 hinfo
  go_enter Tryz.func50, Tryz.ntmps50
  go_wp2
  go_loopw [3] (fun i wr => i = .int .i64 0 ∧ wr = w) (fun i _ => 0)
  case atStart => exact ⟨rfl, rfl⟩
  case round =>
    obtain ⟨rfl, rfl⟩ := hrel
    go_wp2
    go_loopw [6] (fun i wr => i = .int .i64 0 ∧ wr = w1) (fun i _ => 0)
    case atStart => exact ⟨rfl, rfl⟩
    case round =>
      obtain ⟨rfl, rfl⟩ := hrel
      go_wp2
      go_loopw [9] (fun i w2 => i = .int .i64 0 ∧ w2 = wr) (fun i _ => 0)
      case atStart => exact ⟨rfl, rfl⟩
      case round =>
        obtain ⟨rfl, rfl⟩ := hrel
        go_wp2
        go_loopw [11] (fun i w2 => i = .int .i64 0 ∧ w2 = wr) (fun i _ => 0)
        case atStart => exact ⟨rfl, rfl⟩
        case round =>
          obtain ⟨rfl, rfl⟩ := hrel
          go_wp2
          go_loopw [14] (fun i w2 => i = .int .i64 0 ∧ w2 = wr) (fun i _ => 0)
          case atStart => exact ⟨rfl, rfl⟩
          case round =>
            obtain ⟨rfl, rfl⟩ := hrel
            go_wp2
            go_ret
            exact ⟨rfl, HB.out⟩
set_option maxHeartbeats 2000000 in
theorem flatAsks_nil (w : World) : Calls Tryz.prog 51 #[.slice none 0 0] w fun e w' => e = .returned (.bool true) ∧ Below w.heap.size w w' := by
  have hinfo : (Tryz.prog.info? 150).map (fun i => (i.zero, i.size, i.bytes)) = some (some (.slice none 0 0), 1, 24) := by kernel_rfl
  obtain ⟨i0, hi, hz0, hz1, hz2⟩ := info_parts hinfo
  obtain ⟨v1, w1, hmk, _, hg⟩ : ∃ v1 w1, (Instr.makeSlice 61 (.int .i64 0) (.int .i64 0)).run Tryz.prog w = .ok v1 w1 ∧ True ∧ w.grownBy w1 none := by
    obtain ⟨w1, h1, _, h3⟩ := run_makeSlice_full (P := Tryz.prog) w w.heap.size 61 150 i0 _ 1 Tryz.underlying61 hi hz0 hz1 .i64 .i64 0 (by omega) (by omega) (by unfold maxLen; omega) (Nat.le_refl _)
    exact ⟨_, w1, h1, trivial, h3⟩
  have hb : Below w.heap.size w w1 := (Below.refl _ w).grown hg (Nat.le_refl _) (fun j hj => by cases hj)
  have HB := Lib.hid hb
  clear hg hb hi hz0 hz1 hz2 hinfo
  go_enter Tryz.func51, Tryz.ntmps51
  go_wp2
  go_loopw [3] (fun i wr => i = .int .i64 0 ∧ wr = w) (fun i _ => 0)
  case atStart => exact ⟨rfl, rfl⟩
  case round =>
    obtain ⟨rfl, rfl⟩ := hrel
    go_wp2
    go_loopw [6] (fun i wr => i = .int .i64 0 ∧ wr = w1) (fun i _ => 0)
    case atStart => exact ⟨rfl, rfl⟩
    case round =>
      obtain ⟨rfl, rfl⟩ := hrel
      go_wp2
      go_loopw [9] (fun i w2 => i = .int .i64 0 ∧ w2 = wr) (fun i _ => 0)
      case atStart => exact ⟨rfl, rfl⟩
      case round =>
        obtain ⟨rfl, rfl⟩ := hrel
        go_wp2
        go_loopw [11] (fun i w2 => i = .int .i64 0 ∧ w2 = wr) (fun i _ => 0)
        case atStart => exact ⟨rfl, rfl⟩
        case round =>
          obtain ⟨rfl, rfl⟩ := hrel
          go_wp2
          go_loopw [14] (fun i w2 => i = .int .i64 0 ∧ w2 = wr) (fun i _ => 0)
          case atStart => exact ⟨rfl, rfl⟩
          case round =>
            obtain ⟨rfl, rfl⟩ := hrel
            go_wp2
            go_ret
            exact ⟨rfl, HB.out⟩
set_option maxHeartbeats 2000000 in
theorem flatTells_nil (w : World) : Calls Tryz.prog 52 #[.slice none 0 0] w fun e w' => e = .returned (.bool true) ∧ Below w.heap.size w w' := by
  have hinfo : (Tryz.prog.info? 156).map (fun i => (i.zero, i.size, i.bytes)) = some (some (.slice none 0 0), 1, 24) := by kernel_rfl
  obtain ⟨i0, hi, hz0, hz1, hz2⟩ := info_parts hinfo
  obtain ⟨v1, w1, hmk, _, hg⟩ : ∃ v1 w1, (Instr.makeSlice 62 (.int .i64 0) (.int .i64 0)).run Tryz.prog w = .ok v1 w1 ∧ True ∧ w.grownBy w1 none := by
    obtain ⟨w1, h1, _, h3⟩ := run_makeSlice_full (P := Tryz.prog) w w.heap.size 62 156 i0 _ 1 Tryz.underlying62 hi hz0 hz1 .i64 .i64 0 (by omega) (by omega) (by unfold maxLen; omega) (Nat.le_refl _)
    exact ⟨_, w1, h1, trivial, h3⟩
  have hb : Below w.heap.size w w1 := (Below.refl _ w).grown hg (Nat.le_refl _) (fun j hj => by cases hj)
  have HB := Lib.hid hb
  clear hg hb hi hz0 hz1 hz2 hinfo
  go_enter Tryz.func52, Tryz.ntmps52
  go_wp2
  go_loopw [3] (fun i wr => i = .int .i64 0 ∧ wr = w) (fun i _ => 0)
  case atStart => exact ⟨rfl, rfl⟩
  case round =>
    obtain ⟨rfl, rfl⟩ := hrel
    go_wp2
    go_loopw [6] (fun i wr => i = .int .i64 0 ∧ wr = w1) (fun i _ => 0)
    case atStart => exact ⟨rfl, rfl⟩
    case round =>
      obtain ⟨rfl, rfl⟩ := hrel
      go_wp2
      go_loopw [9] (fun i w2 => i = .int .i64 0 ∧ w2 = wr) (fun i _ => 0)
      case atStart => exact ⟨rfl, rfl⟩
      case round =>
        obtain ⟨rfl, rfl⟩ := hrel
        go_wp2
        go_loopw [11] (fun i w2 => i = .int .i64 0 ∧ w2 = wr) (fun i _ => 0)
        case atStart => exact ⟨rfl, rfl⟩
        case round =>
          obtain ⟨rfl, rfl⟩ := hrel
          go_wp2
          go_loopw [14] (fun i w2 => i = .int .i64 0 ∧ w2 = wr) (fun i _ => 0)
          case atStart => exact ⟨rfl, rfl⟩
          case round =>
            obtain ⟨rfl, rfl⟩ := hrel
            go_wp2
            go_ret
            exact ⟨rfl, HB.out⟩
set_option maxHeartbeats 2000000 in
theorem flatStates_nil (w : World) : Calls Tryz.prog 53 #[.slice none 0 0] w fun e w' => e = .returned (.bool true) ∧ Below w.heap.size w w' := by
  have hinfo : (Tryz.prog.info? 162).map (fun i => (i.zero, i.size, i.bytes)) = some (some (.slice none 0 0), 1, 24) := by kernel_rfl
  obtain ⟨i0, hi, hz0, hz1, hz2⟩ := info_parts hinfo
  obtain ⟨v1, w1, hmk, _, hg⟩ : ∃ v1 w1, (Instr.makeSlice 63 (.int .i64 0) (.int .i64 0)).run Tryz.prog w = .ok v1 w1 ∧ True ∧ w.grownBy w1 none := by
    obtain ⟨w1, h1, _, h3⟩ := run_makeSlice_full (P := Tryz.prog) w w.heap.size 63 162 i0 _ 1 Tryz.underlying63 hi hz0 hz1 .i64 .i64 0 (by omega) (by omega) (by unfold maxLen; omega) (Nat.le_refl _)
    exact ⟨_, w1, h1, trivial, h3⟩
  have hb : Below w.heap.size w w1 := (Below.refl _ w).grown hg (Nat.le_refl _) (fun j hj => by cases hj)
  have HB := Lib.hid hb
  clear hg hb hi hz0 hz1 hz2 hinfo
  go_enter Tryz.func53, Tryz.ntmps53
  go_wp2
  go_loopw [3] (fun i wr => i = .int .i64 0 ∧ wr = w) (fun i _ => 0)
  case atStart => exact ⟨rfl, rfl⟩
  case round =>
    obtain ⟨rfl, rfl⟩ := hrel
    go_wp2
    go_loopw [6] (fun i wr => i = .int .i64 0 ∧ wr = w1) (fun i _ => 0)
    case atStart => exact ⟨rfl, rfl⟩
    case round =>
      obtain ⟨rfl, rfl⟩ := hrel
      go_wp2
      go_loopw [9] (fun i w2 => i = .int .i64 0 ∧ w2 = wr) (fun i _ => 0)
      case atStart => exact ⟨rfl, rfl⟩
      case round =>
        obtain ⟨rfl, rfl⟩ := hrel
        go_wp2
        go_loopw [11] (fun i w2 => i = .int .i64 0 ∧ w2 = wr) (fun i _ => 0)
        case atStart => exact ⟨rfl, rfl⟩
        case round =>
          obtain ⟨rfl, rfl⟩ := hrel
          go_wp2
          go_loopw [14] (fun i w2 => i = .int .i64 0 ∧ w2 = wr) (fun i _ => 0)
          case atStart => exact ⟨rfl, rfl⟩
          case round =>
            obtain ⟨rfl, rfl⟩ := hrel
            go_wp2
            go_ret
            exact ⟨rfl, HB.out⟩
set_option maxHeartbeats 2000000 in
theorem flatRows_nil (w : World) : Calls Tryz.prog 54 #[.slice none 0 0] w fun e w' => e = .returned (.bool true) ∧ Below w.heap.size w w' := by
  have hinfo : (Tryz.prog.info? 167).map (fun i => (i.zero, i.size, i.bytes)) = some (some (.slice none 0 0), 1, 24) := by kernel_rfl
  obtain ⟨i0, hi, hz0, hz1, hz2⟩ := info_parts hinfo
  obtain ⟨v1, w1, hmk, _, hg⟩ : ∃ v1 w1, (Instr.makeSlice 64 (.int .i64 0) (.int .i64 0)).run Tryz.prog w = .ok v1 w1 ∧ True ∧ w.grownBy w1 none := by
    obtain ⟨w1, h1, _, h3⟩ := run_makeSlice_full (P := Tryz.prog) w w.heap.size 64 167 i0 _ 1 Tryz.underlying64 hi hz0 hz1 .i64 .i64 0 (by omega) (by omega) (by unfold maxLen; omega) (Nat.le_refl _)
    exact ⟨_, w1, h1, trivial, h3⟩
  have hb : Below w.heap.size w w1 := (Below.refl _ w).grown hg (Nat.le_refl _) (fun j hj => by cases hj)
  have HB := Lib.hid hb
  clear hg hb hi hz0 hz1 hz2 hinfo
  go_enter Tryz.func54, Tryz.ntmps54
  go_wp2
  go_loopw [3] (fun i wr => i = .int .i64 0 ∧ wr = w) (fun i _ => 0)
  case atStart => exact ⟨rfl, rfl⟩
  case round =>
    obtain ⟨rfl, rfl⟩ := hrel
    go_wp2
    go_loopw [6] (fun i wr => i = .int .i64 0 ∧ wr = w1) (fun i _ => 0)
    case atStart => exact ⟨rfl, rfl⟩
    case round =>
      obtain ⟨rfl, rfl⟩ := hrel
      go_wp2
      go_loopw [9] (fun i w2 => i = .int .i64 0 ∧ w2 = wr) (fun i _ => 0)
      case atStart => exact ⟨rfl, rfl⟩
      case round =>
        obtain ⟨rfl, rfl⟩ := hrel
        go_wp2
        go_loopw [11] (fun i w2 => i = .int .i64 0 ∧ w2 = wr) (fun i _ => 0)
        case atStart => exact ⟨rfl, rfl⟩
        case round =>
          obtain ⟨rfl, rfl⟩ := hrel
          go_wp2
          go_loopw [14] (fun i w2 => i = .int .i64 0 ∧ w2 = wr) (fun i _ => 0)
          case atStart => exact ⟨rfl, rfl⟩
          case round =>
            obtain ⟨rfl, rfl⟩ := hrel
            go_wp2
            go_ret
            exact ⟨rfl, HB.out⟩
set_option maxHeartbeats 2000000 in
theorem flatTurns_nil (w : World) : Calls Tryz.prog 55 #[.slice none 0 0] w fun e w' => e = .returned (.bool true) ∧ Below w.heap.size w w' := by
  have hinfo : (Tryz.prog.info? 172).map (fun i => (i.zero, i.size, i.bytes)) = some (some (.slice none 0 0), 1, 24) := by kernel_rfl
  obtain ⟨i0, hi, hz0, hz1, hz2⟩ := info_parts hinfo
  obtain ⟨v1, w1, hmk, _, hg⟩ : ∃ v1 w1, (Instr.makeSlice 65 (.int .i64 0) (.int .i64 0)).run Tryz.prog w = .ok v1 w1 ∧ True ∧ w.grownBy w1 none := by
    obtain ⟨w1, h1, _, h3⟩ := run_makeSlice_full (P := Tryz.prog) w w.heap.size 65 172 i0 _ 1 Tryz.underlying65 hi hz0 hz1 .i64 .i64 0 (by omega) (by omega) (by unfold maxLen; omega) (Nat.le_refl _)
    exact ⟨_, w1, h1, trivial, h3⟩
  have hb : Below w.heap.size w w1 := (Below.refl _ w).grown hg (Nat.le_refl _) (fun j hj => by cases hj)
  have HB := Lib.hid hb
  clear hg hb hi hz0 hz1 hz2 hinfo
  go_enter Tryz.func55, Tryz.ntmps55
  go_wp2
  go_loopw [3] (fun i wr => i = .int .i64 0 ∧ wr = w) (fun i _ => 0)
  case atStart => exact ⟨rfl, rfl⟩
  case round =>
    obtain ⟨rfl, rfl⟩ := hrel
    go_wp2
    go_loopw [6] (fun i wr => i = .int .i64 0 ∧ wr = w1) (fun i _ => 0)
    case atStart => exact ⟨rfl, rfl⟩
    case round =>
      obtain ⟨rfl, rfl⟩ := hrel
      go_wp2
      go_loopw [9] (fun i w2 => i = .int .i64 0 ∧ w2 = wr) (fun i _ => 0)
      case atStart => exact ⟨rfl, rfl⟩
      case round =>
        obtain ⟨rfl, rfl⟩ := hrel
        go_wp2
        go_loopw [11] (fun i w2 => i = .int .i64 0 ∧ w2 = wr) (fun i _ => 0)
        case atStart => exact ⟨rfl, rfl⟩
        case round =>
          obtain ⟨rfl, rfl⟩ := hrel
          go_wp2
          go_loopw [14] (fun i w2 => i = .int .i64 0 ∧ w2 = wr) (fun i _ => 0)
          case atStart => exact ⟨rfl, rfl⟩
          case round =>
            obtain ⟨rfl, rfl⟩ := hrel
            go_wp2
            go_ret
            exact ⟨rfl, HB.out⟩
set_option maxHeartbeats 2000000 in
theorem flatFates_nil (w : World) : Calls Tryz.prog 56 #[.slice none 0 0] w fun e w' => e = .returned (.bool true) ∧ Below w.heap.size w w' := by
  have hinfo : (Tryz.prog.info? 177).map (fun i => (i.zero, i.size, i.bytes)) = some (some (.slice none 0 0), 1, 24) := by kernel_rfl
  obtain ⟨i0, hi, hz0, hz1, hz2⟩ := info_parts hinfo
  obtain ⟨v1, w1, hmk, _, hg⟩ : ∃ v1 w1, (Instr.makeSlice 66 (.int .i64 0) (.int .i64 0)).run Tryz.prog w = .ok v1 w1 ∧ True ∧ w.grownBy w1 none := by
    obtain ⟨w1, h1, _, h3⟩ := run_makeSlice_full (P := Tryz.prog) w w.heap.size 66 177 i0 _ 1 Tryz.underlying66 hi hz0 hz1 .i64 .i64 0 (by omega) (by omega) (by unfold maxLen; omega) (Nat.le_refl _)
    exact ⟨_, w1, h1, trivial, h3⟩
  have hb : Below w.heap.size w w1 := (Below.refl _ w).grown hg (Nat.le_refl _) (fun j hj => by cases hj)
  have HB := Lib.hid hb
  clear hg hb hi hz0 hz1 hz2 hinfo
  go_enter Tryz.func56, Tryz.ntmps56
  go_wp2
  go_loopw [3] (fun i wr => i = .int .i64 0 ∧ wr = w) (fun i _ => 0)
  case atStart => exact ⟨rfl, rfl⟩
  case round =>
    obtain ⟨rfl, rfl⟩ := hrel
    go_wp2
    go_loopw [6] (fun i wr => i = .int .i64 0 ∧ wr = w1) (fun i _ => 0)
    case atStart => exact ⟨rfl, rfl⟩
    case round =>
      obtain ⟨rfl, rfl⟩ := hrel
      go_wp2
      go_loopw [9] (fun i w2 => i = .int .i64 0 ∧ w2 = wr) (fun i _ => 0)
      case atStart => exact ⟨rfl, rfl⟩
      case round =>
        obtain ⟨rfl, rfl⟩ := hrel
        go_wp2
        go_loopw [11] (fun i w2 => i = .int .i64 0 ∧ w2 = wr) (fun i _ => 0)
        case atStart => exact ⟨rfl, rfl⟩
        case round =>
          obtain ⟨rfl, rfl⟩ := hrel
          go_wp2
          go_loopw [14] (fun i w2 => i = .int .i64 0 ∧ w2 = wr) (fun i _ => 0)
          case atStart => exact ⟨rfl, rfl⟩
          case round =>
            obtain ⟨rfl, rfl⟩ := hrel
            go_wp2
            go_ret
            exact ⟨rfl, HB.out⟩
set_option maxHeartbeats 2000000 in
theorem flatDirties_nil (w : World) : Calls Tryz.prog 57 #[.slice none 0 0] w fun e w' => e = .returned (.bool true) ∧ Below w.heap.size w w' := by
  have hinfo : (Tryz.prog.info? 181).map (fun i => (i.zero, i.size, i.bytes)) = some (some (.slice none 0 0), 1, 24) := by kernel_rfl
  obtain ⟨i0, hi, hz0, hz1, hz2⟩ := info_parts hinfo
  obtain ⟨v1, w1, hmk, _, hg⟩ : ∃ v1 w1, (Instr.makeSlice 67 (.int .i64 0) (.int .i64 0)).run Tryz.prog w = .ok v1 w1 ∧ True ∧ w.grownBy w1 none := by
    obtain ⟨w1, h1, _, h3⟩ := run_makeSlice_full (P := Tryz.prog) w w.heap.size 67 181 i0 _ 1 Tryz.underlying67 hi hz0 hz1 .i64 .i64 0 (by omega) (by omega) (by unfold maxLen; omega) (Nat.le_refl _)
    exact ⟨_, w1, h1, trivial, h3⟩
  have hb : Below w.heap.size w w1 := (Below.refl _ w).grown hg (Nat.le_refl _) (fun j hj => by cases hj)
  have HB := Lib.hid hb
  clear hg hb hi hz0 hz1 hz2 hinfo
  go_enter Tryz.func57, Tryz.ntmps57
  go_wp2
  go_loopw [3] (fun i wr => i = .int .i64 0 ∧ wr = w) (fun i _ => 0)
  case atStart => exact ⟨rfl, rfl⟩
  case round =>
    obtain ⟨rfl, rfl⟩ := hrel
    go_wp2
    go_loopw [6] (fun i wr => i = .int .i64 0 ∧ wr = w1) (fun i _ => 0)
    case atStart => exact ⟨rfl, rfl⟩
    case round =>
      obtain ⟨rfl, rfl⟩ := hrel
      go_wp2
      go_loopw [9] (fun i w2 => i = .int .i64 0 ∧ w2 = wr) (fun i _ => 0)
      case atStart => exact ⟨rfl, rfl⟩
      case round =>
        obtain ⟨rfl, rfl⟩ := hrel
        go_wp2
        go_loopw [11] (fun i w2 => i = .int .i64 0 ∧ w2 = wr) (fun i _ => 0)
        case atStart => exact ⟨rfl, rfl⟩
        case round =>
          obtain ⟨rfl, rfl⟩ := hrel
          go_wp2
          go_loopw [14] (fun i w2 => i = .int .i64 0 ∧ w2 = wr) (fun i _ => 0)
          case atStart => exact ⟨rfl, rfl⟩
          case round =>
            obtain ⟨rfl, rfl⟩ := hrel
            go_wp2
            go_ret
            exact ⟨rfl, HB.out⟩
set_option maxHeartbeats 2000000 in
theorem flatOpens_nil (w : World) : Calls Tryz.prog 58 #[.slice none 0 0] w fun e w' => e = .returned (.bool true) ∧ Below w.heap.size w w' := by
  have hinfo : (Tryz.prog.info? 185).map (fun i => (i.zero, i.size, i.bytes)) = some (some (.slice none 0 0), 1, 24) := by kernel_rfl
  obtain ⟨i0, hi, hz0, hz1, hz2⟩ := info_parts hinfo
  obtain ⟨v1, w1, hmk, _, hg⟩ : ∃ v1 w1, (Instr.makeSlice 68 (.int .i64 0) (.int .i64 0)).run Tryz.prog w = .ok v1 w1 ∧ True ∧ w.grownBy w1 none := by
    obtain ⟨w1, h1, _, h3⟩ := run_makeSlice_full (P := Tryz.prog) w w.heap.size 68 185 i0 _ 1 Tryz.underlying68 hi hz0 hz1 .i64 .i64 0 (by omega) (by omega) (by unfold maxLen; omega) (Nat.le_refl _)
    exact ⟨_, w1, h1, trivial, h3⟩
  have hb : Below w.heap.size w w1 := (Below.refl _ w).grown hg (Nat.le_refl _) (fun j hj => by cases hj)
  have HB := Lib.hid hb
  clear hg hb hi hz0 hz1 hz2 hinfo
  go_enter Tryz.func58, Tryz.ntmps58
  go_wp2
  go_loopw [3] (fun i wr => i = .int .i64 0 ∧ wr = w) (fun i _ => 0)
  case atStart => exact ⟨rfl, rfl⟩
  case round =>
    obtain ⟨rfl, rfl⟩ := hrel
    go_wp2
    go_loopw [6] (fun i wr => i = .int .i64 0 ∧ wr = w1) (fun i _ => 0)
    case atStart => exact ⟨rfl, rfl⟩
    case round =>
      obtain ⟨rfl, rfl⟩ := hrel
      go_wp2
      go_loopw [9] (fun i w2 => i = .int .i64 0 ∧ w2 = wr) (fun i _ => 0)
      case atStart => exact ⟨rfl, rfl⟩
      case round =>
        obtain ⟨rfl, rfl⟩ := hrel
        go_wp2
        go_loopw [11] (fun i w2 => i = .int .i64 0 ∧ w2 = wr) (fun i _ => 0)
        case atStart => exact ⟨rfl, rfl⟩
        case round =>
          obtain ⟨rfl, rfl⟩ := hrel
          go_wp2
          go_loopw [14] (fun i w2 => i = .int .i64 0 ∧ w2 = wr) (fun i _ => 0)
          case atStart => exact ⟨rfl, rfl⟩
          case round =>
            obtain ⟨rfl, rfl⟩ := hrel
            go_wp2
            go_ret
            exact ⟨rfl, HB.out⟩
set_option maxHeartbeats 2000000 in
theorem flatRecords_nil (w : World) : Calls Tryz.prog 59 #[.slice none 0 0] w fun e w' => e = .returned (.bool true) ∧ Below w.heap.size w w' := by
  have hinfo : (Tryz.prog.info? 189).map (fun i => (i.zero, i.size, i.bytes)) = some (some (.slice none 0 0), 1, 24) := by kernel_rfl
  obtain ⟨i0, hi, hz0, hz1, hz2⟩ := info_parts hinfo
  obtain ⟨v1, w1, hmk, _, hg⟩ : ∃ v1 w1, (Instr.makeSlice 69 (.int .i64 0) (.int .i64 0)).run Tryz.prog w = .ok v1 w1 ∧ True ∧ w.grownBy w1 none := by
    obtain ⟨w1, h1, _, h3⟩ := run_makeSlice_full (P := Tryz.prog) w w.heap.size 69 189 i0 _ 1 Tryz.underlying69 hi hz0 hz1 .i64 .i64 0 (by omega) (by omega) (by unfold maxLen; omega) (Nat.le_refl _)
    exact ⟨_, w1, h1, trivial, h3⟩
  have hb : Below w.heap.size w w1 := (Below.refl _ w).grown hg (Nat.le_refl _) (fun j hj => by cases hj)
  have HB := Lib.hid hb
  clear hg hb hi hz0 hz1 hz2 hinfo
  go_enter Tryz.func59, Tryz.ntmps59
  go_wp2
  go_loopw [3] (fun i wr => i = .int .i64 0 ∧ wr = w) (fun i _ => 0)
  case atStart => exact ⟨rfl, rfl⟩
  case round =>
    obtain ⟨rfl, rfl⟩ := hrel
    go_wp2
    go_loopw [6] (fun i wr => i = .int .i64 0 ∧ wr = w1) (fun i _ => 0)
    case atStart => exact ⟨rfl, rfl⟩
    case round =>
      obtain ⟨rfl, rfl⟩ := hrel
      go_wp2
      go_loopw [9] (fun i w2 => i = .int .i64 0 ∧ w2 = wr) (fun i _ => 0)
      case atStart => exact ⟨rfl, rfl⟩
      case round =>
        obtain ⟨rfl, rfl⟩ := hrel
        go_wp2
        go_loopw [11] (fun i w2 => i = .int .i64 0 ∧ w2 = wr) (fun i _ => 0)
        case atStart => exact ⟨rfl, rfl⟩
        case round =>
          obtain ⟨rfl, rfl⟩ := hrel
          go_wp2
          go_loopw [14] (fun i w2 => i = .int .i64 0 ∧ w2 = wr) (fun i _ => 0)
          case atStart => exact ⟨rfl, rfl⟩
          case round =>
            obtain ⟨rfl, rfl⟩ := hrel
            go_wp2
            go_ret
            exact ⟨rfl, HB.out⟩
set_option maxHeartbeats 2000000 in
theorem flatSteps_nil (w : World) : Calls Tryz.prog 60 #[.slice none 0 0] w fun e w' => e = .returned (.bool true) ∧ Below w.heap.size w w' := by
  have hinfo : (Tryz.prog.info? 195).map (fun i => (i.zero, i.size, i.bytes)) = some (some (.slice none 0 0), 1, 24) := by kernel_rfl
  obtain ⟨i0, hi, hz0, hz1, hz2⟩ := info_parts hinfo
  obtain ⟨v1, w1, hmk, _, hg⟩ : ∃ v1 w1, (Instr.makeSlice 70 (.int .i64 0) (.int .i64 0)).run Tryz.prog w = .ok v1 w1 ∧ True ∧ w.grownBy w1 none := by
    obtain ⟨w1, h1, _, h3⟩ := run_makeSlice_full (P := Tryz.prog) w w.heap.size 70 195 i0 _ 1 Tryz.underlying70 hi hz0 hz1 .i64 .i64 0 (by omega) (by omega) (by unfold maxLen; omega) (Nat.le_refl _)
    exact ⟨_, w1, h1, trivial, h3⟩
  have hb : Below w.heap.size w w1 := (Below.refl _ w).grown hg (Nat.le_refl _) (fun j hj => by cases hj)
  have HB := Lib.hid hb
  clear hg hb hi hz0 hz1 hz2 hinfo
  go_enter Tryz.func60, Tryz.ntmps60
  go_wp2
  go_loopw [3] (fun i wr => i = .int .i64 0 ∧ wr = w) (fun i _ => 0)
  case atStart => exact ⟨rfl, rfl⟩
  case round =>
    obtain ⟨rfl, rfl⟩ := hrel
    go_wp2
    go_loopw [6] (fun i wr => i = .int .i64 0 ∧ wr = w1) (fun i _ => 0)
    case atStart => exact ⟨rfl, rfl⟩
    case round =>
      obtain ⟨rfl, rfl⟩ := hrel
      go_wp2
      go_loopw [9] (fun i w2 => i = .int .i64 0 ∧ w2 = wr) (fun i _ => 0)
      case atStart => exact ⟨rfl, rfl⟩
      case round =>
        obtain ⟨rfl, rfl⟩ := hrel
        go_wp2
        go_loopw [11] (fun i w2 => i = .int .i64 0 ∧ w2 = wr) (fun i _ => 0)
        case atStart => exact ⟨rfl, rfl⟩
        case round =>
          obtain ⟨rfl, rfl⟩ := hrel
          go_wp2
          go_loopw [14] (fun i w2 => i = .int .i64 0 ∧ w2 = wr) (fun i _ => 0)
          case atStart => exact ⟨rfl, rfl⟩
          case round =>
            obtain ⟨rfl, rfl⟩ := hrel
            go_wp2
            go_ret
            exact ⟨rfl, HB.out⟩
set_option maxHeartbeats 2000000 in
theorem flatTales_nil (w : World) : Calls Tryz.prog 61 #[.slice none 0 0] w fun e w' => e = .returned (.bool true) ∧ Below w.heap.size w w' := by
  have hinfo : (Tryz.prog.info? 201).map (fun i => (i.zero, i.size, i.bytes)) = some (some (.slice none 0 0), 1, 24) := by kernel_rfl
  obtain ⟨i0, hi, hz0, hz1, hz2⟩ := info_parts hinfo
  obtain ⟨v1, w1, hmk, _, hg⟩ : ∃ v1 w1, (Instr.makeSlice 71 (.int .i64 0) (.int .i64 0)).run Tryz.prog w = .ok v1 w1 ∧ True ∧ w.grownBy w1 none := by
    obtain ⟨w1, h1, _, h3⟩ := run_makeSlice_full (P := Tryz.prog) w w.heap.size 71 201 i0 _ 1 Tryz.underlying71 hi hz0 hz1 .i64 .i64 0 (by omega) (by omega) (by unfold maxLen; omega) (Nat.le_refl _)
    exact ⟨_, w1, h1, trivial, h3⟩
  have hb : Below w.heap.size w w1 := (Below.refl _ w).grown hg (Nat.le_refl _) (fun j hj => by cases hj)
  have HB := Lib.hid hb
  clear hg hb hi hz0 hz1 hz2 hinfo
  go_enter Tryz.func61, Tryz.ntmps61
  go_wp2
  go_loopw [3] (fun i wr => i = .int .i64 0 ∧ wr = w) (fun i _ => 0)
  case atStart => exact ⟨rfl, rfl⟩
  case round =>
    obtain ⟨rfl, rfl⟩ := hrel
    go_wp2
    go_loopw [6] (fun i wr => i = .int .i64 0 ∧ wr = w1) (fun i _ => 0)
    case atStart => exact ⟨rfl, rfl⟩
    case round =>
      obtain ⟨rfl, rfl⟩ := hrel
      go_wp2
      go_loopw [9] (fun i w2 => i = .int .i64 0 ∧ w2 = wr) (fun i _ => 0)
      case atStart => exact ⟨rfl, rfl⟩
      case round =>
        obtain ⟨rfl, rfl⟩ := hrel
        go_wp2
        go_loopw [11] (fun i w2 => i = .int .i64 0 ∧ w2 = wr) (fun i _ => 0)
        case atStart => exact ⟨rfl, rfl⟩
        case round =>
          obtain ⟨rfl, rfl⟩ := hrel
          go_wp2
          go_loopw [14] (fun i w2 => i = .int .i64 0 ∧ w2 = wr) (fun i _ => 0)
          case atStart => exact ⟨rfl, rfl⟩
          case round =>
            obtain ⟨rfl, rfl⟩ := hrel
            go_wp2
            go_ret
            exact ⟨rfl, HB.out⟩
end Go.Proofs.YtjefaineggnogaaGreat
