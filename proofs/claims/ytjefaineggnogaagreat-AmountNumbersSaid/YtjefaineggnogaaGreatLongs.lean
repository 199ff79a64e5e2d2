/- Lists of long numbers that are lent with marks behind their ends, and kept. -/
import Derived.Test.YtjefaineggnogaaGreatAmount
import Derived.Test.YtjefaineggnogaaGreatMark
import Derived.Deep.QuietTactic
import Derived.BigQuiet
import Derived.Lib.AppendZeros
set_option linter.unusedVariables false
set_option linter.unusedSimpArgs false
namespace Go.Proofs.YtjefaineggnogaaGreat
set_option maxRecDepth 100000
open Go.RowKit SM

theorem infoLong : (Tryz.prog.info? 2).map (fun i => (i.zero, i.size, i.bytes)) = some (some (.int .i64 0), 1, 8) := by kernel_rfl
def marksI (n : Nat) : List Int := (List.range n).map fun (i : Nat) => markI 1 (i : Int)
theorem marksI_succ (n : Nat) : marksI (n + 1) = marksI n ++ [markI 1 n] := by simp [marksI, List.range_succ]
theorem marksI_len (n : Nat) : (marksI n).length = n := by simp [marksI]

/-- A list that was lent: its marks lie behind it. -/
def LentI (w : World) (base : Nat) (v : Value) (xs : List Int) : Prop :=
  ∃ g cap, v = .slice (some ⟨g, 0, none⟩) xs.length cap ∧ w.ownsRow base 2 1 (.slice (some ⟨g, 0, none⟩) (xs.length + 12) cap) (xs.length + 12) ((xs ++ marksI 12).flatMap encI)

set_option maxHeartbeats 4000000 in
theorem lentLongs_any (xs : List Int) (A : Option Addr) (c : Nat) (w : World) (hc : xs.length ≤ c) (hm : c ≤ maxLen) (hA : Rd w A (xs.flatMap encI)) (hlen : xs.length ≤ 1000000) :
    Calls Tryz.prog 30 #[.slice A xs.length c] w fun e w' => ∃ v, e = .returned v ∧ LentI w' w.heap.size v xs ∧ Below w.heap.size w w' := by
  unfold maxLen at hm
  obtain ⟨i0, hi, hz0, hz1, hz2⟩ := info_parts infoLong
  obtain ⟨v1, w1, hmk, hown0, hg0⟩ : ∃ v1 w1, (Instr.makeSlice 34 (.int .i64 0) (.int .i64 ((xs.length : Int) + 12))).run Tryz.prog w = .ok v1 w1 ∧ w1.ownsRow w.heap.size 2 1 v1 0 [] ∧ w.grownBy w1 none := by
    obtain ⟨w1, hmk, hown0, hg0⟩ := run_makeSlice_owned (P := Tryz.prog) (w := w) w.heap.size 34 2 i0 (.int .i64 0) 1 Tryz.underlying34 hi hz0 hz1 .i64 .i64 (xs.length + 12) (by omega) (by rw [hz2]; omega) (by unfold maxLen; omega) (Nat.le_refl _)
    exact ⟨_, w1, hmk, hown0, hg0⟩
  have hb0 : Below w.heap.size w w1 := (Below.refl _ w).grown hg0 (Nat.le_refl _) (fun j hj => by cases hj)
  obtain ⟨v2, w2, hap, hown2, hg2, _⟩ := append_own_src (ty := 34) (t := 34) (tx := 34) Tryz.underlying34 hi hz0 hz1 hz2 rfl (by omega) hown0
    ((hA.below hb0).src (c := c) (m := xs.length) (size := 1) (tx := 34) Tryz.underlying34 (flat_length encI_len _) (by omega) (flat_one encI_one _)) (by unfold maxLen; omega) (by omega) hb0.size
  have hb2 : Below w.heap.size w w2 := hb0.grown hg2 hb0.size (fun j hj => (hown0.lt j hj).1)
  simp only [Nat.zero_add, List.nil_append] at hown2
  have HI := Lib.hid hi
  have HZ0 := Lib.hid hz0
  have HZ1 := Lib.hid hz1
  have HZ2 := Lib.hid hz2
  have HAP := Lib.hid hap
  clear hi hz0 hz1 hz2 hap hown0 hg0 hb0 hg2 hA
  go_enter Tryz.func30, Tryz.ntmps30
  go_wp2_with (at_builtin; refine Lib.wpList_append_run _ rfl _ _ _ _ rfl _ _ rfl rfl _ _ HAP.out ?_)
  clear hmk
  go_loopw [3, 4] (fun v i wr => ∃ j : Nat, j ≤ 12 ∧ i = .int .i64 j ∧ wr.ownsRow w.heap.size 2 1 v (xs.length + j) ((xs ++ marksI j).flatMap encI) ∧ Below w.heap.size w wr) (fun _ i _ => 12 - (intOf i).toNat)
  case atStart => exact ⟨0, by omega, rfl, by simpa [marksI] using hown2, hb2⟩
  case round =>
    clear hown2 hb2
    obtain ⟨j, hj, rfl, hown, hnx⟩ := hrel
    by_cases hlt : j < 12
    · have hc := fun w => mark_any 1 j w (by omega) (by omega) (by omega) (by omega)
      have HC := Lib.hid hc
      obtain ⟨v', w3, hap, hown3, hg3, _⟩ := append_own_src (ty := 34) (t := 34) (tx := 34) Tryz.underlying34 HI.out HZ0.out HZ1.out HZ2.out rfl (by omega) (hown.alloc (.cells #[.int .i64 (markI 1 j)] 2))
        ((cells_rd wr #[.int .i64 (markI 1 j)] 2).src (c := 1) (m := 1) (size := 1) (tx := 34) Tryz.underlying34 rfl (by omega) (flat_one encI_one [markI 1 j])) (by unfold maxLen; omega) (by omega) (by have := hnx.size; simp; omega)
      have R : w3.ownsRow w.heap.size 2 1 v' (xs.length + (j + 1)) ((xs ++ marksI (j + 1)).flatMap encI) ∧ Below w.heap.size w w3 := by
        refine ⟨?_, (hnx.alloc hnx.size _).grown hg3 (by have := hnx.size; simp; omega) (fun k hk => (hown.lt k hk).1)⟩
        rw [marksI_succ, ← List.append_assoc, List.flatMap_append, ← Nat.add_assoc]
        exact hown3
      have HR := Lib.hid R
      have HAP2 := Lib.hid hap
      clear hc hap hown3 hg3 R hown hnx
      go_wp2_with (first | (go_at_call 34; (with_reducible refine (HC.out _).mono ?_); rintro e w' ⟨rfl, rfl⟩) | (at_builtin; refine Lib.wpList_append_run _ rfl _ _ _ _ rfl _ _ rfl rfl _ _ HAP2.out ?_))
      go_roundw
      case rel => exact ⟨j + 1, by omega, by go_num, HR.out⟩
      case measure => simp [intOf]; omega
    · obtain rfl : j = 12 := by omega
      have HO := Lib.hid hown
      obtain ⟨hF, h0⟩ := hown
      obtain ⟨hv, hz, _⟩ | ⟨g, cap, cur, rfl, hg, hcell, hle, hcap, hsz, htk⟩ := h0
      unfold maxLen at hcap
      clear hF hcell hsz htk
      go_wp2
      go_ret
      exact ⟨_, rfl, ⟨g, cap, rfl, HO.out⟩, hnx⟩

theorem LentI.rd {w : World} {base : Nat} {v : Value} {xs : List Int} (h : LentI w base v xs) : ∃ g cap, v = .slice (some ⟨g, 0, none⟩) xs.length cap ∧ xs.length + 12 ≤ cap ∧ cap ≤ maxLen ∧ base ≤ g ∧ Rd w (some ⟨g, 0, none⟩) ((xs ++ marksI 12).flatMap encI) := by
  obtain ⟨g, cap, rfl, h⟩ := h
  obtain ⟨A, c, he, h1, h2, h3⟩ := own_rd h
  cases he
  exact ⟨g, cap, rfl, h1, h2, (h.lt g rfl).1, h3⟩

set_option maxHeartbeats 8000000 in
theorem keptLongs_any (xs : List Int) (A : Option Addr) (c base : Nat) (v : Value) (w : World) (hc : xs.length ≤ c) (hm : c ≤ maxLen) (hA : Rd w A (xs.flatMap encI)) (hlen : xs.length ≤ 1000000) (hL : LentI w base v xs) :
    Calls Tryz.prog 32 #[v, .slice A xs.length c] w fun e w' => e = .returned (.bool true) ∧ ∃ n, w' = w.drewN n := by
  unfold maxLen at hm
  obtain ⟨g, cap, rfl, hle, hcap, hg, hR⟩ := hL.rd
  unfold maxLen at hcap
  clear hL
  go_enter Tryz.func32, Tryz.ntmps32
  go_wp2
  go_loopw [6] (fun i wr => ∃ (k m : Nat), k ≤ xs.length + 12 ∧ i = .int .i64 k ∧ wr = w.drewN m) (fun i _ => xs.length + 12 - (intOf i).toNat)
  case atStart => exact ⟨0, 0, Nat.zero_le _, rfl, rfl⟩
  case round =>
    obtain ⟨k, m, hk, rfl, rfl⟩ := hrel
    have hk0 : (0 : Int) ≤ (k : Int) := by omega
    by_cases hlt : k < xs.length + 12
    · have hki : (k : Int) < ((xs.length : Int) + 12) := by omega
      have hlm : k < (xs ++ marksI 12).length := by rw [List.length_append, marksI_len]; omega
      obtain ⟨b, o, ho, hcell⟩ := Rd.elem (enc := encI) (k := 1) (j := k) encI_len (by omega) hR (List.getElem?_eq_getElem hlm)
      cases ho
      have h0 := hcell 0 (.int .i64 (xs ++ marksI 12)[k]) rfl
      simp only [Nat.add_zero, Nat.mul_one, Nat.zero_add] at h0
      by_cases hlo : k < xs.length
      · obtain ⟨b', o', rfl, hcell'⟩ := Rd.elem (enc := encI) (k := 1) (j := k) encI_len (by omega) hA (List.getElem?_eq_getElem hlo)
        have h1 := hcell' 0 (.int .i64 xs[k]) rfl
        simp only [Nat.add_zero, Nat.mul_one] at h1
        rw [List.getElem_append_left hlo] at h0
        have hk1 : (k : Int) < (xs.length : Int) := by omega
        have hd1 : decide ((k : Int) < (xs.length : Int)) = true := decide_eq_true hk1
        have hd2 : decide ((k : Int) ≥ (xs.length : Int)) = false := decide_eq_false (by omega)
        clear hcell hcell' hA hR
        generalize xs[k] = x at h0 h1
        go_wp2
        have hd3 : decide (xs.length ≤ k) = false := decide_eq_false (by omega)
        (refine wp_region_quiet_lit (by kernel_rfl) (by kernel_rfl) ?_; (repeat (refine @wpQuiet_step _ _ _ _ _ _ _ ?_; intro K hK; go_simp; first | (refine @hK _ ?_; clear hK K) | (apply Exists.intro; refine ⟨fun _ => ?_, @hK _ ?_⟩; (fail); clear hK K))); refine @wpQuiet_nil _ _ _ _ _ ?_; intro _ hw'; obtain ⟨nq, hw''⟩ := hw'; subst hw'')
        go_wp2
        go_roundw
        case rel => exact ⟨k + 1, _, by omega, by go_num, rfl⟩
        case measure => simp [intOf]; omega
      · have hc := fun w => (mark_any 1 ((k : Int) - (xs.length : Int)) w (by omega) (by omega) (by omega) (by omega)).mono (R' := fun e w' => e = .returned (.int .i64 (markI 1 ((k : Int) - (xs.length : Int)))) ∧ w' = w) fun _ _ h => ⟨h.1, h.2.symm⟩
        have HC := Lib.hid hc
        have hv : (xs ++ marksI 12)[k] = markI 1 ((k : Int) - (xs.length : Int)) := by
          rw [List.getElem_append_right (by omega)]
          simp [marksI]
          congr 1
          omega
        rw [hv] at h0
        have hk1 : ¬ ((k : Int) < (xs.length : Int)) := by omega
        have hk2 : (k : Int) ≥ (xs.length : Int) := by omega
        have hd1 : decide ((k : Int) < (xs.length : Int)) = false := decide_eq_false hk1
        have hd2 : decide ((k : Int) ≥ (xs.length : Int)) = true := decide_eq_true (by omega)
        clear hcell hA hR hv hc
        generalize markI 1 ((k : Int) - (xs.length : Int)) = x at h0 HC
        go_wp2
        have hd3 : decide (xs.length ≤ k) = true := decide_eq_true (by omega)
        have hd4 : decide (k < xs.length) = false := decide_eq_false (by omega)
        have hwr : IntKind.i64.wrap ((k : Int) - (xs.length : Int)) = (k : Int) - (xs.length : Int) := by rw [IntKind.wrap_i64]; omega
        (refine wp_region_quiet_lit (by kernel_rfl) (by kernel_rfl) ?_; (repeat (refine @wpQuiet_step _ _ _ _ _ _ _ ?_; intro K hK; go_simp; first | (refine @hK _ ?_; clear hK K) | (apply Exists.intro; refine ⟨fun _ => ?_, @hK _ ?_⟩; ((exact (HC.out _).mono fun _ _ h => ⟨h.1, _, h.2⟩)); clear hK K))); refine @wpQuiet_nil _ _ _ _ _ ?_; intro _ hw'; obtain ⟨nq, hw''⟩ := hw'; subst hw'')
        go_wp2
        go_roundw
        case rel => exact ⟨k + 1, _, by omega, by go_num, rfl⟩
        case measure => simp [intOf]; omega
    · obtain rfl : k = xs.length + 12 := by omega
      go_wp2
      go_ret
      exact ⟨rfl, _, rfl⟩
end Go.Proofs.YtjefaineggnogaaGreat
