/- Lists of parts that are lent with marks behind their ends, kept, written over. -/
import Derived.Test.YtnboigbknadpdaaRows2
import Derived.Test.YtnboigbknadpdaaMarkPart
import Derived.Test.YtnboigbknadpdaaQuietB
import Derived.Deep.QuietTactic
import Derived.BigQuiet
import Derived.Deep.RegionHeld3
import Derived.Deep.RegionWith
import Derived.Lib.AppendZeros
set_option linter.unusedVariables false
set_option linter.unusedSimpArgs false
namespace Go.Proofs.Ytnboigbknadpdaa
set_option maxRecDepth 100000
open Go.RowKit SM

def marksP (k n : Nat) : List Prt := (List.range n).map fun (i : Nat) => markP k (i : Int)
theorem marksP_succ (k n : Nat) : marksP k (n + 1) = marksP k n ++ [markP k n] := by simp [marksP, List.range_succ]
theorem marksP_len (k n : Nat) : (marksP k n).length = n := by simp [marksP]

/-- A list that was lent: its marks lie behind it. -/
def LentP (w : World) (base : Nat) (v : Value) (xs : List Prt) : Prop :=
  ∃ g cap, v = .slice (some ⟨g, 0, none⟩) xs.length cap ∧ w.ownsRow base 39 2 (.slice (some ⟨g, 0, none⟩) (xs.length + 12) cap) (xs.length + 12) ((xs ++ marksP 1 12).flatMap encP)
theorem LentP.rd {w : World} {base : Nat} {v : Value} {xs : List Prt} (h : LentP w base v xs) : ∃ g cap, v = .slice (some ⟨g, 0, none⟩) xs.length cap ∧ xs.length + 12 ≤ cap ∧ cap ≤ maxLen ∧ base ≤ g ∧ Rd w (some ⟨g, 0, none⟩) ((xs ++ marksP 1 12).flatMap encP) := by
  obtain ⟨g, cap, rfl, h⟩ := h
  obtain ⟨A, c, he, h1, h2, h3⟩ := own_rd h
  cases he
  exact ⟨g, cap, rfl, h1, h2, (h.lt g rfl).1, h3⟩
theorem Rd.left {w : World} {A : Option Addr} {cs ds : List Value} (h : Rd w A (cs ++ ds)) : Rd w A cs := fun hn => by
  obtain ⟨b, o, rfl, hc⟩ := h (fun e => hn (List.append_eq_nil_iff.1 e).1)
  exact ⟨b, o, rfl, fun j u hu => hc j u (by rw [List.getElem?_append_left (List.getElem?_eq_some_iff.1 hu).1]; exact hu)⟩
theorem LentP.sl {w : World} {base : Nat} {v : Value} {xs : List Prt} (h : LentP w base v xs) : Sl w 2 v xs.length (xs.flatMap encP) := by
  obtain ⟨g, cap, rfl, h1, h2, _, h3⟩ := h.rd
  rw [List.flatMap_append] at h3
  exact ⟨flat_length encP_len xs, _, _, rfl, by omega, h2, Rd.left h3⟩
theorem LentP.below {w w' : World} {base : Nat} {v : Value} {xs : List Prt} (h : LentP w base v xs) (hb : Below w.heap.size w w') : LentP w' base v xs := by
  obtain ⟨g, cap, rfl, h⟩ := h
  exact ⟨g, cap, rfl, own_below h hb⟩

set_option maxHeartbeats 4000000 in
theorem lentParts_any (xs : List Prt) (A : Option Addr) (c : Nat) (w : World) (hc : xs.length ≤ c) (hm : c ≤ maxLen) (hA : Rd w A (xs.flatMap encP)) (hlen : xs.length ≤ 1000000) :
    Calls Try.prog 45 #[.slice A xs.length c] w fun e w' => ∃ v, e = .returned v ∧ LentP w' w.heap.size v xs ∧ Below w.heap.size w w' := by
  unfold maxLen at hm
  obtain ⟨i0, hi, hz0, hz1, hz2⟩ := info_parts infoPart
  obtain ⟨v1, w1, hmk, hown0, hg0⟩ : ∃ v1 w1, (Instr.makeSlice 29 (.int .i64 0) (.int .i64 ((xs.length : Int) + 12))).run Try.prog w = .ok v1 w1 ∧ w1.ownsRow w.heap.size 39 2 v1 0 [] ∧ w.grownBy w1 none := by
    obtain ⟨w1, hmk, hown0, hg0⟩ := run_makeSlice_owned (P := Try.prog) (w := w) w.heap.size 29 39 i0 _ 2 Try.underlying29 hi hz0 hz1 .i64 .i64 (xs.length + 12) (by omega) (by rw [hz2]; omega) (by unfold maxLen; omega) (Nat.le_refl _)
    exact ⟨_, w1, hmk, hown0, hg0⟩
  have hb0 : Below w.heap.size w w1 := (Below.refl _ w).grown hg0 (Nat.le_refl _) (fun j hj => by cases hj)
  obtain ⟨v2, w2, hap, hown2, hg2, _⟩ := append_own_src (ty := 29) (t := 29) (tx := 29) Try.underlying29 hi hz0 hz1 hz2 rfl (by omega) hown0
    ((hA.below hb0).src (c := c) (m := xs.length) (size := 2) (tx := 29) Try.underlying29 (flat_length encP_len _) (by omega) (flat_one encP_one _)) (by unfold maxLen; omega) (by omega) hb0.size
  have hb2 : Below w.heap.size w w2 := hb0.grown hg2 hb0.size (fun j hj => (hown0.lt j hj).1)
  simp only [Nat.zero_add, List.nil_append] at hown2
  have HI := Lib.hid hi
  have HZ0 := Lib.hid hz0
  have HZ1 := Lib.hid hz1
  have HZ2 := Lib.hid hz2
  have HAP := Lib.hid hap
  clear hi hz0 hz1 hz2 hap hown0 hg0 hb0 hg2 hA
  go_enter Try.func45, Try.ntmps45
  go_wp2_with (at_builtin; refine Lib.wpList_append_run _ rfl _ _ _ _ rfl _ _ rfl rfl _ _ HAP.out ?_)
  clear hmk
  go_loopw [3, 4] (fun v i wr => ∃ j : Nat, j ≤ 12 ∧ i = .int .i64 j ∧ wr.ownsRow w.heap.size 39 2 v (xs.length + j) ((xs ++ marksP 1 j).flatMap encP) ∧ Below w.heap.size w wr) (fun _ i _ => 12 - (intOf i).toNat)
  case atStart => exact ⟨0, by omega, rfl, by simpa [marksP] using hown2, hb2⟩
  case round =>
    clear hown2 hb2
    obtain ⟨j, hj, rfl, hown, hnx⟩ := hrel
    by_cases hlt : j < 12
    · have hc := fun w => markPart_any 1 j w (by omega) (by omega) (by omega) (by omega)
      have HC := Lib.hid hc
      have hsz := hnx.size
      obtain ⟨v', w3, hap, hown3, hg3, _⟩ := append_own_src (ty := 29) (t := 29) (tx := 29) Try.underlying29 HI.out HZ0.out HZ1.out HZ2.out rfl (by omega) ((hown.alloc (.cells #[.string ⟨#[]⟩, .int .i64 (markI 1 j)] 39)).alloc (.cells #[.string ⟨#[]⟩, .int .i64 (markI 1 j)] 39))
        ((cells_rd (wr.alloc (.cells #[.string ⟨#[]⟩, .int .i64 (markI 1 j)] 39)) #[.string ⟨#[]⟩, .int .i64 (markI 1 j)] 39).src (c := 1) (m := 1) (size := 2) (tx := 29) Try.underlying29 rfl (by omega) (flat_one encP_one [markP 1 j])) (by unfold maxLen; omega) (by omega) (by simp; omega)
      have R : w3.ownsRow w.heap.size 39 2 v' (xs.length + (j + 1)) ((xs ++ marksP 1 (j + 1)).flatMap encP) ∧ Below w.heap.size w w3 := by
        refine ⟨?_, ((hnx.alloc hnx.size _).alloc (by simp; omega) _).grown hg3 (by simp; omega) (fun k hk => (hown.lt k hk).1)⟩
        rw [marksP_succ, ← List.append_assoc, List.flatMap_append, ← Nat.add_assoc]
        exact hown3
      have HR := Lib.hid R
      simp only [World.size_alloc] at hap
      have HAP2 := Lib.hid hap
      clear hc hap hown3 hg3 R hown hnx
      go_wp2_with (first | (go_at_call 64; (with_reducible refine (HC.out _).mono ?_); rintro e w' ⟨rfl, rfl⟩) | (at_builtin; refine Lib.wpList_append_run _ rfl _ _ _ _ rfl _ _ rfl rfl _ _ HAP2.out ?_))
      go_roundw
      case rel => exact ⟨j + 1, by omega, by go_num, HR.out⟩
      case measure => simp [intOf]; omega
    · obtain rfl : j = 12 := by omega
      have HO := Lib.hid hown
      obtain ⟨hF, h0⟩ := hown
      obtain ⟨hv, hz, _⟩ | ⟨g, cap, cur, rfl, hg, hcell, hle, hcap, hsz, htk⟩ := h0
      unfold maxLen at hcap
      clear hF hcell hsz htk
      go_wp2
      go_ret
      exact ⟨_, rfl, ⟨g, cap, rfl, HO.out⟩, hnx⟩

set_option maxHeartbeats 8000000 in
theorem keptParts_any (xs : List Prt) (A : Option Addr) (c base : Nat) (v : Value) (w : World) (hc : xs.length ≤ c) (hm : c ≤ maxLen) (hA : Rd w A (xs.flatMap encP)) (hlen : xs.length ≤ 1000000) (hL : LentP w base v xs) :
    Calls Try.prog 52 #[v, .slice A xs.length c] w fun e w' => e = .returned (.bool true) ∧ Below w.heap.size w w' := by
  unfold maxLen at hm
  obtain ⟨g, cap, rfl, hle, hcap, hg, hR⟩ := hL.rd
  unfold maxLen at hcap
  clear hL
  go_enter Try.func52, Try.ntmps52
  go_wp2
  go_loopw [6] (fun i wr => ∃ k : Nat, k ≤ xs.length + 12 ∧ i = .int .i64 k ∧ Below w.heap.size w wr) (fun i _ => xs.length + 12 - (intOf i).toNat)
  case atStart => exact ⟨0, Nat.zero_le _, rfl, Below.refl _ _⟩
  case round =>
    obtain ⟨k, hk, rfl, hnx⟩ := hrel
    have hk0 : (0 : Int) ≤ (k : Int) := by omega
    by_cases hlt : k < xs.length + 12
    · have hki : (k : Int) < ((xs.length : Int) + 12) := by omega
      have hlm : k < (xs ++ marksP 1 12).length := by rw [List.length_append, marksP_len]; omega
      obtain ⟨b, o, ho, hcell⟩ := Rd.elem (enc := encP) (k := 2) (j := k) encP_len (by omega) (hR.below hnx) (List.getElem?_eq_getElem hlm)
      cases ho
      have h0 := hcell 0 (.string (xs ++ marksP 1 12)[k].1) rfl
      have h1 := hcell 1 (.int .i64 (xs ++ marksP 1 12)[k].2) rfl
      simp only [Nat.add_zero, Nat.zero_add] at h0 h1
      have HNX := Lib.hid hnx
      by_cases hlo : k < xs.length
      · obtain ⟨b', o', rfl, hcell'⟩ := Rd.elem (enc := encP) (k := 2) (j := k) encP_len (by omega) (hA.below hnx) (List.getElem?_eq_getElem hlo)
        have h2 := hcell' 0 (.string xs[k].1) rfl
        have h3 := hcell' 1 (.int .i64 xs[k].2) rfl
        simp only [Nat.add_zero] at h2
        rw [List.getElem_append_left hlo] at h0 h1
        have hk1 : (k : Int) < (xs.length : Int) := by omega
        have hd1 : decide ((k : Int) < (xs.length : Int)) = true := decide_eq_true hk1
        have hd2 : decide ((k : Int) ≥ (xs.length : Int)) = false := decide_eq_false (by omega)
        have heq := fun w => eqlPart xs[k] xs[k] w
        simp only [decide_true] at heq
        clear hcell hcell' hA hR hnx
        generalize xs[k] = x at h0 h1 h2 h3 heq
        go_wp2
        have hd3 : decide (xs.length ≤ k) = false := decide_eq_false (by omega)
        (refine wp_region_quiet_lit (by kernel_rfl) (by kernel_rfl) ?_; (repeat (refine @wpQuiet_step _ _ _ _ _ _ _ ?_; intro K hK; go_simp; first | (refine @hK _ ?_; clear hK K) | (apply Exists.intro; refine ⟨fun _ => ?_, @hK _ ?_⟩; (fail); clear hK K))); refine @wpQuiet_nil _ _ _ _ _ ?_; intro _ hw'; obtain ⟨nq, hw''⟩ := hw'; subst hw'')
        go_wp2
        go_roundw
        case rel => exact ⟨k + 1, by omega, by go_num, below_drewN HNX.out _⟩
        case measure => simp [intOf]; omega
      · have hc := fun w => markPart_any 1 ((k : Int) - (xs.length : Int)) w (by omega) (by omega) (by omega) (by omega)
        have HC := Lib.hid hc
        have hv : (xs ++ marksP 1 12)[k] = markP 1 ((k : Int) - (xs.length : Int)) := by
          rw [List.getElem_append_right (by omega)]
          simp [marksP]
          congr 1
          omega
        rw [hv] at h0 h1
        replace h0 : wr.cell? ⟨g, k * 2, none⟩ = some (.string ⟨#[]⟩) := h0
        replace h1 : wr.cell? ⟨g, k * 2 + 1, none⟩ = some (.int .i64 (markI 1 ((k : Int) - (xs.length : Int)))) := h1
        have hk1 : ¬ ((k : Int) < (xs.length : Int)) := by omega
        have hk2 : (k : Int) ≥ (xs.length : Int) := by omega
        have hd1 : decide ((k : Int) < (xs.length : Int)) = false := decide_eq_false hk1
        have hd2 : decide ((k : Int) ≥ (xs.length : Int)) = true := decide_eq_true (by omega)
        have heq := fun w => eqlPart (markP 1 ((k : Int) - (xs.length : Int))) (markP 1 ((k : Int) - (xs.length : Int))) w
        unfold markP at heq
        simp only [decide_true] at heq
        clear hcell hA hR hv hc hnx
        generalize markI 1 ((k : Int) - (xs.length : Int)) = x at h0 h1 HC heq
        go_wp2
        have hd3 : decide (xs.length ≤ k) = true := decide_eq_true (by omega)
        have hd4 : decide (k < xs.length) = false := decide_eq_false (by omega)
        have hwr : IntKind.i64.wrap ((k : Int) - (xs.length : Int)) = (k : Int) - (xs.length : Int) := by rw [IntKind.wrap_i64]; omega
        have hx0 := BelT.cell h0
        have hx1 := BelT.cell h1
        (refine SM.wp_region_bel_lit (by kernel_rfl) (by kernel_rfl) ?_; (repeat (refine @wpQuiet_step _ _ _ _ _ _ _ ?_; intro K hK; go_simp; first | (refine @hK _ ?_; clear hK K) | (apply Exists.intro; refine ⟨fun _ => ?_, @hK _ ?_⟩; ((exact call_bel ((HC.out _).mono fun _ _ h => ⟨h.1, h.2 ▸ (Below.refl _ _).alloc (Nat.le_refl _) _⟩))); clear hK K))); refine @wpQuiet_nil _ _ _ _ _ ?_; intro wq hbq)
        clear hx0 hx1
        have HB2 := Lib.hid hbq
        clear hbq
        go_wp2
        go_roundw
        case rel => exact ⟨k + 1, by omega, by go_num, HNX.out.trans (HB2.out.mono HNX.out.size)⟩
        case measure => simp [intOf]; omega
    · obtain rfl : k = xs.length + 12 := by omega
      go_wp2
      go_ret
      exact ⟨rfl, hnx⟩
end Go.Proofs.Ytnboigbknadpdaa
