/- Lists of items that were lent, kept. -/
import Derived.Test.YtnboigbknadpdaaLentItems
set_option linter.unusedVariables false
set_option linter.unusedSimpArgs false
namespace Go.Proofs.Ytnboigbknadpdaa
set_option maxRecDepth 100000
open Go.RowKit SM
set_option maxHeartbeats 16000000 in
theorem keptItems_any (l : List Iv) (A : Option Addr) (c base : Nat) (v : Value) (ys : List Iv) (w : World) (hc : l.length ≤ c) (hm : c ≤ maxLen) (hA : ItemsAt w A l) (hlen : l.length ≤ 1000000) (hP : LensOk l) (hL : LentIs w base v (itsOf l) ys) :
    Calls Try.prog 11 #[v, .slice A l.length c] w fun e w' => e = .returned (.bool true) ∧ Below w.heap.size w w' := by
  unfold maxLen at hm
  obtain ⟨hys, hly, g, cap, rfl, hown⟩ := hL
  rw [itsOf_len] at hown ⊢
  have hyl : ys.length = l.length := by
    have := congrArg List.length hys
    rwa [itsOf_len, itsOf_len] at this
  obtain ⟨A2, c2, he, hle, hcap, hR⟩ := own_rd hown
  cases he
  unfold maxLen at hcap
  have HA := Lib.hid hA
  have HP := Lib.hid hP
  have HY := Lib.hid hys
  have HLY := Lib.hid hly
  have HR := Lib.hid hR
  have HYL := Lib.hid hyl
  clear hown hA hP hys hly hR hyl
  go_enter Try.func11, Try.ntmps11
  go_wp2
  go_loopw [6] (fun i wr => ∃ k : Nat, k ≤ l.length + 12 ∧ i = .int .i64 k ∧ Hid (Below w.heap.size w wr)) (fun i _ => l.length + 12 - (intOf i).toNat)
  case atStart => exact ⟨0, Nat.zero_le _, rfl, Below.refl _ _⟩
  case round =>
    obtain ⟨k, hk, rfl, HB⟩ := hrel
    have hk0 : (0 : Int) ≤ (k : Int) := by omega
    by_cases hlt : k < l.length + 12
    · have hki : (k : Int) < ((l.length : Int) + 12) := by omega
      have hlm : k < (ys ++ marksIv 1 12).length := by rw [List.length_append, marksIv_len, HYL.out]; omega
      obtain ⟨b, o, ho, hcell⟩ := Rd.elem (enc := encIv) (k := 4) (j := k) encIv_len (by omega) (HR.out.below HB.out) (List.getElem?_eq_getElem hlm)
      cases ho
      by_cases hlo : k < l.length
      · obtain ⟨b', o', rfl, h4, h5, h6, h7, hI⟩ := (HA.out.below HB.out).get hlo
        have hky : k < ys.length := by rw [HYL.out]; exact hlo
        rw [List.getElem_append_left hky] at hcell
        have hyx : ys[k].it = l[k].it := by
          have h1 : (itsOf ys)[k]? = (itsOf l)[k]? := by rw [HY.out]
          unfold itsOf at h1
          rw [List.getElem?_map, List.getElem?_map, List.getElem?_eq_getElem hky, List.getElem?_eq_getElem hlo] at h1
          simpa using h1
        have hly := (HLY.out _ (List.getElem_mem hky)).below HB.out
        have hpl := HP.out _ (List.getElem_mem hlo)
        generalize ys[k] = y at hcell hyx hly
        generalize l[k] = x at h4 h5 h6 h7 hI hyx hpl
        obtain ⟨⟨cd, lf, ps, ot⟩, pA, pc, oA, oc⟩ := x
        obtain ⟨⟨cd2, lf2, ps2, ot2⟩, pA2, pc2, oA2, oc2⟩ := y
        simp only at hyx
        cases hyx
        have hki2 : ∀ W : BelT wr, Calls Try.prog 31 #[.agg #[.string cd, .int .i64 lf, .slice pA2 ps.length pc2, .slice oA2 ot.length oc2], .agg #[.string cd, .int .i64 lf, .slice pA ps.length pc, .slice oA ot.length oc]] W.val (fun e w' => e = .returned (.bool true) ∧ Below W.val.heap.size W.val w') := fun W =>
          keptItem_any ⟨⟨cd, lf, ps, ot⟩, pA2, pc2, oA2, oc2⟩ ⟨⟨cd, lf, ps, ot⟩, pA, pc, oA, oc⟩ base W.val (hly.below W.prop) (hI.below W.prop) hpl.1 hpl.2
        have HKI := Lib.hid hki2
        have h0 := hcell 0 (.string cd) rfl
        have h1 := hcell 1 (.int .i64 lf) rfl
        have h2 := hcell 2 (.slice pA2 ps.length pc2) rfl
        have h3 := hcell 3 (.slice oA2 ot.length oc2) rfl
        simp only [Nat.add_zero, Nat.zero_add] at h0 h1 h2 h3
        simp only at h4 h5 h6 h7
        have hyi := hly.item
        have a1 := hyi.pn
        have a2 := hyi.pm
        have a3 := hyi.on
        have a4 := hyi.om
        have a5 := hI.pn
        have a6 := hI.pm
        have a7 := hI.on
        have a8 := hI.om
        unfold maxLen at a2 a4 a6 a8
        simp only at a1 a2 a3 a4 a5 a6 a7 a8
        have hk1 : (k : Int) < (l.length : Int) := by omega
        have hd1 : decide ((k : Int) < (l.length : Int)) = true := decide_eq_true hk1
        have hd2 : decide ((k : Int) ≥ (l.length : Int)) = false := decide_eq_false (by omega)
        clear hki2 hly hI hpl hcell hyi
        go_wp2
        have hd3 : decide (l.length ≤ k) = false := decide_eq_false (by omega)
        have hx0 := BelT.cell h0
        have hx1 := BelT.cell h1
        have hx2 := BelT.cell h2
        have hx3 := BelT.cell h3
        have hx4 := BelT.cell h4
        have hx5 := BelT.cell h5
        have hx6 := BelT.cell h6
        have hx7 := BelT.cell h7
        (refine SM.wp_region_bel_lit (by kernel_rfl) (by kernel_rfl) ?_; (repeat (go_big_quiet_step (((exact call_bel (HKI.out _)))))); refine @wpQuiet_nil _ _ _ _ _ ?_; intro wq hbq)
        clear hx0 hx1 hx2 hx3 hx4 hx5 hx6 hx7
        have HB2 := Lib.hid hbq
        clear hbq
        go_wp2
        go_roundw
        case rel => exact ⟨k + 1, by omega, by go_num, HB.out.trans (HB2.out.mono HB.out.size)⟩
        case measure => simp [intOf]; omega
      · have hv : (ys ++ marksIv 1 12)[k] = markIv 1 ((k : Int) - (l.length : Int)) := by
          rw [List.getElem_append_right (by rw [HYL.out]; omega)]
          simp only [marksIv, List.getElem_map, List.getElem_range]
          congr 1
          rw [HYL.out]
          omega
        rw [hv] at hcell
        have h0 := hcell 0 (.string ⟨#[]⟩) rfl
        have h1 := hcell 1 (.int .i64 (markI 1 ((k : Int) - (l.length : Int)))) rfl
        have h2 := hcell 2 (.slice none 0 0) rfl
        have h3 := hcell 3 (.slice none 0 0) rfl
        simp only [Nat.add_zero, Nat.zero_add] at h0 h1 h2 h3
        have hc := fun w => markItem_any 1 ((k : Int) - (l.length : Int)) w (by omega) (by omega) (by omega) (by omega)
        have hsi : ∀ W : BelT wr, Calls Try.prog 32 #[.agg #[.string ⟨#[]⟩, .int .i64 (markI 1 ((k : Int) - (l.length : Int))), .slice none 0 0, .slice none 0 0], .agg #[.string ⟨#[]⟩, .int .i64 (markI 1 ((k : Int) - (l.length : Int))), .slice none 0 0, .slice none 0 0]] W.val (fun e w' => e = .returned (.bool true) ∧ Below W.val.heap.size W.val w') := fun W => by
          have h := sameItem_any (markIv 1 ((k : Int) - (l.length : Int))) (markIv 1 ((k : Int) - (l.length : Int))) W.val (markIv_at _ _ _) (markIv_at _ _ _)
          rw [itEq_refl] at h
          exact h
        have HC := Lib.hid hc
        have HSI := Lib.hid hsi
        have hk1 : ¬ ((k : Int) < (l.length : Int)) := by omega
        have hk2 : (k : Int) ≥ (l.length : Int) := by omega
        have hd1 : decide ((k : Int) < (l.length : Int)) = false := decide_eq_false hk1
        have hd2 : decide ((k : Int) ≥ (l.length : Int)) = true := decide_eq_true (by omega)
        clear hcell hv hc hsi
        generalize markI 1 ((k : Int) - (l.length : Int)) = x at h1 HC HSI
        go_wp2
        have hd3 : decide (l.length ≤ k) = true := decide_eq_true (by omega)
        have hd4 : decide (k < l.length) = false := decide_eq_false (by omega)
        have hwr : IntKind.i64.wrap ((k : Int) - (l.length : Int)) = (k : Int) - (l.length : Int) := by rw [IntKind.wrap_i64]; omega
        have hx0 := BelT.cell h0
        have hx1 := BelT.cell h1
        have hx2 := BelT.cell h2
        have hx3 := BelT.cell h3
        (refine SM.wp_region_bel_lit (by kernel_rfl) (by kernel_rfl) ?_; (repeat (go_big_quiet_step (((first | (exact call_bel ((HC.out _).mono fun _ _ h => ⟨h.1, h.2 ▸ (Below.refl _ _).alloc (Nat.le_refl _) _⟩)) | (exact call_bel (HSI.out _))))))); refine @wpQuiet_nil _ _ _ _ _ ?_; intro wq hbq)
        clear hx0 hx1 hx2 hx3
        have HB2 := Lib.hid hbq
        clear hbq
        go_wp2
        go_roundw
        case rel => exact ⟨k + 1, by omega, by go_num, HB.out.trans (HB2.out.mono HB.out.size)⟩
        case measure => simp [intOf]; omega
    · obtain rfl : k = l.length + 12 := by omega
      go_wp2
      go_ret
      exact ⟨rfl, HB.out⟩
end Go.Proofs.Ytnboigbknadpdaa
