/- kit.check, kit.Check: whether items are sound, and what is wrong first. -/
import Derived.Test.YtnboigbknadpdaaRight
import Derived.Test.YtnboigbknadpdaaQuietB
import Derived.Deep.QuietTactic
import Derived.BigQuiet
import Derived.WalkLawsBesides
import Derived.Laws.Cover1
import Derived.Sort.Walk0
set_option linter.unusedVariables false
set_option linter.unusedSimpArgs false
namespace Go.Proofs.Ytnboigbknadpdaa
set_option maxRecDepth 100000
open Go.RowKit SM
theorem bytesLess_lt (a b : ByteArray) : Op.bytesLess a.toList b.toList = decide (ltS a b) := by
  rw [bytesLess_eq, ByteArray.toList_eq, ByteArray.toList_eq]; rfl
theorem geqS_run (t : TypeId) (a b : ByteArray) (w : World) : (binOp .geq t (.string a) (.string b)).run Try.prog w = .ok (.bool (!decide (ltS a b))) w := by
  rw [binOp_string_geq, bytesLess_lt]; rfl
/-- The code ahead of place k. -/
def prevC (xs : List It) (k : Nat) : Option ByteArray := if k = 0 then none else xs[k - 1]?.map (·.code)
theorem shapes_step {xs : List It} {k : Nat} (hk : k < xs.length) : shapesB (prevC xs k) (xs.drop k) = (codeB xs[k].code && aheadB (prevC xs k) xs[k].code && rightB xs[k] && shapesB (prevC xs (k + 1)) (xs.drop (k + 1))) := by
  rw [List.drop_eq_getElem_cons hk]
  have : prevC xs (k + 1) = some xs[k].code := by
    unfold prevC
    rw [if_neg (by omega), Nat.add_sub_cancel, List.getElem?_eq_getElem hk]; rfl
  rw [this]; rfl
/-- What check answers. -/
def CheckR (l : List Iv) (w : World) (e : Ending) (w' : World) : Prop :=
  Below w.heap.size w w' ∧ ((checkE (itsOf l) = 0 ∧ ∃ ma mo na m : Nat, e = .returned (.tuple #[.map (some ma), .map (some mo), .int .i64 0]) ∧ w.heap.size ≤ ma ∧ w.heap.size ≤ mo ∧ MapS w' ma na (bookF l) ∧ MapS w' mo m (asI (depF (itsOf l)))) ∨
    (checkE (itsOf l) ≠ 0 ∧ e = .returned (.tuple #[.map none, .map none, .int .i64 (checkE (itsOf l) : Nat)])))
theorem checkE_shape {xs : List It} (h : ¬ 60 < xs.length) (h2 : shapesB none xs = false) : checkE xs = 4 := by
  unfold checkE; rw [if_neg h, if_pos h2]
theorem checkE_item {xs : List It} (h : ¬ 60 < xs.length) (h2 : shapesB none xs = true) (h3 : knownB xs xs = false) : checkE xs = 150 := by
  unfold checkE; rw [if_neg h, h2, if_neg (by decide), if_pos h3]
theorem checkE_round {xs : List It} (h : ¬ 60 < xs.length) (h2 : shapesB none xs = true) (h3 : knownB xs xs = true) (h4 : ∃ x ∈ xs, depI xs x.code = 0) : checkE xs = 152 := by
  have : (depthsV xs).any (fun d => d == 0) = true := (depths_any (shapes_rises h2).uniq _).2 (by simpa using h4)
  unfold checkE; rw [if_neg h, h2, if_neg (by decide), h3, if_neg (by decide), if_pos this]
theorem checkE_deep {xs : List It} (h : ¬ 60 < xs.length) (h2 : shapesB none xs = true) (h3 : knownB xs xs = true) (h4 : ∀ x ∈ xs, depI xs x.code ≠ 0) (h5 : ∃ x ∈ xs, 8 < depI xs x.code) : checkE xs = 3 := by
  have h6 : ¬ (depthsV xs).any (fun d => d == 0) = true := fun hh => by
    obtain ⟨x, hx, hq⟩ := (depths_any (shapes_rises h2).uniq _).1 hh
    exact h4 x hx (by simpa using hq)
  have h7 : (depthsV xs).any (fun d => decide (8 < d)) = true := (depths_any (shapes_rises h2).uniq _).2 (by simpa using h5)
  unfold checkE; rw [if_neg h, h2, if_neg (by decide), h3, if_neg (by decide), if_neg h6, if_pos h7]
theorem checkE_ok {xs : List It} (h : ¬ 60 < xs.length) (h2 : shapesB none xs = true) (h3 : knownB xs xs = true) (h4 : ∀ x ∈ xs, depI xs x.code ≠ 0) (h5 : ∀ x ∈ xs, depI xs x.code ≤ 8) : checkE xs = 0 := by
  have h6 : ¬ (depthsV xs).any (fun d => d == 0) = true := fun hh => by
    obtain ⟨x, hx, hq⟩ := (depths_any (shapes_rises h2).uniq _).1 hh
    exact h4 x hx (by simpa using hq)
  have h7 : ¬ (depthsV xs).any (fun d => decide (8 < d)) = true := fun hh => by
    obtain ⟨x, hx, hq⟩ := (depths_any (shapes_rises h2).uniq _).1 hh
    have := h5 x hx
    simp only [decide_eq_true_eq] at hq
    omega
  unfold checkE; rw [if_neg h, h2, if_neg (by decide), h3, if_neg (by decide), if_neg h6, if_neg h7]
theorem code_size {s : ByteArray} (h : codeB s = true) : 1 ≤ s.size ∧ s.size ≤ 12 := by
  unfold codeB at h
  simp only [Bool.and_eq_true, decide_eq_true_eq] at h
  exact ⟨h.1.1, h.1.2⟩
theorem toList_empty (s : ByteArray) : s.toList.isEmpty = decide (s.size = 0) := by
  have h : s.toList.length = s.size := by rw [ByteArray.toList_eq]; simp
  cases hs : s.toList with
  | nil => rw [hs] at h; rw [decide_eq_true (show s.size = 0 by rw [← h]; rfl)]; rfl
  | cons a r => rw [hs] at h; rw [decide_eq_false (by rw [← h]; simp)]; rfl
set_option maxHeartbeats 16000000 in
theorem check_any (l : List Iv) (A : Option Addr) (c : Nat) (w : World) (hc : l.length ≤ c) (hm : c ≤ maxLen) (hA : ItemsAt w A l) (hS : SizesOk l) (hP : ∀ x ∈ l, x.it.parts.length ≤ 1000000) :
    Calls Try.prog 26 #[.slice A l.length c] w (CheckR l w) := by
  unfold maxLen at hm
  by_cases h60 : 60 < l.length
  · have HV : Hid (checkE (itsOf l) = 3) := by unfold checkE; rw [itsOf_len, if_pos h60]; exact rfl
    clear hA hS hP
    go_enter Try.func26, Try.ntmps26
    go_wp2_with fail
    refine bodyPost_ret (v := .tuple #[.map none, .map none, .int .i64 3]) (by simp [results, Try.results26, go_sem]) rfl ⟨Below.refl _ _, .inr ⟨by rw [HV.out]; decide, by rw [HV.out]; rfl⟩⟩
  · have HSH : Hid (shapesB none (itsOf l) = false → checkE (itsOf l) = 4) := fun h => checkE_shape (by rw [itsOf_len]; exact h60) h
    have HA := Lib.hid hA
    have HS := Lib.hid hS
    have HP := Lib.hid hP
    clear hA hS hP
    go_enter Try.func26, Try.ntmps26
    go_wp2_with fail
    go_loopw [21] (fun iv wr => ∃ k : Nat, k ≤ l.length ∧ iv = .int .i64 k ∧ Hid (shapesB none (itsOf l) = shapesB (prevC (itsOf l) k) ((itsOf l).drop k)) ∧ Hid (Below w.heap.size w wr)) (fun iv _ => l.length - (intOf iv).toNat)
    case atStart => exact ⟨0, Nat.zero_le _, rfl, rfl, Below.refl _ _⟩
    case round =>
      obtain ⟨k, hk, rfl, HQ, HB⟩ := hrel
      by_cases hlt : k < l.length
      · obtain ⟨b, o, rfl, h0, h1, h2, h3, hI⟩ := (HA.out.below HB.out).get hlt
        have hlt2 : k < (itsOf l).length := by rw [itsOf_len]; exact hlt
        have hst := shapes_step hlt2
        have hxe : (itsOf l)[k] = l[k].it := by simp [itsOf]
        rw [hxe] at hst
        have hsz := HS.out _ (List.getElem_mem hlt)
        have hpl := HP.out _ (List.getElem_mem hlt)
        have hpv : 0 < k → ∃ c', prevC (itsOf l) k = some c' ∧ wr.cell? ⟨b, o + (k - 1) * 4, none⟩ = some (.string c') := fun h => by
          obtain ⟨b', o', he, h0', _⟩ := (HA.out.below HB.out).get (i := k - 1) (by omega)
          cases he
          refine ⟨_, ?_, h0'⟩
          unfold prevC itsOf
          rw [if_neg (by omega), List.getElem?_map, List.getElem?_eq_getElem (by omega)]; rfl
        generalize l[k] = x at h0 h1 h2 h3 hI hst hsz hpl
        clear hlt2 hxe
        obtain ⟨⟨cd, lf, ps, ot⟩, pA, pc, oA, oc⟩ := x
        simp only at h0 h1 h2 h3 hst hsz hpl
        have hol := hI.on
        have hom := hI.om
        have hpn := hI.pn
        have hpm := hI.pm
        unfold maxLen at hom hpm
        simp only at hol hom hpn hpm
        have hcr := fun y => codeRight_any cd y hsz.1
        have hkr : ∀ y : BelT (wr.alloc (.cells #[.string cd, .int .i64 lf, .slice pA ps.length pc, .slice oA ot.length oc] 32)), Calls Try.prog 49 #[.agg #[.string cd, .int .i64 lf, .slice pA ps.length pc, .slice oA ot.length oc]] y.val (fun e w' => e = .returned (.bool (rightB ⟨cd, lf, ps, ot⟩)) ∧ Below y.val.heap.size y.val w') := fun y =>
          kitRight_any ⟨⟨cd, lf, ps, ot⟩, pA, pc, oA, oc⟩ y.val ((hI.below ((Below.refl _ _).alloc (Nat.le_refl _) _)).below y.prop) hsz.2 hpl
        generalize codeB cd = cb at hcr hst
        generalize rightB ⟨cd, lf, ps, ot⟩ = rb at hkr hst
        have HCR := Lib.hid hcr
        have HKR := Lib.hid hkr
        have HST := Lib.hid hst
        have HW : Hid (Below w.heap.size w (wr.alloc (.cells #[.string cd, .int .i64 lf, .slice pA ps.length pc, .slice oA ot.length oc] 32))) := HB.out.alloc HB.out.size _
        have hw0 : (wr.alloc (.cells #[.string cd, .int .i64 lf, .slice pA ps.length pc, .slice oA ot.length oc] 32)).cell? ⟨wr.heap.size, 0, none⟩ = some (.string cd) := by rw [World.cell?_alloc_at _ _ _ _ rfl]; rfl
        have hw1 : (wr.alloc (.cells #[.string cd, .int .i64 lf, .slice pA ps.length pc, .slice oA ot.length oc] 32)).cell? ⟨wr.heap.size, 1, none⟩ = some (.int .i64 lf) := by rw [World.cell?_alloc_at _ _ _ _ rfl]; rfl
        have hw2 : (wr.alloc (.cells #[.string cd, .int .i64 lf, .slice pA ps.length pc, .slice oA ot.length oc] 32)).cell? ⟨wr.heap.size, 2, none⟩ = some (.slice pA ps.length pc) := by rw [World.cell?_alloc_at _ _ _ _ rfl]; rfl
        have hw3 : (wr.alloc (.cells #[.string cd, .int .i64 lf, .slice pA ps.length pc, .slice oA ot.length oc] 32)).cell? ⟨wr.heap.size, 3, none⟩ = some (.slice oA ot.length oc) := by rw [World.cell?_alloc_at _ _ _ _ rfl]; rfl
        have hk0 : (0 : Int) ≤ (k : Int) := by omega
        have HPV := Lib.hid hpv
        clear hcr hkr hst hpl hsz hI hpv
        cases cb with
        | false =>
          have HV := Lib.hid (HSH.out (by rw [HQ.out, HST.out]; simp))
          clear HQ HST
          go_wp2
          have hx0 := BelT.cell hw0
          have hx1 := BelT.cell hw1
          have hx2 := BelT.cell hw2
          have hx3 := BelT.cell hw3
          (refine SM.wp_region_bel_lit (by kernel_rfl) (by kernel_rfl) ?_; (repeat (go_big_quiet_step (((first | exact call_bel (HCR.out _) | exact call_bel (HKR.out _)))))); refine @wpQuiet_nil _ _ _ _ _ ?_; intro wq hbq)
          have HB2 := Lib.hid hbq
          clear hbq hx0 hx1 hx2 hx3
          go_wp2
          refine bodyPost_ret (v := .tuple #[.map none, .map none, .int .i64 4]) (by simp [results, Try.results26, go_sem]) rfl ⟨HW.out.trans (HB2.out.mono HW.out.size), .inr ⟨by rw [HV.out]; decide, by rw [HV.out]; rfl⟩⟩
        | true =>
          by_cases hk1 : 0 < k
          · have hk2 : (0 : Int) < (k : Int) := by omega
            obtain ⟨c', hc', hpc⟩ := HPV.out hk1
            have hlt' : b < wr.heap.size := World.block_lt_of_cell? wr _ h0
            have hpw : (wr.alloc (.cells #[.string cd, .int .i64 lf, .slice pA ps.length pc, .slice oA ot.length oc] 32)).cell? ⟨b, o + (k - 1) * 4, none⟩ = some (.string c') := by rw [World.cell?_alloc_past _ _ _ hlt']; exact hpc
            have hg := bytesLess_lt c' cd
            by_cases hlts : ltS c' cd
            · have hst2 := HST.out
              rw [hc'] at hst2
              simp only [aheadB, decide_eq_true hlts, Bool.true_and] at hst2
              rw [decide_eq_true hlts] at hg
              clear hpc HPV hlts
              cases rb with
              | true =>
                have HQ2 : Hid (shapesB none (itsOf l) = shapesB (prevC (itsOf l) (k + 1)) ((itsOf l).drop (k + 1))) := by rw [HQ.out, hc', hst2, Bool.true_and]; exact rfl
                clear hc' hst2 HQ HST HSH
                have hxp := BelT.cell hpw
                go_wp2
                have hx0 := BelT.cell hw0
                have hx1 := BelT.cell hw1
                have hx2 := BelT.cell hw2
                have hx3 := BelT.cell hw3
                (refine SM.wp_region_bel_lit (by kernel_rfl) (by kernel_rfl) ?_; (repeat (go_big_quiet_step (((first | exact call_bel (HCR.out _) | exact call_bel (HKR.out _)))))); refine @wpQuiet_nil _ _ _ _ _ ?_; intro wq hbq)
                have HB2 := Lib.hid hbq
                clear hbq hx0 hx1 hx2 hx3
                go_wp2
                go_roundw
                case rel => exact ⟨k + 1, by omega, by go_num, HQ2, HW.out.trans (HB2.out.mono HW.out.size)⟩
                case measure => simp [intOf]; omega
              | false =>
                have HV := Lib.hid (HSH.out (by rw [HQ.out, hc', hst2, Bool.false_and]))
                clear hc' hst2 HQ HST HSH
                have hxp := BelT.cell hpw
                go_wp2
                have hx0 := BelT.cell hw0
                have hx1 := BelT.cell hw1
                have hx2 := BelT.cell hw2
                have hx3 := BelT.cell hw3
                (refine SM.wp_region_bel_lit (by kernel_rfl) (by kernel_rfl) ?_; (repeat (go_big_quiet_step (((first | exact call_bel (HCR.out _) | exact call_bel (HKR.out _)))))); refine @wpQuiet_nil _ _ _ _ _ ?_; intro wq hbq)
                have HB2 := Lib.hid hbq
                clear hbq hx0 hx1 hx2 hx3
                go_wp2
                refine bodyPost_ret (v := .tuple #[.map none, .map none, .int .i64 4]) (by simp [results, Try.results26, go_sem]) rfl ⟨HW.out.trans (HB2.out.mono HW.out.size), .inr ⟨by rw [HV.out]; decide, by rw [HV.out]; rfl⟩⟩
            · have hst2 := HST.out
              rw [hc'] at hst2
              simp only [aheadB, decide_eq_false hlts, Bool.true_and, Bool.false_and] at hst2
              rw [decide_eq_false hlts] at hg
              have HV := Lib.hid (HSH.out (by rw [HQ.out, hc', hst2]))
              clear hc' hpc HPV hlts hst2 HQ HST HSH
              have hxp := BelT.cell hpw
              go_wp2
              have hx0 := BelT.cell hw0
              have hx1 := BelT.cell hw1
              have hx2 := BelT.cell hw2
              have hx3 := BelT.cell hw3
              (refine SM.wp_region_bel_lit (by kernel_rfl) (by kernel_rfl) ?_; (repeat (go_big_quiet_step (((first | exact call_bel (HCR.out _) | exact call_bel (HKR.out _)))))); refine @wpQuiet_nil _ _ _ _ _ ?_; intro wq hbq)
              have HB2 := Lib.hid hbq
              clear hbq hx0 hx1 hx2 hx3
              go_wp2
              refine bodyPost_ret (v := .tuple #[.map none, .map none, .int .i64 4]) (by simp [results, Try.results26, go_sem]) rfl ⟨HW.out.trans (HB2.out.mono HW.out.size), .inr ⟨by rw [HV.out]; decide, by rw [HV.out]; rfl⟩⟩
          · have hk2 : decide ((0 : Int) < (k : Int)) = false := decide_eq_false (by omega)
            have hst2 := HST.out
            have hpn : prevC (itsOf l) k = none := by unfold prevC; rw [if_pos (by omega)]
            rw [hpn] at hst2
            simp only [aheadB, Bool.true_and] at hst2
            clear HPV
            cases rb with
            | true =>
              have HQ2 : Hid (shapesB none (itsOf l) = shapesB (prevC (itsOf l) (k + 1)) ((itsOf l).drop (k + 1))) := by rw [HQ.out, hpn, hst2, Bool.true_and]; exact rfl
              clear hst2 HQ HST HSH
              go_wp2
              have hx0 := BelT.cell hw0
              have hx1 := BelT.cell hw1
              have hx2 := BelT.cell hw2
              have hx3 := BelT.cell hw3
              (refine SM.wp_region_bel_lit (by kernel_rfl) (by kernel_rfl) ?_; (repeat (go_big_quiet_step (((first | exact call_bel (HCR.out _) | exact call_bel (HKR.out _)))))); refine @wpQuiet_nil _ _ _ _ _ ?_; intro wq hbq)
              have HB2 := Lib.hid hbq
              clear hbq hx0 hx1 hx2 hx3
              go_wp2
              go_roundw
              case rel => exact ⟨k + 1, by omega, by go_num, HQ2, HW.out.trans (HB2.out.mono HW.out.size)⟩
              case measure => simp [intOf]; omega
            | false =>
              have HV := Lib.hid (HSH.out (by rw [HQ.out, hpn, hst2, Bool.false_and]))
              clear hst2 HQ HST HSH
              go_wp2
              have hx0 := BelT.cell hw0
              have hx1 := BelT.cell hw1
              have hx2 := BelT.cell hw2
              have hx3 := BelT.cell hw3
              (refine SM.wp_region_bel_lit (by kernel_rfl) (by kernel_rfl) ?_; (repeat (go_big_quiet_step (((first | exact call_bel (HCR.out _) | exact call_bel (HKR.out _)))))); refine @wpQuiet_nil _ _ _ _ _ ?_; intro wq hbq)
              have HB2 := Lib.hid hbq
              clear hbq hx0 hx1 hx2 hx3
              go_wp2
              refine bodyPost_ret (v := .tuple #[.map none, .map none, .int .i64 4]) (by simp [results, Try.results26, go_sem]) rfl ⟨HW.out.trans (HB2.out.mono HW.out.size), .inr ⟨by rw [HV.out]; decide, by rw [HV.out]; rfl⟩⟩
      · obtain rfl : k = l.length := by omega
        have hsh : shapesB none (itsOf l) = true := by rw [HQ.out, List.drop_eq_nil_of_le (by rw [itsOf_len]; exact Nat.le_refl _)]; rfl
        have hrs := shapes_rises hsh
        have hbk := book_any l A c wr hc (by unfold maxLen; omega) (HA.out.below HB.out) HS.out (by omega) hrs
        have hbk2 : Calls Try.prog 50 #[.slice A l.length c] wr (fun e w' => ∃ ma na : Nat, e = .returned (.map (some ma)) ∧ Hid (w.heap.size ≤ ma) ∧ Hid (MapS w' ma na (bookF l)) ∧ Hid (Below w.heap.size w w')) := by
          refine hbk.mono fun e w' ⟨ma, m, h1, h2, h3, h4, h5⟩ => ⟨ma, m, h1, ?_, h4, HB.out.trans (h5.mono HB.out.size)⟩
          have := HB.out.size
          show w.heap.size ≤ ma
          omega
        have HBK := Lib.hid hbk2
        have HSHT := Lib.hid hsh
        have HRS := Lib.hid hrs
        clear hbk hbk2 HSH hsh hrs HQ HB
        go_wp2_with (go_at_call 50; (with_reducible refine HBK.out.mono ?_); rintro e w1 ⟨ma, na, rfl, HMA, HM, HB⟩)
        go_loopw [55] (fun iv wr => ∃ k : Nat, k ≤ l.length ∧ iv = .int .i64 k ∧ Hid (knownB (itsOf l) (itsOf l) = knownB (itsOf l) ((itsOf l).drop k)) ∧ Hid (MapS wr ma na (bookF l)) ∧ Hid (Below w.heap.size w wr)) (fun iv _ => l.length - (intOf iv).toNat)
        case atStart => exact ⟨0, Nat.zero_le _, rfl, rfl, HM, HB⟩
        case round =>
          clear HBK HM HB
          obtain ⟨k, hk, rfl, HQ, HM, HB⟩ := hrel
          by_cases hlt : k < l.length
          · obtain ⟨b, o, rfl, h0, h1, h2, h3, hI⟩ := (HA.out.below HB.out).get hlt
            have hst : knownB (itsOf l) ((itsOf l).drop k) = (knownP (itsOf l) l[k].it.parts && knownB (itsOf l) ((itsOf l).drop (k + 1))) := by
              have hlt2 : k < (itsOf l).length := by rw [itsOf_len]; exact hlt
              rw [List.drop_eq_getElem_cons hlt2, show (itsOf l)[k] = l[k].it by simp [itsOf]]; rfl
            have hsz := HS.out _ (List.getElem_mem hlt)
            have hmem : l[k] ∈ l := List.getElem_mem hlt
            generalize l[k] = x at h0 h1 h2 h3 hI hst hsz hmem
            obtain ⟨⟨cd, lf, ps, ot⟩, pA, pc, oA, oc⟩ := x
            simp only at h0 h1 h2 h3 hst hsz
            have hol := hI.on
            have hom := hI.om
            have hpn := hI.pn
            have hpm := hI.pm
            unfold maxLen at hom hpm
            simp only at hol hom hpn hpm
            have HQ1 : Hid (knownB (itsOf l) (itsOf l) = (knownP (itsOf l) ps && knownB (itsOf l) ((itsOf l).drop (k + 1)))) := HQ.out.trans hst
            have HI := Lib.hid (HA.out.each _ hmem)
            have hmem' := hmem
            clear hI hst hsz hmem HQ
            go_wp2_with fail
            go_loopw [62] (fun iv wr => ∃ j : Nat, j ≤ ps.length ∧ iv = .int .i64 j ∧ Hid (knownB (itsOf l) (itsOf l) = (knownP (itsOf l) (ps.drop j) && knownB (itsOf l) ((itsOf l).drop (k + 1)))) ∧ Hid (MapS wr ma na (bookF l)) ∧ Hid (Below w.heap.size w wr)) (fun iv _ => ps.length - (intOf iv).toNat)
            case atStart => exact ⟨0, Nat.zero_le _, rfl, HQ1, HM.out.alloc _, HB.out.alloc HB.out.size _⟩
            case round =>
              clear h0 h1 h2 h3 HQ1 HM HB
              obtain ⟨j, hj, rfl, HQ, HM, HB⟩ := hrel
              by_cases hjl : j < ps.length
              · obtain ⟨b1, o1, hpa, h0, h1⟩ := (HI.out.below HB.out).part (j := j) hjl
                simp only at hpa h0 h1
                subst hpa
                obtain ⟨sq, hsq⟩ : ∃ sq, sq = ps[j] := ⟨_, rfl⟩
                have hpk : ps[j]? = some sq := by rw [List.getElem?_eq_getElem hjl, hsq]
                rw [← hsq] at h0 h1
                have hst : knownP (itsOf l) (ps.drop j) = ((findI (itsOf l) sq.1).isSome && knownP (itsOf l) (ps.drop (j + 1))) := by
                  rw [List.drop_eq_getElem_cons hjl, ← hsq]; rfl
                obtain ⟨s, q⟩ := sq
                simp only at h0 h1 hst
                have hss : s.size ≤ 140737488355328 := (HS.out _ hmem').2 _ (List.mem_of_getElem? hpk)
                have hok : s.size ≤ maxLen := by unfold maxLen; omega
                have hM1 := HM.out.alloc (.cells #[.string s, .int .i64 q] 39)
                have hl := hM1.look false Try.underlying54 (zeroItem _) (x := s) hok
                have hf0 := field0
                have HM1 := Lib.hid hM1
                have HB1 : Hid (Below w.heap.size w (wr.alloc (.cells #[.string s, .int .i64 q] 39))) := HB.out.alloc HB.out.size _
                cases hfi : findI (itsOf l) s with
                | some y0 =>
                  obtain ⟨y, hy, rfl⟩ := findIv_some hfi
                  have hbf : bookF l s = some (aggIv y) := by unfold bookF; rw [hy]; rfl
                  rw [hbf] at hl
                  replace hl : (Instr.lookup 54 (.map (some ma)) (.string s) false).run Try.prog (wr.alloc (.cells #[.string s, .int .i64 q] 39)) = .ok (.agg #[.string y.it.code, .int .i64 y.it.life, y.pv, y.ov]) (wr.alloc (.cells #[.string s, .int .i64 q] 39)) := hl
                  have hye : y.it.code.toList.isEmpty = false := by
                    have := (code_size (shapes_each HSHT.out y.it (List.mem_map.2 ⟨y, findIv_mem hy, rfl⟩)).1).1
                    rw [toList_empty]
                    exact decide_eq_false (by omega)
                  have HQ2 : Hid (knownB (itsOf l) (itsOf l) = (knownP (itsOf l) (ps.drop (j + 1)) && knownB (itsOf l) ((itsOf l).drop (k + 1)))) := by
                    rw [HQ.out, hst, hfi, Option.isSome_some, Bool.true_and]; exact rfl
                  clear hM1 hst hfi hbf hy hpk hsq HQ HM HB
                  go_wp2_with fail
                  go_roundw
                  case rel => exact ⟨j + 1, by omega, by go_num, HQ2, HM1, HB1⟩
                  case measure => simp [intOf]; omega
                | none =>
                  have hbf : bookF l s = none := by unfold bookF; rw [findIv_none hfi]; rfl
                  rw [hbf] at hl
                  replace hl : (Instr.lookup 54 (.map (some ma)) (.string s) false).run Try.prog (wr.alloc (.cells #[.string s, .int .i64 q] 39)) = .ok (.agg #[.string ByteArray.empty, .int .i64 0, .slice none 0 0, .slice none 0 0]) (wr.alloc (.cells #[.string s, .int .i64 q] 39)) := hl
                  have hye : ByteArray.empty.toList.isEmpty = true := by rw [toList_empty]; rfl
                  have HV : Hid (checkE (itsOf l) = 150) := checkE_item (by rw [itsOf_len]; exact h60) HSHT.out (by rw [HQ.out, hst, hfi]; rfl)
                  clear hM1 hst hfi hbf hpk hsq HQ HM HB
                  go_wp2_with fail
                  refine bodyPost_ret (v := .tuple #[.map none, .map none, .int .i64 150]) (by simp [results, Try.results26, go_sem]) rfl ⟨HB1.out, .inr ⟨by rw [HV.out]; decide, by rw [HV.out]; rfl⟩⟩
              · obtain rfl : j = ps.length := by omega
                have HQ2 : Hid (knownB (itsOf l) (itsOf l) = knownB (itsOf l) ((itsOf l).drop (k + 1))) := by
                  rw [HQ.out, List.drop_length]; exact rfl
                clear HQ
                go_wp2_with fail
                go_roundw
                case rel => exact ⟨k + 1, by omega, by go_num, HQ2, HM, HB⟩
                case measure => simp [intOf]; omega
          · obtain rfl : k = l.length := by omega
            have hkn : knownB (itsOf l) (itsOf l) = true := by rw [HQ.out, List.drop_eq_nil_of_le (by rw [itsOf_len]; exact Nat.le_refl _)]; rfl
            have hK : ∀ x ∈ l, ∀ p ∈ x.it.parts, ∃ y, findIv l p.1 = some y := fun x hx p hp => by
              obtain ⟨y, hy⟩ := known_each hkn x.it (List.mem_map.2 ⟨x, hx, rfl⟩) p hp
              obtain ⟨z, hz, _⟩ := findIv_some hy
              exact ⟨z, hz⟩
            have hdp := kitDepths_any l wr na ma (fun x hx => (HA.out.below HB.out).each x hx) HS.out (by omega) HRS.out.uniq hK HM.out
            have hdp2 : Calls Try.prog 51 #[.map (some ma)] wr (fun e w' =>
                (e = .returned (.tuple #[.map none, .bool false]) ∧ Hid (Below w.heap.size w w') ∧ Hid (checkE (itsOf l) = 152)) ∨
                (∃ (mo m R cnt0 : Nat) (w5 : World), e = .returned (.tuple #[.map (some mo), .bool true]) ∧ (Instr.range 55 (.map (some mo))).run Try.prog w' = .ok (.pointer (some ⟨R, 0, none⟩)) w5 ∧
                  Hid (RangeS w5 mo R m (asI (depF (itsOf l))) [] cnt0) ∧ Hid (MapS w5 ma na (bookF l)) ∧ Hid (Below w.heap.size w w5) ∧ Hid (w.heap.size ≤ mo ∧ ma ≠ R ∧ w.heap.size ≤ R) ∧ Hid (∀ x ∈ itsOf l, depI (itsOf l) x.code ≠ 0))) := by
              refine hdp.mono fun e w' ⟨hB, h⟩ => ?_
              have hBw : Below w.heap.size w w' := HB.out.trans (hB.mono HB.out.size)
              rcases h with ⟨mo, m, rfl, h1, h2, h3, h4⟩ | ⟨rfl, h4⟩
              · obtain ⟨w5, cnt0, hrun5, hrg5, hcn, hg5, hs5⟩ := h3.range (t := 55) Try.underlying55
                have hM2 : MapS w' ma na (bookF l) := HM.out.same (hB.block _ HM.out.lt)
                have h6 := HB.out.size
                have h7 := hBw.size
                have h8 := hM2.lt
                refine .inr ⟨mo, m, _, cnt0, w5, rfl, hrun5, hrg5, hM2.kept hg5 (by simp), hBw.grown hg5 h7 (fun j hj => by cases hj), ⟨by omega, by omega, h7⟩, h4⟩
              · exact .inl ⟨rfl, hBw, checkE_round (by rw [itsOf_len]; exact h60) HSHT.out hkn h4⟩
            have HDP := Lib.hid hdp2
            have HKN := Lib.hid hkn
            clear hkn hK hdp hdp2 HQ HM HB
            go_wp2_with (go_at_call 51; (with_reducible refine HDP.out.mono ?_); rintro e w' (⟨rfl, HB, HV⟩ | ⟨mo, m, R, cnt0, w5, rfl, hrun5, HRG, HM, HB, HN, HD⟩))
            · refine bodyPost_ret (v := .tuple #[.map none, .map none, .int .i64 152]) (by simp [results, Try.results26, go_sem]) rfl ⟨HB.out, .inr ⟨by rw [HV.out]; decide, by rw [HV.out]; rfl⟩⟩
            · go_loopw [] (fun wr => ∃ (done : List ByteArray) (cnt : Nat), Hid (RangeS wr mo R m (asI (depF (itsOf l))) done cnt) ∧ Hid (MapS wr ma na (bookF l)) ∧ Hid (Below w.heap.size w wr) ∧ Hid (∀ c ∈ done, depI (itsOf l) c ≤ 8)) (fun wr => wr.rangeLeft mo R)
              case atStart => exact ⟨[], cnt0, HRG, HM, HB, fun c hc => by cases hc⟩
              case round =>
                clear hrun5 HRG HM HB
                obtain ⟨done, cnt, HRG, HM, HB, HL⟩ := hrel
                rcases HRG.out.next 0 with ⟨hc0, hall, hrun⟩ | ⟨x, v, w6, cnt', hnd, hfx, hokx, hrun, hrg6, hclt, hg6, hs6, hen⟩
                · have HV : Hid (checkE (itsOf l) = 0) := checkE_ok (by rw [itsOf_len]; exact h60) HSHT.out HKN.out HD.out (fun x hx => HL.out _ (hall _ (by unfold asI depF; rw [if_neg (HD.out x hx)]; rfl)))
                  have HMO := Lib.hid HRG.out.map
                  clear hall HRG
                  go_wp2_with fail
                  have hma := HMA.out
                  refine bodyPost_ret (v := .tuple #[.map (some ma), .map (some mo), .int .i64 0]) (by simp [results, Try.results26, go_sem]) rfl ⟨HB.out, .inl ⟨HV.out, ma, mo, na, m, rfl, hma, HN.out.1, HM.out, HMO.out⟩⟩
                · obtain ⟨hdx, rfl⟩ : depI (itsOf l) x ≠ 0 ∧ v = .int .i64 (depI (itsOf l) x : Nat) := by
                    unfold asI depF at hfx
                    by_cases h : depI (itsOf l) x = 0
                    · rw [if_pos h] at hfx; cases hfx
                    · rw [if_neg h] at hfx
                      injection hfx with hfx
                      exact ⟨h, hfx.symm⟩
                  replace hrun : (Instr.next (.pointer (some ⟨R, 0, none⟩)) false 0).run Try.prog wr = .ok (.tuple #[.bool true, .string x, .int .i64 (depI (itsOf l) x : Nat)]) w6 := hrun
                  replace hen : (Instr.entry (.pointer (some ⟨R, 0, none⟩))).run Try.prog w6 = .ok (.tuple #[.string x, .int .i64 (depI (itsOf l) x : Nat)]) w6 := hen
                  have HM6 : Hid (MapS w6 ma na (bookF l)) := HM.out.kept hg6 (fun e => by injection e with e; exact HN.out.2.1 e)
                  have HB6 : Hid (Below w.heap.size w w6) := HB.out.grown hg6 HB.out.size (fun j hj => by cases hj; exact HN.out.2.2)
                  have HC : Hid (wr.rangeLeft mo R = cnt ∧ w6.rangeLeft mo R = cnt') := ⟨HRG.out.left_eq, hrg6.left_eq⟩
                  have HRG6 := Lib.hid hrg6
                  have HX : Hid (8 < depI (itsOf l) x → checkE (itsOf l) = 3) := fun h => by
                    refine checkE_deep (by rw [itsOf_len]; exact h60) HSHT.out HKN.out HD.out ?_
                    cases hfi : findI (itsOf l) x with
                    | none => rw [depI_none hfi] at hdx; exact absurd rfl hdx
                    | some y => exact ⟨y, findI_mem hfi, by rw [findI_code hfi]; exact h⟩
                  have HL2 : Hid (depI (itsOf l) x ≤ 8 → ∀ c ∈ done ++ [x], depI (itsOf l) c ≤ 8) := fun h c hc => by
                    rcases List.mem_append.1 hc with hc | hc
                    · exact HL.out c hc
                    · simp only [List.mem_singleton] at hc; subst hc; exact h
                  clear hnd hfx hokx hrg6 hg6 hs6 HRG HM HB HL hdx
                  generalize depI (itsOf l) x = d at hrun hen HX HL2
                  by_cases hd : d ≤ 8
                  · have HL3 := Lib.hid (HL2.out hd)
                    clear HX HL2
                    go_wp2_with fail
                    go_roundw
                    case rel => exact ⟨_, _, HRG6, HM6, HB6, HL3⟩
                    case measure => rw [HC.out.1, HC.out.2]; exact hclt
                  · have HV := Lib.hid (HX.out (by omega))
                    clear HX HL2
                    go_wp2_with fail
                    refine bodyPost_ret (v := .tuple #[.map none, .map none, .int .i64 3]) (by simp [results, Try.results26, go_sem]) rfl ⟨HB6.out, .inr ⟨by rw [HV.out]; decide, by rw [HV.out]; rfl⟩⟩
end Go.Proofs.Ytnboigbknadpdaa
