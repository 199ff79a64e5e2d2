/- storemanref07.Check: what is wrong first, as the document says. -/
import Derived.Test.YtnboigbknadpdaaRefDeep
import Derived.Test.YtnboigbknadpdaaQuietB
set_option linter.unusedVariables false
set_option linter.unusedSimpArgs false
namespace Go.Proofs.Ytnboigbknadpdaa
set_option maxRecDepth 100000
open Go.RowKit SM
set_option maxHeartbeats 16000000 in
theorem refCheck_any (l : List Iv) (A : Option Addr) (c : Nat) (w : World) (hc : l.length ≤ c) (hm : c ≤ maxLen) (hA : ItemsAt w A l) (hS : SizesOk l) :
    Calls Try.prog 10 #[.slice A l.length c] w fun e w' => e = .returned (.int .i64 (checkE (itsOf l) : Nat)) ∧ Below w.heap.size w w' := by
  unfold maxLen at hm
  by_cases h60 : 60 < l.length
  · have HV : Hid (checkE (itsOf l) = 3) := by unfold checkE; rw [itsOf_len, if_pos h60]; exact rfl
    clear hA hS
    go_enter Try.func10, Try.ntmps10
    go_wp2_with fail
    go_ret
    exact ⟨by rw [HV.out]; exact rfl, Below.refl _ _⟩
  · have HSH : Hid (shapesB none (itsOf l) = false → checkE (itsOf l) = 4) := fun h => checkE_shape (by rw [itsOf_len]; exact h60) h
    have HA := Lib.hid hA
    have HS := Lib.hid hS
    clear hA hS
    go_enter Try.func10, Try.ntmps10
    go_wp2_with fail
    go_loopw [3] (fun iv wr => ∃ k : Nat, k ≤ l.length ∧ iv = .int .i64 k ∧ Hid (shapesB none (itsOf l) = shapesB (prevC (itsOf l) k) ((itsOf l).drop k)) ∧ Hid (Below w.heap.size w wr)) (fun iv _ => l.length - (intOf iv).toNat)
    case atStart => exact ⟨0, Nat.zero_le _, rfl, rfl, Below.refl _ _⟩
    case round =>
      obtain ⟨k, hk, rfl, HQ, HB⟩ := hrel
      by_cases hlt : k < l.length
      · obtain ⟨b, o, rfl, h0, h1, h2, h3, hI⟩ := (HA.out.below HB.out).get hlt
        have hlt2 : k < (itsOf l).length := by rw [itsOf_len]; exact hlt
        have hst := shapes_step hlt2
        have hxe : (itsOf l)[k] = l[k].it := by simp [itsOf]
        rw [hxe] at hst
        have hsz := HS.out _ (List.getElem_mem hlt)
        have hpv : 0 < k → ∃ c', prevC (itsOf l) k = some c' ∧ wr.cell? ⟨b, o + (k - 1) * 4, none⟩ = some (.string c') := fun h => by
          obtain ⟨b', o', he, h0', _⟩ := (HA.out.below HB.out).get (i := k - 1) (by omega)
          cases he
          refine ⟨_, ?_, h0'⟩
          unfold prevC itsOf
          rw [if_neg (by omega), List.getElem?_map, List.getElem?_eq_getElem (by omega)]; rfl
        generalize l[k] = x at h0 h1 h2 h3 hI hst hsz
        clear hlt2 hxe
        obtain ⟨⟨cd, lf, ps, ot⟩, pA, pc, oA, oc⟩ := x
        simp only at h0 h1 h2 h3 hst hsz
        have hol := hI.on
        have hom := hI.om
        have hpn := hI.pn
        have hpm := hI.pm
        unfold maxLen at hom hpm
        simp only at hol hom hpn hpm
        have hcr : ∀ y, Calls Try.prog 27 #[.string cd] y (fun e w' => e = .returned (.bool (codeB cd)) ∧ Below y.heap.size y w') := fun y => (refCode_any cd y hsz.1).mono fun _ _ h => ⟨h.1, h.2 ▸ Below.refl _ _⟩
        have hkr : ∀ y : BelT wr, Calls Try.prog 28 #[.agg #[.string cd, .int .i64 lf, .slice pA ps.length pc, .slice oA ot.length oc]] y.val (fun e w' => e = .returned (.bool (rightB ⟨cd, lf, ps, ot⟩)) ∧ Below y.val.heap.size y.val w') := fun y =>
          shape_any ⟨⟨cd, lf, ps, ot⟩, pA, pc, oA, oc⟩ y.val (hI.below y.prop)
        generalize codeB cd = cb at hcr hst
        generalize rightB ⟨cd, lf, ps, ot⟩ = rb at hkr hst
        have HCR := Lib.hid hcr
        have HKR := Lib.hid hkr
        have HST := Lib.hid hst
        have hk0 : (0 : Int) ≤ (k : Int) := by omega
        have hkl : (k : Int) < (l.length : Int) := by omega
        have HPV := Lib.hid hpv
        clear hcr hkr hst hsz hI hpv
        cases cb with
        | false =>
          have HV := Lib.hid (HSH.out (by rw [HQ.out, HST.out]; simp))
          clear HQ HST
          go_wp2
          have hx0 := BelT.cell h0
          have hx1 := BelT.cell h1
          have hx2 := BelT.cell h2
          have hx3 := BelT.cell h3
          (refine SM.wp_region_bel_lit (by kernel_rfl) (by kernel_rfl) ?_; (repeat (go_big_quiet_step (((first | exact call_bel (HCR.out _) | exact call_bel (HKR.out _)))))); refine @wpQuiet_nil _ _ _ _ _ ?_; intro wq hbq)
          have HB2 := Lib.hid hbq
          clear hbq hx0 hx1 hx2 hx3
          go_wp2
          go_ret
          exact ⟨by rw [HV.out]; exact rfl, HB.out.trans (HB2.out.mono HB.out.size)⟩
        | true =>
          by_cases hk1 : 0 < k
          · have hk2 : (0 : Int) < (k : Int) := by omega
            obtain ⟨c', hc', hpc⟩ := HPV.out hk1
            have hg := bytesLess_lt c' cd
            by_cases hlts : ltS c' cd
            · have hst2 := HST.out
              rw [hc'] at hst2
              simp only [aheadB, decide_eq_true hlts, Bool.true_and] at hst2
              rw [decide_eq_true hlts] at hg
              clear HPV hlts
              cases rb with
              | true =>
                have HQ2 : Hid (shapesB none (itsOf l) = shapesB (prevC (itsOf l) (k + 1)) ((itsOf l).drop (k + 1))) := by rw [HQ.out, hc', hst2, Bool.true_and]; exact rfl
                clear hc' hst2 HQ HST HSH
                have hxp := BelT.cell hpc
                go_wp2
                have hx0 := BelT.cell h0
                have hx1 := BelT.cell h1
                have hx2 := BelT.cell h2
                have hx3 := BelT.cell h3
                (refine SM.wp_region_bel_lit (by kernel_rfl) (by kernel_rfl) ?_; (repeat (go_big_quiet_step (((first | exact call_bel (HCR.out _) | exact call_bel (HKR.out _)))))); refine @wpQuiet_nil _ _ _ _ _ ?_; intro wq hbq)
                have HB2 := Lib.hid hbq
                clear hbq hx0 hx1 hx2 hx3
                go_wp2
                go_roundw
                case rel => exact ⟨k + 1, by omega, by go_num, HQ2, HB.out.trans (HB2.out.mono HB.out.size)⟩
                case measure => simp [intOf]; omega
              | false =>
                have HV := Lib.hid (HSH.out (by rw [HQ.out, hc', hst2, Bool.false_and]))
                clear hc' hst2 HQ HST HSH
                have hxp := BelT.cell hpc
                go_wp2
                have hx0 := BelT.cell h0
                have hx1 := BelT.cell h1
                have hx2 := BelT.cell h2
                have hx3 := BelT.cell h3
                (refine SM.wp_region_bel_lit (by kernel_rfl) (by kernel_rfl) ?_; (repeat (go_big_quiet_step (((first | exact call_bel (HCR.out _) | exact call_bel (HKR.out _)))))); refine @wpQuiet_nil _ _ _ _ _ ?_; intro wq hbq)
                have HB2 := Lib.hid hbq
                clear hbq hx0 hx1 hx2 hx3
                go_wp2
                go_ret
                exact ⟨by rw [HV.out]; exact rfl, HB.out.trans (HB2.out.mono HB.out.size)⟩
            · have hst2 := HST.out
              rw [hc'] at hst2
              simp only [aheadB, decide_eq_false hlts, Bool.true_and, Bool.false_and] at hst2
              rw [decide_eq_false hlts] at hg
              have HV := Lib.hid (HSH.out (by rw [HQ.out, hc', hst2]))
              clear hc' HPV hlts hst2 HQ HST HSH
              have hxp := BelT.cell hpc
              go_wp2
              have hx0 := BelT.cell h0
              have hx1 := BelT.cell h1
              have hx2 := BelT.cell h2
              have hx3 := BelT.cell h3
              (refine SM.wp_region_bel_lit (by kernel_rfl) (by kernel_rfl) ?_; (repeat (go_big_quiet_step (((first | exact call_bel (HCR.out _) | exact call_bel (HKR.out _)))))); refine @wpQuiet_nil _ _ _ _ _ ?_; intro wq hbq)
              have HB2 := Lib.hid hbq
              clear hbq hx0 hx1 hx2 hx3
              go_wp2
              go_ret
              exact ⟨by rw [HV.out]; exact rfl, HB.out.trans (HB2.out.mono HB.out.size)⟩
          · have hk2 : decide ((0 : Int) < (k : Int)) = false := decide_eq_false (by omega)
            have hst2 := HST.out
            have hpn : prevC (itsOf l) k = none := by unfold prevC; rw [if_pos (by omega)]
            rw [hpn] at hst2
            simp only [aheadB, Bool.true_and] at hst2
            clear HPV
            cases rb with
            | true =>
              have HQ2 : Hid (shapesB none (itsOf l) = shapesB (prevC (itsOf l) (k + 1)) ((itsOf l).drop (k + 1))) := by rw [HQ.out, hpn, hst2, Bool.true_and]; exact rfl
              clear hst2 HQ HST HSH
              go_wp2
              have hx0 := BelT.cell h0
              have hx1 := BelT.cell h1
              have hx2 := BelT.cell h2
              have hx3 := BelT.cell h3
              (refine SM.wp_region_bel_lit (by kernel_rfl) (by kernel_rfl) ?_; (repeat (go_big_quiet_step (((first | exact call_bel (HCR.out _) | exact call_bel (HKR.out _)))))); refine @wpQuiet_nil _ _ _ _ _ ?_; intro wq hbq)
              have HB2 := Lib.hid hbq
              clear hbq hx0 hx1 hx2 hx3
              go_wp2
              go_roundw
              case rel => exact ⟨k + 1, by omega, by go_num, HQ2, HB.out.trans (HB2.out.mono HB.out.size)⟩
              case measure => simp [intOf]; omega
            | false =>
              have HV := Lib.hid (HSH.out (by rw [HQ.out, hpn, hst2, Bool.false_and]))
              clear hst2 HQ HST HSH
              go_wp2
              have hx0 := BelT.cell h0
              have hx1 := BelT.cell h1
              have hx2 := BelT.cell h2
              have hx3 := BelT.cell h3
              (refine SM.wp_region_bel_lit (by kernel_rfl) (by kernel_rfl) ?_; (repeat (go_big_quiet_step (((first | exact call_bel (HCR.out _) | exact call_bel (HKR.out _)))))); refine @wpQuiet_nil _ _ _ _ _ ?_; intro wq hbq)
              have HB2 := Lib.hid hbq
              clear hbq hx0 hx1 hx2 hx3
              go_wp2
              go_ret
              exact ⟨by rw [HV.out]; exact rfl, HB.out.trans (HB2.out.mono HB.out.size)⟩
      · obtain rfl : k = l.length := by omega
        have hsh : shapesB none (itsOf l) = true := by rw [HQ.out, List.drop_eq_nil_of_le (by rw [itsOf_len]; exact Nat.le_refl _)]; rfl
        have HSHT := Lib.hid hsh
        have HRS := Lib.hid (shapes_rises hsh)
        clear HSH hsh HQ
        go_wp2_with fail
        go_loopw [4] (fun iv wr => ∃ k : Nat, k ≤ l.length ∧ iv = .int .i64 k ∧ Hid (knownB (itsOf l) (itsOf l) = knownB (itsOf l) ((itsOf l).drop k)) ∧ Hid (Below w.heap.size w wr)) (fun iv _ => l.length - (intOf iv).toNat)
        case atStart => exact ⟨0, Nat.zero_le _, rfl, rfl, HB⟩
        case round =>
          clear HB
          obtain ⟨k, hk, rfl, HQ, HB⟩ := hrel
          by_cases hlt : k < l.length
          · obtain ⟨b, o, rfl, h0, h1, h2, h3, hI⟩ := (HA.out.below HB.out).get hlt
            have hst : knownB (itsOf l) ((itsOf l).drop k) = (knownP (itsOf l) l[k].it.parts && knownB (itsOf l) ((itsOf l).drop (k + 1))) := by
              have hlt2 : k < (itsOf l).length := by rw [itsOf_len]; exact hlt
              rw [List.drop_eq_getElem_cons hlt2, show (itsOf l)[k] = l[k].it by simp [itsOf]]; rfl
            generalize l[k] = x at h0 h1 h2 h3 hI hst
            obtain ⟨⟨cd, lf, ps, ot⟩, pA, pc, oA, oc⟩ := x
            simp only at h0 h1 h2 h3 hst
            have hpn := hI.pn
            have hpm := hI.pm
            unfold maxLen at hpm
            simp only at hpn hpm
            have HQ1 : Hid (knownB (itsOf l) (itsOf l) = (knownP (itsOf l) ps && knownB (itsOf l) ((itsOf l).drop (k + 1)))) := HQ.out.trans hst
            have HI := Lib.hid hI
            have hk0 : (0 : Int) ≤ (k : Int) := by omega
            have hkl : (k : Int) < (l.length : Int) := by omega
            have HFD : Hid (∀ s, Calls Try.prog 29 #[.slice (some ⟨b, o, none⟩) l.length c, .string s] wr fun e w' => e = .returned (.int .i64 (findZ (itsOf l) s)) ∧ wr = w') := fun s => refFind_any l _ c s wr hc (by unfold maxLen; omega) (HA.out.below HB.out)
            clear hI hst HQ h0 h1 h3
            go_wp2_with fail
            go_loopw [5] (fun iv wr2 => ∃ j : Nat, j ≤ ps.length ∧ iv = .int .i64 j ∧ wr = wr2 ∧ Hid (knownB (itsOf l) (itsOf l) = (knownP (itsOf l) (ps.drop j) && knownB (itsOf l) ((itsOf l).drop (k + 1))))) (fun iv _ => ps.length - (intOf iv).toNat)
            case atStart => exact ⟨0, Nat.zero_le _, rfl, by trivial, HQ1⟩
            case round =>
              clear HQ1
              obtain ⟨j, hj, rfl, rfl, HQ⟩ := hrel
              have hj0 : (0 : Int) ≤ (j : Int) := by omega
              by_cases hjl : j < ps.length
              · obtain ⟨b1, o1, hpa, h4, h5⟩ := HI.out.part (j := j) hjl
                simp only at hpa h4 h5
                subst hpa
                have hst : knownP (itsOf l) (ps.drop j) = ((findI (itsOf l) ps[j].1).isSome && knownP (itsOf l) (ps.drop (j + 1))) := by
                  rw [List.drop_eq_getElem_cons hjl]; rfl
                have hfd := HFD.out ps[j].1
                generalize ps[j].1 = s at h4 hst hfd
                cases hfi : findI (itsOf l) s with
                | some y =>
                  rw [findZ_found hfi] at hfd
                  generalize placeI (itsOf l) s = pl at hfd
                  have HFD2 := Lib.hid hfd
                  have hpl0 : ¬ ((pl : Int) < 0) := by omega
                  have HQ2 : Hid (knownB (itsOf l) (itsOf l) = (knownP (itsOf l) (ps.drop (j + 1)) && knownB (itsOf l) ((itsOf l).drop (k + 1)))) := by
                    rw [HQ.out, hst, hfi, Option.isSome_some, Bool.true_and]; exact rfl
                  clear hfd hst hfi HQ
                  go_wp2_with (go_at_call 29; (with_reducible refine HFD2.out.mono ?_); rintro e w' ⟨rfl, rfl⟩)
                  go_roundw
                  case rel => exact ⟨j + 1, by omega, by go_num, by trivial, HQ2⟩
                  case measure => simp [intOf]; omega
                | none =>
                  rw [findZ_miss hfi] at hfd
                  have HFD2 := Lib.hid hfd
                  have HV : Hid (checkE (itsOf l) = 150) := checkE_item (by rw [itsOf_len]; exact h60) HSHT.out (by rw [HQ.out, hst, hfi]; rfl)
                  clear hfd hst hfi HQ
                  go_wp2_with (go_at_call 29; (with_reducible refine HFD2.out.mono ?_); rintro e w' ⟨rfl, rfl⟩)
                  go_ret
                  exact ⟨by rw [HV.out]; exact rfl, HB.out⟩
              · obtain rfl : j = ps.length := by omega
                have HQ2 : Hid (knownB (itsOf l) (itsOf l) = knownB (itsOf l) ((itsOf l).drop (k + 1))) := by
                  rw [HQ.out, List.drop_length]; exact rfl
                clear HQ
                go_wp2_with fail
                go_roundw
                case rel => exact ⟨k + 1, by omega, by go_num, HQ2, HB⟩
                case measure => simp [intOf]; omega
          · obtain rfl : k = l.length := by omega
            have hkn : knownB (itsOf l) (itsOf l) = true := by rw [HQ.out, List.drop_eq_nil_of_le (by rw [itsOf_len]; exact Nat.le_refl _)]; rfl
            have hK : ∀ x ∈ l, ∀ p ∈ x.it.parts, ∃ y, findI (itsOf l) p.1 = some y := fun x hx p hp => known_each hkn x.it (List.mem_map.2 ⟨x, hx, rfl⟩) p hp
            have hdp := refDeep_any l A c wr hc (by unfold maxLen; omega) (HA.out.below HB.out) (by omega) HRS.out.uniq hK
            have hdp2 : Calls Try.prog 30 #[.slice A l.length c] wr (fun e w' => ∃ G, e = .returned (.slice (some ⟨G, 0, none⟩) l.length l.length) ∧ Hid (IntsAt w' wr.heap.size G l.length (depthsV (itsOf l))) ∧ Hid (Below w.heap.size w w')) :=
              hdp.mono fun e w' ⟨he, h1, h2⟩ => ⟨_, he, h1, HB.out.trans (h2.mono HB.out.size)⟩
            have HDP := Lib.hid hdp2
            have hdl : (depthsV (itsOf l)).length = l.length := by unfold depthsV; rw [roundsV_len, itsOf_len]
            have HR152 : Hid ((∃ i, ∃ h : i < (depthsV (itsOf l)).length, (depthsV (itsOf l))[i] = 0) → checkE (itsOf l) = 152) := fun ⟨i, h, he⟩ => by
              refine checkE_round (by rw [itsOf_len]; exact h60) HSHT.out hkn ?_
              have := (depths_any HRS.out.uniq (fun d => d == 0)).1 (List.any_eq_true.2 ⟨_, List.getElem_mem h, by simpa using he⟩)
              simpa using this
            have hnz : (∀ i (h : i < (depthsV (itsOf l)).length), (depthsV (itsOf l))[i] ≠ 0) → ∀ x ∈ itsOf l, depI (itsOf l) x.code ≠ 0 := fun h x hx he => by
              obtain ⟨d, hd, hd0⟩ := List.any_eq_true.1 ((depths_any HRS.out.uniq (fun d => d == 0)).2 ⟨x, hx, by simpa using he⟩)
              obtain ⟨i, hi, rfl⟩ := List.getElem_of_mem hd
              exact h i hi (by simpa using hd0)
            have HR3 : Hid ((∀ i (h : i < (depthsV (itsOf l)).length), (depthsV (itsOf l))[i] ≠ 0) → (∃ i, ∃ h : i < (depthsV (itsOf l)).length, 8 < (depthsV (itsOf l))[i]) → checkE (itsOf l) = 3) := fun h0 ⟨i, h, he⟩ => by
              refine checkE_deep (by rw [itsOf_len]; exact h60) HSHT.out hkn (hnz h0) ?_
              have := (depths_any HRS.out.uniq (fun d => decide (8 < d))).1 (List.any_eq_true.2 ⟨_, List.getElem_mem h, by simpa using he⟩)
              simpa using this
            have HR0 : Hid ((∀ i (h : i < (depthsV (itsOf l)).length), (depthsV (itsOf l))[i] ≠ 0) → (∀ i (h : i < (depthsV (itsOf l)).length), (depthsV (itsOf l))[i] ≤ 8) → checkE (itsOf l) = 0) := fun h0 h8 => by
              refine checkE_ok (by rw [itsOf_len]; exact h60) HSHT.out hkn (hnz h0) fun x hx => ?_
              rcases Nat.lt_or_ge 8 (depI (itsOf l) x.code) with h | h
              · obtain ⟨d, hd, hd0⟩ := List.any_eq_true.1 ((depths_any HRS.out.uniq (fun d => decide (8 < d))).2 ⟨x, hx, by simpa using h⟩)
                obtain ⟨i, hi, rfl⟩ := List.getElem_of_mem hd
                have := h8 i hi
                have hd1 : 8 < (depthsV (itsOf l))[i] := by simpa using hd0
                omega
              · exact h
            generalize depthsV (itsOf l) = out at HDP hdl HR152 HR3 HR0
            clear hkn hK hdp hdp2 HQ HB hnz
            go_wp2_with (go_at_call 30; (with_reducible refine HDP.out.mono ?_); rintro e w1 ⟨G, rfl, HI, HB⟩)
            go_loopw [7] (fun iv wr => ∃ k : Nat, k ≤ l.length ∧ iv = .int .i64 k ∧ w1 = wr ∧ Hid (∀ i (h : i < out.length), i < k → out[i] ≠ 0)) (fun iv _ => l.length - (intOf iv).toNat)
            case atStart => exact ⟨0, Nat.zero_le _, rfl, by trivial, fun i _ h => absurd h (Nat.not_lt_zero _)⟩
            case round =>
              obtain ⟨k, hk, rfl, rfl, HN⟩ := hrel
              have hk0 : (0 : Int) ≤ (k : Int) := by omega
              by_cases hlt : k < l.length
              · have hlo : k < out.length := by omega
                have hck := HI.out.get (List.getElem?_eq_getElem hlo)
                have hkl : (k : Int) < (l.length : Int) := by omega
                have HZ : Hid (out[k] = 0 → checkE (itsOf l) = 152) := fun h => HR152.out ⟨k, hlo, h⟩
                have HN2 : Hid (out[k] ≠ 0 → ∀ i (h : i < out.length), i < k + 1 → out[i] ≠ 0) := fun h0 i h hi => by
                  by_cases he : i = k
                  · subst he; exact h0
                  · exact HN.out i h (by omega)
                generalize out[k] = d at hck HZ HN2
                by_cases hd : d = 0
                · have hd1 : ((d : Int) == 0) = true := by rw [beq_iff_eq]; omega
                  have HV := Lib.hid (HZ.out hd)
                  clear hd
                  go_wp2_with fail
                  go_ret
                  exact ⟨by rw [HV.out]; exact rfl, HB.out⟩
                · have hd1 : ((d : Int) == 0) = false := by rw [beq_eq_false_iff_ne]; omega
                  have HN3 := Lib.hid (HN2.out hd)
                  clear hd
                  go_wp2_with fail
                  go_roundw
                  case rel => exact ⟨k + 1, by omega, by go_num, by trivial, HN3⟩
                  case measure => simp [intOf]; omega
              · obtain rfl : k = l.length := by omega
                have hnz : ∀ i (h : i < out.length), out[i] ≠ 0 := fun i h => HN.out i h (by omega)
                have HX3 : Hid ((∃ i, ∃ h : i < out.length, 8 < out[i]) → checkE (itsOf l) = 3) := HR3.out hnz
                have HX0 : Hid ((∀ i (h : i < out.length), out[i] ≤ 8) → checkE (itsOf l) = 0) := HR0.out hnz
                clear hnz HN HR3 HR0 HR152
                go_wp2_with fail
                go_loopw [8] (fun iv wr => ∃ k : Nat, k ≤ l.length ∧ iv = .int .i64 k ∧ w1 = wr ∧ Hid (∀ i (h : i < out.length), i < k → out[i] ≤ 8)) (fun iv _ => l.length - (intOf iv).toNat)
                case atStart => exact ⟨0, Nat.zero_le _, rfl, by trivial, fun i _ h => absurd h (Nat.not_lt_zero _)⟩
                case round =>
                  obtain ⟨k, hk, rfl, rfl, HN⟩ := hrel
                  have hk0 : (0 : Int) ≤ (k : Int) := by omega
                  by_cases hlt : k < l.length
                  · have hlo : k < out.length := by omega
                    have hck := HI.out.get (List.getElem?_eq_getElem hlo)
                    have hkl : (k : Int) < (l.length : Int) := by omega
                    have HZ : Hid (8 < out[k] → checkE (itsOf l) = 3) := fun h => HX3.out ⟨k, hlo, h⟩
                    have HN2 : Hid (out[k] ≤ 8 → ∀ i (h : i < out.length), i < k + 1 → out[i] ≤ 8) := fun h0 i h hi => by
                      by_cases he : i = k
                      · subst he; exact h0
                      · exact HN.out i h (by omega)
                    generalize out[k] = d at hck HZ HN2
                    by_cases hd : d ≤ 8
                    · have HN3 := Lib.hid (HN2.out hd)
                      go_wp2_with fail
                      go_roundw
                      case rel => exact ⟨k + 1, by omega, by go_num, by trivial, HN3⟩
                      case measure => simp [intOf]; omega
                    · have HV := Lib.hid (HZ.out (by omega))
                      go_wp2_with fail
                      go_ret
                      exact ⟨by rw [HV.out]; exact rfl, HB.out⟩
                  · obtain rfl : k = l.length := by omega
                    have HV := Lib.hid (HX0.out fun i h => HN.out i h (by omega))
                    clear HN
                    go_wp2_with fail
                    go_ret
                    exact ⟨by rw [HV.out]; exact rfl, HB.out⟩
end Go.Proofs.Ytnboigbknadpdaa
