/- storemanref07: Find, shape. -/
import Derived.Test.YtnboigbknadpdaaCheck
import Derived.Test.YtnboigbknadpdaaRef03
import Derived.Test.YtnboigbknadpdaaSame
import Derived.Deep.QuietTactic
import Derived.BigQuiet
set_option linter.unusedVariables false
set_option linter.unusedSimpArgs false
namespace Go.Proofs.Ytnboigbknadpdaa
set_option maxRecDepth 100000
open Go.RowKit SM
/-- A code's place; -1: there is none. -/
def findZ (xs : List It) (c : ByteArray) : Int := if placeI xs c < xs.length then (placeI xs c : Nat) else -1
theorem findZ_at {xs : List It} {c : ByteArray} {k : Nat} (hk : k < xs.length) (h : ∀ j (hj : j < k), (xs[j]'(by omega)).code ≠ c) (he : xs[k].code = c) : findZ xs c = (k : Nat) := by
  have : placeI xs c = k := by
    unfold placeI
    exact (List.findIdx_eq hk).2 ⟨by simpa using he, fun j hj => by simpa using h j hj⟩
  unfold findZ
  rw [this, if_pos hk]
theorem findZ_none {xs : List It} {c : ByteArray} (h : ∀ j (hj : j < xs.length), xs[j].code ≠ c) : findZ xs c = -1 := by
  have : placeI xs c = xs.length := by
    unfold placeI
    refine List.findIdx_eq_length.2 fun x hx => ?_
    obtain ⟨j, hj, rfl⟩ := List.getElem_of_mem hx
    simpa using h j hj
  unfold findZ
  rw [this, if_neg (Nat.lt_irrefl _)]
theorem findZ_found {xs : List It} {c : ByteArray} {x : It} (h : findI xs c = some x) : findZ xs c = (placeI xs c : Nat) := by
  unfold findZ
  rw [if_pos (place_found h).1]
theorem findZ_miss {xs : List It} {c : ByteArray} (h : findI xs c = none) : findZ xs c = -1 := by
  unfold findZ
  rw [place_none h, if_neg (Nat.lt_irrefl _)]
/-- None of the first k is it. -/
def NotYet (xs : List It) (c : ByteArray) (k : Nat) : Prop := ∀ j (_ : j < k) (hj : j < xs.length), xs[j].code ≠ c
set_option maxHeartbeats 4000000 in
theorem refFind_any (l : List Iv) (A : Option Addr) (n : Nat) (c : ByteArray) (w : World) (hc : l.length ≤ n) (hm : n ≤ maxLen) (hA : ItemsAt w A l) :
    Calls Try.prog 29 #[.slice A l.length n, .string c] w fun e w' => e = .returned (.int .i64 (findZ (itsOf l) c)) ∧ w = w' := by
  unfold maxLen at hm
  have HA := Lib.hid hA
  clear hA
  go_enter Try.func29, Try.ntmps29
  go_wp2
  go_loopw [5] (fun i wr => ∃ k : Nat, k ≤ l.length ∧ i = .int .i64 k ∧ w = wr ∧ Hid (NotYet (itsOf l) c k)) (fun i _ => l.length - (intOf i).toNat)
  case atStart => exact ⟨0, Nat.zero_le _, rfl, by trivial, fun j h => absurd h (Nat.not_lt_zero _)⟩
  case round =>
    obtain ⟨k, hk, rfl, rfl, HN⟩ := hrel
    by_cases hlt : k < l.length
    · obtain ⟨b, o, rfl, h0, _⟩ := HA.out.get hlt
      have hst := str_eq_iff l[k].it.code c
      have hlx : k < (itsOf l).length := by rw [itsOf_len]; exact hlt
      have hxk : (itsOf l)[k].code = l[k].it.code := by simp [itsOf]
      by_cases he : l[k].it.code = c
      · have HV : Hid (findZ (itsOf l) c = (k : Nat)) := findZ_at hlx (fun j hj => HN.out j hj (by omega)) (hxk.trans he)
        rw [decide_eq_true he] at hst
        clear hxk HN he
        generalize l[k] = x at h0 hst
        go_wp2
        go_ret
        exact ⟨by rw [HV.out]; exact rfl, by trivial⟩
      · have HN2 : Hid (NotYet (itsOf l) c (k + 1)) := fun j hj hjl => by
          by_cases hjk : j = k
          · subst hjk; rw [hxk]; exact he
          · exact HN.out j (by omega) hjl
        rw [decide_eq_false he] at hst
        clear hxk HN he
        generalize l[k] = x at h0 hst
        go_wp2
        go_roundw
        case rel => exact ⟨k + 1, by omega, by go_num, by trivial, HN2⟩
        case measure => simp [intOf]; omega
    · obtain rfl : k = l.length := by omega
      have HV : Hid (findZ (itsOf l) c = -1) := findZ_none fun j hj => HN.out j (by rw [← itsOf_len]; exact hj) hj
      clear HN
      go_wp2
      go_ret
      exact ⟨by rw [HV.out]; exact rfl, by trivial⟩
set_option maxHeartbeats 8000000 in
theorem shape_kept (cd : ByteArray) (lf : Int) (ot : List ByteArray) (pA oA : Option Addr) (pc oc : Nat) (w : World) :
    Calls Try.prog 28 #[.agg #[.string cd, .int .i64 lf, .slice pA 0 pc, .slice oA ot.length oc]] w fun e w' => e = .returned (.bool (rightB ⟨cd, lf, [], ot⟩)) ∧ Below w.heap.size w w' := by
  have HB : Hid (Below w.heap.size w (w.alloc (.cells #[.string cd, .int .i64 lf, .slice pA 0 pc, .slice oA ot.length oc] 32))) := (Below.refl _ w).alloc (Nat.le_refl _) _
  have HV : Hid (rightB ⟨cd, lf, [], ot⟩ = (decide (1 ≤ lf) && decide (lf ≤ 2000))) := rfl
  by_cases h1 : 1 ≤ lf
  · by_cases h2 : lf ≤ 2000
    · have HV2 : Hid (rightB ⟨cd, lf, [], ot⟩ = true) := by rw [HV.out, decide_eq_true h1, decide_eq_true h2]; exact rfl
      have h3 : decide (lf ≤ 2000) = true := decide_eq_true h2
      go_enter Try.func28, Try.ntmps28
      go_wp2_with fail
      go_ret
      exact ⟨by rw [HV2.out]; exact rfl, HB.out⟩
    · have HV2 : Hid (rightB ⟨cd, lf, [], ot⟩ = false) := by rw [HV.out, decide_eq_false h2, Bool.and_false]; exact rfl
      have h3 : decide (lf ≤ 2000) = false := decide_eq_false h2
      go_enter Try.func28, Try.ntmps28
      go_wp2_with fail
      go_ret
      exact ⟨by rw [HV2.out]; exact rfl, HB.out⟩
  · have HV2 : Hid (rightB ⟨cd, lf, [], ot⟩ = false) := by rw [HV.out, decide_eq_false h1]; exact rfl
    go_enter Try.func28, Try.ntmps28
    go_wp2_with fail
    go_ret
    exact ⟨by rw [HV2.out]; exact rfl, HB.out⟩
/-- None of the first j has this code. -/
def Fresh (ps : List Prt) (s : ByteArray) (j : Nat) : Prop := ∀ i (_ : i < j) (hi : i < ps.length), ps[i].1 ≠ s
theorem fine_step {ps : List Prt} {k : Nat} (hk : k < ps.length) (hf : Fine (ps.take k)) (hq : 1 ≤ ps[k].2 ∧ ps[k].2 ≤ 1073741824) (hn : Fresh ps ps[k].1 k) : Fine (ps.take (k + 1)) := by
  rw [List.take_succ_eq_append_getElem hk, fine_snoc]
  refine ⟨hf, hq, ?_⟩
  unfold seenF
  rw [if_neg]
  rw [List.any_eq_true]
  rintro ⟨p, hp, he⟩
  obtain ⟨i, hi, rfl⟩ := List.getElem_of_mem hp
  rw [List.length_take] at hi
  rw [List.getElem_take] at he
  exact hn i (by omega) (by omega) (by simpa using he)
theorem not_fine {ps : List Prt} {i k : Nat} (hk : k < ps.length) (hi : i < k) (he : ps[i].1 = ps[k].1) : ¬ Fine ps := fun h => by
  have h2 := List.pairwise_iff_getElem.1 (List.nodup_iff_pairwise_ne.1 h.2) i k (by simp; omega) (by simpa using hk) hi
  simp only [List.getElem_map] at h2
  exact h2 he
theorem not_fine_q {ps : List Prt} {k : Nat} (hk : k < ps.length) (h : ¬ (1 ≤ ps[k].2 ∧ ps[k].2 ≤ 1073741824)) : ¬ Fine ps := fun hf => h (hf.1 _ (List.getElem_mem hk))
theorem rightB_len {x : It} (h : x.parts ≠ []) (h2 : x.life ≠ 0 ∨ 8 < x.parts.length) : rightB x = false := by
  unfold rightB
  rw [if_neg h]
  rcases h2 with h2 | h2
  · rw [decide_eq_false h2]; simp
  · rw [decide_eq_false (show ¬ x.parts.length ≤ 8 by omega)]; simp
set_option maxHeartbeats 8000000 in
theorem shape_kit (cd : ByteArray) (lf : Int) (ps : List Prt) (ot : List ByteArray) (pA oA : Option Addr) (pc oc : Nat) (w : World) (hn : ps ≠ []) (hpn : ps.length ≤ pc) (hpm : pc ≤ maxLen) (hpr : Rd w pA (ps.flatMap encP)) :
    Calls Try.prog 28 #[.agg #[.string cd, .int .i64 lf, .slice pA ps.length pc, .slice oA ot.length oc]] w fun e w' => e = .returned (.bool (rightB ⟨cd, lf, ps, ot⟩)) ∧ Below w.heap.size w w' := by
  unfold maxLen at hpm
  have HB : Hid (Below w.heap.size w (w.alloc (.cells #[.string cd, .int .i64 lf, .slice pA ps.length pc, .slice oA ot.length oc] 32))) := (Below.refl _ w).alloc (Nat.le_refl _) _
  have h0 : ((ps.length : Int) == 0) = false := by
    have : ps.length ≠ 0 := fun h => hn (List.eq_nil_of_length_eq_zero h)
    rw [beq_eq_false_iff_ne]; omega
  have HBAD : Hid (¬ Fine ps → rightB ⟨cd, lf, ps, ot⟩ = false) := fun h => rightB_bad (x := ⟨cd, lf, ps, ot⟩) hn h
  have HLEN : Hid (lf ≠ 0 ∨ 8 < ps.length → rightB ⟨cd, lf, ps, ot⟩ = false) := fun h => rightB_len (x := ⟨cd, lf, ps, ot⟩) hn h
  by_cases h1 : lf = 0
  · have h2 : (lf != 0) = false := by rw [bne_eq_false_iff_eq]; exact h1
    by_cases h3 : ps.length ≤ 8
    · have h4 : ¬ ((ps.length : Int) > 8) := by omega
      have HG : Hid (Fine ps → rightB ⟨cd, lf, ps, ot⟩ = true) := fun h => by
        rw [rightB_kit (x := ⟨cd, lf, ps, ot⟩) hn h, decide_eq_true h1, decide_eq_true h3]; rfl
      have HR := Lib.hid hpr
      have hcw : ∀ j u, (#[.string cd, .int .i64 lf, .slice pA ps.length pc, .slice oA ot.length oc] : Array Value)[j]? = some u → (w.alloc (.cells #[.string cd, .int .i64 lf, .slice pA ps.length pc, .slice oA ot.length oc] 32)).cell? ⟨w.heap.size, j, none⟩ = some u := fun j u hu => by
        rw [World.cell?_alloc_at _ _ _ _ rfl]; exact hu
      have hw2 := hcw 2 _ rfl
      clear hcw hn hpr HLEN h1
      go_enter Try.func28, Try.ntmps28
      go_wp2_with fail
      go_loopw [3] (fun iv wr => ∃ k m : Nat, k ≤ ps.length ∧ iv = .int .i64 k ∧ wr = (w.alloc (.cells #[.string cd, .int .i64 lf, .slice pA ps.length pc, .slice oA ot.length oc] 32)).drewN m ∧ Hid (Fine (ps.take k))) (fun iv _ => ps.length - (intOf iv).toNat)
      case atStart => exact ⟨0, 0, Nat.zero_le _, rfl, rfl, ⟨(by intro p hp; cases hp), List.nodup_nil⟩⟩
      case round =>
        obtain ⟨k, m, hk, rfl, rfl, HF⟩ := hrel
        by_cases hlt : k < ps.length
        · obtain ⟨b, o, rfl, hcell⟩ := Rd.elem (enc := encP) (k := 2) encP_len (by omega) HR.out (List.getElem?_eq_getElem hlt)
          have h5 := hcell 0 (.string ps[k].1) rfl
          have h6 := hcell 1 (.int .i64 ps[k].2) rfl
          simp only [Nat.add_zero] at h5
          have HBQ : Hid (¬ (1 ≤ ps[k].2 ∧ ps[k].2 ≤ 1073741824) → rightB ⟨cd, lf, ps, ot⟩ = false) := fun h => HBAD.out (not_fine_q hlt h)
          have HFS : Hid (1 ≤ ps[k].2 ∧ ps[k].2 ≤ 1073741824 → Fresh ps ps[k].1 k → Fine (ps.take (k + 1))) := fun h1 h2 => fine_step hlt HF.out h1 h2
          have HNF : Hid (∀ i (hi : i < k), (ps[i]'(by omega)).1 = ps[k].1 → rightB ⟨cd, lf, ps, ot⟩ = false) := fun i hi he => HBAD.out (not_fine hlt hi he)
          obtain ⟨s, hs⟩ : ∃ s, s = ps[k].1 := ⟨_, rfl⟩
          obtain ⟨q, hq⟩ : ∃ q, q = ps[k].2 := ⟨_, rfl⟩
          rw [← hs] at h5 HFS HNF
          rw [← hq] at h6 HBQ HFS
          have hbl : b < w.heap.size := World.block_lt_of_cell? w _ h5
          clear hs hq hcell HF
          have hk0 : (0 : Int) ≤ (k : Int) := by omega
          have hkl : (k : Int) < (ps.length : Int) := by omega
          by_cases hq1 : q < 1
          · have HV := Lib.hid (HBQ.out (by omega))
            go_wp2_with fail
            go_ret
            exact ⟨by rw [HV.out]; exact rfl, below_drewN HB.out _⟩
          · by_cases hq2 : q > 1073741824
            · have HV := Lib.hid (HBQ.out (by omega))
              go_wp2_with fail
              go_ret
              exact ⟨by rw [HV.out]; exact rfl, below_drewN HB.out _⟩
            · have HFS2 : Hid (Fresh ps s k → Fine (ps.take (k + 1))) := HFS.out ⟨by omega, by omega⟩
              clear HFS HBQ
              go_wp2_with fail
              go_loopw [4] (fun iv wr => ∃ j m2 : Nat, j ≤ k ∧ iv = .int .i64 j ∧ wr = (w.alloc (.cells #[.string cd, .int .i64 lf, .slice (some ⟨b, o, none⟩) ps.length pc, .slice oA ot.length oc] 32)).drewN m2 ∧ Hid (Fresh ps s j)) (fun iv _ => k - (intOf iv).toNat)
              case atStart => exact ⟨0, m, Nat.zero_le _, rfl, rfl, fun i hi => absurd hi (Nat.not_lt_zero _)⟩
              case round =>
                obtain ⟨j, m2, hj, rfl, rfl, HFR⟩ := hrel
                by_cases hjl : j < k
                · have hjp : j < ps.length := by omega
                  obtain ⟨b', o', he, hcell⟩ := Rd.elem (enc := encP) (k := 2) encP_len (by omega) HR.out (List.getElem?_eq_getElem hjp)
                  cases he
                  have h7 := hcell 0 (.string ps[j].1) rfl
                  simp only [Nat.add_zero] at h7
                  have hst := str_eq_iff ps[j].1 s
                  have hj0 : (0 : Int) ≤ (j : Int) := by omega
                  have hjl2 : (j : Int) < (ps.length : Int) := by omega
                  by_cases he : ps[j].1 = s
                  · have HV := Lib.hid (HNF.out j hjl he)
                    rw [decide_eq_true he] at hst
                    clear he hcell
                    generalize ps[j].1 = s2 at h7 hst
                    go_wp2_with fail
                    (refine wp_region_quiet_lit (by kernel_rfl) (by kernel_rfl) ?_; (repeat (refine @wpQuiet_step _ _ _ _ _ _ _ ?_; intro K hK; go_simp; first | (refine @hK _ ?_; clear hK K) | (apply Exists.intro; refine ⟨fun _ => ?_, @hK _ ?_⟩; (fail); clear hK K))); refine @wpQuiet_nil _ _ _ _ _ ?_; intro _ hw'; obtain ⟨nq, hw''⟩ := hw'; subst hw'')
                    go_wp2_with fail
                    go_ret
                    exact ⟨by rw [HV.out]; exact rfl, below_drewN (below_drewN HB.out _) _⟩
                  · have HFR2 : Hid (Fresh ps s (j + 1)) := fun i hi hil => by
                      by_cases hij : i = j
                      · subst hij; exact he
                      · exact HFR.out i (by omega) hil
                    rw [decide_eq_false he] at hst
                    clear he hcell HFR
                    generalize ps[j].1 = s2 at h7 hst
                    go_wp2_with fail
                    (refine wp_region_quiet_lit (by kernel_rfl) (by kernel_rfl) ?_; (repeat (refine @wpQuiet_step _ _ _ _ _ _ _ ?_; intro K hK; go_simp; first | (refine @hK _ ?_; clear hK K) | (apply Exists.intro; refine ⟨fun _ => ?_, @hK _ ?_⟩; (fail); clear hK K))); refine @wpQuiet_nil _ _ _ _ _ ?_; intro _ hw'; obtain ⟨nq, hw''⟩ := hw'; subst hw'')
                    go_wp2_with fail
                    go_roundw
                    case rel => exact ⟨j + 1, _, by omega, by go_num, rfl, HFR2⟩
                    case measure => simp [intOf]; omega
                · obtain rfl : j = k := by omega
                  have HF2 := Lib.hid (HFS2.out HFR.out)
                  clear HFR HFS2 HNF
                  go_wp2_with fail
                  go_roundw
                  case rel => exact ⟨j + 1, _, by omega, by go_num, rfl, HF2⟩
                  case measure => simp [intOf]; omega
        · obtain rfl : k = ps.length := by omega
          have hF := HF.out
          rw [List.take_length] at hF
          have HV := Lib.hid (HG.out hF)
          clear hF HF HG HBAD
          go_wp2_with fail
          go_ret
          exact ⟨by rw [HV.out]; exact rfl, below_drewN HB.out _⟩
    · have h4 : ((ps.length : Int) > 8) := by omega
      have HV := Lib.hid (HLEN.out (.inr (by omega)))
      clear HLEN HBAD h1
      go_enter Try.func28, Try.ntmps28
      go_wp2_with fail
      go_ret
      exact ⟨by rw [HV.out]; exact rfl, HB.out⟩
  · have h2 : (lf != 0) = true := by rw [bne_iff_ne]; exact h1
    have HV := Lib.hid (HLEN.out (.inl h1))
    clear HLEN HBAD
    go_enter Try.func28, Try.ntmps28
    go_wp2_with fail
    go_ret
    exact ⟨by rw [HV.out]; exact rfl, HB.out⟩
theorem shape_any (x : Iv) (w : World) (hI : ItemAt w x) :
    Calls Try.prog 28 #[aggIv x] w fun e w' => e = .returned (.bool (rightB x.it)) ∧ Below w.heap.size w w' := by
  obtain ⟨⟨cd, lf, ps, ot⟩, pA, pc, oA, oc⟩ := x
  by_cases hn : ps = []
  · subst hn
    exact shape_kept cd lf ot pA oA pc oc w
  · exact shape_kit cd lf ps ot pA oA pc oc w hn hI.pn hI.pm hI.pr
end Go.Proofs.Ytnboigbknadpdaa
