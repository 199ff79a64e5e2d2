/- Whether there are more items than are gone through in time. -/
import Derived.Test.YtnboigbknadpdaaItems
import Derived.Deep.QuietTactic
import Derived.BigQuiet
set_option linter.unusedVariables false
set_option linter.unusedSimpArgs false
namespace Go.Proofs.Ytnboigbknadpdaa
set_option maxRecDepth 100000
open Go.RowKit SM
def CntP (n : Int) (ps : List Prt) : Prop := ∀ p ∈ ps, ((p.1.size / 20 : Nat) : Int) ≤ n
def CntI (n : Int) (x : It) : Prop := ((x.code.size / 20 : Nat) : Int) ≤ n ∧ (x.parts.length : Int) ≤ n ∧ (x.others.length : Int) ≤ n
def Good7 (n : Int) (l : List Iv) : Prop := n ≤ 4000 → ∀ x ∈ l, CntI n x.it ∧ CntP n x.it.parts
theorem CntI.up {n m : Int} {x : It} (h : CntI n x) (hm : n ≤ m) : CntI m x := ⟨by have := h.1; omega, by have := h.2.1; omega, by have := h.2.2; omega⟩
theorem CntP.up {n m : Int} {ps : List Prt} (h : CntP n ps) (hm : n ≤ m) : CntP m ps := fun p hp => by have := h p hp; omega
/-- What a no tells. -/
def Small7 (l : List Iv) : Prop := l.length ≤ 70 ∧ ∀ x ∈ l, x.it.code.size ≤ 90000 ∧ x.it.parts.length ≤ 4000 ∧ x.it.others.length ≤ 4000 ∧ ∀ p ∈ x.it.parts, p.1.size ≤ 90000
def Great7R (l : List Iv) (w : World) (e : Ending) (w' : World) : Prop := ∃ b m, e = .returned (.bool b) ∧ w' = w.drewN m ∧ (b = false → Small7 l)
set_option maxHeartbeats 8000000 in
theorem great07_any (l : List Iv) (A : Option Addr) (c : Nat) (w : World) (hc : l.length ≤ c) (hm : c ≤ maxLen) (hA : ItemsAt w A l)
    (hs : ∀ x ∈ l, x.it.code.size ≤ 281474976710656 ∧ x.it.parts.length ≤ 281474976710656 ∧ x.it.others.length ≤ 281474976710656 ∧ ∀ p ∈ x.it.parts, p.1.size ≤ 281474976710656) :
    Calls Try.prog 6 #[.slice A l.length c] w (Great7R l w) := by
  unfold maxLen at hm
  have HA := Lib.hid hA
  have HS := Lib.hid hs
  clear hA hs
  go_enter Try.func6, Try.ntmps6
  go_wp2
  go_loopw [3, 4] (fun nv i wr => ∃ (n : Int) (k m : Nat), k ≤ l.length ∧ nv = .int .i64 n ∧ i = .int .i64 k ∧ 0 ≤ n ∧ n ≤ 1125899906842624 ∧ Hid (Good7 n (l.take k)) ∧ wr = w.drewN m) (fun _ i _ => l.length - (intOf i).toNat)
  case atStart => exact ⟨0, 0, 0, Nat.zero_le _, rfl, rfl, Int.le_refl _, by decide, (fun _ x hx => by simp at hx : Good7 0 (l.take 0)), rfl⟩
  case round =>
    obtain ⟨n, k, m, hk, rfl, rfl, hn0, hn1, HC, rfl⟩ := hrel
    have hk0 : (0 : Int) ≤ (k : Int) := by omega
    by_cases hlt : k < l.length
    · have hki : (k : Int) < (l.length : Int) := by omega
      have hd1 : decide (k < l.length) = true := decide_eq_true hlt
      by_cases hn : n ≤ 4000
      · have hd2 : decide (n ≤ 4000) = true := decide_eq_true hn
        obtain ⟨b, o, rfl, h0, h1, h2, h3, hI⟩ := HA.out.get hlt
        have hll := HS.out _ (List.getElem_mem hlt)
        have htk : l.take (k + 1) = l.take k ++ [l[k]] := List.take_succ_eq_append_getElem hlt
        have HT := Lib.hid htk
        generalize l[k] = x at h0 h1 h2 h3 hI hll HT
        obtain ⟨⟨cd, lf, ps, ot⟩, pA, pc, oA, oc⟩ := x
        simp only at h0 h1 h2 h3 hll
        obtain ⟨hs1, hs2, hs3, hs4⟩ := hll
        have hpn := hI.pn
        have hpm := hI.pm
        have hon := hI.on
        have hom := hI.om
        have hpr := hI.pr
        unfold maxLen at hpm hom
        simp only at hpn hpm hon hom hpr
        have HPR := Lib.hid hpr
        have HS4 := Lib.hid hs4
        have hq : ((cd.size : Int)).tdiv 20 = ((cd.size / 20 : Nat) : Int) := by rw [Int.tdiv_eq_ediv_of_nonneg (by omega)]; omega
        have hqb : cd.size / 20 ≤ 281474976710656 := by omega
        have hC0 : Hid (n + 1 + ((cd.size / 20 : Nat) : Int) + ps.length + ot.length ≤ 4000 → (∀ x ∈ l.take k, CntI (n + 1 + ((cd.size / 20 : Nat) : Int) + ps.length + ot.length) x.it ∧ CntP (n + 1 + ((cd.size / 20 : Nat) : Int) + ps.length + ot.length) x.it.parts) ∧ CntI (n + 1 + ((cd.size / 20 : Nat) : Int) + ps.length + ot.length) ⟨cd, lf, ps, ot⟩) := fun _ => by
          have h := HC.out hn
          refine ⟨fun x hx => ⟨(h x hx).1.up (by omega), (h x hx).2.up (by omega)⟩, ?_, ?_, ?_⟩
          · show ((cd.size / 20 : Nat) : Int) ≤ _; omega
          · show (ps.length : Int) ≤ _; omega
          · show (ot.length : Int) ≤ _; omega
        clear HC hpr hs4 hI htk h1
        go_wp2
        (refine wp_region_quiet_lit (by kernel_rfl) (by kernel_rfl) ?_; (repeat (refine @wpQuiet_step _ _ _ _ _ _ _ ?_; intro K hK; go_simp; first | (refine @hK _ ?_; clear hK K) | (apply Exists.intro; refine ⟨fun _ => ?_, @hK _ ?_⟩; (fail); clear hK K))); refine @wpQuiet_nil _ _ _ _ _ ?_; intro _ hw'; obtain ⟨nq, hw''⟩ := hw'; subst hw'')
        go_wp2
        go_loopw [3, 5] (fun nv i wr => ∃ (z : Int) (j q : Nat), j ≤ ps.length ∧ nv = .int .i64 z ∧ i = .int .i64 j ∧ 0 ≤ z ∧ z ≤ 1125899906842624 ∧ Hid (z ≤ 4000 → (∀ x ∈ l.take k, CntI z x.it ∧ CntP z x.it.parts) ∧ CntI z ⟨cd, lf, ps, ot⟩ ∧ CntP z (ps.take j)) ∧ wr = w.drewN q) (fun _ i _ => ps.length - (intOf i).toNat)
        case atStart => exact ⟨n + 1 + ((cd.size / 20 : Nat) : Int) + ps.length + ot.length, 0, _, Nat.zero_le _, by congr 1; simp only [IntKind.wrap_i64]; omega, rfl, by omega, by omega, fun h => ⟨(hC0.out h).1, (hC0.out h).2, fun p hp => by simp at hp⟩, World.drewN_drewN ..⟩
        case round =>
          clear hC0
          obtain ⟨z, j, q, hj, rfl, rfl, hz0, hz1, HC, rfl⟩ := hrel
          have hj0 : (0 : Int) ≤ (j : Int) := by omega
          by_cases hjl : j < ps.length
          · have hji : (j : Int) < (ps.length : Int) := by omega
            have hd1 : decide (j < ps.length) = true := decide_eq_true hjl
            obtain ⟨b1, o1, rfl, hcell2⟩ := Rd.elem (enc := encP) (k := 2) encP_len (by omega) HPR.out (List.getElem?_eq_getElem hjl)
            have h4 := hcell2 0 (.string ps[j].1) rfl
            simp only [Nat.add_zero] at h4
            by_cases hzn : z ≤ 4000
            · have hd2 : decide (z ≤ 4000) = true := decide_eq_true hzn
              have hsz := HS4.out _ (List.getElem_mem hjl)
              have hC2 : Hid (z + ((ps[j].1.size / 20 : Nat) : Int) ≤ 4000 → (∀ x ∈ l.take k, CntI (z + ((ps[j].1.size / 20 : Nat) : Int)) x.it ∧ CntP (z + ((ps[j].1.size / 20 : Nat) : Int)) x.it.parts) ∧ CntI (z + ((ps[j].1.size / 20 : Nat) : Int)) ⟨cd, lf, ps, ot⟩ ∧ CntP (z + ((ps[j].1.size / 20 : Nat) : Int)) (ps.take (j + 1))) := fun _ => by
                obtain ⟨h1, h2, h3⟩ := HC.out hzn
                refine ⟨fun x hx => ⟨(h1 x hx).1.up (by omega), (h1 x hx).2.up (by omega)⟩, h2.up (by omega), fun p hp => ?_⟩
                rw [List.take_succ_eq_append_getElem hjl] at hp
                rcases List.mem_append.1 hp with hp | hp
                · have := h3 p hp; omega
                · simp only [List.mem_singleton] at hp; subst hp; omega
              generalize ps[j].1 = x at h4 hsz hC2
              have hq2 : ((x.size : Int)).tdiv 20 = ((x.size / 20 : Nat) : Int) := by rw [Int.tdiv_eq_ediv_of_nonneg (by omega)]; omega
              have hq3 : x.size / 20 ≤ 281474976710656 := by omega
              clear HC hcell2
              go_wp2
              go_roundw
              case rel => exact ⟨z + ((x.size / 20 : Nat) : Int), j + 1, _, by omega, by go_num, by go_num, by omega, by omega, hC2, rfl⟩
              case measure => simp [intOf]; omega
            · have hd2 : decide (z ≤ 4000) = false := decide_eq_false hzn
              have hC2 : Hid (Good7 z (l.take (k + 1))) := fun h => absurd h hzn
              clear HC hcell2
              go_wp2
              go_roundw
              case rel => exact ⟨z, k + 1, _, by omega, rfl, by go_num, by omega, by omega, hC2, rfl⟩
              case measure => simp [intOf]; omega
          · obtain rfl : j = ps.length := by omega
            have hC2 : Hid (Good7 z (l.take (k + 1))) := fun h => by
              obtain ⟨h1, h2, h3⟩ := HC.out h
              rw [List.take_length] at h3
              rw [HT.out]
              intro x hx
              rcases List.mem_append.1 hx with hx | hx
              · exact h1 x hx
              · simp only [List.mem_singleton] at hx
                subst hx
                exact ⟨h2, h3⟩
            clear HC
            go_wp2
            go_roundw
            case rel => exact ⟨z, k + 1, _, by omega, rfl, by go_num, by omega, by omega, hC2, rfl⟩
            case measure => simp [intOf]; omega
      · have hd2 : decide (n ≤ 4000) = false := decide_eq_false hn
        have hd3 : decide (n > 4000) = true := decide_eq_true (by omega)
        clear HC
        go_wp2
        go_ret
        exact ⟨_, _, rfl, rfl, fun h => by cases h⟩
    · obtain rfl : k = l.length := by omega
      by_cases hn : n > 4000
      · clear HC
        go_wp2
        go_ret
        exact ⟨_, _, rfl, rfl, fun h => by cases h⟩
      · by_cases h70 : l.length > 70
        · have hd3 : decide ((l.length : Int) > 70) = true := decide_eq_true (by omega)
          clear HC
          go_wp2
          go_ret
          exact ⟨_, _, rfl, rfl, fun h => by cases h⟩
        · have hC := HC.out (by omega)
          rw [List.take_length] at hC
          have hB : Hid (Small7 l) := ⟨by omega, fun x hx => by
            obtain ⟨⟨h1, h2, h3⟩, h4⟩ := hC x hx
            refine ⟨by omega, by omega, by omega, fun p hp => ?_⟩
            have := h4 p hp
            omega⟩
          clear HC hC
          have hd3 : decide ((l.length : Int) > 70) = false := decide_eq_false (by omega)
          go_wp2
          go_ret
          exact ⟨_, _, rfl, rfl, fun _ => hB.out⟩
end Go.Proofs.Ytnboigbknadpdaa
