/- Whether there are more parts than are gone through in time. -/
import Derived.Test.YtjefaineggnogaaGreatConcat
import Derived.Deep.QuietTactic
import Derived.BigQuiet
set_option linter.unusedVariables false
set_option linter.unusedSimpArgs false
namespace Go.Proofs.YtjefaineggnogaaGreat
set_option maxRecDepth 100000
open Go.RowKit SM

/-- What is counted so far. -/
def Counted (n : Int) (ps : List Prt) : Prop := n ≤ 300 → (ps.length : Int) ≤ n ∧ ∀ p ∈ ps, ((p.1.size / 20 : Nat) : Int) ≤ n
theorem Counted.len {n : Int} {ps : List Prt} (h : Counted n ps) (h0 : 0 ≤ n) (l : List Prt) : n ≤ 300 → ((ps.length + l.length : Nat) : Int) ≤ n + l.length ∧ ∀ p ∈ ps, ((p.1.size / 20 : Nat) : Int) ≤ n + l.length := fun hn => by
  obtain ⟨h1, h2⟩ := h hn
  exact ⟨by omega, fun p hp => by have := h2 p hp; omega⟩

/-- The answer: a yes or a no; a no tells that there are few. -/
def GreatR (xss : List PL) (w : World) (e : Ending) (w' : World) : Prop := ∃ b m, e = .returned (.bool b) ∧ w' = w.drewN m ∧ (b = false → (allP xss).length ≤ 300 ∧ ∀ p ∈ allP xss, p.1.size ≤ 6100)
set_option maxHeartbeats 8000000 in
theorem great_any (xss : List PL) (A : Option Addr) (c : Nat) (w : World) (hc : xss.length ≤ c) (hm : c ≤ maxLen) (hA : PartsAt w A xss)
    (hl : ∀ x ∈ xss, x.2.length ≤ 281474976710656) (hs : ∀ p ∈ allP xss, p.1.size ≤ 281474976710656) :
    Calls Tryz.prog 5 #[.slice A xss.length c] w (GreatR xss w) := by
  unfold maxLen at hm
  go_enter Tryz.func5, Tryz.ntmps5
  go_wp2
  go_loopw [3, 4] (fun nv i wr => ∃ (n : Int) (k m : Nat), k ≤ xss.length ∧ nv = .int .i64 n ∧ i = .int .i64 k ∧ 0 ≤ n ∧ n ≤ 562949953421312 ∧ Hid (Counted n (allP (xss.take k))) ∧ wr = w.drewN m) (fun _ i _ => xss.length - (intOf i).toNat)
  case atStart => exact ⟨0, 0, 0, Nat.zero_le _, rfl, rfl, Int.le_refl _, by decide, (fun _ => ⟨by simp [allP], by simp [allP]⟩ : Counted 0 (allP (xss.take 0))), rfl⟩
  case round =>
    obtain ⟨n, k, m, hk, rfl, rfl, hn0, hn1, HC, rfl⟩ := hrel
    have hk0 : (0 : Int) ≤ (k : Int) := by omega
    by_cases hlt : k < xss.length
    · have hki : (k : Int) < (xss.length : Int) := by omega
      have hd1 : decide (k < xss.length) = true := decide_eq_true hlt
      by_cases hn : n ≤ 300
      · have hd2 : decide (n ≤ 300) = true := decide_eq_true hn
        obtain ⟨b, o, A1, c1, rfl, hcell, hc1, hc2, hR⟩ := hA.get hlt
        have hll := hl _ (List.getElem_mem hlt)
        unfold maxLen at hc2
        have hT := allP_take xss k hlt
        have hmem : ∀ p ∈ xss[k].2, p ∈ allP xss := fun p hp => List.mem_flatMap.2 ⟨_, List.getElem_mem hlt, hp⟩
        generalize xss[k].2 = l at hcell hc1 hR hll hT hmem
        have HT := Lib.hid hT
        have HM := Lib.hid hmem
        clear hT hmem
        have hnl : (n + (l.length : Int)) ≤ 562949953421312 := by omega
        have hC0 : Hid (n + (l.length : Int) ≤ 300 → (((allP (xss.take k)).length + l.length : Nat) : Int) ≤ n + l.length ∧ ∀ p ∈ allP (xss.take k), ((p.1.size / 20 : Nat) : Int) ≤ n + l.length) := fun h => Counted.len HC.out hn0 l (by omega)
        clear HC hd2
        go_wp2
        go_loopw [3, 5] (fun nv i wr => ∃ (z : Int) (j q : Nat), j ≤ l.length ∧ nv = .int .i64 z ∧ i = .int .i64 j ∧ 0 ≤ z ∧ z ≤ 562949953421312 ∧ Hid (z ≤ 300 → (((allP (xss.take k)).length + l.length : Nat) : Int) ≤ z ∧ ∀ p ∈ allP (xss.take k) ++ l.take j, ((p.1.size / 20 : Nat) : Int) ≤ z) ∧ wr = w.drewN q) (fun _ i _ => l.length - (intOf i).toNat)
        case atStart => exact ⟨n + l.length, 0, m, Nat.zero_le _, by go_num, rfl, by omega, by omega, fun h => ⟨(hC0.out h).1, fun p hp => (hC0.out h).2 p (by simpa using hp)⟩, rfl⟩
        case round =>
          clear hC0
          obtain ⟨z, j, q, hj, rfl, rfl, hz0, hz1, HC, rfl⟩ := hrel
          have hj0 : (0 : Int) ≤ (j : Int) := by omega
          by_cases hjl : j < l.length
          · have hji : (j : Int) < (l.length : Int) := by omega
            have hd1 : decide (j < l.length) = true := decide_eq_true hjl
            obtain ⟨b1, o1, rfl, hcell2⟩ := Rd.elem (enc := encP) (k := 2) encP_len (by omega) hR (List.getElem?_eq_getElem hjl)
            have h0 := hcell2 0 (.string l[j].1) rfl
            simp only [Nat.add_zero] at h0
            by_cases hzn : z ≤ 300
            · have hsz := hs _ (HM.out _ (List.getElem_mem hjl))
              have hC2 : Hid (z + ((l[j].1.size / 20 : Nat) : Int) ≤ 300 → (((allP (xss.take k)).length + l.length : Nat) : Int) ≤ z + ((l[j].1.size / 20 : Nat) : Int) ∧ ∀ p ∈ allP (xss.take k) ++ l.take (j + 1), ((p.1.size / 20 : Nat) : Int) ≤ z + ((l[j].1.size / 20 : Nat) : Int)) := fun h => by
                obtain ⟨h1, h2⟩ := HC.out hzn
                refine ⟨by omega, fun p hp => ?_⟩
                rw [List.take_succ_eq_append_getElem hjl, ← List.append_assoc] at hp
                rcases List.mem_append.1 hp with hp | hp
                · have := h2 p hp; omega
                · simp only [List.mem_singleton] at hp; subst hp; omega
              generalize l[j] = x at h0 hsz hC2
              have hq : ((x.1.size : Int)).tdiv 20 = ((x.1.size / 20 : Nat) : Int) := by rw [Int.tdiv_eq_ediv_of_nonneg (by omega)]; omega
              clear HC hcell2 hR
              go_wp2
              go_roundw
              case rel => exact ⟨z + ((x.1.size / 20 : Nat) : Int), j + 1, _, by omega, by go_num, by go_num, by omega, by omega, hC2, rfl⟩
              case measure => simp [intOf]; omega
            · have hd2 : decide (z ≤ 300) = false := decide_eq_false hzn
              have hC2 : Hid (Counted z (allP (xss.take (k + 1)))) := fun h => absurd h hzn
              clear HC hcell2 hR
              go_wp2
              go_roundw
              case rel => exact ⟨z, k + 1, _, by omega, rfl, by go_num, by omega, by omega, hC2, rfl⟩
              case measure => simp [intOf]; omega
          · obtain rfl : j = l.length := by omega
            have hC2 : Hid (Counted z (allP (xss.take (k + 1)))) := fun h => by
              have h2 := HC.out h
              rw [List.take_length, ← HT.out] at h2
              exact ⟨by rw [HT.out, List.length_append]; exact h2.1, h2.2⟩
            clear HC hR
            go_wp2
            go_roundw
            case rel => exact ⟨z, k + 1, _, by omega, rfl, by go_num, by omega, by omega, hC2, rfl⟩
            case measure => simp [intOf]; omega
      · have hd2 : decide (n ≤ 300) = false := decide_eq_false hn
        have hd3 : decide (n > 300) = true := decide_eq_true (by omega)
        clear HC
        go_wp2
        go_ret
        exact ⟨_, _, rfl, rfl, fun h => by cases h⟩
    · obtain rfl : k = xss.length := by omega
      by_cases hn : n > 300
      · clear HC
        go_wp2
        go_ret
        exact ⟨_, _, rfl, rfl, fun h => by cases h⟩
      · have hC := HC.out (by omega)
        rw [List.take_length] at hC
        have hB : Hid ((allP xss).length ≤ 300 ∧ ∀ p ∈ allP xss, p.1.size ≤ 6100) := ⟨by omega, fun p hp => by have := hC.2 p hp; omega⟩
        clear HC hC
        go_wp2
        go_ret
        exact ⟨_, _, rfl, rfl, fun _ => hB.out⟩
end Go.Proofs.YtjefaineggnogaaGreat
