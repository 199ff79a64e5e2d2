/- AmountSums returns true. -/
import Derived.Test.YtjefaineggnogaaGreatLongs
import Derived.Test.YtjefaineggnogaaGreatRef02
import Derived.Test.YtjefaineggnogaaGreatAwakeB
set_option linter.unusedVariables false
set_option linter.unusedSimpArgs false
namespace Go.Proofs.YtjefaineggnogaaGreat
set_option maxRecDepth 100000
open Go.RowKit SM

theorem sumGo_cons (n m : Int) (r : List Int) (hn : okI n) : sumGo n (m :: r) = if (addI n m).2 then sumGo (addI n m).1 r else (0, false) := by
  by_cases h : okI m ∧ n + m ≤ 1125899906842624
  · have e : addI n m = (n + m, true) := by unfold addI; exact if_pos ⟨hn, h⟩
    rw [e]; simp only [sumGo, if_pos h]; rfl
  · have e : addI n m = (0, false) := by unfold addI; exact if_neg (fun e => h e.2)
    rw [e]; simp only [sumGo, if_neg h]; rfl
theorem addI_ok (n m : Int) (h : (addI n m).2 = true) : okI (addI n m).1 := by
  unfold addI at h ⊢
  by_cases e : okI n ∧ okI m ∧ n + m ≤ 1125899906842624
  · rw [if_pos e]; exact ⟨by have := e.1.1; have := e.2.1.1; show 0 ≤ n + m; omega, e.2.2⟩
  · rw [if_neg e] at h; cases h

set_option maxHeartbeats 8000000 in
theorem refSum_any (l : List Int) (A : Option Addr) (c : Nat) (w : World) (hc : l.length ≤ c) (hm : c ≤ maxLen) (hA : Rd w A (l.flatMap encI)) :
    Calls Tryz.prog 31 #[.slice A l.length c] w fun e w' => e = .returned (.tuple #[.int .i64 (sumI l).1, .bool (sumI l).2]) ∧ w' = w := by
  unfold maxLen at hm
  go_enter Tryz.func31, Tryz.ntmps31
  go_wp2
  go_loopw [4, 5] (fun n i wr => ∃ (s : Int) (k : Nat), k ≤ l.length ∧ n = .int .i64 s ∧ i = .int .i64 k ∧ Hid (okI s ∧ sumI l = sumGo s (l.drop k)) ∧ wr = w) (fun _ i _ => l.length - (intOf i).toNat)
  case atStart => exact ⟨0, 0, Nat.zero_le _, rfl, rfl, ⟨⟨by decide, by decide⟩, rfl⟩, rfl⟩
  case round =>
    obtain ⟨s, k, hk, rfl, rfl, HS, rfl⟩ := hrel
    have hk0 : (0 : Int) ≤ (k : Int) := by omega
    by_cases hlt : k < l.length
    · obtain ⟨b, o, rfl, hcell⟩ := Rd.elem (enc := encI) (k := 1) encI_len (by omega) hA (List.getElem?_eq_getElem hlt)
      have h0 := hcell 0 (.int .i64 l[k]) rfl
      simp only [Nat.add_zero, Nat.mul_one] at h0
      have hki : (k : Int) < (l.length : Int) := by omega
      have hE := sumGo_cons s l[k] (l.drop (k + 1)) HS.out.1
      rw [List.getElem_cons_drop, ← HS.out.2] at hE
      have hO := addI_ok s l[k]
      have hc := fun w => refAdd_any s l[k] w
      generalize l[k] = x at hE hO hc h0
      generalize addI s x = y at hE hO hc
      obtain ⟨y, ok⟩ := y
      have HC := Lib.hid hc
      cases ok
      · have HE : Hid (sumI l = (0, false)) := by rw [hE]; exact rfl
        clear hE hO hc hcell HS
        go_wp2_with ((go_at_call 25; (with_reducible refine (HC.out _).mono ?_); rintro e w' ⟨rfl, rfl⟩))
        go_ret2
        exact ⟨by rw [HE.out]; exact rfl, rfl⟩
      · have HS2 : Hid (okI y ∧ sumI l = sumGo y (l.drop (k + 1))) := ⟨hO rfl, by rw [hE]; exact rfl⟩
        clear hE hO hc hcell HS
        go_wp2_with ((go_at_call 25; (with_reducible refine (HC.out _).mono ?_); rintro e w' ⟨rfl, rfl⟩))
        go_roundw
        case rel => exact ⟨y, k + 1, by omega, rfl, by go_num, HS2, trivial⟩
        case measure => simp [intOf]; omega
    · obtain rfl : k = l.length := by omega
      have HE : Hid (sumI l = (s, true)) := by rw [HS.out.2, List.drop_length]; exact rfl
      clear HS
      go_wp2
      go_ret2
      exact ⟨by rw [HE.out]; exact rfl, rfl⟩

theorem LentI.same {w w' : World} {base : Nat} {v : Value} {xs : List Int} (h : LentI w base v xs) (hs : ∀ b, v.ownBlock = some b → b < w.heap.size → w'.heap[b]? = w.heap[b]?) : LentI w' base v xs := by
  obtain ⟨g, cap, rfl, h⟩ := h
  exact ⟨g, cap, rfl, own_same h (fun b hb hl => hs b hb hl)⟩

set_option maxHeartbeats 8000000 in
theorem sums_any (l : List Int) (A : Option Addr) (c : Nat) (w : World) (hc : l.length ≤ c) (hm : c ≤ maxLen) (hA : Rd w A (l.flatMap encI)) :
    Calls Tryz.prog 15 #[.slice A l.length c] w fun e w' => e = .returned (.bool true) ∧ Below w.heap.size w w' := by
  have hm' := hm
  unfold maxLen at hm'
  have hAw : ∀ W, Below w.heap.size w W → Calls Tryz.prog 6 #[] W fun e w' => e = .returned (.bool true) ∧ Below w.heap.size w w' := fun W hb => (awake_any W).mono (by
    rintro e w' ⟨rfl, h⟩
    exact ⟨rfl, hb.trans (h.mono hb.size)⟩)
  have HW := Lib.hid hAw
  have HB0 := Lib.hid (Below.refl w.heap.size w)
  clear hAw
  by_cases h300 : 300 < l.length
  · have h3 : (300 : Int) < (l.length : Int) := by omega
    clear hA
    go_enter Tryz.func15, Tryz.ntmps15
    go_wp2_with ((go_at_call 6; (with_reducible refine (HW.out _ HB0.out).mono ?_); rintro e w' ⟨rfl, hb⟩; have HR := Lib.hid hb; clear hb))
    go_ret
    exact ⟨rfl, HR.out⟩
  · have h3 : ¬ (300 : Int) < (l.length : Int) := by omega
    have H1 := Lib.hid (lentLongs_any l A c w hc hm hA (by omega))
    have hS : ∀ v w1, LentI w1 w.heap.size v l → Calls Tryz.prog 17 #[v] w1 fun e w' => e = .returned (.tuple #[.int .i64 (sumI l).1, .bool (sumI l).2]) ∧ w1 = w' := by
      intro v w1 hL
      obtain ⟨g, cap, rfl, h1, h2, h3, h4⟩ := hL.rd
      refine sum_any l _ cap w1 (by omega) h2 (fun hn => ?_)
      obtain ⟨b, o, he, hcell⟩ := h4 (by rw [List.flatMap_append]; intro h; exact hn (List.append_eq_nil_iff.mp h).1)
      refine ⟨b, o, he, fun j u hu => hcell j u ?_⟩
      rw [List.flatMap_append, List.getElem?_append_left ((List.getElem?_eq_some_iff.mp hu).1)]
      exact hu
    have hR := fun w1 (hb : Below w.heap.size w w1) => refSum_any l A c w1 hc hm (hA.below hb)
    have hK : ∀ v w1, LentI w1 w.heap.size v l → Below w.heap.size w w1 → Calls Tryz.prog 32 #[v, .slice A l.length c] w1 fun e w' => e = .returned (.bool true) ∧ Below w.heap.size w w' := by
      intro v w1 hL hb
      refine (keptLongs_any l A c w.heap.size v w1 hc hm (hA.below hb) (by omega) hL).mono ?_
      rintro e w' ⟨rfl, n, rfl⟩
      exact ⟨rfl, below_drewN hb n⟩
    have HS := Lib.hid hS
    have HK := Lib.hid hK
    have HR := Lib.hid hR
    clear hS hK hR hA
    generalize sumI l = s at HS HR
    obtain ⟨s, ok⟩ := s
    go_enter Tryz.func15, Tryz.ntmps15
    go_wp2_with (first | (go_at_call 30; (with_reducible refine H1.out.mono ?_); rintro e w' ⟨v, rfl, hL, hb⟩; have HL := Lib.hid hL; have HB := Lib.hid hb; clear hL hb) | (go_at_call 17; (with_reducible refine (HS.out _ _ HL.out).mono ?_); rintro e w' ⟨rfl, rfl⟩) | (go_at_call 31; (with_reducible refine (HR.out _ HB.out).mono ?_); rintro e w' ⟨rfl, rfl⟩) | (go_at_call 32; (with_reducible refine (HK.out _ _ HL.out HB.out).mono ?_); rintro e w' ⟨rfl, hb⟩; have HB2 := Lib.hid hb; clear hb) | (go_at_call 6; (with_reducible refine (HW.out _ HB2.out).mono ?_); rintro e w' ⟨rfl, hb⟩; have HB3 := Lib.hid hb; clear hb))
    go_ret
    exact ⟨by simp, HB3.out⟩
end Go.Proofs.YtjefaineggnogaaGreat
