/- KitChecks returns true. -/
import Derived.Test.YtnboigbknadpdaaGreat07
import Derived.Test.YtnboigbknadpdaaFour
import Derived.Test.YtnboigbknadpdaaRefCheck
import Derived.Test.YtnboigbknadpdaaKeptItems
set_option linter.unusedVariables false
set_option linter.unusedSimpArgs false
namespace Go.Proofs.Ytnboigbknadpdaa
set_option maxRecDepth 100000
open Go.RowKit SM
/-- The items that were lent lie there. -/
def LentThere (l : List Iv) (g cap : Nat) (W : World) : Prop := ∃ base ys, LentIs W base (.slice (some ⟨g, 0, none⟩) l.length cap) (itsOf l) ys
theorem LentThere.below {l : List Iv} {g cap : Nat} {W W' : World} (h : LentThere l g cap W) (hb : Below W.heap.size W W') : LentThere l g cap W' := by
  obtain ⟨base, ys, h⟩ := h
  exact ⟨base, ys, h.below hb⟩
theorem small_sizes {l : List Iv} (h : Small7 l) : SizesOk l ∧ (∀ x ∈ l, x.it.parts.length ≤ 1000000) ∧ LensOk l ∧ l.length ≤ 1000 :=
  ⟨fun x hx => ⟨by have := (h.2 x hx).1; omega, fun p hp => by have := (h.2 x hx).2.2.2 p hp; omega⟩, fun x hx => by have := (h.2 x hx).2.1; omega, fun x hx => ⟨by have := (h.2 x hx).2.1; omega, by have := (h.2 x hx).2.2.1; omega⟩, by have := h.1; omega⟩
theorem same_sizes {l ys : List Iv} (h : SizesOk l) (h2 : ∀ x ∈ l, x.it.parts.length ≤ 1000000) (hy : itsOf ys = itsOf l) : SizesOk ys ∧ ∀ x ∈ ys, x.it.parts.length ≤ 1000000 := by
  refine items_sizes (xs := itsOf l) (fun x hx => ?_) hy
  obtain ⟨z, hz, rfl⟩ := List.mem_map.1 hx
  exact ⟨(h z hz).1, (h z hz).2, h2 z hz⟩
section
variable (l : List Iv) (A : Option Addr) (c : Nat) (w : World)
theorem law_lent (hc : l.length ≤ c) (hm : c ≤ maxLen) (hA : ItemsAt w A l) (hs : Small7 l) (W : World) (hW : KB w W) :
    Calls Try.prog 8 #[.slice A l.length c] W fun e w' => ∃ g cap, e = .returned (.slice (some ⟨g, 0, none⟩) l.length cap) ∧ LentThere l g cap w' ∧ KB w w' := by
  have hz := small_sizes hs
  refine (lentItems_any l A c W hc hm (hA.below hW) (by have := hz.2.2.2; omega) hz.2.2.1).mono ?_
  rintro e w' ⟨v, ys, rfl, hL, hB⟩
  have hL0 := hL
  obtain ⟨h1, h2, g, cap, rfl, h3⟩ := hL
  rw [itsOf_len] at hL0 ⊢
  exact ⟨g, cap, rfl, ⟨_, ys, hL0⟩, hW.trans hB⟩
theorem law_check (hs : Small7 l) (W : World) (g cap : Nat) (hL : LentThere l g cap W) (hW : KB w W) :
    Calls Try.prog 9 #[.slice (some ⟨g, 0, none⟩) l.length cap] W fun e w' => e = .returned (.int .i64 (checkE (itsOf l) : Nat)) ∧ LentThere l g cap w' ∧ KB w w' := by
  have hz := small_sizes hs
  have hL0 := hL
  obtain ⟨base, ys, h⟩ := hL
  have hyx := h.1
  obtain ⟨g2, cap2, hv, hyl, hle, hcm, _, hA⟩ := h.items
  injection hv with e1 e2 e3
  injection e1 with e1
  injection e1 with e1
  subst e1 e3
  have hy := same_sizes hz.1 hz.2.1 hyx
  rw [itsOf_len] at hyl hle
  have := kitCheck_any ys _ cap W (by omega) hcm hA hy.1 hy.2
  rw [hyl, hyx] at this
  exact Calls.mono (R := _) this fun e w' ⟨he, hB⟩ => ⟨he, hL0.below hB, hW.trans hB⟩
theorem law_ref (hc : l.length ≤ c) (hm : c ≤ maxLen) (hA : ItemsAt w A l) (hs : Small7 l) (W : World) (g cap : Nat) (hL : LentThere l g cap W) (hW : KB w W) :
    Calls Try.prog 10 #[.slice A l.length c] W fun e w' => e = .returned (.int .i64 (checkE (itsOf l) : Nat)) ∧ LentThere l g cap w' ∧ KB w w' :=
  (refCheck_any l A c W hc hm (hA.below hW) (small_sizes hs).1).mono fun e w' ⟨he, hB⟩ => ⟨he, hL.below hB, hW.trans hB⟩
theorem law_kept (hc : l.length ≤ c) (hm : c ≤ maxLen) (hA : ItemsAt w A l) (hs : Small7 l) (W : World) (g cap : Nat) (hL : LentThere l g cap W) (hW : KB w W) :
    Calls Try.prog 11 #[.slice (some ⟨g, 0, none⟩) l.length cap, .slice A l.length c] W fun e w' => e = .returned (.bool true) ∧ KB w w' := by
  have hz := small_sizes hs
  obtain ⟨base, ys, h⟩ := hL
  exact (keptItems_any l A c base _ ys W hc hm (hA.below hW) (by have := hz.2.2.2; omega) hz.2.2.1 h).mono fun e w' ⟨he, hB⟩ => ⟨he, hW.trans hB⟩
theorem law_awake (W : World) (hW : KB w W) : Calls Try.prog 7 #[] W fun e w' => e = .returned (.bool true) ∧ KB w w' :=
  (awake07_any W).mono fun e w' ⟨he, hB⟩ => ⟨he, hW.trans hB⟩
set_option maxHeartbeats 4000000 in
theorem kitChecks_any (hc : l.length ≤ c) (hm : c ≤ maxLen) (hA : ItemsAt w A l)
    (hs : ∀ x ∈ l, x.it.code.size ≤ 281474976710656 ∧ x.it.parts.length ≤ 281474976710656 ∧ x.it.others.length ≤ 281474976710656 ∧ ∀ p ∈ x.it.parts, p.1.size ≤ 281474976710656) :
    Calls Try.prog 3 #[.slice A l.length c] w fun e w' => e = .returned (.bool true) ∧ Below w.heap.size w w' := by
  have hg : Calls Try.prog 6 #[.slice A l.length c] w (fun e w' => (e = .returned (.bool true) ∧ KB w w') ∨ (e = .returned (.bool false) ∧ KB w w' ∧
      Hid (∀ W, KB w W → Calls Try.prog 8 #[.slice A l.length c] W fun e w' => ∃ g cap, e = .returned (.slice (some ⟨g, 0, none⟩) l.length cap) ∧ LentThere l g cap w' ∧ KB w w') ∧
      Hid (∀ W g cap, LentThere l g cap W → KB w W → Calls Try.prog 9 #[.slice (some ⟨g, 0, none⟩) l.length cap] W fun e w' => e = .returned (.int .i64 (checkE (itsOf l) : Nat)) ∧ LentThere l g cap w' ∧ KB w w') ∧
      Hid (∀ W g cap, LentThere l g cap W → KB w W → Calls Try.prog 10 #[.slice A l.length c] W fun e w' => e = .returned (.int .i64 (checkE (itsOf l) : Nat)) ∧ LentThere l g cap w' ∧ KB w w') ∧
      Hid (∀ W g cap, LentThere l g cap W → KB w W → Calls Try.prog 11 #[.slice (some ⟨g, 0, none⟩) l.length cap, .slice A l.length c] W fun e w' => e = .returned (.bool true) ∧ KB w w'))) := by
    refine (great07_any l A c w hc hm hA hs).mono ?_
    rintro e w' ⟨b, m, rfl, rfl, hb⟩
    cases b with
    | true => exact .inl ⟨rfl, (KB.refl w).drewN m⟩
    | false =>
      have h := hb rfl
      exact .inr ⟨rfl, (KB.refl w).drewN m, law_lent l A c w hc hm hA h, law_check l w h, law_ref l A c w hc hm hA h, law_kept l A c w hc hm hA h⟩
  have HG := Lib.hid hg
  have HAW := Lib.hid (law_awake w)
  clear hg hA hs
  generalize checkE (itsOf l) = d at HG
  go_enter Try.func3, Try.ntmps3
  go_wp2_with (first | (go_at_call 6; (with_reducible refine HG.out.mono ?_); rintro e w1 (⟨rfl, hK⟩ | ⟨rfl, hK, HL, HC, HR, HKP⟩)) | (go_at_call 8; (with_reducible refine (HL.out _ (by assumption)).mono ?_); rintro e w2 ⟨g, cap, rfl, hL, hK2⟩) | (go_at_call 9; (with_reducible refine (HC.out _ _ _ (by assumption) (by assumption)).mono ?_); rintro e w3 ⟨rfl, hL3, hK3⟩) | (go_at_call 10; (with_reducible refine (HR.out _ g cap (by assumption) (by assumption)).mono ?_); rintro e w4 ⟨rfl, hL4, hK4⟩) | (go_at_call 11; (with_reducible refine (HKP.out _ _ _ (by assumption) (by assumption)).mono ?_); rintro e w5 ⟨rfl, hK5⟩) | (go_at_call 7; (with_reducible refine (HAW.out _ (by assumption)).mono ?_); rintro e w6 ⟨rfl, hK6⟩))
  all_goals (go_ret; exact ⟨rfl, hK6⟩)
end
end Go.Proofs.Ytnboigbknadpdaa
