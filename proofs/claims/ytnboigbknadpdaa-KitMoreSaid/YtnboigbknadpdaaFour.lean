/- The chapter's items: what the document says of them. -/
import Derived.Test.YtnboigbknadpdaaKitWithin
import Derived.Test.YtnboigbknadpdaaKitParts
import Derived.Test.YtnboigbknadpdaaTexts
set_option linter.unusedVariables false
set_option linter.unusedSimpArgs false
namespace Go.Proofs.Ytnboigbknadpdaa
set_option maxRecDepth 100000
open Go.RowKit SM
def tA : ByteArray := ⟨#[65]⟩
def tB : ByteArray := ⟨#[66]⟩
def tK : ByteArray := ⟨#[75]⟩
def tL : ByteArray := ⟨#[76]⟩
def tZ : ByteArray := ⟨#[90]⟩
def fourX : List It := [⟨tA, 5, [], []⟩, ⟨tB, 9, [], []⟩, ⟨tK, 0, [(tA, 2), (tB, 1)], []⟩, ⟨tL, 0, [(tK, 3), (tA, 1)], []⟩]
theorem four_check : checkE fourX = 0 := by decide +kernel
theorem four_one : checkE [⟨tA, 0, [], []⟩] = 4 := by decide +kernel
theorem four_deep : deepE fourX tL = 3 := by decide +kernel
theorem four_parts : partsE fourX tL 2 = 0 := by decide +kernel
theorem four_list : partsL fourX tL 2 = [(tA, 14), (tB, 6)] := by decide +kernel
theorem four_none : partsE fourX tZ 2 = 150 := by decide +kernel
theorem four_within : withinL fourX tK = [tA, tB, tK] := by decide +kernel
/-- W is over w. -/
def KB (w W : World) : Prop := Below w.heap.size w W
theorem KB.refl (w : World) : KB w w := Below.refl _ _
theorem KB.trans {a b c : World} (h : KB a b) (h2 : Below b.heap.size b c) : KB a c := Below.trans h (Below.mono h2 h.size)
theorem KB.alloc {a b : World} (h : KB a b) (o : Obj) : KB a (b.alloc o) := Below.alloc h h.size o
theorem KB.drewN {a b : World} (h : KB a b) (n : Nat) : KB a (b.drewN n) := below_drewN h n
theorem KB.drew {a b : World} (h : KB a b) : KB a b.drew := Below.drew h
/-- The chapter's items lie there. -/
def FourAt (G : Nat) (W : World) : Prop := ∃ l : List Iv, l.length = 4 ∧ itsOf l = fourX ∧ ItemsAt W (some ⟨G, 0, none⟩) l ∧ SizesOk l ∧ ∀ x ∈ l, x.it.parts.length ≤ 1000000
theorem items_sizes {xs : List It} (h : ∀ x ∈ xs, x.code.size ≤ 140737488355328 ∧ (∀ p ∈ x.parts, p.1.size ≤ 140737488355328) ∧ x.parts.length ≤ 1000000) {l : List Iv} (hl : itsOf l = xs) : SizesOk l ∧ ∀ x ∈ l, x.it.parts.length ≤ 1000000 := by
  have h2 : ∀ x ∈ l, x.it ∈ xs := fun x hx => by rw [← hl]; exact List.mem_map.2 ⟨x, hx, rfl⟩
  exact ⟨fun x hx => ⟨(h _ (h2 x hx)).1, (h _ (h2 x hx)).2.1⟩, fun x hx => (h _ (h2 x hx)).2.2⟩
def fourIv (n : Nat) : List Iv := [⟨⟨tA, 5, [], []⟩, none, 0, none, 0⟩, ⟨⟨tB, 9, [], []⟩, none, 0, none, 0⟩, ⟨⟨tK, 0, [(tA, 2), (tB, 1)], []⟩, some ⟨n, 0, none⟩, 2, none, 0⟩, ⟨⟨tL, 0, [(tK, 3), (tA, 1)], []⟩, some ⟨n + 1, 0, none⟩, 2, none, 0⟩]
theorem itemAt_nil (W : World) (c : ByteArray) (lf : Int) : ItemAt W ⟨⟨c, lf, [], []⟩, none, 0, none, 0⟩ := ⟨Nat.le_refl _, Nat.zero_le _, Rd.nil _ _, Nat.le_refl _, Nat.zero_le _, Rd.nil _ _⟩
set_option maxHeartbeats 4000000 in
theorem four_any (w0 W : World) (h : KB w0 W) : Calls Try.prog 22 #[] W fun e w' => ∃ G, e = .returned (.slice (some ⟨G, 0, none⟩) 4 4) ∧ FourAt G w' ∧ KB w0 w' := by
  have hw : ∀ W3 : World, W3 = (((W.alloc (.cells #[.string ⟨#[65]⟩, .int .i64 2, .string ⟨#[66]⟩, .int .i64 1] 39)).alloc (.cells #[.string ⟨#[75]⟩, .int .i64 3, .string ⟨#[65]⟩, .int .i64 1] 39)).alloc
      (.cells #[.string ⟨#[65]⟩, .int .i64 5, .slice none 0 0, .slice none 0 0, .string ⟨#[66]⟩, .int .i64 9, .slice none 0 0, .slice none 0 0, .string ⟨#[75]⟩, .int .i64 0, .slice (some ⟨W.heap.size, 0, none⟩) 2 2, .slice none 0 0, .string ⟨#[76]⟩, .int .i64 0, .slice (some ⟨W.heap.size + 1, 0, none⟩) 2 2, .slice none 0 0] 32)) →
      FourAt (W.heap.size + 1 + 1) W3 ∧ KB w0 W3 := fun W3 hW3 => by
    refine ⟨⟨fourIv W.heap.size, rfl, rfl, ⟨?_, fun x hx => ?_⟩, items_sizes (xs := fourX) (by decide) rfl⟩, by rw [hW3]; exact ((h.alloc _).alloc _).alloc _⟩
    · have := cells_rd ((W.alloc (.cells #[.string ⟨#[65]⟩, .int .i64 2, .string ⟨#[66]⟩, .int .i64 1] 39)).alloc (.cells #[.string ⟨#[75]⟩, .int .i64 3, .string ⟨#[65]⟩, .int .i64 1] 39)) #[.string ⟨#[65]⟩, .int .i64 5, .slice none 0 0, .slice none 0 0, .string ⟨#[66]⟩, .int .i64 9, .slice none 0 0, .slice none 0 0, .string ⟨#[75]⟩, .int .i64 0, .slice (some ⟨W.heap.size, 0, none⟩) 2 2, .slice none 0 0, .string ⟨#[76]⟩, .int .i64 0, .slice (some ⟨W.heap.size + 1, 0, none⟩) 2 2, .slice none 0 0] 32
      rw [World.size_alloc, World.size_alloc, ← hW3] at this
      exact this
    · have hp1 : Rd W3 (some ⟨W.heap.size, 0, none⟩) ([(tA, (2 : Int)), (tB, 1)].flatMap encP) := by
        rw [hW3]; exact ((cells_rd W #[.string ⟨#[65]⟩, .int .i64 2, .string ⟨#[66]⟩, .int .i64 1] 39).alloc _).alloc _
      have hp2 : Rd W3 (some ⟨W.heap.size + 1, 0, none⟩) ([(tK, (3 : Int)), (tA, 1)].flatMap encP) := by
        have := (cells_rd (W.alloc (.cells #[.string ⟨#[65]⟩, .int .i64 2, .string ⟨#[66]⟩, .int .i64 1] 39)) #[.string ⟨#[75]⟩, .int .i64 3, .string ⟨#[65]⟩, .int .i64 1] 39).alloc (.cells #[.string ⟨#[65]⟩, .int .i64 5, .slice none 0 0, .slice none 0 0, .string ⟨#[66]⟩, .int .i64 9, .slice none 0 0, .slice none 0 0, .string ⟨#[75]⟩, .int .i64 0, .slice (some ⟨W.heap.size, 0, none⟩) 2 2, .slice none 0 0, .string ⟨#[76]⟩, .int .i64 0, .slice (some ⟨W.heap.size + 1, 0, none⟩) 2 2, .slice none 0 0] 32)
        rw [World.size_alloc, ← hW3] at this
        exact this
      simp only [fourIv, List.mem_cons, List.not_mem_nil, or_false] at hx
      rcases hx with rfl | rfl | rfl | rfl
      · exact itemAt_nil _ _ _
      · exact itemAt_nil _ _ _
      · exact ⟨Nat.le_refl 2, (show 2 ≤ maxLen by decide), hp1, Nat.le_refl _, Nat.zero_le _, Rd.nil _ _⟩
      · exact ⟨Nat.le_refl 2, (show 2 ≤ maxLen by decide), hp2, Nat.le_refl _, Nat.zero_le _, Rd.nil _ _⟩
  have hw2 := hw _ rfl
  have HW := Lib.hid hw2
  clear hw hw2 h
  go_enter Try.func22, Try.ntmps22
  go_wp2
  go_ret
  exact ⟨_, rfl, HW.out.1, HW.out.2⟩
def exParts : List Prt := [(tA, 14), (tB, 6)]
def exTexts : List ByteArray := [tA, tB, tK]
/-- A list of two parts, as it was handed out. -/
def TwoAt (A : Option Addr) (c : Nat) (W : World) : Prop := 2 ≤ c ∧ c ≤ maxLen ∧ Rd W A (exParts.flatMap encP)
def ThreeAt (A : Option Addr) (c : Nat) (W : World) : Prop := 3 ≤ c ∧ c ≤ maxLen ∧ Rd W A (exTexts.flatMap encS)
theorem four_partsL (b W : World) (G : Nat) (h : FourAt G W) (hb : KB b W) : Calls Try.prog 13 #[.slice (some ⟨G, 0, none⟩) 4 4, .string ⟨#[76]⟩, .int .i64 2] W fun e w' => ∃ A c, e = .returned (.tuple #[.slice A 2 c, .int .i64 0]) ∧ TwoAt A c w' ∧ KB b w' := by
  obtain ⟨l, hl, hx, hA, hS, hP⟩ := h
  have := kitParts_any l (some ⟨G, 0, none⟩) 4 tL 2 W (by omega) (by decide) hA hS hP (by decide)
  rw [hl] at this
  refine Calls.mono (R := _) this ?_
  rintro e w' ⟨v, he, ho, hB⟩
  rw [hx, four_parts] at he
  rw [hx, four_list] at ho
  obtain ⟨A, c, rfl, h1, h2, h3⟩ := own_rd ho
  exact ⟨A, c, he, ⟨h1, h2, h3⟩, hb.trans hB⟩
theorem four_partsZ (b W : World) (G : Nat) (h : FourAt G W) (hb : KB b W) : Calls Try.prog 13 #[.slice (some ⟨G, 0, none⟩) 4 4, .string ⟨#[90]⟩, .int .i64 2] W fun e w' => ∃ v, e = .returned (.tuple #[v, .int .i64 150]) ∧ KB b w' := by
  obtain ⟨l, hl, hx, hA, hS, hP⟩ := h
  have := kitParts_any l (some ⟨G, 0, none⟩) 4 tZ 2 W (by omega) (by decide) hA hS hP (by decide)
  rw [hl] at this
  refine Calls.mono (R := _) this ?_
  rintro e w' ⟨v, he, ho, hB⟩
  rw [hx, four_none] at he
  exact ⟨v, he, hb.trans hB⟩
theorem four_deepL (b W : World) (G : Nat) (h : FourAt G W) (hb : KB b W) : Calls Try.prog 18 #[.slice (some ⟨G, 0, none⟩) 4 4, .string ⟨#[76]⟩] W fun e w' => e = .returned (.int .i64 3) ∧ KB b w' := by
  obtain ⟨l, hl, hx, hA, hS, hP⟩ := h
  have := kitDeep_any l (some ⟨G, 0, none⟩) 4 tL W (by omega) (by decide) hA hS hP (by decide)
  rw [hl, hx, four_deep] at this
  exact Calls.mono (R := _) this fun e w' ⟨he, hB⟩ => ⟨he, hb.trans hB⟩
theorem four_withinK (b W : World) (G : Nat) (h : FourAt G W) (hb : KB b W) : Calls Try.prog 14 #[.slice (some ⟨G, 0, none⟩) 4 4, .string ⟨#[75]⟩] W fun e w' => ∃ A c, e = .returned (.slice A 3 c) ∧ ThreeAt A c w' ∧ KB b w' := by
  obtain ⟨l, hl, hx, hA, hS, hP⟩ := h
  have := kitWithin_any l (some ⟨G, 0, none⟩) 4 tK W (by omega) (by decide) hA hS hP (by decide)
  rw [hl] at this
  refine Calls.mono (R := _) this ?_
  rintro e w' ⟨v, he, ho, hB⟩
  rw [hx, four_within] at ho
  obtain ⟨A, c, rfl, h1, h2, h3⟩ := own_rd ho
  exact ⟨A, c, he, ⟨h1, h2, h3⟩, hb.trans hB⟩
theorem four_checked (b W : World) (G : Nat) (h : FourAt G W) (hb : KB b W) : Calls Try.prog 9 #[.slice (some ⟨G, 0, none⟩) 4 4] W fun e w' => e = .returned (.int .i64 0) ∧ KB b w' := by
  obtain ⟨l, hl, hx, hA, hS, hP⟩ := h
  have := kitCheck_any l (some ⟨G, 0, none⟩) 4 W (by omega) (by decide) hA hS hP
  rw [hl, hx, four_check] at this
  exact Calls.mono (R := _) this fun e w' ⟨he, hB⟩ => ⟨he, hb.trans hB⟩
theorem one_checked (b W : World) (hb : KB b W) : Calls Try.prog 9 #[.slice (some ⟨W.heap.size, 0, none⟩) 1 1] (W.alloc (.cells #[.string ⟨#[65]⟩, .int .i64 0, .slice none 0 0, .slice none 0 0] 32)) fun e w' => e = .returned (.int .i64 4) ∧ KB b w' := by
  have hA : ItemsAt (W.alloc (.cells #[.string ⟨#[65]⟩, .int .i64 0, .slice none 0 0, .slice none 0 0] 32)) (some ⟨W.heap.size, 0, none⟩) [⟨⟨tA, 0, [], []⟩, none, 0, none, 0⟩] := by
    refine ⟨cells_rd W #[.string ⟨#[65]⟩, .int .i64 0, .slice none 0 0, .slice none 0 0] 32, fun x hx => ?_⟩
    simp only [List.mem_singleton] at hx
    subst hx
    exact itemAt_nil _ _ _
  have hs := items_sizes (xs := [⟨tA, 0, [], []⟩]) (by decide) (l := [⟨⟨tA, 0, [], []⟩, none, 0, none, 0⟩]) rfl
  have := kitCheck_any [⟨⟨tA, 0, [], []⟩, none, 0, none, 0⟩] (some ⟨W.heap.size, 0, none⟩) 1 _ (Nat.le_refl _) (by decide) hA hs.1 hs.2
  have e : checkE (itsOf [⟨⟨tA, 0, [], []⟩, none, 0, none, 0⟩]) = 4 := four_one
  rw [e] at this
  exact Calls.mono (R := _) this fun e w' ⟨he, hB⟩ => ⟨he, (hb.alloc _).trans hB⟩
theorem two_same (b W : World) (A : Option Addr) (c : Nat) (h : TwoAt A c b) (hb : KB b W) : Calls Try.prog 20 #[.slice A 2 c, .slice (some ⟨W.heap.size, 0, none⟩) 2 2] (W.alloc (.cells #[.string ⟨#[65]⟩, .int .i64 14, .string ⟨#[66]⟩, .int .i64 6] 39)) fun e w' => e = .returned (.bool true) ∧ KB b w' := by
  have := same_parts exParts exParts A (some ⟨W.heap.size, 0, none⟩) c 2 _ h.1 (Nat.le_refl 2) h.2.1 (by decide) ((h.2.2.below hb).alloc (.cells #[.string ⟨#[65]⟩, .int .i64 14, .string ⟨#[66]⟩, .int .i64 6] 39)) (cells_rd W #[.string ⟨#[65]⟩, .int .i64 14, .string ⟨#[66]⟩, .int .i64 6] 39)
  rw [decide_eq_true rfl] at this
  refine Calls.mono (R := _) this ?_
  rintro e w' ⟨he, n, rfl⟩
  exact ⟨he, (hb.alloc _).drewN n⟩
theorem three_same (b W : World) (A : Option Addr) (c : Nat) (h : ThreeAt A c W) (hb : KB b W) : Calls Try.prog 23 #[.slice A 3 c, .slice (some ⟨W.heap.size, 0, none⟩) 3 3] (W.alloc (.cells #[.string ⟨#[65]⟩, .string ⟨#[66]⟩, .string ⟨#[75]⟩] 9)) fun e w' => e = .returned (.bool true) ∧ KB b w' := by
  have := same_texts exTexts exTexts A (some ⟨W.heap.size, 0, none⟩) c 3 _ h.1 (Nat.le_refl 3) h.2.1 (by decide) (h.2.2.alloc (.cells #[.string ⟨#[65]⟩, .string ⟨#[66]⟩, .string ⟨#[75]⟩] 9)) (cells_rd W #[.string ⟨#[65]⟩, .string ⟨#[66]⟩, .string ⟨#[75]⟩] 9)
  rw [decide_eq_true rfl] at this
  refine Calls.mono (R := _) this ?_
  rintro e w' ⟨he, n, rfl⟩
  exact ⟨he, (hb.alloc _).drewN n⟩
set_option maxHeartbeats 8000000 in
theorem awake07_any (w : World) : Calls Try.prog 7 #[] w fun e w' => e = .returned (.bool true) ∧ Below w.heap.size w w' := by
  have HF := Lib.hid four_any
  have HPL := Lib.hid four_partsL
  have HPZ := Lib.hid four_partsZ
  have HD := Lib.hid four_deepL
  have HW := Lib.hid four_withinK
  have HC := Lib.hid four_checked
  have HC1 := Lib.hid one_checked
  have HS2 := Lib.hid two_same
  have HS3 := Lib.hid three_same
  go_enter Try.func7, Try.ntmps7
  go_wp2_with (first | (go_at_call 22; (first | (with_reducible refine (HF.out w2 _ (by first | assumption | exact KB.refl _)).mono ?_) | (with_reducible refine (HF.out w _ (by first | assumption | exact KB.refl _)).mono ?_)); rintro e w1 ⟨G, rfl, hF, hK⟩) | (go_at_call 13; first | ((with_reducible refine (HPL.out w _ _ (by assumption) (by assumption)).mono ?_); rintro e w2 ⟨A, c, rfl, hT, hK2⟩) | ((with_reducible refine (HPZ.out w2 _ _ (by assumption) (by assumption)).mono ?_); rintro e w3 ⟨v, rfl, hK3⟩)) | (go_at_call 20; (with_reducible refine (HS2.out w2 _ _ _ (by assumption) (by assumption)).mono ?_); rintro e w4 ⟨rfl, hK4⟩) | (go_at_call 18; (with_reducible refine (HD.out w2 _ _ (by assumption) (by assumption)).mono ?_); rintro e w5 ⟨rfl, hK5⟩) | (go_at_call 14; (with_reducible refine (HW.out w2 _ _ (by assumption) (by assumption)).mono ?_); rintro e w6 ⟨A2, c2, rfl, hT2, hK6⟩) | (go_at_call 23; (with_reducible refine (HS3.out w2 _ _ _ (by assumption) (by assumption)).mono ?_); rintro e w7 ⟨rfl, hK7⟩) | (go_at_call 9; first | ((with_reducible refine (HC.out w2 _ _ (by assumption) (by assumption)).mono ?_); rintro e w8 ⟨rfl, hK8⟩) | ((with_reducible refine (HC1.out w2 _ (by assumption)).mono ?_); rintro e w9 ⟨rfl, hK9⟩)))
  go_ret
  exact ⟨rfl, hK2.trans hK9⟩
end Go.Proofs.Ytnboigbknadpdaa
