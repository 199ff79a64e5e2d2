/- What the document says of items: whether they are sound, and how deep they are. Plain words, no program. -/
import Derived.Test.YtnboigbknadpdaaKitRounds
import Derived.Test.YtnboigbknadpdaaCodeB
set_option linter.unusedVariables false
set_option linter.unusedSimpArgs false
namespace Go.Proofs.Ytnboigbknadpdaa
set_option maxRecDepth 100000
open Go.RowKit SM

/-! ### rounds -/
def sweepTo (xs : List It) (out : List Nat) (i : Nat) : List Nat := (List.range i).foldl (setV xs) out
def roundsV (xs : List It) : Nat → List Nat
  | 0 => List.replicate xs.length 0
  | r + 1 => sweepTo xs (roundsV xs r) xs.length
def depthsV (xs : List It) : List Nat := roundsV xs (xs.length + 1)
def depI (xs : List It) (c : ByteArray) : Nat := (depthsV xs).getD (placeI xs c) 0
theorem sweepTo_zero (xs : List It) (out : List Nat) : sweepTo xs out 0 = out := rfl
theorem sweepTo_succ (xs : List It) (out : List Nat) (i : Nat) : sweepTo xs out (i + 1) = setV xs (sweepTo xs out i) i := by
  unfold sweepTo; rw [List.range_succ, List.foldl_append]; rfl
theorem sweepTo_len (xs : List It) (out : List Nat) : ∀ i, (sweepTo xs out i).length = out.length
  | 0 => rfl
  | i + 1 => by rw [sweepTo_succ, setV_len, sweepTo_len xs out i]
theorem roundsV_len (xs : List It) : ∀ r, (roundsV xs r).length = xs.length
  | 0 => List.length_replicate
  | r + 1 => by rw [roundsV, sweepTo_len, roundsV_len xs r]
theorem sweep_inv {xs : List It} (hu : Uniq xs) {out : List Nat} {r : Nat} (h1 : TrueV xs out) (h2 : KnownV xs out r 0) : ∀ i, TrueV xs (sweepTo xs out i) ∧ KnownV xs (sweepTo xs out i) r i
  | 0 => ⟨h1, h2⟩
  | i + 1 => by
    rw [sweepTo_succ]
    obtain ⟨h3, h4⟩ := sweep_inv hu h1 h2 i
    exact ⟨h3.set hu, h4.set hu h3⟩
theorem rounds_inv {xs : List It} (hu : Uniq xs) : ∀ r, TrueV xs (roundsV xs r) ∧ KnownV xs (roundsV xs r) r 0
  | 0 => ⟨TrueV.zero xs, KnownV.zero xs⟩
  | r + 1 => by
    obtain ⟨h1, h2⟩ := rounds_inv hu r
    obtain ⟨h3, h4⟩ := sweep_inv hu h1 h2 xs.length
    exact ⟨h3, h4.next⟩
theorem depI_of {xs : List It} (hu : Uniq xs) {c : ByteArray} {m : Nat} (h : Dep xs c m) : depI xs c = m := by
  have := h.le_len
  exact (rounds_inv hu (xs.length + 1)).2 c m h (.inl (by omega))
theorem dep_of {xs : List It} (hu : Uniq xs) {c : ByteArray} (h : depI xs c ≠ 0) : Dep xs c (depI xs c) :=
  (rounds_inv hu (xs.length + 1)).1.2 c _ rfl h

/-! ### what is wrong first -/
def rightB (x : It) : Bool :=
  if x.parts = [] then decide (1 ≤ x.life) && decide (x.life ≤ 2000)
  else decide (∀ p ∈ x.parts, 1 ≤ p.2 ∧ p.2 ≤ 1073741824) && decide ((x.parts.map (·.1)).Nodup) && decide (x.life = 0) && decide (x.parts.length ≤ 8)
def aheadB : Option ByteArray → ByteArray → Bool
  | none, _ => true
  | some c, d => decide (ltS c d)
def shapesB : Option ByteArray → List It → Bool
  | _, [] => true
  | prev, x :: r => codeB x.code && aheadB prev x.code && rightB x && shapesB (some x.code) r
def knownP (xs : List It) (ps : List Prt) : Bool := ps.all fun p => (findI xs p.1).isSome
def knownB (xs ys : List It) : Bool := ys.all fun x => knownP xs x.parts
def checkE (xs : List It) : Nat :=
  if 60 < xs.length then 3
  else if shapesB none xs = false then 4
  else if knownB xs xs = false then 150
  else if (depthsV xs).any (fun d => d == 0) = true then 152
  else if (depthsV xs).any (fun d => decide (8 < d)) = true then 3
  else 0
/-- Codes that rise. -/
def Rises (xs : List It) : Prop := xs.Pairwise fun a b => ltS a.code b.code
theorem shapes_ahead : ∀ {xs : List It} {c : ByteArray}, shapesB (some c) xs = true → (∀ x ∈ xs, ltS c x.code) ∧ Rises xs
  | [], c, _ => ⟨fun x h => (by cases h), List.Pairwise.nil⟩
  | x :: r, c, h => by
    simp only [shapesB, aheadB, Bool.and_eq_true, decide_eq_true_eq] at h
    obtain ⟨h1, h2⟩ := shapes_ahead h.2
    refine ⟨fun y hy => ?_, List.pairwise_cons.2 ⟨h1, h2⟩⟩
    rcases List.mem_cons.1 hy with rfl | hy
    · exact h.1.1.2
    · exact ltS_trans h.1.1.2 (h1 y hy)
theorem shapes_rises {xs : List It} (h : shapesB none xs = true) : Rises xs := by
  cases xs with
  | nil => exact List.Pairwise.nil
  | cons x r =>
    simp only [shapesB, aheadB, Bool.and_eq_true] at h
    obtain ⟨h1, h2⟩ := shapes_ahead h.2
    exact List.pairwise_cons.2 ⟨h1, h2⟩
theorem shapes_each : ∀ {xs : List It} {o : Option ByteArray}, shapesB o xs = true → ∀ x ∈ xs, codeB x.code = true ∧ rightB x = true
  | [], _, _, x, hx => by cases hx
  | y :: r, o, h, x, hx => by
    simp only [shapesB, Bool.and_eq_true] at h
    rcases List.mem_cons.1 hx with rfl | hx
    · exact ⟨h.1.1.1, h.1.2⟩
    · exact shapes_each h.2 x hx
theorem Rises.uniq : ∀ {xs : List It}, Rises xs → Uniq xs
  | [], _, i, x, h => by simp at h
  | y :: r, h, i, x, hx => by
    obtain ⟨h1, h2⟩ := List.pairwise_cons.1 h
    cases i with
    | zero =>
      simp only [List.getElem?_cons_zero, Option.some.injEq] at hx
      subst hx
      exact ⟨by simp [findI], by simp [placeI, List.findIdx_cons]⟩
    | succ i =>
      simp only [List.getElem?_cons_succ] at hx
      obtain ⟨h3, h4⟩ := Rises.uniq h2 i x hx
      have hne : y.code ≠ x.code := fun e => by
        have := h1 x (List.mem_of_getElem? hx)
        rw [e] at this
        exact ltS_irrefl _ this
      have hd : decide (y.code = x.code) = false := decide_eq_false hne
      refine ⟨?_, ?_⟩
      · unfold findI at h3 ⊢
        rw [List.find?_cons, hd]
        exact h3
      · unfold placeI at h4 ⊢
        rw [List.findIdx_cons, hd]
        simp [h4]
theorem place_found {xs : List It} {c : ByteArray} {x : It} (h : findI xs c = some x) : placeI xs c < xs.length ∧ xs[placeI xs c]? = some x := by
  have hl : placeI xs c < xs.length := by
    unfold placeI
    exact List.findIdx_lt_length_of_exists ⟨x, findI_mem h, by simpa using findI_code h⟩
  refine ⟨hl, ?_⟩
  unfold findI at h
  unfold placeI at hl ⊢
  rw [List.find?_eq_some_iff_getElem] at h
  obtain ⟨h1, i, hi, he, hb⟩ := h
  have : List.findIdx (fun x => decide (x.code = c)) xs = i := by
    apply (List.findIdx_eq hi).2
    refine ⟨by rw [he]; exact h1, fun j hj => ?_⟩
    have := hb j hj
    simpa using this
  rw [this, List.getElem?_eq_getElem hi, he]
theorem findI_none {xs : List It} {c : ByteArray} (h : findI xs c = none) : ∀ x ∈ xs, x.code ≠ c := fun x hx => by
  unfold findI at h
  rw [List.find?_eq_none] at h
  simpa using h x hx
theorem place_none {xs : List It} {c : ByteArray} (h : findI xs c = none) : placeI xs c = xs.length := by
  unfold placeI
  exact List.findIdx_eq_length.2 fun x hx => by simpa using findI_none h x hx
theorem depI_none {xs : List It} {c : ByteArray} (h : findI xs c = none) : depI xs c = 0 := by
  unfold depI
  rw [place_none h, List.getD_eq_getElem?_getD, List.getElem?_eq_none]
  · rfl
  · unfold depthsV; rw [roundsV_len]; exact Nat.le_refl _
/-- All that a sound list of items is. -/
structure Sound (xs : List It) : Prop where
  len : xs.length ≤ 60
  each : ∀ x ∈ xs, codeB x.code = true ∧ rightB x = true
  rises : Rises xs
  uniq : Uniq xs
  known : ∀ x ∈ xs, ∀ p ∈ x.parts, ∃ y, findI xs p.1 = some y
  depth : ∀ x ∈ xs, 1 ≤ depI xs x.code ∧ depI xs x.code ≤ 8
theorem depths_any {xs : List It} (hu : Uniq xs) (q : Nat → Bool) : (depthsV xs).any q = true ↔ ∃ x ∈ xs, q (depI xs x.code) = true := by
  rw [List.any_eq_true]
  constructor
  · rintro ⟨d, hd, hq⟩
    obtain ⟨i, hi, he⟩ := List.getElem_of_mem hd
    have hi2 : i < xs.length := by have := hi; unfold depthsV at this; rw [roundsV_len] at this; exact this
    refine ⟨xs[i], List.getElem_mem hi2, ?_⟩
    unfold depI
    rw [(hu i xs[i] (List.getElem?_eq_getElem hi2)).2, List.getD_eq_getElem?_getD, List.getElem?_eq_getElem hi, he]
    exact hq
  · rintro ⟨x, hx, hq⟩
    obtain ⟨i, hi, he⟩ := List.getElem_of_mem hx
    have hi2 : i < (depthsV xs).length := by unfold depthsV; rw [roundsV_len]; exact hi
    refine ⟨(depthsV xs)[i], List.getElem_mem hi2, ?_⟩
    unfold depI at hq
    rw [(hu i x (by rw [List.getElem?_eq_getElem hi, he])).2, List.getD_eq_getElem?_getD, List.getElem?_eq_getElem hi2] at hq
    exact hq
theorem known_each {xs : List It} (h : knownB xs xs = true) : ∀ x ∈ xs, ∀ p ∈ x.parts, ∃ y, findI xs p.1 = some y := fun x hx p hp => by
  unfold knownB knownP at h
  exact Option.isSome_iff_exists.1 (List.all_eq_true.1 (List.all_eq_true.1 h x hx) p hp)
theorem check_sound {xs : List It} (h : checkE xs = 0) : Sound xs := by
  unfold checkE at h
  by_cases h1 : 60 < xs.length
  · rw [if_pos h1] at h; cases h
  rw [if_neg h1] at h
  by_cases h2 : shapesB none xs = false
  · rw [if_pos h2] at h; cases h
  rw [if_neg h2] at h
  by_cases h3 : knownB xs xs = false
  · rw [if_pos h3] at h; cases h
  rw [if_neg h3] at h
  by_cases h4 : (depthsV xs).any (fun d => d == 0) = true
  · rw [if_pos h4] at h; cases h
  rw [if_neg h4] at h
  by_cases h5 : (depthsV xs).any (fun d => decide (8 < d)) = true
  · rw [if_pos h5] at h; cases h
  have h2 : shapesB none xs = true := by simpa using h2
  have h3 : knownB xs xs = true := by simpa using h3
  have hr := shapes_rises h2
  have hu := hr.uniq
  rw [depths_any hu] at h4 h5
  refine ⟨by omega, shapes_each h2, hr, hu, known_each h3, fun x hx => ⟨?_, ?_⟩⟩
  · rcases Nat.eq_zero_or_pos (depI xs x.code) with h6 | h6
    · exact absurd ⟨x, hx, by simp [h6]⟩ h4
    · exact h6
  · rcases Nat.lt_or_ge 8 (depI xs x.code) with h6 | h6
    · exact absurd ⟨x, hx, by simpa using h6⟩ h5
    · exact h6
end Go.Proofs.Ytnboigbknadpdaa
