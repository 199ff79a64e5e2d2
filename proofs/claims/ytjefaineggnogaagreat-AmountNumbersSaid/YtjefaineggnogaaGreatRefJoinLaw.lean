/- The document's joining, step by step: no program. -/
import Derived.Test.YtjefaineggnogaaGreatJoinLaw
set_option linter.unusedVariables false
set_option linter.unusedSimpArgs false
namespace Go.Proofs.YtjefaineggnogaaGreat
set_option maxRecDepth 100000
open Go.RowKit SM
def posA (s : ByteArray) (acc : List Prt) : Nat := (acc.takeWhile fun p => decide (ltS p.1 s)).length
theorem posA_le (s : ByteArray) : ∀ acc : List Prt, posA s acc ≤ acc.length
  | [] => by simp [posA]
  | p :: r => by
    have ih := posA_le s r
    unfold posA at *
    rw [List.takeWhile_cons]
    split <;> simp <;> omega
theorem posA_lt (s : ByteArray) : ∀ (acc : List Prt) {a : Nat} (_ : a ≤ posA s acc) (hl : a < acc.length) (_ : ltS acc[a].1 s), a + 1 ≤ posA s acc
  | [], a, _, hl, _ => by simp at hl
  | p :: r, 0, h, hl, ht => by
    unfold posA
    rw [List.takeWhile_cons, if_pos (by simpa using ht)]
    simp
  | p :: r, a + 1, h, hl, ht => by
    unfold posA at *
    rw [List.takeWhile_cons] at h ⊢
    by_cases hp : decide (ltS p.1 s) = true
    · rw [if_pos hp] at h ⊢
      simp only [List.length_cons] at h ⊢
      have := posA_lt s r (a := a) (by unfold posA; omega) (by simpa using hl) (by simpa using ht)
      unfold posA at this
      omega
    · rw [if_neg hp] at h
      simp at h
theorem posA_eq (s : ByteArray) (acc : List Prt) {a : Nat} (h : a ≤ posA s acc) (he : ∀ hl : a < acc.length, ¬ ltS acc[a].1 s) : a = posA s acc := by
  rcases Nat.lt_or_ge a (posA s acc) with h1 | h1
  · exfalso
    have hl : a < acc.length := by have := posA_le s acc; omega
    refine he hl ?_
    have h2 : (acc.takeWhile fun p => decide (ltS p.1 s))[a]'h1 = acc[a] := by
      have := List.takeWhile_prefix (l := acc) (fun p => decide (ltS p.1 s))
      exact this.getElem _
    have h3 := List.all_eq_true.1 (List.all_takeWhile (p := fun p : Prt => decide (ltS p.1 s)) (l := acc)) _ (List.getElem_mem h1)
    rw [h2] at h3
    simpa using h3
  · omega
/-- With a place for s. -/
def placed (s : ByteArray) (acc : List Prt) : List Prt := acc.take (posA s acc) ++ (s, 0) :: acc.drop (posA s acc)
theorem posA_cons_lt {s : ByteArray} {p : Prt} (h : ltS p.1 s) (r : List Prt) : posA s (p :: r) = posA s r + 1 := by
  unfold posA; rw [List.takeWhile_cons, if_pos (by simpa using h)]; simp
theorem posA_cons_ge {s : ByteArray} {p : Prt} (h : ¬ ltS p.1 s) (r : List Prt) : posA s (p :: r) = 0 := by
  unfold posA; rw [List.takeWhile_cons, if_neg (by simpa using h)]; simp
/-- It is not there: a place is made, and filled. -/
theorem placed_ins (s : ByteArray) (n : Int) : ∀ {acc : List Prt}, Rise acc → (∀ hl : posA s acc < acc.length, acc[posA s acc].1 ≠ s) → (placed s acc).set (posA s acc) (s, n) = insA s n acc ∧ findA s acc = none
  | [], _, _ => by simp [placed, posA, insA, findA]
  | p :: r, hr, hne => by
    obtain ⟨h1, h2⟩ := List.pairwise_cons.1 hr
    by_cases hp : ltS p.1 s
    · have e := posA_cons_lt hp r
      have ih := placed_ins s n h2 (fun hl => by
        have := hne (by rw [e]; simpa using hl)
        simp only [e, List.getElem_cons_succ] at this
        exact this)
      have hs : p.1 ≠ s := by rintro rfl; exact ltS_irrefl _ hp
      unfold placed at *
      rw [e, List.take_succ_cons, List.drop_succ_cons, List.cons_append, List.set_cons_succ, ih.1]
      refine ⟨?_, by rw [findA, if_neg hs]; exact ih.2⟩
      rw [insA, if_neg (ltS_asymm hp), if_neg (fun h => hs h.symm)]
    · have e := posA_cons_ge hp r
      have hs : p.1 ≠ s := by
        have := hne (by rw [e]; simp)
        simpa only [e, List.getElem_cons_zero] using this
      have hsp : ltS s p.1 := by
        rcases ltS_tri s p.1 with h | h | h
        · exact h
        · exact absurd h.symm hs
        · exact absurd h hp
      unfold placed
      rw [e]
      refine ⟨?_, ?_⟩
      · simp only [List.take_zero, List.drop_zero, List.nil_append, List.set_cons_zero]
        rw [insA, if_pos hsp]
      · refine findA_none fun q hq he => ?_
        rcases List.mem_cons.1 hq with rfl | h
        · exact hs he
        · have := h1 q h
          rw [he] at this
          exact ltS_irrefl _ (ltS_trans hsp this)
theorem found_ins (s : ByteArray) (n : Int) : ∀ {acc : List Prt}, Rise acc → ∀ hl : posA s acc < acc.length, acc[posA s acc].1 = s → acc.set (posA s acc) (s, n) = insA s n acc ∧ findA s acc = some acc[posA s acc].2
  | [], _, hl, _ => by simp at hl
  | p :: r, hr, hl, he => by
    obtain ⟨h1, h2⟩ := List.pairwise_cons.1 hr
    by_cases hp : ltS p.1 s
    · have e := posA_cons_lt hp r
      have hl2 : posA s r < r.length := by rw [e] at hl; simpa using hl
      have he2 : r[posA s r].1 = s := by simpa only [e, List.getElem_cons_succ] using he
      have ih := found_ins s n h2 hl2 he2
      have hs : p.1 ≠ s := by rintro rfl; exact ltS_irrefl _ hp
      refine ⟨?_, ?_⟩
      · rw [e, List.set_cons_succ, ih.1, insA, if_neg (ltS_asymm hp), if_neg (fun h => hs h.symm)]
      · rw [findA, if_neg hs, ih.2]
        simp only [e, List.getElem_cons_succ]
    · have e := posA_cons_ge hp r
      have hs : p.1 = s := by simpa only [e, List.getElem_cons_zero] using he
      refine ⟨?_, ?_⟩
      · rw [e, List.set_cons_zero, insA, if_neg (by rw [hs]; exact ltS_irrefl s), if_pos hs.symm]
      · rw [findA, if_pos hs]
        simp only [e, List.getElem_cons_zero]
theorem set_field (acc : List Prt) (a : Nat) (s : ByteArray) (q n : Int) (h : acc[a]? = some (s, q)) : (acc.flatMap encP).set (a * 2 + 1) (.int .i64 n) = (acc.set a (s, n)).flatMap encP := by
  induction acc generalizing a with
  | nil => simp at h
  | cons p r ih =>
    cases a with
    | zero =>
      simp at h
      subst h
      simp [encP]
    | succ a =>
      have := ih a (by simpa using h)
      rw [List.set_cons_succ, List.flatMap_cons, List.flatMap_cons, ← this]
      have e : (a + 1) * 2 + 1 = (a * 2 + 1) + 1 + 1 := by omega
      rw [e]
      simp [encP]
end Go.Proofs.YtjefaineggnogaaGreat
