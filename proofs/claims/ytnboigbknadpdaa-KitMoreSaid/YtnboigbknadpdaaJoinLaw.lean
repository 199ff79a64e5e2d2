/- What joining does to parts: in plain words, no program. -/
import Derived.Test.YtnboigbknadpdaaJoin
set_option linter.unusedVariables false
set_option linter.unusedSimpArgs false
namespace Go.Proofs.Ytnboigbknadpdaa
set_option maxRecDepth 100000
open Go.RowKit SM

/-- All that is of one item. -/
def totP (s : ByteArray) : List Prt → Int
  | [] => 0
  | p :: r => (if p.1 = s then p.2 else 0) + totP s r
def Amts (ps : List Prt) : Prop := ∀ p ∈ ps, okI p.2
def Fits (acc ps : List Prt) : Prop := Amts ps ∧ ∀ p ∈ ps, (findA p.1 acc).getD 0 + totP p.1 ps ≤ 1125899906842624

theorem totP_cons_same (p : Prt) (r : List Prt) : totP p.1 (p :: r) = p.2 + totP p.1 r := by simp [totP]
theorem totP_cons_ne {s : ByteArray} {p : Prt} (h : p.1 ≠ s) (r : List Prt) : totP s (p :: r) = totP s r := by simp [totP, h]
theorem totP_nonneg (s : ByteArray) : ∀ {ps : List Prt}, Amts ps → 0 ≤ totP s ps
  | [], _ => Int.le_refl 0
  | p :: r, h => by
    have h1 := totP_nonneg s (ps := r) (fun q hq => h q (List.mem_cons_of_mem _ hq))
    have h2 := (h p (List.mem_cons_self ..)).1
    unfold totP
    split <;> omega
theorem totP_zero (s : ByteArray) : ∀ {ps : List Prt}, (∀ p ∈ ps, p.1 ≠ s) → totP s ps = 0
  | [], _ => rfl
  | p :: r, h => by
    rw [totP_cons_ne (h p (List.mem_cons_self ..)), totP_zero s (fun q hq => h q (List.mem_cons_of_mem _ hq))]
theorem totP_append (s : ByteArray) : ∀ (a b : List Prt), totP s (a ++ b) = totP s a + totP s b
  | [], b => by simp [totP]
  | p :: r, b => by simp only [List.cons_append, totP, totP_append s r b]; omega
theorem totP_le (s : ByteArray) {ps : List Prt} (h : Amts ps) {p : Prt} (hp : p ∈ ps) (hs : p.1 = s) : p.2 ≤ totP s ps := by
  obtain ⟨a, b, rfl⟩ := List.append_of_mem hp
  rw [totP_append, ← hs, totP_cons_same]
  have h1 := totP_nonneg p.1 (ps := a) (fun q hq => h q (by simp [hq]))
  have h2 := totP_nonneg p.1 (ps := b) (fun q hq => h q (by simp [hq]))
  omega

theorem getD_ok {acc : List Prt} (ha : Amts acc) (s : ByteArray) : okI ((findA s acc).getD 0) := by
  cases h : findA s acc with
  | none => exact ⟨by decide, by decide⟩
  | some n => exact ha (s, n) (mem_of_findA h)

theorem joinGo_char : ∀ (ps acc : List Prt), Rise acc → Amts acc →
    (Fits acc ps → ∃ out, joinGo acc ps = some out ∧ Rise out ∧ Amts out ∧ ∀ s, findA s out = if (∃ p ∈ ps, p.1 = s) then some ((findA s acc).getD 0 + totP s ps) else findA s acc) ∧ (¬ Fits acc ps → joinGo acc ps = none)
  | [], acc, hr, ha => ⟨fun _ => ⟨acc, rfl, hr, ha, fun s => by simp⟩, fun h => absurd (show Fits acc [] from ⟨fun p hp => (by cases hp), fun p hp => (by cases hp)⟩) h⟩
  | p :: r, acc, hr, ha => by
    obtain ⟨f, hf⟩ : ∃ f, f = (findA p.1 acc).getD 0 := ⟨_, rfl⟩
    have hfo : okI f := hf ▸ getD_ok ha p.1
    have hj : joinGo acc (p :: r) = if (addI f p.2).2 = true then joinGo (insA p.1 (addI f p.2).1 acc) r else none := by rw [joinGo, ← hf]
    by_cases hok : okI p.2 ∧ f + p.2 ≤ 1125899906842624
    · have e : addI f p.2 = (f + p.2, true) := by unfold addI; exact if_pos ⟨hfo, hok⟩
      have hr' := rise_insA p.1 (f + p.2) hr
      have ha' : Amts (insA p.1 (f + p.2) acc) := by
        intro q hq
        rcases mem_insA hq with rfl | h
        · exact ⟨by have := hfo.1; have := hok.1.1; show 0 ≤ f + p.2; omega, hok.2⟩
        · exact ha q h
      have hfind := fun s => findA_insA p.1 (f + p.2) s hr
      have ih := joinGo_char r _ hr' ha'
      rw [hj, e]
      simp only [if_true]
      have hbridge : ∀ s, (findA s (insA p.1 (f + p.2) acc)).getD 0 + totP s r = (findA s acc).getD 0 + totP s (p :: r) := by
        intro s
        rw [hfind]
        by_cases hs : s = p.1
        · subst hs; rw [if_pos rfl, totP_cons_same, ← hf]; simp only [Option.getD_some]; omega
        · rw [if_neg hs, totP_cons_ne (fun h => hs h.symm)]
      have hiff : Fits (insA p.1 (f + p.2) acc) r ↔ Fits acc (p :: r) := by
        constructor
        · rintro ⟨h1, h2⟩
          refine ⟨fun q hq => ?_, fun q hq => ?_⟩
          · rcases List.mem_cons.1 hq with rfl | h
            · exact hok.1
            · exact h1 q h
          · rw [← hbridge]
            by_cases hm : ∃ z ∈ r, z.1 = q.1
            · obtain ⟨z, hz, hze⟩ := hm
              have := h2 z hz
              rwa [hze] at this
            · rcases List.mem_cons.1 hq with rfl | h
              · rw [hbridge, totP_cons_same, totP_zero q.1 (fun z hz e => hm ⟨z, hz, e⟩), ← hf]; omega
              · exact absurd ⟨q, h, rfl⟩ hm
        · rintro ⟨h1, h2⟩
          exact ⟨fun q hq => h1 q (List.mem_cons_of_mem _ hq), fun q hq => by rw [hbridge]; exact h2 q (List.mem_cons_of_mem _ hq)⟩
      refine ⟨fun h => ?_, fun h => ih.2 (fun h' => h (hiff.1 h'))⟩
      obtain ⟨out, h1, h2, h3, h4⟩ := ih.1 (hiff.2 h)
      refine ⟨out, h1, h2, h3, fun s => ?_⟩
      rw [h4 s, hbridge]
      by_cases hm : ∃ z ∈ r, z.1 = s
      · have hm' : ∃ z ∈ p :: r, z.1 = s := by obtain ⟨z, hz, e⟩ := hm; exact ⟨z, List.mem_cons_of_mem _ hz, e⟩
        rw [if_pos hm, if_pos hm']
      · rw [if_neg hm, hfind]
        by_cases hs : s = p.1
        · have hm' : ∃ z ∈ p :: r, z.1 = s := ⟨p, List.mem_cons_self .., hs.symm⟩
          subst hs
          rw [if_pos rfl, if_pos hm', totP_cons_same, totP_zero p.1 (fun z hz e => hm ⟨z, hz, e⟩), ← hf, Int.add_zero]
        · have hm' : ¬ ∃ z ∈ p :: r, z.1 = s := by
            rintro ⟨z, hz, rfl⟩
            rcases List.mem_cons.1 hz with rfl | h
            · exact hs rfl
            · exact hm ⟨z, h, rfl⟩
          rw [if_neg hs, if_neg hm']
    · have e : addI f p.2 = (0, false) := by unfold addI; exact if_neg (fun h => hok h.2)
      rw [hj, e]
      refine ⟨fun h => absurd ⟨h.1 p (List.mem_cons_self ..), ?_⟩ hok, fun _ => rfl⟩
      have := h.2 p (List.mem_cons_self ..)
      rw [totP_cons_same, ← hf] at this
      have := totP_nonneg p.1 (ps := r) (fun q hq => h.1 q (List.mem_cons_of_mem _ hq))
      omega

/-- Parts that can be joined. -/
def Joins (ps : List Prt) : Prop := Amts ps ∧ ∀ p ∈ ps, totP p.1 ps ≤ 1125899906842624
theorem fits_joins (ps : List Prt) : Fits [] ps ↔ Joins ps := by
  unfold Fits Joins
  constructor
  · rintro ⟨h1, h2⟩; exact ⟨h1, fun p hp => by have := h2 p hp; simp [findA] at this; exact this⟩
  · rintro ⟨h1, h2⟩; exact ⟨h1, fun p hp => by have := h2 p hp; simp [findA]; exact this⟩
theorem joinL_none {ps : List Prt} (h : ¬ Joins ps) : joinL ps = none :=
  (joinGo_char ps [] List.Pairwise.nil (fun p hp => by cases hp)).2 (fun e => h ((fits_joins ps).1 e))
theorem joinL_some {ps : List Prt} (h : Joins ps) : ∃ out, joinL ps = some out ∧ Rise out ∧ Amts out ∧ ∀ s, findA s out = if (∃ p ∈ ps, p.1 = s) then some (totP s ps) else none := by
  obtain ⟨out, h1, h2, h3, h4⟩ := (joinGo_char ps [] List.Pairwise.nil (fun p hp => by cases hp)).1 ((fits_joins ps).2 h)
  exact ⟨out, h1, h2, h3, fun s => by rw [h4 s]; simp [findA]⟩
theorem joinL_joins {ps out : List Prt} (h : joinL ps = some out) : Joins ps := by
  refine Classical.byContradiction fun hn => ?_
  rw [joinL_none hn] at h
  cases h

theorem rise_ext {a b : List Prt} (ha : Rise a) (hb : Rise b) (h : ∀ s, findA s a = findA s b) : a = b := by
  refine rise_unique ha hb ((List.perm_ext_iff_of_nodup (rise_nodup ha) (rise_nodup hb)).2 fun p => ⟨fun hp => ?_, fun hp => ?_⟩)
  · have := findA_of_mem ha (show (p.1, p.2) ∈ a from hp)
    rw [h] at this
    exact mem_of_findA this
  · have := findA_of_mem hb (show (p.1, p.2) ∈ b from hp)
    rw [← h] at this
    exact mem_of_findA this

theorem totP_perm (s : ByteArray) {a b : List Prt} (h : a.Perm b) : totP s a = totP s b := by
  induction h with
  | nil => rfl
  | cons x _ ih => simp only [totP, ih]
  | swap x y l => simp only [totP]; omega
  | trans _ _ h1 h2 => rw [h1, h2]
theorem joins_perm {a b : List Prt} (h : a.Perm b) (hj : Joins a) : Joins b :=
  ⟨fun p hp => hj.1 p (h.mem_iff.2 hp), fun p hp => by rw [← totP_perm p.1 h]; exact hj.2 p (h.mem_iff.2 hp)⟩
/-- In whatever order: the same. -/
theorem joinL_perm {a b : List Prt} (h : a.Perm b) : joinL a = joinL b := by
  by_cases hj : Joins a
  · obtain ⟨o1, e1, r1, _, f1⟩ := joinL_some hj
    obtain ⟨o2, e2, r2, _, f2⟩ := joinL_some (joins_perm h hj)
    rw [e1, e2, rise_ext r1 r2 fun s => ?_]
    rw [f1, f2, totP_perm s h]
    have : (∃ p ∈ a, p.1 = s) ↔ (∃ p ∈ b, p.1 = s) := ⟨fun ⟨p, hp, e⟩ => ⟨p, h.mem_iff.1 hp, e⟩, fun ⟨p, hp, e⟩ => ⟨p, h.mem_iff.2 hp, e⟩⟩
    simp only [this]
  · rw [joinL_none hj, joinL_none (fun h' => hj (joins_perm h.symm h'))]
/-- More is none the more. -/
theorem joins_left {a b : List Prt} (h : Joins (a ++ b)) : Joins a :=
  ⟨fun p hp => h.1 p (List.mem_append_left _ hp), fun p hp => by
    have h1 := h.2 p (List.mem_append_left _ hp)
    rw [totP_append] at h1
    have h2 := totP_nonneg p.1 (ps := b) (fun q hq => h.1 q (List.mem_append_right _ hq))
    omega⟩
theorem totP_rise : ∀ {out : List Prt}, Rise out → ∀ p ∈ out, totP p.1 out = p.2
  | [], _, p, hp => by cases hp
  | q :: r, hr, p, hp => by
    obtain ⟨h1, h2⟩ := List.pairwise_cons.1 hr
    rcases List.mem_cons.1 hp with rfl | h
    · rw [totP_cons_same, totP_zero p.1 (fun z hz e => ltS_irrefl p.1 (by have := h1 z hz; rwa [e] at this)), Int.add_zero]
    · rw [totP_cons_ne (fun e => ltS_irrefl p.1 (by have := h1 p h; rwa [e] at this)), totP_rise h2 p h]
/-- What is joined stays. -/
theorem joinL_again {ps out : List Prt} (h : joinL ps = some out) : joinL out = some out := by
  obtain ⟨o, e, hr, ha, _⟩ := joinL_some (joinL_joins h)
  rw [h] at e
  injection e with e
  subst e
  have hj : Joins out := ⟨ha, fun p hp => by rw [totP_rise hr p hp]; exact (ha p hp).2⟩
  obtain ⟨o2, e2, hr2, _, f2⟩ := joinL_some hj
  rw [e2, rise_ext hr2 hr fun s => ?_]
  rw [f2]
  by_cases hm : ∃ p ∈ out, p.1 = s
  · rw [if_pos hm]
    obtain ⟨p, hp, rfl⟩ := hm
    rw [totP_rise hr p hp]
    exact (findA_of_mem hr (show (p.1, p.2) ∈ out from hp)).symm
  · rw [if_neg hm]
    exact (findA_none (fun p hp e => hm ⟨p, hp, e⟩)).symm
/-- Every part is found again. -/
theorem joinL_found {ps out : List Prt} (h : joinL ps = some out) {p : Prt} (hp : p ∈ ps) : ∃ n, (p.1, n) ∈ out ∧ p.2 ≤ n := by
  have hj := joinL_joins h
  obtain ⟨o, e, hr, ha, hf⟩ := joinL_some hj
  rw [h] at e
  injection e with e
  subst e
  refine ⟨totP p.1 ps, mem_of_findA (by rw [hf]; exact if_pos ⟨p, hp, rfl⟩), totP_le p.1 hj.1 hp rfl⟩
theorem joinL_rise {ps out : List Prt} (h : joinL ps = some out) : Rise out := by
  obtain ⟨o, e, hr, _⟩ := joinL_some (joinL_joins h)
  rw [h] at e
  injection e with e
  subst e
  exact hr
theorem joinGo_length : ∀ (ps acc : List Prt) {out : List Prt}, joinGo acc ps = some out → out.length ≤ acc.length + ps.length
  | [], acc, out, h => by
    simp only [joinGo, Option.some.injEq] at h
    subst h
    simp
  | p :: r, acc, out, h => by
    unfold joinGo at h
    split at h
    · have := joinGo_length r _ h
      have h2 := length_insA_le p.1 (addI ((findA p.1 acc).getD 0) p.2).1 acc
      simp only [List.length_cons]
      omega
    · cases h
theorem joinL_length {ps out : List Prt} (h : joinL ps = some out) : out.length ≤ ps.length := by
  have := joinGo_length ps [] h
  simpa using this
theorem joinL_item {ps out : List Prt} (h : joinL ps = some out) {p : Prt} (hp : p ∈ out) : ∃ q ∈ ps, q.1 = p.1 := by
  obtain ⟨o, e, hr, _, hf⟩ := joinL_some (joinL_joins h)
  rw [h] at e
  injection e with e
  subst e
  have := findA_of_mem hr (show (p.1, p.2) ∈ out from hp)
  rw [hf] at this
  by_cases hm : ∃ q ∈ ps, q.1 = p.1
  · exact hm
  · rw [if_neg hm] at this; cases this
end Go.Proofs.Ytnboigbknadpdaa
