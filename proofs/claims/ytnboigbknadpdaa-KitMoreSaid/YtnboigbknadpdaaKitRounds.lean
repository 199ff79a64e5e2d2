/- How deep items are, round by round: plain words, no program. -/
import Derived.Test.YtnboigbknadpdaaKitLaw
set_option linter.unusedVariables false
set_option linter.unusedSimpArgs false
namespace Go.Proofs.Ytnboigbknadpdaa
set_option maxRecDepth 100000
open Go.RowKit SM
/-- A code's place. -/
def placeI (xs : List It) (c : ByteArray) : Nat := xs.findIdx fun x => decide (x.code = c)
/-- What an item's depth is, out of what is known. -/
def stepV (xs : List It) (out : List Nat) : List Prt → Nat → Nat
  | [], a => a
  | p :: r, a => if out.getD (placeI xs p.1) 0 = 0 then 0 else stepV xs out r (max a (out.getD (placeI xs p.1) 0 + 1))
def setV (xs : List It) (out : List Nat) (i : Nat) : List Nat := out.set i (stepV xs out ((xs[i]?.map (·.parts)).getD []) 1)
theorem setV_len (xs : List It) (out : List Nat) (i : Nat) : (setV xs out i).length = out.length := by simp [setV]
/-- No code stands there twice. -/
def Uniq (xs : List It) : Prop := ∀ i x, xs[i]? = some x → findI xs x.code = some x ∧ placeI xs x.code = i
theorem stepV_some {xs : List It} {out : List Nat} : ∀ {ps : List Prt} {a : Nat}, stepV xs out ps a ≠ 0 → (∀ p ∈ ps, out.getD (placeI xs p.1) 0 ≠ 0) ∧ stepV xs out ps a = (ps.map fun p => out.getD (placeI xs p.1) 0).foldl (fun a d => max a (d + 1)) a
  | [], a, h => ⟨fun p hp => (by cases hp), rfl⟩
  | p :: r, a, h => by
    unfold stepV at h ⊢
    by_cases h0 : out.getD (placeI xs p.1) 0 = 0
    · rw [if_pos h0] at h; exact absurd rfl h
    · rw [if_neg h0] at h ⊢
      obtain ⟨h1, h2⟩ := stepV_some h
      refine ⟨fun q hq => ?_, by rw [h2]; rfl⟩
      rcases List.mem_cons.1 hq with rfl | hq
      · exact h0
      · exact h1 q hq
theorem stepV_all {xs : List It} {out : List Nat} : ∀ {ps : List Prt} {a : Nat}, (∀ p ∈ ps, out.getD (placeI xs p.1) 0 ≠ 0) → stepV xs out ps a = (ps.map fun p => out.getD (placeI xs p.1) 0).foldl (fun a d => max a (d + 1)) a
  | [], a, _ => rfl
  | p :: r, a, h => by
    unfold stepV
    rw [if_neg (h p (List.mem_cons_self ..)), stepV_all fun q hq => h q (List.mem_cons_of_mem _ hq)]
    rfl
/-- What stands there is true. -/
def TrueV (xs : List It) (out : List Nat) : Prop := out.length = xs.length ∧ ∀ (c : ByteArray) (d : Nat), out.getD (placeI xs c) 0 = d → d ≠ 0 → Dep xs c d
/-- All that are not deeper than r are known, from the place i on; ahead of it one more. -/
def KnownV (xs : List It) (out : List Nat) (r i : Nat) : Prop := ∀ (c : ByteArray) (m : Nat), Dep xs c m → (m ≤ r ∨ m ≤ r + 1 ∧ placeI xs c < i) → out.getD (placeI xs c) 0 = m
theorem placeI_code {xs : List It} {c : ByteArray} {x : It} (h : xs[placeI xs c]? = some x) : x.code = c := by
  obtain ⟨hl, he⟩ := List.getElem?_eq_some_iff.1 h
  have := List.findIdx_getElem (p := fun x : It => decide (x.code = c)) (w := hl)
  unfold placeI at he
  rw [he] at this
  simpa using this
theorem getD_set {out : List Nat} {i j v : Nat} : (out.set i v).getD j 0 = if i = j ∧ j < out.length then v else out.getD j 0 := by
  rw [List.getD_eq_getElem?_getD, List.getD_eq_getElem?_getD, List.getElem?_set]
  by_cases h : i = j
  · subst h
    by_cases h2 : i < out.length
    · simp [h2]
    · simp [h2]
  · simp [h]
theorem TrueV.set {xs : List It} {out : List Nat} {i : Nat} (hu : Uniq xs) (h : TrueV xs out) : TrueV xs (setV xs out i) := by
  refine ⟨by rw [setV_len]; exact h.1, fun c d hd hn => ?_⟩
  unfold setV at hd
  rw [getD_set] at hd
  by_cases hi : i = placeI xs c ∧ placeI xs c < out.length
  · rw [if_pos hi] at hd
    have hl : placeI xs c < xs.length := by rw [← h.1]; exact hi.2
    obtain ⟨x, hx⟩ : ∃ x, xs[placeI xs c]? = some x := ⟨_, List.getElem?_eq_getElem hl⟩
    have hc := placeI_code hx
    have hf := (hu _ _ hx).1
    rw [hc] at hf
    rw [hi.1, hx] at hd
    simp only [Option.map_some, Option.getD_some] at hd
    rw [← hd] at hn
    obtain ⟨h1, h2⟩ := stepV_some hn
    refine Dep.mk x c d (x.parts.map fun p => out.getD (placeI xs p.1) 0) hf (by simp) (fun j p e hp he => ?_) (by rw [← hd, h2])
    rw [List.getElem?_map, hp] at he
    simp only [Option.map_some, Option.some.injEq] at he
    exact h.2 p.1 e he (he ▸ h1 p (List.mem_of_getElem? hp))
  · rw [if_neg hi] at hd
    exact h.2 c d hd hn
theorem Dep.place {xs : List It} {c : ByteArray} {m : Nat} (h : Dep xs c m) : placeI xs c < xs.length := by
  cases h with
  | mk x _ _ ds hx =>
    unfold placeI
    exact List.findIdx_lt_length_of_exists ⟨x, findI_mem hx, by simpa using findI_code hx⟩
/-- One place more in a round. -/
theorem KnownV.set {xs : List It} {out : List Nat} {r i : Nat} (hu : Uniq xs) (ht : TrueV xs out) (h : KnownV xs out r i) : KnownV xs (setV xs out i) r (i + 1) := by
  intro c m hd hm
  unfold setV
  rw [getD_set]
  by_cases hi : i = placeI xs c ∧ placeI xs c < out.length
  · rw [if_pos hi]
    have hm1 : m ≤ r + 1 := by omega
    have hd' := hd
    cases hd with
    | mk x _ _ ds hx hl hp he =>
      have hc := findI_code hx
      obtain ⟨x', hx'⟩ : ∃ x', xs[placeI xs c]? = some x' := ⟨_, List.getElem?_eq_getElem hd'.place⟩
      have hc' := placeI_code hx'
      have hf := (hu _ _ hx').1
      rw [hc', hx] at hf
      cases hf
      rw [hi.1, hx']
      simp only [Option.map_some, Option.getD_some]
      have hds : (x.parts.map fun p => out.getD (placeI xs p.1) 0) = ds := by
        apply List.ext_getElem (by simp [hl])
        intro j h1 h2
        rw [List.getElem_map]
        have h3 : j < x.parts.length := by omega
        have hdj := hp j x.parts[j] ds[j] (List.getElem?_eq_getElem h3) (List.getElem?_eq_getElem h2)
        refine h _ _ hdj (.inl ?_)
        have := foldl_max_mem (a := 1) (List.getElem_mem h2)
        omega
      rw [stepV_all, hds, ← he]
      intro p hp'
      obtain ⟨j, hj, hje⟩ := List.getElem_of_mem hp'
      have h2 : j < ds.length := by omega
      have hdj := hp j p ds[j] (by rw [List.getElem?_eq_getElem hj, hje]) (List.getElem?_eq_getElem h2)
      have := foldl_max_mem (a := 1) (List.getElem_mem h2)
      rw [h _ _ hdj (.inl (by omega))]
      have := hdj.pos
      omega
  · rw [if_neg hi]
    refine h c m hd ?_
    rcases hm with hm | ⟨h1, h2⟩
    · exact .inl hm
    · have hp := hd.place
      rw [← ht.1] at hp
      by_cases hip : i = placeI xs c
      · exact absurd ⟨hip, hp⟩ hi
      · exact .inr ⟨h1, by omega⟩
theorem KnownV.next {xs : List It} {out : List Nat} {r : Nat} (h : KnownV xs out r xs.length) : KnownV xs out (r + 1) 0 := fun c m hd hm => by
  refine h c m hd ?_
  rcases hm with hm | ⟨_, hm⟩
  · exact .inr ⟨hm, hd.place⟩
  · omega
theorem KnownV.zero (xs : List It) : KnownV xs (List.replicate xs.length 0) 0 0 := fun c m hd hm => by
  have := hd.pos
  omega
theorem TrueV.zero (xs : List It) : TrueV xs (List.replicate xs.length 0) := ⟨List.length_replicate, fun c d hd hn => by
  exfalso
  apply hn
  rw [← hd, List.getD_eq_getElem?_getD, List.getElem?_replicate]
  split <;> rfl⟩
theorem nodup_le : ∀ (n : Nat) (l : List Nat), l.Nodup → (∀ x ∈ l, x < n) → l.length ≤ n
  | 0, l, _, h => by
    cases l with
    | nil => exact Nat.le_refl _
    | cons x r => exact absurd (h x (List.mem_cons_self ..)) (by omega)
  | n + 1, l, hn, h => by
    have h1 := nodup_le n (l.erase n) (hn.erase n) (fun x hx => by
      obtain ⟨h2, h3⟩ := (List.Nodup.mem_erase_iff hn).1 hx
      have := h x h3
      omega)
    by_cases hm : n ∈ l
    · rw [List.length_erase_of_mem hm] at h1; omega
    · rw [List.erase_of_not_mem hm] at h1; omega
theorem foldl_max_hit {ds : List Nat} : ∀ {a : Nat}, ds.foldl (fun a d => max a (d + 1)) a = a ∨ ∃ d ∈ ds, ds.foldl (fun a d => max a (d + 1)) a = d + 1 := by
  induction ds with
  | nil => intro a; exact .inl rfl
  | cons e r ih =>
    intro a
    rw [List.foldl_cons]
    rcases ih (a := max a (e + 1)) with h | ⟨d, hd, h⟩
    · rw [h]
      rcases Nat.le_total a (e + 1) with h2 | h2
      · exact .inr ⟨e, List.mem_cons_self .., Nat.max_eq_right h2⟩
      · exact .inl (Nat.max_eq_left h2)
    · exact .inr ⟨d, List.mem_cons_of_mem _ hd, h⟩
/-- Below a depth there is an item of each depth. -/
theorem Dep.each {xs : List It} {c : ByteArray} {m : Nat} (h : Dep xs c m) : ∀ k, 1 ≤ k → k ≤ m → ∃ d, Dep xs d k := by
  induction h with
  | mk x c m ds hx hl hp he ih =>
    intro k h1 h2
    by_cases hk : k = m
    · subst hk; exact ⟨c, .mk x c k ds hx hl hp he⟩
    · rcases foldl_max_hit (ds := ds) (a := 1) with h3 | ⟨d, hd, h3⟩
      · omega
      · obtain ⟨j, hj, hje⟩ := List.getElem_of_mem hd
        have h4 : j < x.parts.length := by omega
        exact ih j x.parts[j] d (List.getElem?_eq_getElem h4) (by rw [List.getElem?_eq_getElem hj, hje]) k h1 (by omega)
theorem Dep.le_len {xs : List It} {c : ByteArray} {m : Nat} (h : Dep xs c m) : m ≤ xs.length := by
  have hc : ∀ k, ∃ d : ByteArray, k < m → Dep xs d (k + 1) := fun k => by
    by_cases hk : k < m
    · obtain ⟨d, hd⟩ := h.each (k + 1) (by omega) (by omega)
      exact ⟨d, fun _ => hd⟩
    · exact ⟨c, fun h => absurd h hk⟩
  have hf : ∃ f : Nat → ByteArray, ∀ k, k < m → Dep xs (f k) (k + 1) := ⟨fun k => Classical.choose (hc k), fun k => Classical.choose_spec (hc k)⟩
  obtain ⟨f, hf⟩ := hf
  have hn : ((List.range m).map fun k => placeI xs (f k)).Nodup := by
    rw [List.nodup_iff_pairwise_ne, List.pairwise_map]
    refine (List.nodup_iff_pairwise_ne.1 List.nodup_range).imp_of_mem fun {a b} ha hb hne he => hne ?_
    have h1 := hf a (List.mem_range.1 ha)
    have h2 := hf b (List.mem_range.1 hb)
    obtain ⟨x, hx⟩ : ∃ x, xs[placeI xs (f a)]? = some x := ⟨_, List.getElem?_eq_getElem h1.place⟩
    have e1 := placeI_code hx
    rw [he] at hx
    have e2 := placeI_code hx
    rw [← e1, e2] at h1
    have := h1.unique h2
    omega
  have := nodup_le xs.length _ hn (fun x hx => by
    obtain ⟨k, hk, rfl⟩ := List.mem_map.1 hx
    exact (hf k (List.mem_range.1 hk)).place)
  simpa using this
end Go.Proofs.Ytnboigbknadpdaa
