/- Items and kits: how deep they are. Plain words, no program. -/
import Derived.Test.YtnboigbknadpdaaConcat
import Derived.Test.YtnboigbknadpdaaStr
set_option linter.unusedVariables false
set_option linter.unusedSimpArgs false
namespace Go.Proofs.Ytnboigbknadpdaa
set_option maxRecDepth 100000
open Go.RowKit SM

/-- An item. -/
structure It where
  code : ByteArray
  life : Int
  parts : List Prt
  others : List ByteArray
def findI (xs : List It) (c : ByteArray) : Option It := xs.find? fun x => decide (x.code = c)
theorem findI_code {xs : List It} {c : ByteArray} {x : It} (h : findI xs c = some x) : x.code = c := by
  have := List.find?_some h
  simpa using this
theorem findI_mem {xs : List It} {c : ByteArray} {x : It} (h : findI xs c = some x) : x ∈ xs := List.mem_of_find?_eq_some h

/-- How deep an item is. -/
inductive Dep (xs : List It) : ByteArray → Nat → Prop
  | mk (x : It) (c : ByteArray) (m : Nat) (ds : List Nat) : findI xs c = some x → ds.length = x.parts.length →
      (∀ (i : Nat) (p : Prt) (d : Nat), x.parts[i]? = some p → ds[i]? = some d → Dep xs p.1 d) → m = ds.foldl (fun a d => max a (d + 1)) 1 → Dep xs c m
theorem foldl_max_le (ds : List Nat) : ∀ a, a ≤ ds.foldl (fun a d => max a (d + 1)) a := by
  induction ds with
  | nil => intro a; exact Nat.le_refl a
  | cons d r ih => intro a; exact Nat.le_trans (Nat.le_max_left _ _) (ih _)
theorem foldl_max_mem {ds : List Nat} : ∀ {a d : Nat}, d ∈ ds → d + 1 ≤ ds.foldl (fun a d => max a (d + 1)) a := by
  induction ds with
  | nil => intro a d h; cases h
  | cons e r ih =>
    intro a d h
    rcases List.mem_cons.1 h with rfl | h
    · exact Nat.le_trans (Nat.le_max_right _ _) (foldl_max_le r _)
    · exact ih h
theorem Dep.unique {xs : List It} {c : ByteArray} {m : Nat} (h : Dep xs c m) : ∀ {n}, Dep xs c n → m = n := by
  induction h with
  | mk x c m ds hx hl hp hm ih =>
    intro n hn
    cases hn with
    | mk x' _ _ ds' hx' hl' hp' hm' =>
      rw [hx] at hx'
      cases hx'
      have : ds = ds' := by
        apply List.ext_getElem (by omega)
        intro i h1 h2
        have h3 : i < x.parts.length := by omega
        exact ih i x.parts[i] ds[i] (List.getElem?_eq_getElem h3) (List.getElem?_eq_getElem h1) (hp' i x.parts[i] ds'[i] (List.getElem?_eq_getElem h3) (List.getElem?_eq_getElem h2))
      rw [hm, hm', this]
theorem Dep.pos {xs : List It} {c : ByteArray} {m : Nat} (h : Dep xs c m) : 1 ≤ m := by
  cases h with
  | mk x _ _ ds hx hl hp hm => rw [hm]; exact foldl_max_le ds 1
/-- c has d as a part. -/
def Edge (xs : List It) (c d : ByteArray) : Prop := ∃ x, findI xs c = some x ∧ ∃ q, (d, q) ∈ x.parts
theorem Dep.edge {xs : List It} {c d : ByteArray} {m : Nat} (h : Dep xs c m) (he : Edge xs c d) : ∃ n, Dep xs d n ∧ n < m := by
  cases h with
  | mk x _ _ ds hx hl hp hm =>
    obtain ⟨x', hx', q, hq⟩ := he
    rw [hx] at hx'
    cases hx'
    obtain ⟨i, hi, he⟩ := List.getElem_of_mem hq
    have h2 : i < ds.length := by omega
    refine ⟨ds[i], hp i (d, q) ds[i] (by rw [List.getElem?_eq_getElem hi, he]) (List.getElem?_eq_getElem h2), ?_⟩
    have := foldl_max_mem (a := 1) (List.getElem_mem h2)
    omega
inductive Reach (xs : List It) : ByteArray → ByteArray → Prop
  | refl (c) : Reach xs c c
  | step {c d e} : Reach xs c d → Edge xs d e → Reach xs c e
theorem Reach.trans {xs : List It} {a b c : ByteArray} (h : Reach xs a b) (h2 : Reach xs b c) : Reach xs a c := by
  induction h2 with
  | refl => exact h
  | step _ he ih => exact .step ih he
theorem Dep.reach {xs : List It} {c d : ByteArray} (hr : Reach xs c d) : ∀ {m : Nat}, Dep xs c m → ∃ n, Dep xs d n ∧ n ≤ m := by
  induction hr with
  | refl => exact fun h => ⟨_, h, Nat.le_refl _⟩
  | step _ he ih =>
    intro m h
    obtain ⟨n, h1, h2⟩ := ih h
    obtain ⟨k, h3, h4⟩ := h1.edge he
    exact ⟨k, h3, by omega⟩
/-- No item with a depth lies within itself. -/
theorem Dep.acyclic {xs : List It} {c d : ByteArray} {m : Nat} (h : Dep xs c m) (he : Edge xs c d) (hr : Reach xs d c) : False := by
  obtain ⟨n, h1, h2⟩ := h.edge he
  obtain ⟨k, h3, h4⟩ := h1.reach hr
  have := h.unique h3
  omega
end Go.Proofs.Ytnboigbknadpdaa
