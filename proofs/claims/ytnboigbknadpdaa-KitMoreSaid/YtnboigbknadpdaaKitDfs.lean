/- The search for how deep items are, and for what is within one: what it keeps. Plain words, no program. -/
import Derived.Test.YtnboigbknadpdaaKitDepth
set_option linter.unusedVariables false
set_option linter.unusedSimpArgs false
namespace Go.Proofs.Ytnboigbknadpdaa
set_option maxRecDepth 100000
open Go.RowKit SM
abbrev FI := ByteArray → Option Int
def updI (f : FI) (c : ByteArray) (v : Int) : FI := fun s => if s = c then some v else f s
theorem updI_same (f : FI) (c : ByteArray) (v : Int) : updI f c v c = some v := by simp [updI]
theorem updI_ne {f : FI} {c s : ByteArray} (v : Int) (h : s ≠ c) : updI f c v s = f s := by simp [updI, h]
/-- How many items are not told yet. -/
def untold (xs : List It) (f : FI) : Nat := (xs.filter fun x => (f x.code).isNone).length
theorem untold_le {f g : FI} (h : ∀ s, f s ≠ none → g s ≠ none) : ∀ xs : List It, untold xs g ≤ untold xs f
  | [] => Nat.le_refl _
  | x :: r => by
    have ih := untold_le h r
    unfold untold at ih ⊢
    rw [List.filter_cons, List.filter_cons]
    by_cases hg : g x.code = none
    · have hf : f x.code = none := by
        cases hf : f x.code with
        | none => rfl
        | some v => exact absurd hg (h x.code (by rw [hf]; simp))
      simp [hg, hf, ih]
    · have hg' : (g x.code).isNone = false := by
        cases hh : g x.code with
        | none => exact absurd hh hg
        | some v => rfl
      rw [hg']
      simp only [Bool.false_eq_true, ↓reduceIte]
      split
      · simp only [List.length_cons]; omega
      · exact ih
theorem untold_upd {f : FI} {c : ByteArray} (hf : f c = none) (v : Int) : ∀ {xs : List It}, (∃ x ∈ xs, x.code = c) → untold xs (updI f c v) + 1 ≤ untold xs f
  | [], h => by obtain ⟨x, hx, _⟩ := h; cases hx
  | x :: r, h => by
    have hm : ∀ s, f s ≠ none → updI f c v s ≠ none := fun s hs => by
      unfold updI; split
      · simp
      · exact hs
    by_cases hx : x.code = c
    · have h1 := untold_le hm r
      unfold untold at h1 ⊢
      rw [List.filter_cons, List.filter_cons, hx, updI_same, hf]
      simp only [Option.isNone_some, Option.isNone_none, Bool.false_eq_true, ↓reduceIte, List.length_cons]
      omega
    · have ih := untold_upd (xs := r) hf v (by
        obtain ⟨y, hy, he⟩ := h
        rcases List.mem_cons.1 hy with rfl | hy
        · exact absurd he hx
        · exact ⟨y, hy, he⟩)
      unfold untold at ih ⊢
      rw [List.filter_cons, List.filter_cons, updI_ne v hx]
      split
      · simp only [List.length_cons]; omega
      · exact ih
theorem untold_all (xs : List It) (f : FI) : untold xs f ≤ xs.length := by unfold untold; exact List.length_filter_le _ _

/-! ### how deep -/
/-- What is told is true; what is looked at lies ahead of c. -/
def LookInv (xs : List It) (f : FI) (c : ByteArray) : Prop := ∀ s v, f s = some v → (∃ d : Nat, v = d ∧ Dep xs s d) ∨ (v = -1 ∧ ∃ d, Edge xs s d ∧ Reach xs d c)
/-- All stays that was told; what is new is true. -/
def Keeps (xs : List It) (f g : FI) : Prop := (∀ s v, f s = some v → g s = some v) ∧ ∀ s v, f s = none → g s = some v → ∃ d : Nat, v = d ∧ Dep xs s d
theorem Keeps.refl (xs : List It) (f : FI) : Keeps xs f f := ⟨fun _ _ h => h, fun s v h h2 => by rw [h] at h2; cases h2⟩
theorem Keeps.trans {xs : List It} {f g h : FI} (h1 : Keeps xs f g) (h2 : Keeps xs g h) : Keeps xs f h := ⟨fun s v hs => h2.1 s v (h1.1 s v hs), fun s v hs hh => by
  cases hg : g s with
  | none => exact h2.2 s v hg hh
  | some u =>
    have := h2.1 s u hg
    rw [hh] at this
    cases this
    exact h1.2 s v hs hg⟩
theorem Keeps.less {xs : List It} {f g : FI} (h : Keeps xs f g) : untold xs g ≤ untold xs f := untold_le (fun s hs => by
  obtain ⟨v, hv⟩ := Option.ne_none_iff_exists'.1 hs
  rw [h.1 s v hv]; simp) xs
/-- What a search that ends well leaves. -/
def LookOk (xs : List It) (f g : FI) (c : ByteArray) : Prop := Keeps xs f g ∧ ∃ d : Nat, g c = some (d : Int) ∧ Dep xs c d
theorem look_seen {xs : List It} {f : FI} {c : ByteArray} {v : Int} (h : LookInv xs f c) (hf : f c = some v) : (0 < v → LookOk xs f f c) ∧ (¬ 0 < v → ¬ ∃ n, Dep xs c n) := by
  rcases h c v hf with ⟨d, rfl, hd⟩ | ⟨rfl, d, he, hr⟩
  · have := hd.pos
    exact ⟨fun _ => ⟨Keeps.refl _ _, d, hf, hd⟩, fun h => absurd (by omega) h⟩
  · exact ⟨fun h => absurd h (by decide), fun _ ⟨n, hn⟩ => hn.acyclic he hr⟩
theorem look_nz {xs : List It} {f : FI} {c : ByteArray} {v : Int} (h : LookInv xs f c) (hf : f c = some v) : v ≠ 0 := by
  rcases h c v hf with ⟨d, rfl, hd⟩ | ⟨rfl, _⟩
  · have := hd.pos; omega
  · decide
/-- What is known of the first k parts. -/
def Upto (xs : List It) (ps : List Prt) (k n : Nat) : Prop := ∃ ds : List Nat, ds.length = k ∧ (∀ (i : Nat) (p : Prt) (d : Nat), ps[i]? = some p → ds[i]? = some d → Dep xs p.1 d) ∧ n = ds.foldl (fun a d => max a (d + 1)) 1
theorem Upto.zero (xs : List It) (ps : List Prt) : Upto xs ps 0 1 := ⟨[], rfl, fun i p d _ h => by simp at h, rfl⟩
theorem Upto.succ {xs : List It} {ps : List Prt} {k n : Nat} (h : Upto xs ps k n) {p : Prt} (hp : ps[k]? = some p) {d : Nat} (hd : Dep xs p.1 d) : Upto xs ps (k + 1) (max n (d + 1)) := by
  obtain ⟨ds, hl, h1, h2⟩ := h
  refine ⟨ds ++ [d], by simp [hl], fun i q e hq he => ?_, by rw [List.foldl_append, ← h2]; rfl⟩
  by_cases hi : i < ds.length
  · rw [List.getElem?_append_left hi] at he
    exact h1 i q e hq he
  · rw [List.getElem?_append_right (by omega)] at he
    have hi2 : i = ds.length := by
      have := (List.getElem?_eq_some_iff.1 he).1
      simp at this
      omega
    subst hi2
    simp at he
    subst he
    rw [hl, hp] at hq
    cases hq
    exact hd
theorem look_part {xs : List It} {f g : FI} {c : ByteArray} {x : It} (h : LookInv xs f c) (hf : f c = none) (hk : Keeps xs (updI f c (-1)) g) (hx : findI xs c = some x) {p : Prt} (hp : p ∈ x.parts) : LookInv xs g p.1 := by
  have hE : Edge xs c p.1 := ⟨x, hx, p.2, hp⟩
  intro s v hs
  by_cases hsc : s = c
  · subst hsc
    have := hk.1 s (-1) (updI_same f s (-1))
    rw [this] at hs
    cases hs
    exact .inr ⟨rfl, p.1, hE, .refl _⟩
  · cases hu : f s with
    | none => exact .inl (hk.2 s v (by rw [updI_ne _ hsc, hu]) hs)
    | some u =>
      have := hk.1 s u (by rw [updI_ne _ hsc, hu])
      rw [this] at hs
      cases hs
      rcases h s _ hu with h1 | ⟨h1, d, h2, h3⟩
      · exact .inl h1
      · exact .inr ⟨h1, d, h2, .step h3 hE⟩
theorem look_done {xs : List It} {f g : FI} {c : ByteArray} {x : It} {n : Nat} (hf : f c = none) (hk : Keeps xs (updI f c (-1)) g) (hx : findI xs c = some x) (h : Upto xs x.parts x.parts.length n) : LookOk xs f (updI g c n) c := by
  obtain ⟨ds, hl, h1, h2⟩ := h
  have hd : Dep xs c n := .mk x c n ds hx hl h1 h2
  refine ⟨⟨fun s v hs => ?_, fun s v hs hg => ?_⟩, n, updI_same _ _ _, hd⟩
  · have hsc : s ≠ c := fun e => by rw [e, hf] at hs; cases hs
    rw [updI_ne _ hsc]
    exact hk.1 s v (by rw [updI_ne _ hsc, hs])
  · by_cases hsc : s = c
    · subst hsc
      rw [updI_same] at hg
      cases hg
      exact ⟨n, rfl, hd⟩
    · rw [updI_ne _ hsc] at hg
      exact hk.2 s v (by rw [updI_ne _ hsc, hs]) hg
theorem look_bad {xs : List It} {c : ByteArray} {x : It} (hx : findI xs c = some x) {p : Prt} (hp : p ∈ x.parts) (h : ¬ ∃ n, Dep xs p.1 n) : ¬ ∃ n, Dep xs c n := fun ⟨n, hn⟩ => by
  obtain ⟨m, hm, _⟩ := hn.edge (⟨x, hx, p.2, hp⟩ : Edge xs c p.1)
  exact h ⟨m, hm⟩
theorem Keeps.untold_upd {xs : List It} {f g : FI} {c : ByteArray} {x : It} {v : Int} (hf : f c = none) (hk : Keeps xs (updI f c v) g) (hx : findI xs c = some x) : untold xs g + 1 ≤ untold xs f := by
  have h1 := hk.less
  have h2 := Proofs.Ytnboigbknadpdaa.untold_upd hf v ⟨x, findI_mem hx, findI_code hx⟩
  omega

/-! ### what is within -/
def Told (f : FI) (s : ByteArray) : Prop := f s ≠ none
/-- What the search leaves: it ends beneath c. -/
structure Fills (xs : List It) (f g : FI) (c : ByteArray) : Prop where
  keep : ∀ s, Told f s → Told g s
  here : Told g c
  from_ : ∀ s, Told g s → Told f s ∨ Reach xs c s
  shut : ∀ s x, ¬ Told f s → Told g s → findI xs s = some x → ∀ p ∈ x.parts, Told g p.1
/-- .. in the midst of c's parts. -/
structure FillsTo (xs : List It) (f g : FI) (c : ByteArray) (ps : List Prt) (k : Nat) : Prop where
  keep : ∀ s, Told f s → Told g s
  here : Told g c
  from_ : ∀ s, Told g s → Told f s ∨ Reach xs c s
  shut : ∀ s x, s ≠ c → ¬ Told f s → Told g s → findI xs s = some x → ∀ p ∈ x.parts, Told g p.1
  part : ∀ i p, i < k → ps[i]? = some p → Told g p.1
theorem told_upd (f : FI) (c s : ByteArray) (v : Int) : Told (updI f c v) s ↔ s = c ∨ Told f s := by
  unfold Told updI
  by_cases h : s = c <;> simp [h]
theorem Fills.seen {xs : List It} {f : FI} {c : ByteArray} (v : Int) (h : Told f c) : Fills xs f (updI f c v) c where
  keep s hs := (told_upd f c s v).2 (.inr hs)
  here := (told_upd f c c v).2 (.inl rfl)
  from_ s hs := by
    rcases (told_upd f c s v).1 hs with rfl | hs
    · exact .inl h
    · exact .inl hs
  shut s x h1 h2 _ p hp := by
    rcases (told_upd f c s v).1 h2 with rfl | h2
    · exact absurd h h1
    · exact absurd h2 h1
theorem FillsTo.zero {xs : List It} {f : FI} {c : ByteArray} (v : Int) (ps : List Prt) : FillsTo xs f (updI f c v) c ps 0 where
  keep s hs := (told_upd f c s v).2 (.inr hs)
  here := (told_upd f c c v).2 (.inl rfl)
  from_ s hs := by
    rcases (told_upd f c s v).1 hs with rfl | hs
    · exact .inr (.refl _)
    · exact .inl hs
  shut s x h0 h1 h2 _ p hp := by
    rcases (told_upd f c s v).1 h2 with rfl | h2
    · exact absurd rfl h0
    · exact absurd h2 h1
  part i p hi := absurd hi (Nat.not_lt_zero _)
theorem FillsTo.succ {xs : List It} {f g h : FI} {c : ByteArray} {x : It} {k : Nat} (hf : FillsTo xs f g c x.parts k) (hx : findI xs c = some x) {p : Prt} (hp : x.parts[k]? = some p) (hg : Fills xs g h p.1) : FillsTo xs f h c x.parts (k + 1) where
  keep s hs := hg.keep s (hf.keep s hs)
  here := hg.keep c hf.here
  from_ s hs := by
    rcases hg.from_ s hs with h1 | h1
    · exact hf.from_ s h1
    · refine .inr (Reach.trans (.step (.refl _) ⟨x, hx, p.2, ?_⟩) h1)
      exact List.mem_of_getElem? hp
  shut s y h0 h1 h2 h3 q hq := by
    by_cases hs : Told g s
    · exact hg.keep _ (hf.shut s y h0 h1 hs h3 q hq)
    · exact hg.shut s y hs h2 h3 q hq
  part i q hi hq := by
    by_cases hik : i = k
    · subst hik
      rw [hp] at hq
      cases hq
      exact hg.here
    · exact hg.keep _ (hf.part i q (by omega) hq)
theorem FillsTo.done {xs : List It} {f g : FI} {c : ByteArray} {x : It} (hf : FillsTo xs f g c x.parts x.parts.length) (hx : findI xs c = some x) : Fills xs f g c where
  keep := hf.keep
  here := hf.here
  from_ := hf.from_
  shut s y h1 h2 h3 q hq := by
    by_cases hs : s = c
    · subst hs
      rw [hx] at h3
      cases h3
      obtain ⟨i, hi, he⟩ := List.getElem_of_mem hq
      exact hf.part i q hi (by rw [List.getElem?_eq_getElem hi, he])
    · exact hf.shut s y hs h1 h2 h3 q hq
theorem Fills.all {xs : List It} {g : FI} {c : ByteArray} (h : Fills xs (fun _ => none) g c) (s : ByteArray) : Told g s ↔ Reach xs c s := by
  constructor
  · intro hs
    rcases h.from_ s hs with h1 | h1
    · exact absurd rfl h1
    · exact h1
  · intro hr
    induction hr with
    | refl => exact h.here
    | step _ he ih =>
      obtain ⟨x, hx, q, hq⟩ := he
      exact h.shut _ x (fun h => h rfl) ih hx _ hq
theorem Fills.untold_le {xs : List It} {f g : FI} {c : ByteArray} (h : Fills xs f g c) : untold xs g ≤ untold xs f := Proofs.Ytnboigbknadpdaa.untold_le h.keep xs
theorem FillsTo.untold_le {xs : List It} {f g : FI} {c : ByteArray} {ps : List Prt} {k : Nat} (h : FillsTo xs f g c ps k) {x : It} (hx : findI xs c = some x) (hf : f c = none) : untold xs g + 1 ≤ untold xs f := by
  have h1 : untold xs g ≤ untold xs (updI f c 0) := Proofs.Ytnboigbknadpdaa.untold_le (fun s hs => by
    rcases (told_upd f c s 0).1 hs with rfl | hs
    · exact h.here
    · exact h.keep s hs) xs
  have h2 := untold_upd hf 0 (xs := xs) ⟨x, findI_mem hx, findI_code hx⟩
  omega
end Go.Proofs.Ytnboigbknadpdaa
