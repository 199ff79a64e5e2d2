/- Slices of an input, read: of whatever elements; what an element is told by is a predicate on its cells. -/
import Derived.Test.YtnboigbknadpdaaHeap
import Derived.Deep.Slices
import Derived.ChangeSlices
import Derived.ChangeArms
import Derived.ProofKit
import Derived.OpenShut
import Derived.SizedLaws
set_option linter.unusedVariables false
set_option linter.unusedSimpArgs false
namespace Go.Proofs.Ytnboigbknadpdaa
set_option maxRecDepth 100000
namespace SM
open Go.RowKit Go.ChangeShapes Go.WideShapes

/-- A datum within reach. -/
def Within {H : Type} (P : Program) (t : TypeId) (d : DataW H) : Prop := ∀ n ∈ d.weights P t, n ≤ reachBytes
theorem Within.of_each {H : Type} {P : Program} {ts : List TypeId} {ds : List (DataW H)} (h : (DataW.weightsEach P ts ds).all (· ≤ reachBytes) = true) {j : Nat} {t : TypeId} {d : DataW H} (ht : ts[j]? = some t) (hd : ds[j]? = some d) : Within P t d := fun n hn => by
  have := List.all_eq_true.1 h n (DataW.weights_mem_each ht hd n hn)
  simpa using this
theorem weightsAll_in {H : Type} {P : Program} {e : TypeId} : ∀ {l : List (DataW H)} {d : DataW H}, d ∈ l → ∀ n ∈ d.weights P e, n ∈ DataW.weightsAll P e l
  | [], _, h, _, _ => by cases h
  | x :: r, d, h, n, hn => by
    simp only [DataW.weightsAll, List.mem_append]
    rcases List.mem_cons.1 h with rfl | h'
    · exact .inl hn
    · exact .inr (weightsAll_in h' n hn)
theorem Within.elem {H : Type} {P : Program} {t e : TypeId} {l sp : List (DataW H)} {d : DataW H} (h : Within P t (.slice l sp)) (ht : P.underlying t = some (.slice e)) (hd : d ∈ l) : Within P e d := fun n hn =>
  h n (by simp only [DataW.weights, ht, List.mem_cons, List.mem_append]; exact .inr (.inl (weightsAll_in hd n hn)))
theorem Within.size {H : Type} {P : Program} {t e : TypeId} {l sp : List (DataW H)} (h : Within P t (.slice l sp)) (ht : P.underlying t = some (.slice e)) : l.length * P.bytesOf e ≤ reachBytes := by
  have := h ((l.length + sp.length) * P.bytesOf e) (by simp only [DataW.weights, ht, List.mem_cons]; exact .inl trivial)
  refine Nat.le_trans (Nat.mul_le_mul_right _ (Nat.le_add_right _ _)) this
theorem Within.field {H : Type} {P : Program} {t : TypeId} {fs : Array Field} {l : List (DataW H)} {j : Nat} {f : Field} {d : DataW H} (h : Within P t (.agg l)) (ht : P.underlying t = some (.struct fs)) (hf : fs[j]? = some f) (hd : l[j]? = some d) : Within P f.type d := fun n hn =>
  h n (by
    simp only [DataW.weights, ht]
    refine DataW.weights_mem_each (j := j) (t := f.type) ?_ hd n hn
    rw [List.getElem?_map, Array.getElem?_toList, hf]; rfl)

theorem addr_plain {w : World} {a : Addr} {u : Value} (h : w.cell? a = some u) : a.spot = none := by
  obtain ⟨b, o, sp⟩ := a
  cases sp with
  | none => rfl
  | some y => unfold World.cell? at h; split at h <;> simp at h

theorem flatten_get {k : Nat} : ∀ {css : List (List Value)} (_ : ∀ cs ∈ css, cs.length = k) {t : Nat} {u : Value}, css.flatten[t]? = some u → ∃ j i cs, css[j]? = some cs ∧ cs[i]? = some u ∧ t = j * k + i ∧ i < k
  | [], _, t, u, h => by simp at h
  | cs :: r, hk, t, u, h => by
    have hc := hk cs (List.mem_cons_self ..)
    rw [List.flatten_cons] at h
    by_cases hlt : t < cs.length
    · rw [List.getElem?_append_left hlt] at h
      exact ⟨0, t, cs, rfl, h, by omega, by omega⟩
    · rw [List.getElem?_append_right (by omega)] at h
      obtain ⟨j, i, cs', h1, h2, h3, h4⟩ := flatten_get (fun x hx => hk x (List.mem_cons_of_mem _ hx)) h
      refine ⟨j + 1, i, cs', h1, h2, ?_, h4⟩
      rw [Nat.add_mul]
      omega

section
variable {H : Type} {enc : TypeId × Value → H} {P : Program} {W : World} {base : Nat} {spare : Nat → Bool} {held : Bool}
/-- A slice, read. Q: what an element's cells are. -/
theorem open_sl {t e : TypeId} {k : Nat} {Q : List Value → Prop} {fuel : Nat} {v : Value} {x : DataW H × List MemPlace} (ht : P.underlying t = some (.slice e)) (hk : P.cellsOf e = k) (h0 : 0 < k)
    (hQ : ∀ fuel cs y, DataW.trod enc P W base spare held fuel e cs = some y → Within P e y.1 → cs.length = k → Q cs)
    (h : DataW.trod enc P W base spare held fuel t [v] = some x) (hw : Within P t x.1) :
    ∃ (css : List (List Value)) (A : Option Addr) (c : Nat), v = .slice A css.length c ∧ css.length ≤ c ∧ c ≤ maxLen ∧ Rd W A css.flatten ∧ (∀ cs ∈ css, cs.length = k ∧ Q cs) ∧ css.length * P.bytesOf e ≤ reachBytes := by
  rcases Go.Deep.open_slice ht h with ⟨hc, _⟩ | ⟨a, len, cap, m, n, D, Pl, hc, hb, hl, hm, hmm, rfl, hi⟩
  · simp only [List.cons.injEq, and_true] at hc
    exact ⟨[], none, 0, hc, Nat.le_refl _, Nat.zero_le _, Rd.nil _ _, (by intro cs hcs; cases hcs), by simp⟩
  · simp only [List.cons.injEq, and_true] at hc
    subst hc
    have hlm : len ≤ m := by rw [hmm]; split <;> omega
    rw [hk] at hi
    obtain ⟨F, hF⟩ := Go.Deep.choose_lt (α := List Value) (p := fun i cs' => W.cells? base (a.add (i * k)) k = some cs' ∧ DataW.trod enc P W base spare held n e cs' = some (D i, Pl i)) (n := len) (fun i him => hi i (by omega))
    have hlen : ∀ cs ∈ (List.range len).map F, cs.length = k := fun cs hcs => by
      obtain ⟨i, hi', rfl⟩ := List.mem_map.1 hcs
      exact (World.cells?_some (hF i (List.mem_range.1 hi')).1).2.1
    refine ⟨(List.range len).map F, some a, cap, by simp, by simpa using hl, hm, ?_, fun cs hcs => ⟨hlen cs hcs, ?_⟩, ?_⟩
    · intro hn
      have hspan : a.spot = none := by
        have hpos : 0 < len := by
          rcases Nat.eq_zero_or_pos len with h | h
          · subst h; exact absurd rfl hn
          · exact h
        obtain ⟨_, h2, h3⟩ := World.cells?_some (hF 0 hpos).1
        have h4 := h3 0 h0
        rw [List.getElem?_eq_getElem (by omega)] at h4
        have h5 := addr_plain h4
        obtain ⟨b, o, sp⟩ := a
        simpa [Addr.add] using h5
      obtain ⟨b, o, sp⟩ := a
      cases hspan
      refine ⟨b, o, rfl, fun tt u hu => ?_⟩
      obtain ⟨j, i, cs, h1, h2, h3, h4⟩ := flatten_get hlen hu
      rw [List.getElem?_map] at h1
      obtain ⟨j', hj, rfl⟩ := Option.map_eq_some_iff.1 h1
      have hjl : j < len := by have := (List.getElem?_eq_some_iff.1 hj).1; simpa using this
      rw [List.getElem?_range hjl] at hj
      injection hj with hj
      subst hj
      obtain ⟨_, h5, h6⟩ := World.cells?_some (hF j hjl).1
      have h7 := h6 i h4
      rw [Addr.add_lit, Addr.add_lit, h2] at h7
      rw [h3, ← Nat.add_assoc]
      exact h7
    · obtain ⟨i, hi', rfl⟩ := List.mem_map.1 hcs
      have hil := List.mem_range.1 hi'
      refine hQ n _ _ (hF i hil).2 (hw.elem ht ?_) (hlen _ hcs)
      exact List.mem_map.2 ⟨i, hi', rfl⟩
    · have := hw.size ht
      simpa using this
/-- .. told by a list of elements. -/
theorem elems_of {α : Type} {encA : α → List Value} {Q : α → Prop} {css : List (List Value)} (h : ∀ cs ∈ css, ∃ x, cs = encA x ∧ Q x) : ∃ xs : List α, css = xs.map encA ∧ ∀ x ∈ xs, Q x := by
  induction css with
  | nil => exact ⟨[], rfl, by simp⟩
  | cons c r ih =>
    obtain ⟨x, rfl, hx⟩ := h c (List.mem_cons_self ..)
    obtain ⟨xs, rfl, hxs⟩ := ih fun cs hcs => h cs (List.mem_cons_of_mem _ hcs)
    exact ⟨x :: xs, rfl, fun y hy => by rcases List.mem_cons.1 hy with rfl | h'; · exact hx
                                        · exact hxs y h'⟩
theorem open_els {α : Type} {encA : α → List Value} {Q : α → Prop} {t e : TypeId} {k : Nat} {fuel : Nat} {v : Value} {x : DataW H × List MemPlace} (ht : P.underlying t = some (.slice e)) (hk : P.cellsOf e = k) (h0 : 0 < k)
    (hQ : ∀ fuel cs y, DataW.trod enc P W base spare held fuel e cs = some y → Within P e y.1 → cs.length = k → ∃ x, cs = encA x ∧ Q x)
    (h : DataW.trod enc P W base spare held fuel t [v] = some x) (hw : Within P t x.1) :
    ∃ (l : List α) (A : Option Addr) (c : Nat), v = .slice A l.length c ∧ l.length ≤ c ∧ c ≤ maxLen ∧ Rd W A (l.flatMap encA) ∧ (∀ x ∈ l, Q x) ∧ l.length * P.bytesOf e ≤ reachBytes := by
  obtain ⟨css, A, c, rfl, h1, h2, h3, h4, h5⟩ := open_sl (Q := fun cs => ∃ x, cs = encA x ∧ Q x) ht hk h0 hQ h hw
  obtain ⟨xs, rfl, hxs⟩ := elems_of fun cs hcs => (h4 cs hcs).2
  rw [List.length_map] at *
  exact ⟨xs, A, c, rfl, h1, h2, by rw [List.flatMap_def]; exact h3, hxs, h5⟩
/-- A struct's field, read. -/
theorem open_field {t : TypeId} {fs : Array Field} {fuel : Nat} {cs : List Value} {y : DataW H × List MemPlace} (ht : P.underlying t = some (.struct fs)) (h : DataW.trod enc P W base spare held fuel t cs = some y) (hw : Within P t y.1) :
    ∀ (j : Nat) (f : Field), fs[j]? = some f → ∃ (n : Nat) (z : DataW H × List MemPlace), DataW.trod enc P W base spare held n f.type ((cs.drop f.offset).take (P.cellsOf f.type)) = some z ∧ Within P f.type z.1 := by
  obtain ⟨xs, n, _, rfl, _, hlen, hf⟩ := DataW.trod_struct ht h
  intro j f hj
  have hjl : j < fs.size := (Array.getElem?_eq_some_iff.1 hj).1
  have h1 := hf j f hj
  rw [List.getElem?_eq_getElem (by omega)] at h1
  exact ⟨n, _, h1, hw.field ht hj (by rw [List.getElem?_map, List.getElem?_eq_getElem (by omega)]; rfl)⟩
end
end SM
end Go.Proofs.Ytnboigbknadpdaa
