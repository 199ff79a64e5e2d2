/- A row that a call owns, behind the library's sort: it owns the sorted list. -/
import Derived.Shelf.SlSortCmp.NoneTotal
import Derived.Test.YtnboigbknadpdaaHeap
set_option linter.unusedVariables false
set_option linter.unusedSimpArgs false
namespace Go.Proofs.Ytnboigbknadpdaa
set_option maxRecDepth 100000
namespace SM
open Go.RowKit Go.Sort
variable {α : Type} [Inhabited α] {enc : α → List Value} {k : Nat}

theorem flatK_list (hk : ∀ x, (enc x).length = k) (h0 : 0 < k) (xs : List α) : (flatK enc k xs.toArray).toList = xs.flatMap enc := by
  apply List.ext_getElem
  · rw [Array.length_toList, size_flatK, flat_length hk]; simp
  · intro t h1 h2
    have ht : t < xs.length * k := by rw [Array.length_toList, size_flatK] at h1; simpa using h1
    have hj : t / k < xs.length := Nat.div_lt_of_lt_mul (by rw [Nat.mul_comm]; exact ht)
    have hi : t % k < k := Nat.mod_lt _ h0
    have e0 : (flatK enc k xs.toArray).toList[t] = (flatK enc k xs.toArray)[t]! := by
      rw [Array.getElem_toList]
      exact (getElem!_pos _ _ _).symm
    rw [e0, get_flatK _ _ _ _ (by simpa using ht)]
    have hx : xs.toArray[t / k]! = xs[t / k] := by
      rw [getElem!_pos xs.toArray (t / k) (by simpa using hj)]; simp
    rw [hx]
    have hu : (enc xs[t / k])[t % k]? = some (enc xs[t / k])[t % k]! := by
      rw [getElem!_pos (enc xs[t / k]) (t % k) (by rw [hk]; exact hi)]
      exact List.getElem?_eq_getElem _
    have := flat_get hk xs (t / k) xs[t / k] (List.getElem?_eq_getElem hj) (t % k) _ hu
    have e2 : t / k * k + t % k = t := by rw [Nat.mul_comm]; exact Nat.div_add_mod t k
    rw [e2] at this
    rw [List.getElem?_eq_getElem h2] at this
    injection this with this
    exact this.symm

theorem holdsK_of_block (hk : ∀ x, (enc x).length = k) (h0 : 0 < k) {w : World} {g n : Nat} {cur : Array Value} {e : TypeId} {xs : List α} (hb : w.heap[g]? = some (.cells cur e (0, 0)))
    (hn : xs.length = n) (ht : cur.toList.take (n * k) = xs.flatMap enc) : HoldsK enc k w g 0 xs.toArray := by
  intro j hj
  have hj' : j < n * k := by rw [size_flatK] at hj; rw [← hn]; simpa using hj
  refine ⟨?_, by simp [World.frozen?, hb]⟩
  have e1 := flatK_list hk h0 xs
  have h1 : (cur.toList.take (n * k))[j]? = (flatK enc k xs.toArray).toList[j]? := by rw [ht, e1]
  rw [List.getElem?_take_of_lt hj'] at h1
  simp only [World.cell?, hb, Nat.zero_add]
  simp only [Option.isSome_none, Bool.false_eq_true, if_false]
  rw [← Array.getElem?_toList, h1, Array.getElem?_toList, Array.getElem?_eq_getElem hj]
  exact congrArg some (getElem!_pos _ _ _).symm

theorem heap_sortedK {w : World} {g n : Nat} {os : Array Obj} {cur : Array Value} {e : TypeId} {fr : Nat × Nat} (d : Array α) (hb : w.heap[g]? = some (.cells cur e fr)) :
    (sortWorldK enc k w g 0 n d os).heap[g]? = some (.cells (putCells id 0 (flatK enc k d) cur) e fr) := by
  have hg : g < w.heap.size := (Array.getElem?_eq_some_iff.1 hb).1
  unfold sortWorldK
  rw [heap_grow_old _ _ (by simpa [putRowK] using hg)]
  simp [putRowK, putRow, mapBlock, Sort.ahead, Array.getElem?_modify, hb, onCells]
theorem grownBy_sortedK {w : World} {g n : Nat} {os : Array Obj} (d : Array α) : w.grownBy (sortWorldK enc k w g 0 n d os) (some g) := by
  unfold sortWorldK
  refine ⟨rfl, rfl, rfl, by simp [putRowK], fun j hj hne => ?_⟩
  rw [heap_grow_old _ _ (by simpa [putRowK] using hj)]
  have : g ≠ j := fun e => hne (by rw [e])
  simp [putRowK, putRow, mapBlock, Sort.ahead, Array.getElem?_modify, this]
theorem take_putCellsId (cur F : Array Value) (h : F.size ≤ cur.size) : (putCells id 0 F cur).toList.take F.size = F.toList := by
  apply List.ext_getElem?
  intro j
  by_cases hj : j < F.size
  · rw [List.getElem?_take_of_lt hj, Array.getElem?_toList, Array.getElem?_toList]
    simp [putCells, hj, show j < cur.size by omega]
  · rw [List.getElem?_take_eq_none (by omega), List.getElem?_eq_none (by simp; omega)]
/-- BEHIND THE SORT the same slice owns the sorted list. -/
theorem own_sortedK (hk : ∀ x, (enc x).length = k) (h0 : 0 < k) {w : World} {base g cap n m : Nat} {e : TypeId} {os : Array Obj} {cur : Array Value} {ys : List α} (hl : ys.length = n) (hbase : base ≤ g) (hb : w.heap[g]? = some (.cells cur e (0, 0)))
    (h1 : n ≤ cap) (h2 : cap ≤ maxLen) (h3 : cur.size = cap * k) :
    (sortWorldK enc k w g 0 m ys.toArray os).ownsRow base e k (.slice (some ⟨g, 0, none⟩) n cap) n (ys.flatMap enc) := by
  have hs : (flatK enc k ys.toArray).size = n * k := by rw [size_flatK]; simp [hl]
  refine ⟨by rw [flat_length hk, hl], .inr ⟨g, cap, _, rfl, hbase, heap_sortedK _ hb, h1, h2, by simp [putCells, h3], ?_⟩⟩
  have := take_putCellsId cur (flatK enc k ys.toArray) (by rw [hs, h3]; exact Nat.mul_le_mul_right _ h1)
  rw [hs] at this
  rw [this, flatK_list hk h0]
end SM
end Go.Proofs.Ytnboigbknadpdaa
