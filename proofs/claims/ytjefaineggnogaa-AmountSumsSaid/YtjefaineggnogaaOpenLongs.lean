/- A list of long numbers of an input, read. -/
import Derived.Test.YtjefaineggnogaaWalkSums
import Derived.ChangeSlices
import Derived.WalkKit
import Derived.ProofKit
import Derived.OpenShut
import Derived.SizedLaws
namespace Go.Proofs.Ytjefaineggnogaa
open Go.RowKit SM Go.ChangeShapes Go.WideShapes
set_option linter.unusedVariables false

theorem open_longs {H : Type} {enc : TypeId × Value → H} {W : World} {base : Nat} {sp : Nat → Bool} {held : Bool} {v : Value} {x : DataW H × List MemPlace}
    (hv : Value.okWide Try.prog W .any base 27 v) (h : ∃ fuel, DataW.trod enc Try.prog W 0 sp held fuel 27 v.cells.toList = some x) :
    ∃ (l : List Int) (A : Option Addr) (c : Nat), v = .slice A l.length c ∧ l.length ≤ c ∧ c ≤ maxLen ∧ Rd W A (l.flatMap encI) := by
  obtain ⟨a, len, cap, rfl⟩ := okWide_slice Try.underlying27 hv
  obtain ⟨fuel, hf⟩ := h
  rcases open_ints Try.underlying27 Try.underlying2 (by kernel_rfl) hf with ⟨hcs, _⟩ | ⟨x, l, c, zs, hcs, _, hl, hm, hz, _, hcell, hwz⟩
  · simp [Value.cells] at hcs
    obtain ⟨rfl, rfl, rfl⟩ := hcs
    exact ⟨[], none, 0, rfl, Nat.le_refl _, Nat.zero_le _, Rd.nil _ _⟩
  · simp [Value.cells] at hcs
    obtain ⟨rfl, rfl, rfl⟩ := hcs
    have hle : len ≤ zs.length := by rw [hz]; split <;> omega
    refine ⟨zs.take len, some x, cap, by rw [List.length_take, Nat.min_eq_left hle], by rw [List.length_take]; omega, hm, fun hn => ?_⟩
    have hpos : 0 < zs.length := by
      rcases Nat.eq_zero_or_pos zs.length with h0 | h0
      · exact absurd (by rw [List.eq_nil_of_length_eq_zero h0]; simp) hn
      · exact h0
    obtain ⟨b, o, sp⟩ := x
    have h0 := hcell 0 hpos
    have : sp = none := by
      cases sp with
      | none => rfl
      | some y =>
        exfalso
        unfold Addr.add World.cell? at h0
        simp only [if_pos] at h0
        split at h0 <;> simp at h0
    subst this
    refine ⟨b, o, rfl, fun j u hu => ?_⟩
    have e : (zs.take len).flatMap encI = (zs.take len).map (Value.int .i64) := by
      generalize zs.take len = q
      induction q with
      | nil => rfl
      | cons a r ih => simp only [List.flatMap_cons, List.map_cons, ih]; rfl
    rw [e, List.getElem?_map, Option.map_eq_some_iff] at hu
    obtain ⟨n, hn1, rfl⟩ := hu
    rw [List.getElem?_take] at hn1
    split at hn1
    · have hj : j < zs.length := (List.getElem?_eq_some_iff.1 hn1).1
      have := hcell j hj
      rw [List.getD, hn1] at this
      rwa [Addr.add_lit] at this
    · cases hn1
theorem open_t27 {H : Type} {enc : TypeId × Value → H} {W : World} {base : Nat} {sp : Nat → Bool} {held : Bool} {v : Value} {ts : List TypeId} {ds : List (DataW H)} {d : DataW H} {pl : List MemPlace} {j : Nat}
    (hs : (DataW.weightsEach Try.prog ts ds).all (· ≤ reachBytes) = true) (_ : ts[j]? = some 27) (_ : ds[j]? = some d)
    (hv : Value.okWide Try.prog W .any base 27 v) (h : DataW.Trod enc Try.prog W 0 sp held 27 v d pl) :
    ∃ (l : List Int) (A : Option Addr) (c : Nat), v = .slice A l.length c ∧ l.length ≤ c ∧ c ≤ maxLen ∧ Rd W A (l.flatMap encI) := open_longs hv h
theorem sums_walk (W : World) (v : Value) (h : ∃ (l : List Int) (A : Option Addr) (c : Nat), v = .slice A l.length c ∧ l.length ≤ c ∧ c ≤ maxLen ∧ Rd W A (l.flatMap encI)) :
    Calls Try.prog 4 #[v] W fun e w' => e = .returned (.bool true) ∧ Below W.heap.size W w' := by
  obtain ⟨l, A, c, rfl, h1, h2, h3⟩ := h
  exact sums_any l A c W h1 h2 h3
end Go.Proofs.Ytjefaineggnogaa
