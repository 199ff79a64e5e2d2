/- Parts of a slice. -/
import Derived.Test.YtjefaineggnogaaConcat
set_option linter.unusedVariables false
set_option linter.unusedSimpArgs false
namespace Go.Proofs.Ytjefaineggnogaa
open Go.RowKit SM

theorem flat_drop {α : Type} {enc : α → List Value} {k : Nat} (hk : ∀ x, (enc x).length = k) : ∀ (l : List α) (n : Nat), (l.drop n).flatMap enc = (l.flatMap enc).drop (n * k)
  | [], n => by simp
  | x :: r, 0 => by simp
  | x :: r, n + 1 => by
    have e : (enc x).drop ((n + 1) * k) = [] := List.drop_eq_nil_of_le (by rw [hk, Nat.add_mul]; omega)
    rw [List.drop_succ_cons, flat_drop hk r n, List.flatMap_cons, List.drop_append, hk, e, List.nil_append]
    congr 1
    rw [Nat.add_mul]; omega
theorem flat_take {α : Type} {enc : α → List Value} {k : Nat} (hk : ∀ x, (enc x).length = k) : ∀ (l : List α) (n : Nat), (l.take n).flatMap enc = (l.flatMap enc).take (n * k)
  | [], n => by simp
  | x :: r, 0 => by simp
  | x :: r, n + 1 => by
    rw [List.take_succ_cons, List.flatMap_cons, flat_take hk r n, List.flatMap_cons, List.take_append, hk, List.take_of_length_le (l := enc x) (by rw [hk, Nat.add_mul]; omega)]
    congr 2
    rw [Nat.add_mul]; omega

/-- l[k:]. -/
theorem slice_from (l : List Prt) (A : Option Addr) (c k : Nat) (w : World) (hk : k ≤ l.length) (hc : l.length ≤ c) (hm : c ≤ maxLen) (hA : Rd w A (l.flatMap encP)) :
    ∃ A2, (∀ W, (Instr.slice 34 (.slice A l.length c) (some (.int .i64 k)) none none).run Try.prog W = .ok (.slice A2 (l.length - k) (c - k)) W) ∧ Sl w 2 (.slice A2 (l.length - k) (c - k)) (l.drop k).length ((l.drop k).flatMap encP) := by
  refine ⟨if c = k then A else A.map (·.add (k * 2)), fun W => ?_, ?_⟩
  · rw [run_slice_l W 34 A l.length c Try.underlying34 .i64 k (by omega) (by omega)]
    rw [show Try.prog.elem 34 = 41 by kernel_rfl, Try.sizeOf41]
    simp only [Result.andThen_ok, sliced, Int.toNat_natCast]
  · refine ⟨flat_length encP_len _, _, _, by rw [List.length_drop], by rw [List.length_drop]; omega, by omega, ?_⟩
    split
    · rename_i h
      rw [List.drop_eq_nil_of_le (by omega)]
      exact Rd.nil _ _
    · intro hn
      have hn' : l.flatMap encP ≠ [] := by
        intro h; rw [flat_drop encP_len, h] at hn; simp at hn
      obtain ⟨b, o, rfl, hcell⟩ := hA hn'
      refine ⟨b, o + k * 2, by simp [Addr.add_lit], fun j u hu => ?_⟩
      rw [flat_drop encP_len, List.getElem?_drop] at hu
      have := hcell _ _ hu
      rwa [← Nat.add_assoc] at this
/-- l[:k]. -/
theorem slice_upto (l : List Prt) (A : Option Addr) (c k : Nat) (w : World) (hk : k ≤ l.length) (hc : l.length ≤ c) (hm : c ≤ maxLen) (hA : Rd w A (l.flatMap encP)) :
    ∃ A2, (∀ W, (Instr.slice 34 (.slice A l.length c) none (some (.int .i64 k)) none).run Try.prog W = .ok (.slice A2 k c) W) ∧ Sl w 2 (.slice A2 k c) (l.take k).length ((l.take k).flatMap encP) := by
  refine ⟨if c = 0 then A else A.map (·.add 0), fun W => ?_, ?_⟩
  · rw [run_slice_h W 34 A l.length c Try.underlying34 .i64 k (by omega) (by omega)]
    rw [show Try.prog.elem 34 = 41 by kernel_rfl, Try.sizeOf41]
    simp only [Result.andThen_ok, sliced, Int.toNat_natCast, Nat.zero_mul, Nat.sub_zero]
  · refine ⟨flat_length encP_len _, _, _, by rw [List.length_take, Nat.min_eq_left hk], by rw [List.length_take]; omega, by omega, ?_⟩
    intro hn
    have hn' : l.flatMap encP ≠ [] := by
      intro h; rw [flat_take encP_len, h] at hn; simp at hn
    obtain ⟨b, o, rfl, hcell⟩ := hA hn'
    refine ⟨b, o, by split <;> simp [Addr.add], fun j u hu => ?_⟩
    rw [flat_take encP_len, List.getElem?_take] at hu
    split at hu
    · exact hcell _ _ hu
    · cases hu
end Go.Proofs.Ytjefaineggnogaa
