/- Parts of a slice. -/
import Derived.Test.YtjefaineggnogaaGreatConcat
import Derived.Test.YtjefaineggnogaaGreatRows2
set_option linter.unusedVariables false
set_option linter.unusedSimpArgs false
namespace Go.Proofs.YtjefaineggnogaaGreat
set_option maxRecDepth 100000
open Go.RowKit SM

/-- l[k:]. -/
theorem slice_from (l : List Prt) (A : Option Addr) (c k : Nat) (w : World) (hk : k ≤ l.length) (hc : l.length ≤ c) (hm : c ≤ maxLen) (hA : Rd w A (l.flatMap encP)) :
    ∃ A2, (∀ W, (Instr.slice 22 (.slice A l.length c) (some (.int .i64 k)) none none).run Tryz.prog W = .ok (.slice A2 (l.length - k) (c - k)) W) ∧ Sl w 2 (.slice A2 (l.length - k) (c - k)) (l.drop k).length ((l.drop k).flatMap encP) := by
  refine ⟨if c = k then A else A.map (·.add (k * 2)), fun W => ?_, ?_⟩
  · rw [run_slice_l W 22 A l.length c Tryz.underlying22 .i64 k (by omega) (by omega)]
    rw [show Tryz.prog.elem 22 = 38 by kernel_rfl, Tryz.sizeOf38]
    simp only [Result.andThen_ok, sliced, Int.toNat_natCast]
  · refine ⟨flat_length encP_len _, _, _, by rw [List.length_drop], by rw [List.length_drop]; omega, by omega, ?_⟩
    split
    · rename_i h
      rw [List.drop_eq_nil_of_le (by omega)]
      exact Rd.nil _ _
    · intro hn
      have hn' : l.flatMap encP ≠ [] := by
        intro h; rw [flat_drop encP_len, h] at hn; simp at hn
      obtain ⟨b, o, rfl, hcell⟩ := hA hn'
      refine ⟨b, o + k * 2, by simp [Addr.add_lit], fun j u hu => ?_⟩
      rw [flat_drop encP_len, List.getElem?_drop] at hu
      have := hcell _ _ hu
      rwa [← Nat.add_assoc] at this
/-- l[:k]. -/
theorem slice_upto (l : List Prt) (A : Option Addr) (c k : Nat) (w : World) (hk : k ≤ l.length) (hc : l.length ≤ c) (hm : c ≤ maxLen) (hA : Rd w A (l.flatMap encP)) :
    ∃ A2, (∀ W, (Instr.slice 22 (.slice A l.length c) none (some (.int .i64 k)) none).run Tryz.prog W = .ok (.slice A2 k c) W) ∧ Sl w 2 (.slice A2 k c) (l.take k).length ((l.take k).flatMap encP) := by
  refine ⟨if c = 0 then A else A.map (·.add 0), fun W => ?_, ?_⟩
  · rw [run_slice_h W 22 A l.length c Tryz.underlying22 .i64 k (by omega) (by omega)]
    rw [show Tryz.prog.elem 22 = 38 by kernel_rfl, Tryz.sizeOf38]
    simp only [Result.andThen_ok, sliced, Int.toNat_natCast, Nat.zero_mul, Nat.sub_zero]
  · refine ⟨flat_length encP_len _, _, _, by rw [List.length_take, Nat.min_eq_left hk], by rw [List.length_take]; omega, by omega, ?_⟩
    intro hn
    have hn' : l.flatMap encP ≠ [] := by
      intro h; rw [flat_take encP_len, h] at hn; simp at hn
    obtain ⟨b, o, rfl, hcell⟩ := hA hn'
    refine ⟨b, o, by split <;> simp [Addr.add], fun j u hu => ?_⟩
    rw [flat_take encP_len, List.getElem?_take] at hu
    split at hu
    · exact hcell _ _ hu
    · cases hu
end Go.Proofs.YtjefaineggnogaaGreat
