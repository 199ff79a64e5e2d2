/- A list of parts of an input, read. -/
import Derived.Test.YtnboigbknadpdaaOpenGen
import Derived.Test.YtnboigbknadpdaaConcat
import Derived.DataShut
set_option linter.unusedVariables false
set_option linter.unusedSimpArgs false
namespace Go.Proofs.Ytnboigbknadpdaa
set_option maxRecDepth 100000
open Go.RowKit SM Go.ChangeShapes Go.WideShapes

/-- What a list of parts of an input is. -/
def PartsIn (W : World) (v : Value) (l : List Prt) : Prop :=
  ∃ (A : Option Addr) (c : Nat), v = .slice A l.length c ∧ l.length ≤ c ∧ c ≤ maxLen ∧ Rd W A (l.flatMap encP) ∧ l.length * 24 ≤ 140737488351232 ∧ ∀ p ∈ l, p.1.size ≤ 140737488351232 ∧ -9223372036854775808 ≤ p.2 ∧ p.2 ≤ 9223372036854775807
theorem trod_part {H : Type} {enc : TypeId × Value → H} {W : World} {base : Nat} {sp : Nat → Bool} {held : Bool} (fuel : Nat) (cs : List Value) (y : DataW H × List MemPlace)
    (h : DataW.trod enc Try.prog W base sp held fuel 39 cs = some y) (hw : Within Try.prog 39 y.1) (hl : cs.length = 2) :
    ∃ p : Prt, cs = encP p ∧ p.1.size ≤ 140737488351232 ∧ -9223372036854775808 ≤ p.2 ∧ p.2 ≤ 9223372036854775807 := by
  have hf := open_field (Try.underlying39) h hw
  obtain ⟨n0, z0, h0, w0⟩ := hf 0 _ rfl
  obtain ⟨n1, z1, h1, w1⟩ := hf 1 _ rfl
  match cs, hl with
  | [a, b], _ =>
    obtain ⟨s, hs, rfl, _⟩ := DataW.trod_string (Try.underlying9) h0
    obtain ⟨m, hm, rfl, hwf⟩ := DataW.trod_int (Try.underlying2) h1
    have e0 : [a] = [.string s] := hs
    have e1 : [b] = [.int .i64 m] := hm
    cases e0
    cases e1
    refine ⟨(s, m), rfl, ?_, ?_⟩
    · have := w0 s.data.toList.length (by simp [DataW.weights])
      simpa [reachBytes] using this
    · have := (Lit.wf_int_iff .i64 m).1 hwf
      exact this
theorem open_parts {H : Type} {enc : TypeId × Value → H} {W : World} {base : Nat} {sp : Nat → Bool} {held : Bool} {fuel : Nat} {v : Value} {x : DataW H × List MemPlace}
    (h : DataW.trod enc Try.prog W base sp held fuel 29 [v] = some x) (hw : Within Try.prog 29 x.1) : ∃ l, PartsIn W v l := by
  obtain ⟨l, A, c, rfl, h1, h2, h3, h4, h5⟩ := open_els (encA := encP) Try.underlying29 (k := 2) (by kernel_rfl) (by omega) trod_part h hw
  have hb : Try.prog.bytesOf 39 = 24 := by kernel_rfl
  rw [hb] at h5
  exact ⟨l, A, c, rfl, h1, h2, h3, h5, h4⟩
theorem open_t29 {H : Type} {enc : TypeId × Value → H} {W : World} {base : Nat} {sp : Nat → Bool} {held : Bool} {v : Value} {ts : List TypeId} {ds : List (DataW H)} {d : DataW H} {pl : List MemPlace} {j : Nat}
    (hs : (DataW.weightsEach Try.prog ts ds).all (· ≤ reachBytes) = true) (ht : ts[j]? = some 29) (hd : ds[j]? = some d)
    (hv : Value.okWide Try.prog W .any base 29 v) (h : DataW.Trod enc Try.prog W 0 sp held 29 v d pl) : ∃ l, PartsIn W v l := by
  obtain ⟨fuel, hf⟩ := h
  obtain ⟨a, len, cap, rfl⟩ := okWide_slice Try.underlying29 hv
  exact open_parts (x := (d, pl)) (by simpa [Value.cells] using hf) (Within.of_each hs ht hd)
end Go.Proofs.Ytnboigbknadpdaa
