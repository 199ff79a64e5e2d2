/- A list of items of an input, read. -/
import Derived.Test.YtnboigbknadpdaaOpenGen
import Derived.Test.YtnboigbknadpdaaOpenParts
import Derived.Test.YtnboigbknadpdaaItems
import Derived.DataShut
set_option linter.unusedVariables false
set_option linter.unusedSimpArgs false
namespace Go.Proofs.Ytnboigbknadpdaa
set_option maxRecDepth 100000
open Go.RowKit SM Go.ChangeShapes Go.WideShapes
/-- What a list of texts of an input is. -/
def TextsIn (W : World) (v : Value) (l : List ByteArray) : Prop :=
  ∃ (A : Option Addr) (c : Nat), v = .slice A l.length c ∧ l.length ≤ c ∧ c ≤ maxLen ∧ Rd W A (l.flatMap encS) ∧ l.length * 16 ≤ 140737488351232 ∧ ∀ s ∈ l, s.size ≤ 140737488351232
theorem trod_text {H : Type} {enc : TypeId × Value → H} {W : World} {base : Nat} {sp : Nat → Bool} {held : Bool} (fuel : Nat) (cs : List Value) (y : DataW H × List MemPlace)
    (h : DataW.trod enc Try.prog W base sp held fuel 9 cs = some y) (hw : Within Try.prog 9 y.1) (hl : cs.length = 1) : ∃ s : ByteArray, cs = encS s ∧ s.size ≤ 140737488351232 := by
  match cs, hl with
  | [a], _ =>
    obtain ⟨s, hs, rfl, _⟩ := DataW.trod_string (Try.underlying9) h
    have e0 : [a] = [.string s] := hs
    cases e0
    refine ⟨s, rfl, ?_⟩
    have := hw s.data.toList.length (by simp [DataW.weights])
    simpa [reachBytes] using this
theorem open_texts {H : Type} {enc : TypeId × Value → H} {W : World} {base : Nat} {sp : Nat → Bool} {held : Bool} {fuel : Nat} {v : Value} {x : DataW H × List MemPlace}
    (h : DataW.trod enc Try.prog W base sp held fuel 30 [v] = some x) (hw : Within Try.prog 30 x.1) : ∃ l, TextsIn W v l := by
  obtain ⟨l, A, c, rfl, h1, h2, h3, h4, h5⟩ := open_els (encA := encS) Try.underlying30 (k := 1) (by kernel_rfl) (by omega) trod_text h hw
  have hb : Try.prog.bytesOf 9 = 16 := by kernel_rfl
  rw [hb] at h5
  exact ⟨l, A, c, rfl, h1, h2, h3, h5, h4⟩
/-- An item of an input. -/
def ItemIn (W : World) (x : Iv) : Prop := ItemAt W x ∧ (-9223372036854775808 ≤ x.it.life ∧ x.it.life ≤ 9223372036854775807) ∧ x.it.code.size ≤ 140737488351232 ∧ x.it.parts.length * 24 ≤ 140737488351232 ∧ x.it.others.length * 16 ≤ 140737488351232 ∧
  (∀ p ∈ x.it.parts, p.1.size ≤ 140737488351232 ∧ -9223372036854775808 ≤ p.2 ∧ p.2 ≤ 9223372036854775807) ∧ ∀ s ∈ x.it.others, s.size ≤ 140737488351232
def ItemsIn (W : World) (v : Value) (l : List Iv) : Prop :=
  ∃ (A : Option Addr) (c : Nat), v = .slice A l.length c ∧ l.length ≤ c ∧ c ≤ maxLen ∧ Rd W A (l.flatMap encIv) ∧ l.length * 72 ≤ 140737488351232 ∧ ∀ x ∈ l, ItemIn W x
theorem trod_item {H : Type} {enc : TypeId × Value → H} {W : World} {base : Nat} {sp : Nat → Bool} {held : Bool} (fuel : Nat) (cs : List Value) (y : DataW H × List MemPlace)
    (h : DataW.trod enc Try.prog W base sp held fuel 32 cs = some y) (hw : Within Try.prog 32 y.1) (hl : cs.length = 4) : ∃ x : Iv, cs = encIv x ∧ ItemIn W x := by
  have hf := open_field (Try.underlying32) h hw
  obtain ⟨n0, z0, h0, w0⟩ := hf 0 _ rfl
  obtain ⟨n1, z1, h1, w1⟩ := hf 1 _ rfl
  obtain ⟨n2, z2, h2, w2⟩ := hf 2 _ rfl
  obtain ⟨n3, z3, h3, w3⟩ := hf 3 _ rfl
  match cs, hl with
  | [a, b, c, d], _ =>
    obtain ⟨s, hs, rfl, _⟩ := DataW.trod_string (Try.underlying9) h0
    obtain ⟨m, hm, rfl, hwf⟩ := DataW.trod_int (Try.underlying3) h1
    have e0 : [a] = [.string s] := hs
    have e1 : [b] = [.int .i64 m] := hm
    cases e0
    cases e1
    have h2' : DataW.trod enc Try.prog W base sp held n2 29 [c] = some z2 := h2
    have h3' : DataW.trod enc Try.prog W base sp held n3 30 [d] = some z3 := h3
    obtain ⟨ps, pA, pc, rfl, p1, p2, p3, p4, p5⟩ := open_parts h2' w2
    obtain ⟨ot, oA, oc, rfl, o1, o2, o3, o4, o5⟩ := open_texts h3' w3
    refine ⟨⟨⟨s, m, ps, ot⟩, pA, pc, oA, oc⟩, rfl, ⟨p1, p2, p3, o1, o2, o3⟩, (Lit.wf_int_iff .i64 m).1 hwf, ?_, p4, o4, p5, o5⟩
    have := w0 s.data.toList.length (by simp [DataW.weights])
    simpa [reachBytes] using this
theorem open_items {H : Type} {enc : TypeId × Value → H} {W : World} {base : Nat} {sp : Nat → Bool} {held : Bool} {fuel : Nat} {v : Value} {x : DataW H × List MemPlace}
    (h : DataW.trod enc Try.prog W base sp held fuel 22 [v] = some x) (hw : Within Try.prog 22 x.1) : ∃ l, ItemsIn W v l := by
  obtain ⟨l, A, c, rfl, h1, h2, h3, h4, h5⟩ := open_els (encA := encIv) Try.underlying22 (k := 4) (by kernel_rfl) (by omega) trod_item h hw
  have hb : Try.prog.bytesOf 32 = 72 := by kernel_rfl
  rw [hb] at h5
  exact ⟨l, A, c, rfl, h1, h2, h3, h5, h4⟩
theorem open_t22 {H : Type} {enc : TypeId × Value → H} {W : World} {base : Nat} {sp : Nat → Bool} {held : Bool} {v : Value} {ts : List TypeId} {ds : List (DataW H)} {d : DataW H} {pl : List MemPlace} {j : Nat}
    (hs : (DataW.weightsEach Try.prog ts ds).all (· ≤ reachBytes) = true) (ht : ts[j]? = some 22) (hd : ds[j]? = some d)
    (hv : Value.okWide Try.prog W .any base 22 v) (h : DataW.Trod enc Try.prog W 0 sp held 22 v d pl) : ∃ l, ItemsIn W v l := by
  obtain ⟨fuel, hf⟩ := h
  obtain ⟨a, len, cap, rfl⟩ := okWide_slice Try.underlying22 hv
  exact open_items (x := (d, pl)) (by simpa [Value.cells] using hf) (Within.of_each hs ht hd)
theorem ItemsIn.at {W : World} {v : Value} {l : List Iv} (h : ItemsIn W v l) : ∃ A c, v = .slice A l.length c ∧ l.length ≤ c ∧ c ≤ maxLen ∧ ItemsAt W A l ∧
    ∀ x ∈ l, x.it.code.size ≤ 281474976710656 ∧ x.it.parts.length ≤ 281474976710656 ∧ x.it.others.length ≤ 281474976710656 ∧ ∀ p ∈ x.it.parts, p.1.size ≤ 281474976710656 := by
  obtain ⟨A, c, rfl, h1, h2, h3, h4, h5⟩ := h
  refine ⟨A, c, rfl, h1, h2, ⟨h3, fun x hx => (h5 x hx).1⟩, fun x hx => ?_⟩
  obtain ⟨_, _, a1, a2, a3, a4, _⟩ := h5 x hx
  exact ⟨by omega, by omega, by omega, fun p hp => by have := (a4 p hp).1; omega⟩
end Go.Proofs.Ytnboigbknadpdaa
