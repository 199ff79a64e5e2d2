/- kit.Check, kit.Deep. -/
import Derived.Test.YtnboigbknadpdaaCheck
set_option linter.unusedVariables false
set_option linter.unusedSimpArgs false
namespace Go.Proofs.Ytnboigbknadpdaa
set_option maxRecDepth 100000
open Go.RowKit SM
theorem depF_getD (xs : List It) (c : ByteArray) : (depF xs c).getD 0 = (depI xs c : Nat) := by
  unfold depF
  by_cases h : depI xs c = 0
  · rw [if_pos h, h]; rfl
  · rw [if_neg h]; rfl
theorem kitCheck_any (l : List Iv) (A : Option Addr) (c : Nat) (w : World) (hc : l.length ≤ c) (hm : c ≤ maxLen) (hA : ItemsAt w A l) (hS : SizesOk l) (hP : ∀ x ∈ l, x.it.parts.length ≤ 1000000) :
    Calls Try.prog 9 #[.slice A l.length c] w fun e w' => e = .returned (.int .i64 (checkE (itsOf l) : Nat)) ∧ Below w.heap.size w w' := by
  have hck := check_any l A c w hc hm hA hS hP
  have hck2 : Calls Try.prog 26 #[.slice A l.length c] w fun e w' => ∃ u v : Value, e = .returned (.tuple #[u, v, .int .i64 (checkE (itsOf l) : Nat)]) ∧ Hid (Below w.heap.size w w') := by
    refine hck.mono fun e w' ⟨hB, h⟩ => ?_
    rcases h with ⟨h0, ma, mo, na, m, rfl, _⟩ | ⟨h0, rfl⟩
    · rw [h0]; exact ⟨_, _, rfl, hB⟩
    · exact ⟨_, _, rfl, hB⟩
  have HCK := Lib.hid hck2
  clear hck hck2 hA hS hP
  generalize checkE (itsOf l) = d at HCK
  go_enter Try.func9, Try.ntmps9
  go_wp2_with (go_at_call 26; (with_reducible refine HCK.out.mono ?_); rintro e w' ⟨u, v, rfl, HB⟩)
  go_ret
  exact ⟨rfl, HB.out⟩
/-- How deep an item is, of sound ones; 0 else. -/
def deepE (xs : List It) (c : ByteArray) : Nat := if checkE xs = 0 then depI xs c else 0
theorem kitDeep_any (l : List Iv) (A : Option Addr) (n : Nat) (c : ByteArray) (w : World) (hc : l.length ≤ n) (hm : n ≤ maxLen) (hA : ItemsAt w A l) (hS : SizesOk l) (hP : ∀ x ∈ l, x.it.parts.length ≤ 1000000) (hcs : c.size ≤ 140737488355328) :
    Calls Try.prog 18 #[.slice A l.length n, .string c] w fun e w' => e = .returned (.int .i64 (deepE (itsOf l) c : Nat)) ∧ Below w.heap.size w w' := by
  have hck := check_any l A n w hc hm hA hS hP
  have hck2 : Calls Try.prog 26 #[.slice A l.length n] w fun e w' => (∃ (u : Value) (mo : Nat), e = .returned (.tuple #[u, .map (some mo), .int .i64 0]) ∧ Hid (Below w.heap.size w w') ∧
      (Instr.lookup 55 (.map (some mo)) (.string c) false).run Try.prog w' = .ok (.int .i64 (deepE (itsOf l) c : Nat)) w') ∨
      (∃ d : Nat, e = .returned (.tuple #[.map none, .map none, .int .i64 (d : Nat)]) ∧ (((d : Int) != 0) = true) ∧ Hid (Below w.heap.size w w') ∧ Hid (deepE (itsOf l) c = 0)) := by
    refine hck.mono fun e w' ⟨hB, h⟩ => ?_
    rcases h with ⟨h0, ma, mo, na, m, rfl, _, _, _, hM⟩ | ⟨h0, rfl⟩
    · refine .inl ⟨_, mo, rfl, hB, ?_⟩
      have h := hM.look false Try.underlying55 (zeroInt0 _) (x := c) (by show c.size ≤ maxLen; unfold maxLen; omega)
      rw [asI_getD, depF_getD] at h
      unfold deepE
      rw [if_pos h0]
      exact h
    · refine .inr ⟨_, rfl, by rw [bne_iff_ne]; omega, hB, ?_⟩
      unfold deepE
      rw [if_neg h0]; exact rfl
  have HCK := Lib.hid hck2
  clear hck hck2 hA hS hP
  generalize deepE (itsOf l) c = r at HCK
  go_enter Try.func18, Try.ntmps18
  go_wp2_with (go_at_call 26; (with_reducible refine HCK.out.mono ?_); rintro e w' (⟨u, mo, rfl, HB, hl⟩ | ⟨d, rfl, hd, HB, HZ⟩))
  · go_ret
    exact ⟨rfl, HB.out⟩
  · go_ret
    exact ⟨by rw [HZ.out]; exact rfl, HB.out⟩
end Go.Proofs.Ytnboigbknadpdaa
