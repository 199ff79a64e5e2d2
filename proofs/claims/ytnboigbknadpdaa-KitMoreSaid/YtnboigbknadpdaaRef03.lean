/- storemanref03.Right: whether a text is a code, as the document says. -/
import Derived.Test.YtnboigbknadpdaaCode
set_option linter.unusedVariables false
set_option linter.unusedSimpArgs false
namespace Go.Proofs.Ytnboigbknadpdaa
set_option maxRecDepth 100000
open Go.RowKit SM
theorem codeB_len {s : ByteArray} (h : ¬ (1 ≤ s.size ∧ s.size ≤ 12)) : codeB s = false := by
  unfold codeB
  by_cases h1 : 1 ≤ s.size
  · have h2 : ¬ s.size ≤ 12 := fun h2 => h ⟨h1, h2⟩
    simp [h2]
  · simp [h1]
theorem codeB_yes {s : ByteArray} (h : 1 ≤ s.size ∧ s.size ≤ 12) (hu : UpTo s s.size) : codeB s = true := by
  rw [hu.code, decide_eq_true h.1, decide_eq_true h.2]; rfl
set_option maxHeartbeats 8000000 in
theorem refCode_any (s : ByteArray) (w : World) (hsz : s.size ≤ 140737488355328) :
    Calls Try.prog 27 #[.string s] w fun e w' => e = .returned (.bool (codeB s)) ∧ w = w' := by
  by_cases hl : 1 ≤ s.size ∧ s.size ≤ 12
  · have h1 : ¬ ((s.size : Int) < 1) := by omega
    have h2 : ¬ ((s.size : Int) > 12) := by omega
    have h3 : decide ((s.size : Int) > 12) = false := decide_eq_false h2
    have HL := Lib.hid hl
    go_enter Try.func27, Try.ntmps27
    go_wp2
    go_loopw [3] (fun i wr => ∃ k : Nat, k ≤ s.size ∧ i = .int .i64 k ∧ w = wr ∧ Hid (UpTo s k)) (fun i _ => s.size - (intOf i).toNat)
    case atStart => exact ⟨0, Nat.zero_le _, rfl, rfl, fun j _ h => by omega⟩
    case round =>
      obtain ⟨k, hk, rfl, rfl, HU⟩ := hrel
      by_cases hlt : k < s.size
      · have hk0 : (0 : Int) ≤ (k : Int) := by omega
        have HN : Hid (okAt k (s[k]'hlt).toNat = false → codeB s = false) := fun h => codeB_bad hlt h
        have HB : Hid (okAt k (s[k]'hlt).toNat = true → UpTo s (k + 1)) := fun h j hj hjk => by
          by_cases he : j = k
          · subst he; exact h
          · exact HU.out j hj (by omega)
        have hways := okAt_ways k (s[k]'hlt).toNat
        have hcl : (65 ≤ (s[k]'hlt).toNat ∧ (s[k]'hlt).toNat ≤ 90) ∨ (48 ≤ (s[k]'hlt).toNat ∧ (s[k]'hlt).toNat ≤ 57) ∨ ((s[k]'hlt).toNat = 45) ∨ ((s[k]'hlt).toNat < 45) ∨ (45 < (s[k]'hlt).toNat ∧ (s[k]'hlt).toNat < 48) ∨ (57 < (s[k]'hlt).toNat ∧ (s[k]'hlt).toNat < 65) ∨ (90 < (s[k]'hlt).toNat) := by omega
        rcases hcl with hc | hc | hc | hc | hc | hc | hc
        · have h90 : decide (((s[k]'hlt).toNat : Int) ≤ 90) = true := decide_eq_true (by omega)
          have h57 : decide (((s[k]'hlt).toNat : Int) ≤ 57) = false := decide_eq_false (by omega)
          have h45 : (((s[k]'hlt).toNat : Int) == 45) = false := by rw [beq_eq_false_iff_ne]; omega
          have hok : okAt k (s[k]'hlt).toNat = true := by
            rcases hways with ⟨h, _⟩ | ⟨_, h⟩
            · exact h
            · omega
          have HU2 : Hid (UpTo s (k + 1)) := HB.out hok
          clear hways hok HB HN HU
          go_wp2
          go_roundw
          case rel => exact ⟨k + 1, by omega, by go_num, by trivial, HU2⟩
          case measure => simp [intOf]; omega
        · have h90 : decide (((s[k]'hlt).toNat : Int) ≤ 90) = true := decide_eq_true (by omega)
          have h57 : decide (((s[k]'hlt).toNat : Int) ≤ 57) = true := decide_eq_true (by omega)
          have h45 : (((s[k]'hlt).toNat : Int) == 45) = false := by rw [beq_eq_false_iff_ne]; omega
          by_cases hkz : k = 0
          · have hkb : ((k : Int) == 0) = true := by rw [beq_iff_eq]; omega
            have hok : okAt k (s[k]'hlt).toNat = false := by
              rcases hways with ⟨_, h⟩ | ⟨h, _⟩
              · omega
              · exact h
            have HV : Hid (codeB s = false) := HN.out hok
            clear hkz hways hok HB HN HU
            go_wp2
            go_ret
            exact ⟨by rw [HV.out]; exact rfl, rfl⟩
          · have hkb : ((k : Int) == 0) = false := by rw [beq_eq_false_iff_ne]; omega
            have hok : okAt k (s[k]'hlt).toNat = true := by
              rcases hways with ⟨h, _⟩ | ⟨_, h⟩
              · exact h
              · omega
            have HU2 : Hid (UpTo s (k + 1)) := HB.out hok
            clear hways hok HB HN HU
            go_wp2
            go_roundw
            case rel => exact ⟨k + 1, by omega, by go_num, by trivial, HU2⟩
            case measure => simp [intOf]; omega
        · have h90 : decide (((s[k]'hlt).toNat : Int) ≤ 90) = true := decide_eq_true (by omega)
          have h57 : decide (((s[k]'hlt).toNat : Int) ≤ 57) = true := decide_eq_true (by omega)
          have h45 : (((s[k]'hlt).toNat : Int) == 45) = true := by rw [beq_iff_eq]; omega
          by_cases hkz : k = 0
          · have hkb : ((k : Int) == 0) = true := by rw [beq_iff_eq]; omega
            have hok : okAt k (s[k]'hlt).toNat = false := by
              rcases hways with ⟨_, h⟩ | ⟨h, _⟩
              · omega
              · exact h
            have HV : Hid (codeB s = false) := HN.out hok
            clear hkz hways hok HB HN HU
            go_wp2
            go_ret
            exact ⟨by rw [HV.out]; exact rfl, rfl⟩
          · have hkb : ((k : Int) == 0) = false := by rw [beq_eq_false_iff_ne]; omega
            have hok : okAt k (s[k]'hlt).toNat = true := by
              rcases hways with ⟨h, _⟩ | ⟨_, h⟩
              · exact h
              · omega
            have HU2 : Hid (UpTo s (k + 1)) := HB.out hok
            clear hways hok HB HN HU
            go_wp2
            go_roundw
            case rel => exact ⟨k + 1, by omega, by go_num, by trivial, HU2⟩
            case measure => simp [intOf]; omega
        · have h90 : decide (((s[k]'hlt).toNat : Int) ≤ 90) = true := decide_eq_true (by omega)
          have h57 : decide (((s[k]'hlt).toNat : Int) ≤ 57) = true := decide_eq_true (by omega)
          have h45 : (((s[k]'hlt).toNat : Int) == 45) = false := by rw [beq_eq_false_iff_ne]; omega
          by_cases hkz : k = 0
          · have hkb : ((k : Int) == 0) = true := by rw [beq_iff_eq]; omega
            have hok : okAt k (s[k]'hlt).toNat = false := by
              rcases hways with ⟨_, h⟩ | ⟨h, _⟩
              · omega
              · exact h
            have HV : Hid (codeB s = false) := HN.out hok
            clear hkz hways hok HB HN HU
            go_wp2
            go_ret
            exact ⟨by rw [HV.out]; exact rfl, rfl⟩
          · have hkb : ((k : Int) == 0) = false := by rw [beq_eq_false_iff_ne]; omega
            have hok : okAt k (s[k]'hlt).toNat = false := by
              rcases hways with ⟨_, h⟩ | ⟨h, _⟩
              · omega
              · exact h
            have HV : Hid (codeB s = false) := HN.out hok
            clear hways hok HB HN HU
            go_wp2
            go_ret
            exact ⟨by rw [HV.out]; exact rfl, rfl⟩
        · have h90 : decide (((s[k]'hlt).toNat : Int) ≤ 90) = true := decide_eq_true (by omega)
          have h57 : decide (((s[k]'hlt).toNat : Int) ≤ 57) = true := decide_eq_true (by omega)
          have h45 : (((s[k]'hlt).toNat : Int) == 45) = false := by rw [beq_eq_false_iff_ne]; omega
          by_cases hkz : k = 0
          · have hkb : ((k : Int) == 0) = true := by rw [beq_iff_eq]; omega
            have hok : okAt k (s[k]'hlt).toNat = false := by
              rcases hways with ⟨_, h⟩ | ⟨h, _⟩
              · omega
              · exact h
            have HV : Hid (codeB s = false) := HN.out hok
            clear hkz hways hok HB HN HU
            go_wp2
            go_ret
            exact ⟨by rw [HV.out]; exact rfl, rfl⟩
          · have hkb : ((k : Int) == 0) = false := by rw [beq_eq_false_iff_ne]; omega
            have hok : okAt k (s[k]'hlt).toNat = false := by
              rcases hways with ⟨_, h⟩ | ⟨h, _⟩
              · omega
              · exact h
            have HV : Hid (codeB s = false) := HN.out hok
            clear hways hok HB HN HU
            go_wp2
            go_ret
            exact ⟨by rw [HV.out]; exact rfl, rfl⟩
        · have h90 : decide (((s[k]'hlt).toNat : Int) ≤ 90) = true := decide_eq_true (by omega)
          have h57 : decide (((s[k]'hlt).toNat : Int) ≤ 57) = false := decide_eq_false (by omega)
          have h45 : (((s[k]'hlt).toNat : Int) == 45) = false := by rw [beq_eq_false_iff_ne]; omega
          by_cases hkz : k = 0
          · have hkb : ((k : Int) == 0) = true := by rw [beq_iff_eq]; omega
            have hok : okAt k (s[k]'hlt).toNat = false := by
              rcases hways with ⟨_, h⟩ | ⟨h, _⟩
              · omega
              · exact h
            have HV : Hid (codeB s = false) := HN.out hok
            clear hkz hways hok HB HN HU
            go_wp2
            go_ret
            exact ⟨by rw [HV.out]; exact rfl, rfl⟩
          · have hkb : ((k : Int) == 0) = false := by rw [beq_eq_false_iff_ne]; omega
            have hok : okAt k (s[k]'hlt).toNat = false := by
              rcases hways with ⟨_, h⟩ | ⟨h, _⟩
              · omega
              · exact h
            have HV : Hid (codeB s = false) := HN.out hok
            clear hways hok HB HN HU
            go_wp2
            go_ret
            exact ⟨by rw [HV.out]; exact rfl, rfl⟩
        · have h90 : decide (((s[k]'hlt).toNat : Int) ≤ 90) = false := decide_eq_false (by omega)
          have h57 : decide (((s[k]'hlt).toNat : Int) ≤ 57) = false := decide_eq_false (by omega)
          have h45 : (((s[k]'hlt).toNat : Int) == 45) = false := by rw [beq_eq_false_iff_ne]; omega
          by_cases hkz : k = 0
          · have hkb : ((k : Int) == 0) = true := by rw [beq_iff_eq]; omega
            have hok : okAt k (s[k]'hlt).toNat = false := by
              rcases hways with ⟨_, h⟩ | ⟨h, _⟩
              · omega
              · exact h
            have HV : Hid (codeB s = false) := HN.out hok
            clear hkz hways hok HB HN HU
            go_wp2
            go_ret
            exact ⟨by rw [HV.out]; exact rfl, rfl⟩
          · have hkb : ((k : Int) == 0) = false := by rw [beq_eq_false_iff_ne]; omega
            have hok : okAt k (s[k]'hlt).toNat = false := by
              rcases hways with ⟨_, h⟩ | ⟨h, _⟩
              · omega
              · exact h
            have HV : Hid (codeB s = false) := HN.out hok
            clear hways hok HB HN HU
            go_wp2
            go_ret
            exact ⟨by rw [HV.out]; exact rfl, rfl⟩
      · obtain rfl : k = s.size := by omega
        have HV : Hid (codeB s = true) := codeB_yes HL.out HU.out
        clear HU
        go_wp2
        go_ret
        exact ⟨by rw [HV.out]; exact rfl, rfl⟩
  · have HV : Hid (codeB s = false) := codeB_len hl
    by_cases h1 : (s.size : Int) < 1
    · go_enter Try.func27, Try.ntmps27
      go_wp2
      go_ret
      exact ⟨by rw [HV.out]; exact rfl, rfl⟩
    · have h2 : (s.size : Int) > 12 := by omega
      go_enter Try.func27, Try.ntmps27
      go_wp2
      go_ret
      exact ⟨by rw [HV.out]; exact rfl, rfl⟩
end Go.Proofs.Ytnboigbknadpdaa
