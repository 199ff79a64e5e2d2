/- code.Right: whether a text is a code. -/
import Derived.Test.YtnboigbknadpdaaProg
import Derived.Test.YtnboigbknadpdaaCodeB
import Derived.Test.YtnboigbknadpdaaHeap
import Derived.Test.YtnboigbknadpdaaStr
import Derived.Lib.Hide
import Derived.Lib.OthersKept
import Derived.Laws.RangeString
import Derived.Laws.RangeAny
set_option linter.unusedVariables false
set_option linter.unusedSimpArgs false
namespace Go.Proofs.Ytnboigbknadpdaa
set_option maxRecDepth 100000
open Go.RowKit SM

theorem iterPos_of {w : World} {k : Nat} {s : ByteArray} {p : Nat} (h : w.heap[k]? = some (.stringIter s p)) : w.iterPos k = p := by
  unfold World.iterPos; rw [h]
theorem byte_get (s : ByteArray) (i : Nat) (h : i < s.size) : s.data.toList[i]? = some (s[i]'h) := by
  rw [List.getElem?_eq_getElem (by simpa using h)]; rfl
/-- All bytes ahead of i may stand there. -/
def UpTo (s : ByteArray) (i : Nat) : Prop := ∀ j (h : j < s.size), j < i → okAt j (s[j]'h).toNat = true
theorem UpTo.all {s : ByteArray} (h : UpTo s s.size) : allOk s = true := by
  unfold allOk
  rw [List.all_eq_true]
  intro i hi
  have hl := List.mem_range.1 hi
  rw [byte_get s i hl]
  exact h i hl hl
theorem UpTo.code {s : ByteArray} (h : UpTo s s.size) : codeB s = (decide (1 ≤ s.size) && decide (s.size ≤ 12)) := by
  unfold codeB; rw [h.all, Bool.and_true]
theorem codeB_bad {s : ByteArray} {i : Nat} (hl : i < s.size) (h : okAt i (s[i]'hl).toNat = false) : codeB s = false := by
  unfold codeB
  have : allOk s = false := by
    unfold allOk
    rw [List.all_eq_false]
    exact ⟨i, List.mem_range.2 hl, by rw [byte_get s i hl]; simp [h]⟩
  rw [this]; simp
/-- The ways of a byte. -/
theorem okAt_ways (i b : Nat) : (okAt i b = true ∧ ((65 ≤ b ∧ b ≤ 90) ∨ (b < 65 ∧ 0 < i ∧ ((48 ≤ b ∧ b ≤ 57) ∨ b = 45)))) ∨
    (okAt i b = false ∧ ((b < 65 ∧ (i = 0 ∨ b < 45 ∨ (45 < b ∧ b < 48) ∨ 57 < b)) ∨ 90 < b)) := by
  unfold okAt
  simp only [Bool.or_eq_true, Bool.and_eq_true, decide_eq_true_eq, Bool.or_eq_false_iff, Bool.and_eq_false_iff, decide_eq_false_iff_not]
  omega
theorem step_code (s : ByteArray) (pos : Nat) (hp : pos < s.size) : ∃ (r z : Nat), Utf8.decode s pos = (r, z) ∧ 1 ≤ z ∧ r ≤ 2147483647 ∧
    (okAt pos r = true → z = 1 ∧ okAt pos (s[pos]'hp).toNat = true) ∧ (okAt pos r = false → codeB s = false) := by
  by_cases ha : (s[pos]'hp).toNat < 128
  · have := decode_ascii s pos hp ha
    exact ⟨_, _, this, Nat.le_refl _, by omega, fun h => ⟨rfl, h⟩, codeB_bad hp⟩
  · have h1 := decode_high s pos hp (by omega)
    have h2 := decode_le s pos
    have hb : ∀ b, 128 ≤ b → okAt pos b = false := fun b hb => by
      rcases okAt_ways pos b with ⟨_, h⟩ | ⟨h, _⟩
      · omega
      · exact h
    have h3 : codeB s = false := codeB_bad hp (hb _ (by omega))
    generalize Utf8.decode s pos = d at *
    obtain ⟨r, z⟩ := d
    refine ⟨r, z, rfl, h1.2, h2, fun h => ?_, fun _ => h3⟩
    rw [hb r h1.1] at h; cases h
set_option maxHeartbeats 4000000 in
theorem codeRight_any (s : ByteArray) (w : World) (hsz : s.size ≤ 140737488355328) :
    Calls Try.prog 48 #[.string s] w fun e w' => e = .returned (.bool (codeB s)) ∧ Below w.heap.size w w' := by
  have hne : (s.toList.isEmpty = true ∧ s.size = 0) ∨ (s.toList.isEmpty = false ∧ 0 < s.size) := by
    have h : s.toList.length = s.size := by rw [ByteArray.toList_eq]; simp
    cases hs : s.toList with
    | nil => rw [hs] at h; exact .inl ⟨rfl, h.symm⟩
    | cons a r => rw [hs] at h; exact .inr ⟨rfl, by rw [← h]; simp⟩
  go_enter Try.func48, Try.ntmps48
  go_wp2
  go_loopw [] (fun wr => ∃ pos : Nat, pos ≤ s.size ∧ wr.heap[w.heap.size]? = some (.stringIter s pos) ∧ Below w.heap.size w wr ∧ Hid (UpTo s pos)) (fun wr => s.size - wr.iterPos w.heap.size)
  case atStart => exact ⟨0, Nat.zero_le _, World.iter_heap w s 0, (Below.refl _ _).alloc (Nat.le_refl _) _, fun j _ h => by omega⟩
  case round =>
    obtain ⟨pos, hpos, hit, hnx, HU⟩ := hrel
    have hpos0 := iterPos_of hit
    by_cases hp : pos < s.size
    · obtain ⟨r, z, hr, hz, hr2, hok, hbad⟩ := step_code s pos hp
      have hnx3 := fun ty => Lib.run_next_any_at (P := Try.prog) wr w.heap.size s pos ty hit hp
      rw [hr] at hnx3
      have hit2 := Lib.iterAt_heap wr w.heap.size s pos (pos + z) hit
      have hbw2 := Lib.below_iterAt hnx (k := w.heap.size) (Nat.le_refl _) s (pos + z)
      obtain ⟨W1, hW1⟩ : ∃ W1, W1 = wr.iterAt w.heap.size s (pos + z) := ⟨_, rfl⟩
      simp only at hnx3
      rw [← hW1] at hnx3 hit2 hbw2
      have HIT := Lib.hid hit2
      have HBW := Lib.hid hbw2
      have HP0 := Lib.hid hpos0
      have HOK : Hid (okAt pos r = true → z = 1 ∧ UpTo s (pos + 1)) := fun h => by
        obtain ⟨h1, h2⟩ := hok h
        refine ⟨h1, fun j hj hjp => ?_⟩
        by_cases hjp2 : j = pos
        · subst hjp2; exact h2
        · exact HU.out j hj (by omega)
      have HBAD := Lib.hid hbad
      have hways := okAt_ways pos r
      clear hok hbad hr hW1 hit hnx hit2 hbw2 HU hpos0 hne
      rcases hways with ⟨hk, hw⟩ | ⟨hk, hw⟩
      · have HC := HOK.out hk
        have HK := Lib.hid hk
        obtain ⟨rfl, hU2⟩ := HC
        have HU2 := Lib.hid hU2
        clear hk hU2 HOK HBAD
        rcases hw with ⟨h1, h2⟩ | ⟨h1, h2, h3⟩
        · go_wp2
          go_roundw
          case rel => exact ⟨pos + 1, by omega, HIT.out, HBW.out, HU2⟩
          case measure => rw [HP0.out, iterPos_of HIT.out]; omega
        · have h4 : ¬ 65 ≤ r := by omega
          rcases h3 with ⟨h5, h6⟩ | h5
          · go_wp2
            go_roundw
            case rel => exact ⟨pos + 1, by omega, HIT.out, HBW.out, HU2⟩
            case measure => rw [HP0.out, iterPos_of HIT.out]; omega
          · go_wp2
            go_roundw
            case rel => exact ⟨pos + 1, by omega, HIT.out, HBW.out, HU2⟩
            case measure => rw [HP0.out, iterPos_of HIT.out]; omega
      · have HN := Lib.hid (HBAD.out hk)
        clear hk HOK HBAD
        have hz : pos = 0 ∨ 0 < pos := by omega
        rcases hz with rfl | hz
        · rcases hw with ⟨h1, h2⟩ | h1
          · have h4 : ¬ 65 ≤ r := by omega
            go_wp2
            go_ret
            exact ⟨by rw [HN.out]; exact rfl, HBW.out⟩
          · have h4 : decide ((r : Int) ≤ 90) = false := decide_eq_false (by omega)
            go_wp2
            go_ret
            exact ⟨by rw [HN.out]; exact rfl, HBW.out⟩
        · have hcs : (r < 65 ∧ r < 48 ∧ r ≠ 45) ∨ (r < 65 ∧ 57 < r) ∨ 90 < r := by omega
          clear hw
          rcases hcs with ⟨h1, h2, h3⟩ | ⟨h1, h2⟩ | h1
          · have h4 : ¬ 65 ≤ r := by omega
            have h5 : ¬ 48 ≤ r := by omega
            go_wp2
            go_ret
            exact ⟨by rw [HN.out]; exact rfl, HBW.out⟩
          · have h4 : ¬ 65 ≤ r := by omega
            have h5 : decide ((r : Int) ≤ 57) = false := decide_eq_false (by omega)
            go_wp2
            go_ret
            exact ⟨by rw [HN.out]; exact rfl, HBW.out⟩
          · have h4 : decide ((r : Int) ≤ 90) = false := decide_eq_false (by omega)
            have h5 : decide ((r : Int) ≤ 57) = false := decide_eq_false (by omega)
            go_wp2
            go_ret
            exact ⟨by rw [HN.out]; exact rfl, HBW.out⟩
    · obtain rfl : pos = s.size := by omega
      have hnx3 := fun ty => Lib.run_next_end_at (P := Try.prog) wr w.heap.size s s.size ty hit (by omega)
      have HC := Lib.hid HU.out.code
      have HN := Lib.hid hnx
      clear HU hit hnx hpos0
      rcases hne with ⟨h1, h2⟩ | ⟨h1, h2⟩
      · go_wp2
        go_ret
        exact ⟨by rw [HC.out]; simp [h2], HN.out⟩
      · by_cases h3 : s.size ≤ 12
        · have h4 : decide ((s.size : Int) ≤ 12) = true := decide_eq_true (by omega)
          go_wp2
          go_ret
          exact ⟨by rw [HC.out, decide_eq_true (show 1 ≤ s.size from h2), decide_eq_true h3]; exact rfl, HN.out⟩
        · have h4 : decide ((s.size : Int) ≤ 12) = false := decide_eq_false (by omega)
          go_wp2
          go_ret
          exact ⟨by rw [HC.out, decide_eq_true (show 1 ≤ s.size from h2), decide_eq_false h3]; exact rfl, HN.out⟩
end Go.Proofs.Ytnboigbknadpdaa
