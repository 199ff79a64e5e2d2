/- Lists of texts: whether two are the same; their marks. -/
import Derived.Test.YtnboigbknadpdaaItems
import Derived.Test.YtnboigbknadpdaaMark
import Derived.Test.YtnboigbknadpdaaSame
import Derived.Test.YtnboigbknadpdaaRows2
import Derived.Deep.QuietTactic
import Derived.BigQuiet
import Derived.WalkLawsBesides
set_option linter.unusedVariables false
set_option linter.unusedSimpArgs false
namespace Go.Proofs.Ytnboigbknadpdaa
set_option maxRecDepth 100000
open Go.RowKit SM
set_option maxHeartbeats 4000000 in
theorem same_texts (xs ys : List ByteArray) (A B : Option Addr) (c d : Nat) (w : World) (hc : xs.length ≤ c) (hd : ys.length ≤ d) (hcm : c ≤ maxLen) (hdm : d ≤ maxLen) (hA : Rd w A (xs.flatMap encS)) (hB : Rd w B (ys.flatMap encS)) :
    Calls Try.prog 23 #[.slice A xs.length c, .slice B ys.length d] w fun e w' => e = .returned (.bool (decide (xs = ys))) ∧ ∃ n, w' = w.drewN n := by
  unfold maxLen at hcm hdm
  by_cases hl : xs.length = ys.length
  · have c3b1 : ((xs.length : Int) != (ys.length : Int)) = false := bne_eq_false_iff_eq.mpr (by omega)
    have c3b2 : (xs.length == ys.length) = true := by simpa using hl
    have HL := Lib.hid hl
    clear hl
    go_enter Try.func23, Try.ntmps23
    go_wp2
    clear c3b1 c3b2
    go_loopw [5] (fun i wr => ∃ (k m : Nat), k ≤ xs.length ∧ i = .int .i64 k ∧ Hid (xs.take k = ys.take k) ∧ wr = w.drewN m) (fun i _ => xs.length - (intOf i).toNat)
    case atStart => exact ⟨0, 0, Nat.zero_le _, rfl, (by simp : xs.take 0 = ys.take 0), rfl⟩
    case round =>
      obtain ⟨k, m, hk, rfl, HT, rfl⟩ := hrel
      by_cases hlt : k < xs.length
      · have hlt2 : k < ys.length := by have := HL.out; omega
        have hx : xs[k]? = some xs[k] := List.getElem?_eq_getElem hlt
        have hy : ys[k]? = some ys[k] := List.getElem?_eq_getElem hlt2
        obtain ⟨x, hxe⟩ : ∃ x, x = xs[k] := ⟨_, rfl⟩
        obtain ⟨y, hye⟩ : ∃ y, y = ys[k] := ⟨_, rfl⟩
        rw [← hxe] at hx
        rw [← hye] at hy
        obtain ⟨b, o, rfl, hcell⟩ := Rd.elem (enc := encS) (k := 1) encS_len (by omega) hA hx
        obtain ⟨b', o', rfl, hcell'⟩ := Rd.elem (enc := encS) (k := 1) encS_len (by omega) hB hy
        have h0 := hcell 0 (.string x) rfl
        have h2 := hcell' 0 (.string y) rfl
        simp only [Nat.add_zero, Nat.mul_one] at h0 h2
        have hneq := str_eq_iff x y
        have hki : decide ((k : Int) < (ys.length : Int)) = true := decide_eq_true (by omega)
        have hki2 : (k : Int) < (ys.length : Int) := by omega
        have hki3 : (k : Int) < (xs.length : Int) := by omega
        have hk0 : (0 : Int) ≤ (k : Int) := by omega
        have HXE := Lib.hid (And.intro hxe hye)
        by_cases he : x = y
        · have HT2 : Hid (xs.take (k + 1) = ys.take (k + 1)) := by
            rw [List.take_succ_eq_append_getElem hlt, List.take_succ_eq_append_getElem hlt2, ← hxe, ← hye, he, HT.out]; exact rfl
          have hd1 : decide (x = y) = true := decide_eq_true he
          rw [hd1] at hneq
          clear hcell hcell' hA hB hx hy hxe hye hd1 he
          go_wp2
          go_quiet (fail)
          go_wp2
          go_roundw
          case rel => exact ⟨k + 1, _, by omega, by go_num, HT2, rfl⟩
          case measure => simp [intOf]; omega
        · have HN : Hid (decide (xs = ys) = false) := decide_eq_false (fun e => he (by rw [hxe, hye]; simp only [e]))
          have hd1 : decide (x = y) = false := decide_eq_false he
          rw [hd1] at hneq
          clear hcell hcell' hA hB hx hy hxe hye hd1 he
          go_wp2
          go_quiet (fail)
          go_wp2
          go_ret
          exact ⟨by rw [HN.out]; exact rfl, _, World.drewN_drewN ..⟩
      · obtain rfl : k = xs.length := by omega
        have HY : Hid (decide (xs = ys) = true) := decide_eq_true (by
          have h := HT.out
          rw [List.take_length] at h
          rw [h, HL.out, List.take_length])
        clear HT
        go_wp2
        go_ret
        exact ⟨by rw [HY.out]; exact rfl, _, rfl⟩
  · have c3b1 : ((xs.length : Int) != (ys.length : Int)) = true := by rw [bne_iff_ne]; omega
    have c3b2 : (xs.length == ys.length) = false := by simpa using hl
    have HN : Hid (decide (xs = ys) = false) := decide_eq_false (fun e => hl (by rw [e]))
    clear hl
    go_enter Try.func23, Try.ntmps23
    go_wp2
    go_ret
    exact ⟨by rw [HN.out]; exact rfl, 0, rfl⟩
def u8 (n : Int) : UInt8 := UInt8.ofNat n.toNat
theorem u8_toNat {n : Int} (h0 : 0 ≤ n) (h1 : n < 256) : ((u8 n).toNat : Int) = n := by
  unfold u8
  rw [UInt8.toNat_ofNat']
  omega
theorem bytes_cells (w : World) (t : TypeId) (xs : List Int) (hx : ∀ x ∈ xs, 0 ≤ x ∧ x < 256) : ∀ j (hj : j < (xs.map u8).length), (w.alloc (.cells (xs.map (Value.int .u8)).toArray t)).cell? ((⟨w.heap.size, 0, none⟩ : Addr).add j) = some (.int .u8 ((xs.map u8)[j].toNat : Int)) := fun j hj => by
  have hj' : j < xs.length := by simpa using hj
  rw [Addr.add_lit, Nat.zero_add, World.cell?_alloc_at _ _ _ _ rfl, List.getElem?_toArray, List.getElem?_map, List.getElem?_eq_getElem hj', List.getElem_map]
  have := hx _ (List.getElem_mem hj')
  rw [u8_toNat this.1 this.2]; rfl
def markL (k i : Int) : List Int := [35, k % 256, k / 256 % 256, k / 65536 % 256, 47, i % 256, i / 256 % 256, i / 65536 % 256]
/-- A text's mark. -/
def markT (k i : Int) : ByteArray := ⟨((markL k i).map u8).toArray⟩
theorem markT_size (k i : Int) : (markT k i).size = 8 := rfl
set_option maxHeartbeats 4000000 in
theorem markText_any (k i : Int) (w : World) (hk0 : 0 ≤ k) (hk : k ≤ 1000000000) (hi0 : 0 ≤ i) (hi : i ≤ 1000000000) :
    Calls Try.prog 65 #[.int .i64 k, .int .i64 i] w fun e w' => e = .returned (.string (markT k i)) ∧ w.alloc (.cells ((markL k i).map (Value.int .u8)).toArray 5) = w' := by
  have hcv := run_convert_bytes_back (P := Try.prog) (w.alloc (.cells ((markL k i).map (Value.int .u8)).toArray 5)) 106 9 5 ⟨w.heap.size, 0, none⟩ 8 ((markL k i).map u8) Try.underlying106 Try.underlying5 Try.underlying9 (bytes_cells w _ (markL k i) (by
    intro x hx
    simp only [markL, List.mem_cons, List.not_mem_nil, or_false] at hx
    omega))
  replace hcv : (convert 106 9 (.slice (some ⟨w.heap.size, 0, none⟩) 8 8)).run Try.prog (w.alloc (.cells #[.int .u8 35, .int .u8 (k % 256), .int .u8 (k / 256 % 256), .int .u8 (k / 65536 % 256), .int .u8 47, .int .u8 (i % 256), .int .u8 (i / 256 % 256), .int .u8 (i / 65536 % 256)] 5)) = .ok (.string (markT k i)) (w.alloc (.cells #[.int .u8 35, .int .u8 (k % 256), .int .u8 (k / 256 % 256), .int .u8 (k / 65536 % 256), .int .u8 47, .int .u8 (i % 256), .int .u8 (i / 256 % 256), .int .u8 (i / 65536 % 256)] 5)) := hcv
  have HE : Hid (w.alloc (.cells ((markL k i).map (Value.int .u8)).toArray 5) = w.alloc (.cells #[.int .u8 35, .int .u8 (k % 256), .int .u8 (k / 256 % 256), .int .u8 (k / 65536 % 256), .int .u8 47, .int .u8 (i % 256), .int .u8 (i / 256 % 256), .int .u8 (i / 65536 % 256)] 5)) := rfl
  generalize markT k i = s at *
  generalize w.alloc (.cells ((markL k i).map (Value.int .u8)).toArray 5) = W at *
  go_enter Try.func65, Try.ntmps65
  go_wp2
  go_ret
  exact ⟨rfl, HE.out⟩
end Go.Proofs.Ytnboigbknadpdaa
