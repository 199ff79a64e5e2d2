/- slices.Concat of lists of parts: a new slice that holds them all, one behind the other. -/
import Derived.Test.YtnboigbknadpdaaProg
import Derived.Test.YtnboigbknadpdaaHeap
import Derived.Lib.Hide
import Derived.Lib.Walk
import Derived.Lib.SliceRun
import Derived.Lib.AppendZerosOnto
set_option linter.unusedVariables false
set_option linter.unusedSimpArgs false
namespace Go.Proofs.Ytnboigbknadpdaa
set_option maxRecDepth 100000
open Go.RowKit SM

abbrev Prt := ByteArray × Int
def encP (p : Prt) : List Value := [.string p.1, .int .i64 p.2]
theorem encP_len (p : Prt) : (encP p).length = 2 := rfl
theorem encP_one (p : Prt) : ∀ u ∈ encP p, u.oneCell' = true := by intro u hu; simp [encP] at hu; rcases hu with rfl | rfl <;> rfl
def enc1 (v : Value) : List Value := [v]
theorem flat1 (l : List Value) : l.flatMap enc1 = l := by induction l with
  | nil => rfl
  | cons x r ih => rw [List.flatMap_cons, ih]; rfl

theorem infoPart : (Try.prog.info? 39).map (fun i => (i.zero, i.size, i.bytes)) = some (some (.agg #[.string ByteArray.empty, .int .i64 0]), 2, 24) := by kernel_rfl

set_option maxHeartbeats 4000000 in
set_option maxRecDepth 100000 in
/-- slices.Grow of the nil slice. -/
theorem grow_nil (n : Nat) (w : World) (hn : n * 24 ≤ 140737488355328) :
    Calls Try.prog 58 #[.slice none 0 0, .int .i64 n] w fun e w' =>
      ∃ v, e = .returned v ∧ w'.ownsRow w.heap.size 39 2 v 0 [] ∧ Below w.heap.size w w' := by
  obtain ⟨i0, hi, hz0, hz1, hz2⟩ := info_parts infoPart
  rcases Nat.eq_zero_or_pos n with h0 | h0
  · subst h0
    have hx : ∀ w0 : World, w0.ownsRow w.heap.size 39 2 (.slice none 0 0) 0 [] := fun w0 => World.ownsRow_nil _ _ _ _
    have HX := Lib.hid hx
    clear hx
    go_enter Try.func58, Try.ntmps58
    go_wp2
    go_ret
    exact ⟨_, rfl, HX.out _, Below.refl _ _⟩
  · have hnil : (Builtin.firstCells i0.size 0 (.slice none 0 0)).run Try.prog w.drew = .ok ([] : List Value).toArray w.drew := run_firstCells_none w.drew i0.size 0 0 0
    have hrz : ∀ ty, (Builtin.append_ #[29, 3] ty #[.slice none 0 0, .int .i64 (n : Int)]).run Try.prog w =
        .ok (.slice (some ⟨w.heap.size, 0, none⟩) n (grownCap w n 0 39)) (w.drew.alloc (.cells (Builtin.zeroCells #[.string ByteArray.empty, .int .i64 0] n ++ Builtin.zeroCells #[.string ByteArray.empty, .int .i64 0] (grownCap w n 0 39 - n)) 39)) := fun ty => by
      have h := Lib.run_append_grow_zeros w 29 3 ty 39 i0 _ .i64 .i64 Try.underlying29 Try.underlying3 hi hz0 none 0 0 [] hnil n h0 (by omega) (by omega) (by omega) (by rw [hz2]; omega) (growslice_fits (by omega) (by rw [hz2]; omega))
      simpa [Value.cells] using h
    have hG := grownCap_ge w n 0 39
    have hG2 := grownCap_le_maxLen w n 0 39 (by unfold maxLen; omega)
    obtain ⟨G, hGe⟩ : ∃ G, G = grownCap w n 0 39 := ⟨_, rfl⟩
    rw [← hGe] at hrz hG hG2
    have hown : (w.drew.alloc (.cells (Builtin.zeroCells #[.string ByteArray.empty, .int .i64 0] n ++ Builtin.zeroCells #[.string ByteArray.empty, .int .i64 0] (G - n)) 39)).ownsRow w.heap.size 39 2 (.slice (some ⟨w.heap.size, 0, none⟩) 0 G) 0 [] :=
      World.ownsRow_made w.drew _ G (Nat.le_refl _) hG2 (by simp [size_zeroCells]; omega)
    have hB : Below w.heap.size w (w.drew.alloc (.cells (Builtin.zeroCells #[.string ByteArray.empty, .int .i64 0] n ++ Builtin.zeroCells #[.string ByteArray.empty, .int .i64 0] (G - n)) 39)) :=
      (Below.refl _ w).drew.alloc (Nat.le_refl _) _
    have h1 : ¬ ((n : Int) < 0) := by omega
    have h2 : (n : Int) > 0 := by omega
    have hG63 : G ≤ 9223372036854775807 := by unfold maxLen at hG2; omega
    have HO := Lib.hid hown
    have HB := Lib.hid hB
    clear hown hB hGe hnil hz0 hz1 hz2 hG2 hi
    go_enter Try.func58, Try.ntmps58
    go_wp2_with (at_builtin; refine Lib.wpList_append_run _ rfl _ _ _ _ rfl _ _ rfl rfl _ _ (hrz _) ?_)
    all_goals (go_ret; exact ⟨_, rfl, HO.out, HB.out⟩)

/-! ### Concat -/
abbrev PL := Value × List Prt
def allP (xss : List PL) : List Prt := xss.flatMap (·.2)
theorem allP_take (xss : List PL) (k : Nat) (h : k < xss.length) : allP (xss.take (k + 1)) = allP (xss.take k) ++ xss[k].2 := by
  unfold allP
  rw [List.take_succ_eq_append_getElem h, List.flatMap_append, List.flatMap_singleton]
theorem allP_le (xss : List PL) (k : Nat) : (allP (xss.take k)).length ≤ (allP xss).length := by
  unfold allP
  conv => rhs; rw [← List.take_append_drop k xss]
  rw [List.flatMap_append, List.length_append]
  omega
/-- The slices that lie at A, each with its parts. -/
def PartsAt (w : World) (A : Option Addr) (xss : List PL) : Prop :=
  Rd w A (xss.map (·.1)) ∧ ∀ x ∈ xss, Sl w 2 x.1 x.2.length (x.2.flatMap encP)
theorem PartsAt.below {w w' : World} {A : Option Addr} {xss : List PL} (h : PartsAt w A xss) (hb : Below w.heap.size w w') : PartsAt w' A xss :=
  ⟨h.1.below hb, fun x hx => (h.2 x hx).below hb⟩
theorem PartsAt.get {w : World} {A : Option Addr} {xss : List PL} (h : PartsAt w A xss) {k : Nat} (hk : k < xss.length) :
    ∃ b o A1 c1, A = some ⟨b, o, none⟩ ∧ w.cell? ⟨b, o + k, none⟩ = some (.slice A1 xss[k].2.length c1) ∧ xss[k].2.length ≤ c1 ∧ c1 ≤ maxLen ∧ Rd w A1 (xss[k].2.flatMap encP) := by
  have hA : Rd w A ((xss.map (·.1)).flatMap enc1) := by
    rw [flat1]; exact h.1
  obtain ⟨b, o, rfl, hcell⟩ := Rd.elem (enc := enc1) (k := 1) (fun _ => rfl) (by omega) hA (j := k) (x := xss[k].1) (by simp [hk])
  obtain ⟨_, A1, c1, hv, hc1, hc2, hr1⟩ := h.2 xss[k] (List.getElem_mem hk)
  refine ⟨b, o, A1, c1, rfl, ?_, hc1, hc2, hr1⟩
  have h0 := hcell 0 _ rfl
  rw [hv] at h0
  simpa using h0

set_option maxHeartbeats 4000000 in
set_option maxRecDepth 100000 in
theorem concat_parts (xss : List PL) (A : Option Addr) (c : Nat) (w : World) (hc : xss.length ≤ c) (hm : c ≤ maxLen)
    (hA : PartsAt w A xss) (hlen : (allP xss).length * 24 ≤ 140737488355328) :
    Calls Try.prog 40 #[.slice A xss.length c] w fun e w' =>
      ∃ v, e = .returned v ∧ w'.ownsRow w.heap.size 39 2 v (allP xss).length ((allP xss).flatMap encP) ∧ Below w.heap.size w w' := by
  unfold maxLen at hm
  obtain ⟨i0, hi, hz0, hz1, hz2⟩ := info_parts infoPart
  go_enter Try.func40, Try.ntmps40
  go_wp2_with fail
  go_loop [3, 11] (fun s i => ∃ k : Nat, k ≤ xss.length ∧ i = .int .i64 k ∧ s = .int .i64 ((allP (xss.take k)).length : Nat)) (fun _ i => xss.length - (intOf i).toNat)
  case atStart => exact ⟨0, Nat.zero_le _, rfl, rfl⟩
  case round =>
    obtain ⟨k, hk, rfl, rfl⟩ := hrel
    have hsl := allP_le xss k
    by_cases hlt : k < xss.length
    · have HS : Hid ((allP (xss.take (k + 1))).length = (allP (xss.take k)).length + xss[k].2.length) := by rw [allP_take xss k hlt, List.length_append]; exact rfl
      have hsl2 := allP_le xss (k + 1)
      rw [HS.out] at hsl2
      obtain ⟨b, o, A1, c1, rfl, h0, hc1, hc2, hr1⟩ := hA.get hlt
      clear hA hr1 hi hz0 hz1 hz2
      go_wp2
      go_round
      case rel => exact ⟨k + 1, by omega, by go_num, by rw [HS.out]; go_num⟩
      case measure => simp [intOf]; omega
    · obtain rfl : k = xss.length := by omega
      have hg := grow_nil (allP xss).length w hlen
      have HG := Lib.hid hg
      clear hg
      go_wp2_with (go_at_call 58; (with_reducible refine HG.out.mono ?_); rintro e w1 ⟨v1, rfl, hown0, hb0⟩)
      have HI := Lib.hid hi
      have HZ0 := Lib.hid hz0
      have HZ1 := Lib.hid hz1
      have HZ2 := Lib.hid hz2
      clear hi hz0 hz1 hz2 HG hsl
      go_loopw [6, 27] (fun v i wr => ∃ k : Nat, k ≤ xss.length ∧ i = .int .i64 k ∧ wr.ownsRow w.heap.size 39 2 v (allP (xss.take k)).length ((allP (xss.take k)).flatMap encP) ∧ Below w.heap.size w wr) (fun _ i _ => xss.length - (intOf i).toNat)
      case atStart => exact ⟨0, Nat.zero_le _, rfl, hown0, hb0⟩
      case round =>
        obtain ⟨k, hk, rfl, hown, hnx⟩ := hrel
        by_cases hlt : k < xss.length
        · have hsl2 := allP_le xss (k + 1)
          have hal := allP_take xss k hlt
          have e1 : (allP (xss.take (k + 1))).length = (allP (xss.take k)).length + xss[k].2.length := by rw [hal, List.length_append]
          rw [e1] at hsl2
          obtain ⟨b, o, A1, c1, rfl, h0, hc1, hc2, hr1⟩ := (hA.below hnx).get hlt
          obtain ⟨v', w2, hrun, hown', hgrow, _⟩ := append_own_src (ty := 29) (t := 29) (tx := 29) Try.underlying29 HI.out HZ0.out HZ1.out HZ2.out rfl (by omega) hown
            (hr1.src (c := c1) Try.underlying29 (flat_length encP_len _) (by omega) (flat_one encP_one _)) (by unfold maxLen; omega) (by omega) hnx.size
          have R : w2.ownsRow w.heap.size 39 2 v' (allP (xss.take (k + 1))).length ((allP (xss.take (k + 1))).flatMap encP) ∧ Below w.heap.size w w2 := by
            refine ⟨by rw [e1, hal, List.flatMap_append]; exact hown', hnx.grown hgrow hnx.size fun j hj => (hown.lt j hj).1⟩
          have HR := Lib.hid R
          have HRUN := Lib.hid hrun
          clear hA hr1 R hrun hown' hgrow hown hal e1 hnx hown0 hb0
          go_wp2_with (at_builtin; refine Lib.wpList_append_run _ rfl _ _ _ _ rfl _ _ rfl rfl _ _ HRUN.out ?_)
          go_roundw
          case rel => exact ⟨k + 1, by omega, by go_num, HR.out⟩
          case measure => simp [intOf]; omega
        · obtain rfl : k = xss.length := by omega
          rw [List.take_length] at hown
          go_wp2
          go_ret
          exact ⟨_, rfl, hown, hnx⟩
end Go.Proofs.Ytnboigbknadpdaa
