/- Lists of items: lent with marks behind their ends, kept. -/
import Derived.Test.YtnboigbknadpdaaItemFns
import Derived.Lib.AppendZeros
set_option linter.unusedVariables false
set_option linter.unusedSimpArgs false
namespace Go.Proofs.Ytnboigbknadpdaa
set_option maxRecDepth 100000
open Go.RowKit SM
theorem LentIv.item {w : World} {base : Nat} {y : Iv} {x : It} (h : LentIv w base y x) : ItemAt w y := by
  obtain ⟨h1, h2, h3⟩ := h
  subst h1
  obtain ⟨g, cap, hv, hle, hcm, _, hr⟩ := h2.rd
  obtain ⟨g2, cap2, hv2, hle2, hcm2, _, hr2⟩ := h3.rd
  rw [List.flatMap_append] at hr hr2
  unfold Iv.pv at hv
  unfold Iv.ov at hv2
  injection hv with e1 e2 e3
  injection hv2 with e4 e5 e6
  exact ⟨by omega, by omega, by rw [e1]; exact Rd.left hr, by omega, by omega, by rw [e4]; exact Rd.left hr2⟩
set_option maxHeartbeats 4000000 in
theorem keptItem_any (y x : Iv) (base : Nat) (w : World) (hL : LentIv w base y x.it) (hx : ItemAt w x) (hp : x.it.parts.length ≤ 1000000) (ho : x.it.others.length ≤ 1000000) :
    Calls Try.prog 31 #[aggIv y, aggIv x] w fun e w' => e = .returned (.bool true) ∧ Below w.heap.size w w' := by
  obtain ⟨W2, hW2⟩ : ∃ W2, W2 = ((w.alloc (.cells #[.string y.it.code, .int .i64 y.it.life, y.pv, y.ov] 32)).alloc (.cells #[.string x.it.code, .int .i64 x.it.life, x.pv, x.ov] 32)) := ⟨_, rfl⟩
  have hB2 : Below w.heap.size w W2 := by rw [hW2]; exact ((Below.refl _ w).alloc (Nat.le_refl _) _).alloc (by simp) _
  have hs2 : W2.heap.size = w.heap.size + 2 := by rw [hW2]; simp
  have hit := hL.it
  have hsi := sameItem_any y x W2 (hL.item.below hB2) (hx.below hB2)
  rw [hit, itEq_refl] at hsi
  obtain ⟨⟨c1, l1, p1, o1⟩, pA1, pc1, oA1, oc1⟩ := y
  obtain ⟨⟨c2, l2, p2, o2⟩, pA2, pc2, oA2, oc2⟩ := x
  simp only at hit
  cases hit
  unfold aggIv Iv.pv Iv.ov at hsi ⊢
  unfold Iv.pv Iv.ov at hW2
  simp only at hsi hW2 ⊢
  have hc : ∀ (W : World), Below W2.heap.size W2 W → W.cell? ⟨w.heap.size, 2, none⟩ = some (.slice pA1 p1.length pc1) ∧ W.cell? ⟨w.heap.size, 3, none⟩ = some (.slice oA1 o1.length oc1) ∧ W.cell? ⟨w.heap.size + 1, 2, none⟩ = some (.slice pA2 p1.length pc2) ∧ W.cell? ⟨w.heap.size + 1, 3, none⟩ = some (.slice oA2 o1.length oc2) := fun W hW => by
    have hn2 : W2.heap[w.heap.size]? = some (.cells #[.string c1, .int .i64 l1, .slice pA1 p1.length pc1, .slice oA1 o1.length oc1] 32 (0, 0)) := by
      rw [hW2, Below.heap_alloc _ _ _ (by simp), heap_alloc_new]
    have hm2 : W2.heap[w.heap.size + 1]? = some (.cells #[.string c1, .int .i64 l1, .slice pA2 p1.length pc2, .slice oA2 o1.length oc2] 32 (0, 0)) := by
      rw [hW2]
      have := heap_alloc_new (w.alloc (.cells #[.string c1, .int .i64 l1, .slice pA1 p1.length pc1, .slice oA1 o1.length oc1] 32)) (.cells #[.string c1, .int .i64 l1, .slice pA2 p1.length pc2, .slice oA2 o1.length oc2] 32)
      rw [World.size_alloc] at this
      exact this
    have hn := (hW.block _ (by omega)).trans hn2
    have hm := (hW.block _ (by omega)).trans hm2
    exact ⟨(cell_of_row _ _ _ _ _ _ hn).trans rfl, (cell_of_row _ _ _ _ _ _ hn).trans rfl, (cell_of_row _ _ _ _ _ _ hm).trans rfl, (cell_of_row _ _ _ _ _ _ hm).trans rfl⟩
  have hkp : ∀ W : World, Below w.heap.size w W → Calls Try.prog 52 #[.slice pA1 p1.length pc1, .slice pA2 p1.length pc2] W fun e w' => e = .returned (.bool true) ∧ Below W.heap.size W w' := fun W hW =>
    keptParts_any p1 pA2 pc2 base _ W hx.pn hx.pm (hx.pr.below hW) hp (hL.p.below hW)
  have hko : ∀ W : World, Below w.heap.size w W → Calls Try.prog 53 #[.slice oA1 o1.length oc1, .slice oA2 o1.length oc2] W fun e w' => e = .returned (.bool true) ∧ Below W.heap.size W w' := fun W hW =>
    keptTexts_any o1 oA2 oc2 base _ W hx.on hx.om (hx.or.below hW) ho (hL.o.below hW)
  have hch : Calls Try.prog 32 #[.agg #[.string c1, .int .i64 l1, .slice pA1 p1.length pc1, .slice oA1 o1.length oc1], .agg #[.string c1, .int .i64 l1, .slice pA2 p1.length pc2, .slice oA2 o1.length oc2]] W2 (fun e w3 => e = .returned (.bool true) ∧
      w3.cell? ⟨w.heap.size, 2, none⟩ = some (.slice pA1 p1.length pc1) ∧ w3.cell? ⟨w.heap.size + 1, 2, none⟩ = some (.slice pA2 p1.length pc2) ∧
      Hid (Calls Try.prog 52 #[.slice pA1 p1.length pc1, .slice pA2 p1.length pc2] w3 (fun e w4 => e = .returned (.bool true) ∧ w4.cell? ⟨w.heap.size, 3, none⟩ = some (.slice oA1 o1.length oc1) ∧ w4.cell? ⟨w.heap.size + 1, 3, none⟩ = some (.slice oA2 o1.length oc2) ∧
        Hid (Calls Try.prog 53 #[.slice oA1 o1.length oc1, .slice oA2 o1.length oc2] w4 (fun e w5 => e = .returned (.bool true) ∧ Hid (Below w.heap.size w w5)))))) := by
    refine hsi.mono fun e w3 ⟨he, hB⟩ => ?_
    have h3 := hc w3 hB
    have hB3 : Below w.heap.size w w3 := hB2.trans (hB.mono hB2.size)
    refine ⟨he, h3.1, h3.2.2.1, (hkp w3 hB3).mono fun e w4 ⟨he, hB'⟩ => ?_⟩
    have hBx : Below W2.heap.size W2 w4 := hB.trans (hB'.mono hB.size)
    have h4 := hc w4 hBx
    have hB4 : Below w.heap.size w w4 := hB3.trans (hB'.mono hB3.size)
    exact ⟨he, h4.2.1, h4.2.2.2, (hko w4 hB4).mono fun e w5 ⟨he, hB''⟩ => ⟨he, hB4.trans (hB''.mono hB4.size)⟩⟩
  rw [hW2] at hch
  have HCH := Lib.hid hch
  clear hch hkp hko hc hsi hs2 hB2 hW2 hL hx
  go_enter Try.func31, Try.ntmps31
  go_wp2_with (first | (go_at_call 32; (with_reducible refine HCH.out.mono ?_); rintro e w3 ⟨rfl, hc1, hc2, HKP⟩) | (go_at_call 52; (with_reducible refine HKP.out.mono ?_); rintro e w4 ⟨rfl, hc3, hc4, HKT⟩) | (go_at_call 53; (with_reducible refine HKT.out.mono ?_); rintro e w5 ⟨rfl, HB⟩))
  go_ret
  exact ⟨rfl, HB.out⟩
theorem LentIv.kept {w w' : World} {base b n : Nat} {y : Iv} {x : It} {v : Value} {cs : List Value} (h : LentIv w base y x) (hv : w.ownsRow b 32 4 v n cs) (hg : w.grownBy w' v.ownBlock) : LentIv w' base y x := by
  obtain ⟨h1, ⟨g, cap, e1, h2⟩, ⟨g2, cap2, e2, h3⟩⟩ := h
  exact ⟨h1, ⟨g, cap, e1, h2.kept hg (.inr fun e => own_types h2 hv (by decide) _ rfl e.symm)⟩, ⟨g2, cap2, e2, h3.kept hg (.inr fun e => own_types h3 hv (by decide) _ rfl e.symm)⟩⟩
theorem LentIv.lower {w : World} {base base' : Nat} {y : Iv} {x : It} (h : LentIv w base y x) (hb : base' ≤ base) : LentIv w base' y x := by
  obtain ⟨h1, ⟨g, cap, e1, h2⟩, ⟨g2, cap2, e2, h3⟩⟩ := h
  exact ⟨h1, ⟨g, cap, e1, own_lower h2 hb⟩, ⟨g2, cap2, e2, own_lower h3 hb⟩⟩
def marksIv (k n : Nat) : List Iv := (List.range n).map fun (i : Nat) => markIv k (i : Int)
theorem marksIv_succ (k n : Nat) : marksIv k (n + 1) = marksIv k n ++ [markIv k n] := by simp [marksIv, List.range_succ]
theorem marksIv_len (k n : Nat) : (marksIv k n).length = n := by simp [marksIv]
/-- A list of items that was lent: its marks lie behind it; ys: the items as they lie there. -/
def LentIs (w : World) (base : Nat) (v : Value) (xs : List It) (ys : List Iv) : Prop :=
  itsOf ys = xs ∧ (∀ y ∈ ys, LentIv w base y y.it) ∧ ∃ g cap, v = .slice (some ⟨g, 0, none⟩) xs.length cap ∧ w.ownsRow base 32 4 (.slice (some ⟨g, 0, none⟩) (xs.length + 12) cap) (xs.length + 12) ((ys ++ marksIv 1 12).flatMap encIv)
theorem LentIs.below {w w' : World} {base : Nat} {v : Value} {xs : List It} {ys : List Iv} (h : LentIs w base v xs ys) (hb : Below w.heap.size w w') : LentIs w' base v xs ys := by
  obtain ⟨h1, h2, g, cap, rfl, h3⟩ := h
  exact ⟨h1, fun y hy => (h2 y hy).below hb, g, cap, rfl, own_below h3 hb⟩
theorem LentIs.items {w : World} {base : Nat} {v : Value} {xs : List It} {ys : List Iv} (h : LentIs w base v xs ys) : ∃ g cap, v = .slice (some ⟨g, 0, none⟩) ys.length cap ∧ ys.length = xs.length ∧ xs.length + 12 ≤ cap ∧ cap ≤ maxLen ∧ base ≤ g ∧ ItemsAt w (some ⟨g, 0, none⟩) ys := by
  obtain ⟨h1, h2, g, cap, rfl, h3⟩ := h
  obtain ⟨A, c, he, h4, h5, h6⟩ := own_rd h3
  cases he
  have hl : ys.length = xs.length := by rw [← h1, itsOf_len]
  rw [List.flatMap_append] at h6
  exact ⟨g, cap, by rw [hl], hl, h4, h5, (h3.lt g rfl).1, Rd.left h6, fun y hy => (h2 y hy).item⟩
theorem infoIt : (Try.prog.info? 32).map (fun i => (i.zero, i.size, i.bytes)) = some (some (.agg #[.string ByteArray.empty, .int .i64 0, .slice none 0 0, .slice none 0 0]), 4, 72) := by kernel_rfl
/-- The lens of lists within. -/
def LensOk (l : List Iv) : Prop := ∀ x ∈ l, x.it.parts.length ≤ 1000000 ∧ x.it.others.length ≤ 1000000
set_option maxHeartbeats 8000000 in
theorem lentItems_any (l : List Iv) (A : Option Addr) (c : Nat) (w : World) (hc : l.length ≤ c) (hm : c ≤ maxLen) (hA : ItemsAt w A l) (hlen : l.length ≤ 1000000) (hP : LensOk l) :
    Calls Try.prog 8 #[.slice A l.length c] w fun e w' => ∃ v ys, e = .returned v ∧ LentIs w' w.heap.size v (itsOf l) ys ∧ Below w.heap.size w w' := by
  unfold maxLen at hm
  obtain ⟨i0, hi, hz0, hz1, hz2⟩ := info_parts infoIt
  obtain ⟨v1, w1, hmk, hown0, hg0⟩ : ∃ v1 w1, (Instr.makeSlice 22 (.int .i64 0) (.int .i64 ((l.length : Int) + 12))).run Try.prog w = .ok v1 w1 ∧ w1.ownsRow w.heap.size 32 4 v1 0 [] ∧ w.grownBy w1 none := by
    obtain ⟨w1, hmk, hown0, hg0⟩ := run_makeSlice_owned (P := Try.prog) (w := w) w.heap.size 22 32 i0 _ 4 Try.underlying22 hi hz0 hz1 .i64 .i64 (l.length + 12) (by omega) (by rw [hz2]; omega) (by unfold maxLen; omega) (Nat.le_refl _)
    exact ⟨_, w1, hmk, hown0, hg0⟩
  have hb0 : Below w.heap.size w w1 := (Below.refl _ w).grown hg0 (Nat.le_refl _) (fun j hj => by cases hj)
  have HI := Lib.hid hi
  have HZ0 := Lib.hid hz0
  have HZ1 := Lib.hid hz1
  have HZ2 := Lib.hid hz2
  have HA := Lib.hid hA
  have HP := Lib.hid hP
  clear hi hz0 hz1 hz2 hg0 hA hP
  have HO0 := Lib.hid hown0
  have HB0 := Lib.hid hb0
  clear hown0 hb0
  go_enter Try.func8, Try.ntmps8
  go_wp2_with fail
  clear hmk
  go_loopw [3, 4] (fun v i wr => ∃ (k : Nat) (ys : List Iv), k ≤ l.length ∧ i = .int .i64 k ∧ Hid (ys.length = k ∧ itsOf ys = (itsOf l).take k ∧ ∀ y ∈ ys, LentIv wr w.heap.size y y.it) ∧ Hid (wr.ownsRow w.heap.size 32 4 v k (ys.flatMap encIv)) ∧ Hid (Below w.heap.size w wr)) (fun _ i _ => l.length - (intOf i).toNat)
  case atStart => exact ⟨0, [], Nat.zero_le _, rfl, ⟨rfl, by simp [itsOf], fun y hy => by cases hy⟩, HO0, HB0⟩
  case round =>
    clear HO0 HB0
    obtain ⟨k, ys, hk, rfl, HY, HO, HB⟩ := hrel
    by_cases hlt : k < l.length
    · obtain ⟨b, o, rfl, h0, h1, h2, h3, hI⟩ := (HA.out.below HB.out).get hlt
      have hpl := HP.out _ (List.getElem_mem hlt)
      have htk : (itsOf l).take (k + 1) = (itsOf l).take k ++ [l[k].it] := by
        rw [List.take_succ_eq_append_getElem (by rw [itsOf_len]; exact hlt)]
        simp [itsOf]
      generalize l[k] = x at h0 h1 h2 h3 hI hpl htk
      have hli := lentItem_any x wr hI hpl.1 hpl.2
      obtain ⟨⟨cd, lf, ps, ot⟩, pA, pc, oA, oc⟩ := x
      simp only at h0 h1 h2 h3 hpl htk
      have hpn := hI.pn
      have hpm := hI.pm
      have hon := hI.on
      have hom := hI.om
      unfold maxLen at hpm hom
      simp only at hpn hpm hon hom
      unfold aggIv Iv.pv Iv.ov at hli
      simp only at hli
      have hli2 : Calls Try.prog 24 #[.agg #[.string cd, .int .i64 lf, .slice pA ps.length pc, .slice oA ot.length oc]] wr (fun e w3 => ∃ (pA2 : Option Addr) (pc2 : Nat) (oA2 : Option Addr) (oc2 : Nat) (v' : Value) (w5 : World),
          e = .returned (.agg #[.string cd, .int .i64 lf, .slice pA2 ps.length pc2, .slice oA2 ot.length oc2]) ∧
          Hid ((Builtin.append_ #[22, 22] 22 #[u3, .slice (some ⟨w3.heap.size + 1, 0, none⟩) 1 1]).run Try.prog ((w3.alloc (.cells #[.string cd, .int .i64 lf, .slice pA2 ps.length pc2, .slice oA2 ot.length oc2] 32)).alloc (.cells #[.string cd, .int .i64 lf, .slice pA2 ps.length pc2, .slice oA2 ot.length oc2] 32)) = .ok v' w5) ∧
          Hid (∃ ys2 : List Iv, (ys2.length = k + 1 ∧ itsOf ys2 = (itsOf l).take (k + 1) ∧ ∀ y ∈ ys2, LentIv w5 w.heap.size y y.it) ∧ w5.ownsRow w.heap.size 32 4 v' (k + 1) (ys2.flatMap encIv) ∧ Below w.heap.size w w5)) := by
        refine hli.mono fun e w3 ⟨y, he, hy, hb⟩ => ?_
        obtain ⟨⟨cd2, lf2, ps2, ot2⟩, pA2, pc2, oA2, oc2⟩ := y
        have hyi := hy.it
        simp only at hyi
        cases hyi
        have hown3 := own_below HO.out hb
        obtain ⟨v', w5, hap, hown5, hg5, _⟩ := append_own_src (ty := 22) (t := 22) (tx := 22) Try.underlying22 HI.out HZ0.out HZ1.out HZ2.out rfl (by omega) ((hown3.alloc (.cells #[.string cd, .int .i64 lf, .slice pA2 ps.length pc2, .slice oA2 ot.length oc2] 32)).alloc (.cells #[.string cd, .int .i64 lf, .slice pA2 ps.length pc2, .slice oA2 ot.length oc2] 32))
          ((cells_rd (w3.alloc (.cells #[.string cd, .int .i64 lf, .slice pA2 ps.length pc2, .slice oA2 ot.length oc2] 32)) #[.string cd, .int .i64 lf, .slice pA2 ps.length pc2, .slice oA2 ot.length oc2] 32).src (c := 1) (m := 1) (size := 4) (tx := 22) Try.underlying22 rfl (by omega) (flat_one encIv_one [⟨⟨cd, lf, ps, ot⟩, pA2, pc2, oA2, oc2⟩])) (by unfold maxLen; omega) (by omega) (by have := HB.out.size; have := hb.size; simp; omega)
        rw [World.size_alloc] at hap
        have hb3 : Below w.heap.size w w3 := HB.out.trans (hb.mono HB.out.size)
        have hbW : Below w3.heap.size w3 ((w3.alloc (.cells #[.string cd, .int .i64 lf, .slice pA2 ps.length pc2, .slice oA2 ot.length oc2] 32)).alloc (.cells #[.string cd, .int .i64 lf, .slice pA2 ps.length pc2, .slice oA2 ot.length oc2] 32)) := ((Below.refl _ w3).alloc (Nat.le_refl _) _).alloc (by simp) _
        have hownW := own_below hown3 hbW
        refine ⟨pA2, pc2, oA2, oc2, v', w5, he, hap, ys ++ [⟨⟨cd, lf, ps, ot⟩, pA2, pc2, oA2, oc2⟩], ⟨by rw [List.length_append, HY.out.1]; rfl, ?_, fun y hy2 => ?_⟩, ?_, ?_⟩
        · rw [htk, ← HY.out.2.1]; simp [itsOf]
        · rcases List.mem_append.1 hy2 with hy2 | hy2
          · exact (((HY.out.2.2 y hy2).below hb).below hbW).kept hownW hg5
          · simp only [List.mem_singleton] at hy2
            subst hy2
            exact ((hy.lower HB.out.size).below hbW).kept hownW hg5
        · rw [List.flatMap_append]; exact hown5
        · exact (hb3.trans (hbW.mono hb3.size)).grown hg5 (by have := hb3.size; simp; omega) (fun j hj => (HO.out.lt j hj).1)
      have HLI := Lib.hid hli2
      clear hli hli2 HY HO HB hI htk
      go_wp2_with (first | (go_at_call 24; (with_reducible refine HLI.out.mono ?_); rintro e w3 ⟨pA2, pc2, oA2, oc2, v', w5, rfl, HAP, HR⟩) | (at_builtin; refine Lib.wpList_append_run _ rfl _ _ _ _ rfl _ _ rfl rfl _ _ HAP.out ?_))
      go_roundw
      case rel =>
        obtain ⟨ys2, h1, h2, h3⟩ := HR.out
        exact ⟨k + 1, ys2, by omega, by go_num, h1, h2, h3⟩
      case measure => simp [intOf]; omega
    · obtain rfl : k = l.length := by omega
      go_wp2_with fail
      have hY1 := HY.out.2.1
      rw [List.take_of_length_le (by rw [itsOf_len]; exact Nat.le_refl _)] at hY1
      have HY2 := Lib.hid (And.intro hY1 HY.out.2.2)
      clear hY1 HY
      go_loopw [3, 6] (fun v i wr => ∃ j : Nat, j ≤ 12 ∧ i = .int .i64 j ∧ Hid (∀ y ∈ ys, LentIv wr w.heap.size y y.it) ∧ Hid (wr.ownsRow w.heap.size 32 4 v (l.length + j) ((ys ++ marksIv 1 j).flatMap encIv)) ∧ Hid (Below w.heap.size w wr)) (fun _ i _ => 12 - (intOf i).toNat)
      case atStart => exact ⟨0, by omega, rfl, HY2.out.2, (by simpa [marksIv] using HO.out : wr.ownsRow w.heap.size 32 4 u3 (l.length + 0) ((ys ++ marksIv 1 0).flatMap encIv)), HB⟩
      case round =>
        clear HO HB
        obtain ⟨j, hj, rfl, HL, HO, HB⟩ := hrel
        by_cases hlt2 : j < 12
        · have hc := fun w => markItem_any 1 j w (by omega) (by omega) (by omega) (by omega)
          have HC := Lib.hid hc
          have hsz := HB.out.size
          have hbW : Below wr.heap.size wr ((wr.alloc (.cells #[.string ⟨#[]⟩, .int .i64 (markI 1 j), .slice none 0 0, .slice none 0 0] 32)).alloc (.cells #[.string ⟨#[]⟩, .int .i64 (markI 1 j), .slice none 0 0, .slice none 0 0] 32)) := ((Below.refl _ wr).alloc (Nat.le_refl _) _).alloc (by simp) _
          have hownW := own_below HO.out hbW
          obtain ⟨v', w3, hap, hown3, hg3, _⟩ := append_own_src (ty := 22) (t := 22) (tx := 22) Try.underlying22 HI.out HZ0.out HZ1.out HZ2.out rfl (by omega) hownW
            ((cells_rd (wr.alloc (.cells #[.string ⟨#[]⟩, .int .i64 (markI 1 j), .slice none 0 0, .slice none 0 0] 32)) #[.string ⟨#[]⟩, .int .i64 (markI 1 j), .slice none 0 0, .slice none 0 0] 32).src (c := 1) (m := 1) (size := 4) (tx := 22) Try.underlying22 rfl (by omega) (flat_one encIv_one [markIv 1 j])) (by unfold maxLen; omega) (by omega) (by simp; omega)
          have R : (∀ y ∈ ys, LentIv w3 w.heap.size y y.it) ∧ w3.ownsRow w.heap.size 32 4 v' (l.length + (j + 1)) ((ys ++ marksIv 1 (j + 1)).flatMap encIv) ∧ Below w.heap.size w w3 := by
            refine ⟨fun y hy => ((HL.out y hy).below hbW).kept hownW hg3, ?_, (HB.out.trans (hbW.mono hsz)).grown hg3 (by simp; omega) (fun k hk => (HO.out.lt k hk).1)⟩
            rw [marksIv_succ, ← List.append_assoc, List.flatMap_append, ← Nat.add_assoc]
            exact hown3
          have HR := Lib.hid R
          simp only [World.size_alloc] at hap
          have HAP2 := Lib.hid hap
          clear hc hap hown3 hg3 R hbW hownW HL HO HB
          go_wp2_with (first | (go_at_call 25; (with_reducible refine (HC.out _).mono ?_); rintro e w' ⟨rfl, rfl⟩) | (at_builtin; refine Lib.wpList_append_run _ rfl _ _ _ _ rfl _ _ rfl rfl _ _ HAP2.out ?_))
          go_roundw
          case rel => exact ⟨j + 1, by omega, by go_num, HR.out.1, HR.out.2.1, HR.out.2.2⟩
          case measure => simp [intOf]; omega
        · obtain rfl : j = 12 := by omega
          have hown := HO.out
          obtain ⟨hF, h0⟩ := hown
          obtain ⟨hv, hz, _⟩ | ⟨g, cap, cur, rfl, hg, hcell, hle, hcap, hsz, htk⟩ := h0
          unfold maxLen at hcap
          clear hF hcell hsz htk
          go_wp2
          go_ret
          exact ⟨_, ys, rfl, ⟨HY2.out.1, HL.out, g, cap, by rw [itsOf_len]; exact rfl, by rw [itsOf_len]; exact HO.out⟩, HB.out⟩
end Go.Proofs.Ytnboigbknadpdaa
