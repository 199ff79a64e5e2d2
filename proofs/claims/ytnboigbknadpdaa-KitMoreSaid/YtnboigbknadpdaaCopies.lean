/- Copies of items. -/
import Derived.Test.YtnboigbknadpdaaLentItems
set_option linter.unusedVariables false
set_option linter.unusedSimpArgs false
namespace Go.Proofs.Ytnboigbknadpdaa
set_option maxRecDepth 100000
open Go.RowKit SM
set_option maxHeartbeats 4000000 in
theorem copyParts_any (xs : List Prt) (A : Option Addr) (c : Nat) (w : World) (hc : xs.length ≤ c) (hm : c ≤ maxLen) (hA : Rd w A (xs.flatMap encP)) (hlen : xs.length ≤ 1000000) :
    Calls Try.prog 62 #[.slice A xs.length c] w fun e w' => ∃ v, e = .returned v ∧ w'.ownsRow w.heap.size 39 2 v xs.length (xs.flatMap encP) ∧ Below w.heap.size w w' := by
  obtain ⟨i0, hi, hz0, hz1, hz2⟩ := info_parts infoPart
  have hown0 : w.ownsRow w.heap.size 39 2 (.slice none 0 0) 0 [] := ⟨rfl, .inl ⟨rfl, rfl⟩⟩
  obtain ⟨v2, w2, hap, hown2, hg2, _⟩ := append_own_src (ty := 29) (t := 29) (tx := 29) Try.underlying29 hi hz0 hz1 hz2 rfl (by omega) hown0
    (hA.src (c := c) (m := xs.length) (size := 2) (tx := 29) Try.underlying29 (flat_length encP_len _) (by omega) (flat_one encP_one _)) (by unfold maxLen; omega) (by omega) (Nat.le_refl _)
  have hb2 : Below w.heap.size w w2 := (Below.refl _ w).grown hg2 (Nat.le_refl _) (fun j hj => (hown0.lt j hj).1)
  simp only [Nat.zero_add, List.nil_append] at hown2
  have HAP := Lib.hid hap
  have HR := Lib.hid (And.intro hown2 hb2)
  clear hi hz0 hz1 hz2 hap hown0 hg2 hA hown2 hb2
  go_enter Try.func62, Try.ntmps62
  go_wp2_with (at_builtin; refine Lib.wpList_append_run _ rfl _ _ _ _ rfl _ _ rfl rfl _ _ HAP.out ?_)
  exact bodyPost_ret (v := v2) (by simp [results, Try.results62, go_sem]) rfl ⟨v2, rfl, HR.out.1, HR.out.2⟩
set_option maxHeartbeats 4000000 in
theorem copyTexts_any (xs : List ByteArray) (A : Option Addr) (c : Nat) (w : World) (hc : xs.length ≤ c) (hm : c ≤ maxLen) (hA : Rd w A (xs.flatMap encS)) (hlen : xs.length ≤ 1000000) :
    Calls Try.prog 63 #[.slice A xs.length c] w fun e w' => ∃ v, e = .returned v ∧ w'.ownsRow w.heap.size 9 1 v xs.length (xs.flatMap encS) ∧ Below w.heap.size w w' := by
  obtain ⟨i0, hi, hz0, hz1, hz2⟩ := info_parts infoStr
  have hown0 : w.ownsRow w.heap.size 9 1 (.slice none 0 0) 0 [] := ⟨rfl, .inl ⟨rfl, rfl⟩⟩
  obtain ⟨v2, w2, hap, hown2, hg2, _⟩ := append_own_src (ty := 30) (t := 30) (tx := 30) Try.underlying30 hi hz0 hz1 hz2 rfl (by omega) hown0
    (hA.src (c := c) (m := xs.length) (size := 1) (tx := 30) Try.underlying30 (flat_length encS_len _) (by omega) (flat_one encS_one _)) (by unfold maxLen; omega) (by omega) (Nat.le_refl _)
  have hb2 : Below w.heap.size w w2 := (Below.refl _ w).grown hg2 (Nat.le_refl _) (fun j hj => (hown0.lt j hj).1)
  simp only [Nat.zero_add, List.nil_append] at hown2
  have HAP := Lib.hid hap
  have HR := Lib.hid (And.intro hown2 hb2)
  clear hi hz0 hz1 hz2 hap hown0 hg2 hA hown2 hb2
  go_enter Try.func63, Try.ntmps63
  go_wp2_with (at_builtin; refine Lib.wpList_append_run _ rfl _ _ _ _ rfl _ _ rfl rfl _ _ HAP.out ?_)
  exact bodyPost_ret (v := v2) (by simp [results, Try.results63, go_sem]) rfl ⟨v2, rfl, HR.out.1, HR.out.2⟩
/-- An item whose lists are its own. -/
structure CopyIv (w : World) (base : Nat) (y : Iv) : Prop where
  p : w.ownsRow base 39 2 y.pv y.it.parts.length (y.it.parts.flatMap encP)
  o : w.ownsRow base 9 1 y.ov y.it.others.length (y.it.others.flatMap encS)
theorem CopyIv.below {w w' : World} {base : Nat} {y : Iv} (h : CopyIv w base y) (hb : Below w.heap.size w w') : CopyIv w' base y := ⟨own_below h.p hb, own_below h.o hb⟩
theorem CopyIv.lower {w : World} {base base' : Nat} {y : Iv} (h : CopyIv w base y) (hb : base' ≤ base) : CopyIv w base' y := ⟨own_lower h.p hb, own_lower h.o hb⟩
theorem CopyIv.kept {w w' : World} {base b n : Nat} {y : Iv} {v : Value} {cs : List Value} (h : CopyIv w base y) (hv : w.ownsRow b 32 4 v n cs) (hg : w.grownBy w' v.ownBlock) : CopyIv w' base y := by
  refine ⟨h.p.kept hg ?_, h.o.kept hg ?_⟩
  · cases hb : y.pv.ownBlock with
    | none => exact .inl rfl
    | some g => exact .inr fun e => own_types h.p hv (by decide) g hb e.symm
  · cases hb : y.ov.ownBlock with
    | none => exact .inl rfl
    | some g => exact .inr fun e => own_types h.o hv (by decide) g hb e.symm
theorem CopyIv.item {w : World} {base : Nat} {y : Iv} (h : CopyIv w base y) : ItemAt w y := by
  obtain ⟨A, c, e1, h1, h2, h3⟩ := own_rd h.p
  obtain ⟨B, d, e2, h4, h5, h6⟩ := own_rd h.o
  unfold Iv.pv at e1
  unfold Iv.ov at e2
  injection e1 with a1 a2 a3
  injection e2 with b1 b2 b3
  exact ⟨by omega, by omega, by rw [a1]; exact h3, by omega, by omega, by rw [b1]; exact h6⟩
set_option maxHeartbeats 4000000 in
theorem copyItem_any (x : Iv) (w : World) (hI : ItemAt w x) (hp : x.it.parts.length ≤ 1000000) (ho : x.it.others.length ≤ 1000000) :
    Calls Try.prog 44 #[aggIv x] w fun e w' => ∃ y, e = .returned (aggIv y) ∧ y.it = x.it ∧ CopyIv w' w.heap.size y ∧ Below w.heap.size w w' := by
  obtain ⟨⟨cd, lf, ps, ot⟩, pA, pc, oA, oc⟩ := x
  obtain ⟨N, hN⟩ : ∃ N, N = w.heap.size := ⟨_, rfl⟩
  obtain ⟨W2, hW2⟩ : ∃ W2, W2 = ((w.alloc (.cells #[.string cd, .int .i64 lf, .slice pA ps.length pc, .slice oA ot.length oc] 32)).alloc (.cells #[.string ⟨#[]⟩, .int .i64 0, .slice none 0 0, .slice none 0 0] 32)) := ⟨_, rfl⟩
  have hB2 : Below w.heap.size w W2 := by rw [hW2]; exact ((Below.refl _ w).alloc (Nat.le_refl _) _).alloc (by simp) _
  have hs2 : W2.heap.size = N + 2 := by rw [hW2, hN]; simp
  have hn2 : W2.heap[N]? = some (.cells #[.string cd, .int .i64 lf, .slice pA ps.length pc, .slice oA ot.length oc] 32 (0, 0)) := by
    rw [hW2, hN, Below.heap_alloc _ _ _ (by simp), heap_alloc_new]
  have hm2 : W2.heap[N + 1]? = some (.cells #[.string ⟨#[]⟩, .int .i64 0, .slice none 0 0, .slice none 0 0] 32 (0, 0)) := by
    rw [hW2, hN]
    have := heap_alloc_new (w.alloc (.cells #[.string cd, .int .i64 lf, .slice pA ps.length pc, .slice oA ot.length oc] 32)) (.cells #[.string ⟨#[]⟩, .int .i64 0, .slice none 0 0, .slice none 0 0] 32)
    rw [World.size_alloc] at this
    exact this
  have hlp := copyParts_any ps pA pc W2 hI.pn hI.pm (hI.pr.below hB2) hp
  have hlp2 : Calls Try.prog 62 #[.slice pA ps.length pc] W2 (fun e w3 => ∃ (pA2 : Option Addr) (pc2 : Nat), e = .returned (.slice pA2 ps.length pc2) ∧ w3.cell? ⟨N, 2, none⟩ = some (.slice pA ps.length pc) ∧ w3.frozen? ⟨N, 2, none⟩ = false ∧
      (w3.setCell ⟨N, 2, none⟩ (.slice pA2 ps.length pc2)).cell? ⟨N, 3, none⟩ = some (.slice oA ot.length oc) ∧
      Hid (Calls Try.prog 63 #[.slice oA ot.length oc] (w3.setCell ⟨N, 2, none⟩ (.slice pA2 ps.length pc2)) (fun e w5 => ∃ (oA2 : Option Addr) (oc2 : Nat), e = .returned (.slice oA2 ot.length oc2) ∧ w5.cell? ⟨N, 3, none⟩ = some (.slice oA ot.length oc) ∧ w5.frozen? ⟨N, 3, none⟩ = false ∧
        (w5.setCell ⟨N, 3, none⟩ (.slice oA2 ot.length oc2)).cell? ⟨N, 0, none⟩ = some (.string cd) ∧ (w5.setCell ⟨N, 3, none⟩ (.slice oA2 ot.length oc2)).cell? ⟨N, 1, none⟩ = some (.int .i64 lf) ∧
        (w5.setCell ⟨N, 3, none⟩ (.slice oA2 ot.length oc2)).cell? ⟨N, 2, none⟩ = some (.slice pA2 ps.length pc2) ∧ (w5.setCell ⟨N, 3, none⟩ (.slice oA2 ot.length oc2)).cell? ⟨N, 3, none⟩ = some (.slice oA2 ot.length oc2) ∧
        ∃ w7, Hid ((Instr.storeAt 32 (.pointer (some ⟨N + 1, 0, none⟩)) (.agg #[.string cd, .int .i64 lf, .slice pA2 ps.length pc2, .slice oA2 ot.length oc2])).run Try.prog (w5.setCell ⟨N, 3, none⟩ (.slice oA2 ot.length oc2)) = .ok () w7) ∧
          w7.cell? ⟨N + 1, 0, none⟩ = some (.string cd) ∧ w7.cell? ⟨N + 1, 1, none⟩ = some (.int .i64 lf) ∧ w7.cell? ⟨N + 1, 2, none⟩ = some (.slice pA2 ps.length pc2) ∧ w7.cell? ⟨N + 1, 3, none⟩ = some (.slice oA2 ot.length oc2) ∧
          Hid (CopyIv w7 w.heap.size ⟨⟨cd, lf, ps, ot⟩, pA2, pc2, oA2, oc2⟩ ∧ Below w.heap.size w w7)))) := by
    refine hlp.mono fun e w3 ⟨v, he, hL, hB⟩ => ?_
    obtain ⟨pA2, pc2, hv, _⟩ := own_rd hL
    subst hv
    have hlo : ∀ g, (Value.slice pA2 ps.length pc2).ownBlock = some g → N + 2 ≤ g := fun g hg => by have := (hL.lt g hg).1; omega
    have hn3 := (hB.block N (by omega)).trans hn2
    have hm3 := (hB.block (N + 1) (by omega)).trans hm2
    have hB3 : Below w.heap.size w w3 := hB2.trans (hB.mono hB2.size)
    have hs3 := hB.size
    have hn4 := row_setCell (j := 2) (u := .slice pA2 ps.length pc2) hn3
    have hB4 : Below w.heap.size w (w3.setCell ⟨N, 2, none⟩ (.slice pA2 ps.length pc2)) := hB3.setCell (by show w.heap.size ≤ N; omega) _
    have hs4 : (w3.setCell ⟨N, 2, none⟩ (.slice pA2 ps.length pc2)).heap.size = w3.heap.size := by simp [World.setCell]
    have hm4 : (w3.setCell ⟨N, 2, none⟩ (.slice pA2 ps.length pc2)).heap[N + 1]? = _ := (Below.heap_setCell _ _ _ _ (by show N + 1 ≠ N; omega)).trans hm3
    have hL4 := ownsRow_setCell_other hL (a := ⟨N, 2, none⟩) (fun e => by have : N + 2 ≤ N := hlo _ e; omega) (.slice pA2 ps.length pc2)
    refine ⟨pA2, pc2, he, (cell_of_row _ _ _ _ _ _ hn3).trans rfl, free_of_row hn3, (cell_of_row _ _ _ _ _ _ hn4).trans rfl, ?_⟩
    have hlt := copyTexts_any ot oA oc (w3.setCell ⟨N, 2, none⟩ (.slice pA2 ps.length pc2)) hI.on hI.om (hI.or.below hB4) ho
    refine hlt.mono fun e w5 ⟨v, he, hT, hB'⟩ => ?_
    obtain ⟨oA2, oc2, hv, _⟩ := own_rd hT
    subst hv
    have hlo2 : ∀ g, (Value.slice oA2 ot.length oc2).ownBlock = some g → N + 2 ≤ g := fun g hg => by have := (hT.lt g hg).1; omega
    have hn5 := (hB'.block N (by omega)).trans hn4
    have hm5 := (hB'.block (N + 1) (by omega)).trans hm4
    have hL5 := own_below hL4 hB'
    have hB5 : Below w.heap.size w w5 := hB4.trans (hB'.mono hB4.size)
    have hs5 := hB'.size
    have hn6 := row_setCell (j := 3) (u := .slice oA2 ot.length oc2) hn5
    have hB6 : Below w.heap.size w (w5.setCell ⟨N, 3, none⟩ (.slice oA2 ot.length oc2)) := hB5.setCell (by show w.heap.size ≤ N; omega) _
    have hm6 : (w5.setCell ⟨N, 3, none⟩ (.slice oA2 ot.length oc2)).heap[N + 1]? = _ := (Below.heap_setCell _ _ _ _ (by show N + 1 ≠ N; omega)).trans hm5
    have hL6 := ownsRow_setCell_other hL5 (a := ⟨N, 3, none⟩) (fun e => by have : N + 2 ≤ N := hlo _ e; omega) (.slice oA2 ot.length oc2)
    have hT6 := ownsRow_setCell_other hT (a := ⟨N, 3, none⟩) (fun e => by have : N + 2 ≤ N := hlo2 _ e; omega) (.slice oA2 ot.length oc2)
    have hrow : (w5.setCell ⟨N, 3, none⟩ (.slice oA2 ot.length oc2)).ownsRow (N + 1) 32 4 (.slice (some ⟨N + 1, 0, none⟩) [zeroIv].length 1) [zeroIv].length ([zeroIv].flatMap encIv) := by
      refine ⟨rfl, .inr ⟨N + 1, 1, _, rfl, Nat.le_refl _, hm6, Nat.le_refl 1, by decide, rfl, rfl⟩⟩
    obtain ⟨w7, hst, hown7, hg7⟩ := own_store (P := Try.prog) (ty := 32) encIv_len encIv_one hrow (j := 0) (by simp) ⟨⟨cd, lf, ps, ot⟩, pA2, pc2, oA2, oc2⟩ sizeIt
    have hc7 := fun j u h => hown7.cells (g := N + 1) rfl j u h
    have hs6 : (w5.setCell ⟨N, 3, none⟩ (.slice oA2 ot.length oc2)).heap.size = w5.heap.size := by simp [World.setCell]
    refine ⟨oA2, oc2, he, (cell_of_row _ _ _ _ _ _ hn5).trans rfl, free_of_row hn5, (cell_of_row _ _ _ _ _ _ hn6).trans rfl, (cell_of_row _ _ _ _ _ _ hn6).trans rfl, (cell_of_row _ _ _ _ _ _ hn6).trans rfl, (cell_of_row _ _ _ _ _ _ hn6).trans rfl, w7, hst, hc7 0 _ rfl, hc7 1 _ rfl, hc7 2 _ rfl, hc7 3 _ rfl, ?_, ?_⟩
    · have hc6 : CopyIv (w5.setCell ⟨N, 3, none⟩ (.slice oA2 ot.length oc2)) w.heap.size ⟨⟨cd, lf, ps, ot⟩, pA2, pc2, oA2, oc2⟩ := ⟨own_lower hL6 (by omega), own_lower hT6 (by omega)⟩
      exact hc6.kept hrow hg7
    · exact hB6.grown hg7 (by omega) (fun k hk => by injection hk with hk; omega)
  rw [hW2] at hlp2
  have HLP := Lib.hid hlp2
  subst hN
  clear hlp hlp2 hm2 hn2 hs2 hB2 hW2 hI
  unfold aggIv Iv.pv Iv.ov
  simp only
  go_enter Try.func44, Try.ntmps44
  go_wp2_with (first | (go_at_call 62; (with_reducible refine HLP.out.mono ?_); rintro e w3 ⟨pA2, pc2, rfl, hc32, hf32, hc43, HLT⟩) | (go_at_call 63; (with_reducible refine HLT.out.mono ?_); rintro e w5 ⟨oA2, oc2, rfl, hc53, hf53, hc60, hc61, hc62, hc63, w7, HST, hc70, hc71, hc72, hc73, HR⟩) | (refine wpList_store_run HST.out rfl _ _ (by rfl) (by rfl) (by rfl) ?_))
  exact bodyPost_ret (v := .agg #[.string cd, .int .i64 lf, .slice pA2 ps.length pc2, .slice oA2 ot.length oc2]) (by simp [results, Try.results44, go_sem, hc70, hc71, hc72, hc73]) rfl ⟨⟨⟨cd, lf, ps, ot⟩, pA2, pc2, oA2, oc2⟩, rfl, rfl, HR.out.1, HR.out.2⟩
/-- Copies of items. -/
def CopyIs (w : World) (base : Nat) (v : Value) (xs : List It) (ys : List Iv) : Prop :=
  itsOf ys = xs ∧ (∀ y ∈ ys, CopyIv w base y) ∧ w.ownsRow base 32 4 v xs.length (ys.flatMap encIv)
set_option maxHeartbeats 8000000 in
theorem copyItems_any (l : List Iv) (A : Option Addr) (c : Nat) (w : World) (hc : l.length ≤ c) (hm : c ≤ maxLen) (hA : ItemsAt w A l) (hlen : l.length ≤ 1000000) (hP : LensOk l) :
    Calls Try.prog 21 #[.slice A l.length c] w fun e w' => ∃ v ys, e = .returned v ∧ CopyIs w' w.heap.size v (itsOf l) ys ∧ Below w.heap.size w w' := by
  unfold maxLen at hm
  obtain ⟨i0, hi, hz0, hz1, hz2⟩ := info_parts infoIt
  have HI := Lib.hid hi
  have HZ0 := Lib.hid hz0
  have HZ1 := Lib.hid hz1
  have HZ2 := Lib.hid hz2
  have HA := Lib.hid hA
  have HP := Lib.hid hP
  clear hi hz0 hz1 hz2 hA hP
  go_enter Try.func21, Try.ntmps21
  go_wp2_with fail
  go_loopw [3, 4] (fun v i wr => ∃ (k : Nat) (ys : List Iv), k ≤ l.length ∧ i = .int .i64 k ∧ Hid (ys.length = k ∧ itsOf ys = (itsOf l).take k ∧ ∀ y ∈ ys, CopyIv wr w.heap.size y) ∧ Hid (wr.ownsRow w.heap.size 32 4 v k (ys.flatMap encIv)) ∧ Hid (Below w.heap.size w wr)) (fun _ i _ => l.length - (intOf i).toNat)
  case atStart => exact ⟨0, [], Nat.zero_le _, rfl, ⟨rfl, by simp [itsOf], fun y hy => by cases hy⟩, ⟨rfl, .inl ⟨rfl, rfl⟩⟩, Below.refl _ _⟩
  case round =>
    obtain ⟨k, ys, hk, rfl, HY, HO, HB⟩ := hrel
    by_cases hlt : k < l.length
    · obtain ⟨b, o, rfl, h0, h1, h2, h3, hI⟩ := (HA.out.below HB.out).get hlt
      have hpl := HP.out _ (List.getElem_mem hlt)
      have htk : (itsOf l).take (k + 1) = (itsOf l).take k ++ [l[k].it] := by
        rw [List.take_succ_eq_append_getElem (by rw [itsOf_len]; exact hlt)]
        simp [itsOf]
      generalize l[k] = x at h0 h1 h2 h3 hI hpl htk
      have hli := copyItem_any x wr hI hpl.1 hpl.2
      obtain ⟨⟨cd, lf, ps, ot⟩, pA, pc, oA, oc⟩ := x
      simp only at h0 h1 h2 h3 hpl htk
      have hpn := hI.pn
      have hpm := hI.pm
      have hon := hI.on
      have hom := hI.om
      unfold maxLen at hpm hom
      simp only at hpn hpm hon hom
      unfold aggIv Iv.pv Iv.ov at hli
      simp only at hli
      have hli2 : Calls Try.prog 44 #[.agg #[.string cd, .int .i64 lf, .slice pA ps.length pc, .slice oA ot.length oc]] wr (fun e w3 => ∃ (pA2 : Option Addr) (pc2 : Nat) (oA2 : Option Addr) (oc2 : Nat) (v' : Value) (w5 : World),
          e = .returned (.agg #[.string cd, .int .i64 lf, .slice pA2 ps.length pc2, .slice oA2 ot.length oc2]) ∧
          Hid ((Builtin.append_ #[22, 22] 22 #[u3, .slice (some ⟨w3.heap.size + 1, 0, none⟩) 1 1]).run Try.prog ((w3.alloc (.cells #[.string cd, .int .i64 lf, .slice pA2 ps.length pc2, .slice oA2 ot.length oc2] 32)).alloc (.cells #[.string cd, .int .i64 lf, .slice pA2 ps.length pc2, .slice oA2 ot.length oc2] 32)) = .ok v' w5) ∧
          Hid (∃ ys2 : List Iv, (ys2.length = k + 1 ∧ itsOf ys2 = (itsOf l).take (k + 1) ∧ ∀ y ∈ ys2, CopyIv w5 w.heap.size y) ∧ w5.ownsRow w.heap.size 32 4 v' (k + 1) (ys2.flatMap encIv) ∧ Below w.heap.size w w5)) := by
        refine hli.mono fun e w3 ⟨y, he, hyi, hy, hb⟩ => ?_
        obtain ⟨⟨cd2, lf2, ps2, ot2⟩, pA2, pc2, oA2, oc2⟩ := y
        simp only at hyi
        cases hyi
        have hown3 := own_below HO.out hb
        obtain ⟨v', w5, hap, hown5, hg5, _⟩ := append_own_src (ty := 22) (t := 22) (tx := 22) Try.underlying22 HI.out HZ0.out HZ1.out HZ2.out rfl (by omega) ((hown3.alloc (.cells #[.string cd, .int .i64 lf, .slice pA2 ps.length pc2, .slice oA2 ot.length oc2] 32)).alloc (.cells #[.string cd, .int .i64 lf, .slice pA2 ps.length pc2, .slice oA2 ot.length oc2] 32))
          ((cells_rd (w3.alloc (.cells #[.string cd, .int .i64 lf, .slice pA2 ps.length pc2, .slice oA2 ot.length oc2] 32)) #[.string cd, .int .i64 lf, .slice pA2 ps.length pc2, .slice oA2 ot.length oc2] 32).src (c := 1) (m := 1) (size := 4) (tx := 22) Try.underlying22 rfl (by omega) (flat_one encIv_one [⟨⟨cd, lf, ps, ot⟩, pA2, pc2, oA2, oc2⟩])) (by unfold maxLen; omega) (by omega) (by have := HB.out.size; have := hb.size; simp; omega)
        rw [World.size_alloc] at hap
        have hb3 : Below w.heap.size w w3 := HB.out.trans (hb.mono HB.out.size)
        have hbW : Below w3.heap.size w3 ((w3.alloc (.cells #[.string cd, .int .i64 lf, .slice pA2 ps.length pc2, .slice oA2 ot.length oc2] 32)).alloc (.cells #[.string cd, .int .i64 lf, .slice pA2 ps.length pc2, .slice oA2 ot.length oc2] 32)) := ((Below.refl _ w3).alloc (Nat.le_refl _) _).alloc (by simp) _
        have hownW := own_below hown3 hbW
        refine ⟨pA2, pc2, oA2, oc2, v', w5, he, hap, ys ++ [⟨⟨cd, lf, ps, ot⟩, pA2, pc2, oA2, oc2⟩], ⟨by rw [List.length_append, HY.out.1]; rfl, ?_, fun y hy2 => ?_⟩, ?_, ?_⟩
        · rw [htk, ← HY.out.2.1]; simp [itsOf]
        · rcases List.mem_append.1 hy2 with hy2 | hy2
          · exact (((HY.out.2.2 y hy2).below hb).below hbW).kept hownW hg5
          · simp only [List.mem_singleton] at hy2
            subst hy2
            exact ((hy.lower HB.out.size).below hbW).kept hownW hg5
        · rw [List.flatMap_append]; exact hown5
        · exact (hb3.trans (hbW.mono hb3.size)).grown hg5 (by have := hb3.size; simp; omega) (fun j hj => (HO.out.lt j hj).1)
      have HLI := Lib.hid hli2
      clear hli hli2 HY HO HB hI htk
      go_wp2_with (first | (go_at_call 44; (with_reducible refine HLI.out.mono ?_); rintro e w3 ⟨pA2, pc2, oA2, oc2, v', w5, rfl, HAP, HR⟩) | (at_builtin; refine Lib.wpList_append_run _ rfl _ _ _ _ rfl _ _ rfl rfl _ _ HAP.out ?_))
      go_roundw
      case rel =>
        obtain ⟨ys2, h1, h2, h3⟩ := HR.out
        exact ⟨k + 1, ys2, by omega, by go_num, h1, h2, h3⟩
      case measure => simp [intOf]; omega
    · obtain rfl : k = l.length := by omega
      go_wp2_with fail
      have hY1 := HY.out.2.1
      rw [List.take_of_length_le (by rw [itsOf_len]; exact Nat.le_refl _)] at hY1
      exact bodyPost_ret (v := u3) (by simp [results, Try.results21, go_sem]) rfl ⟨u3, ys, rfl, ⟨hY1, HY.out.2.2, by rw [itsOf_len]; exact HO.out⟩, HB.out⟩
end Go.Proofs.Ytnboigbknadpdaa
