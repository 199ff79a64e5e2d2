/- Lists of the kind Parts that lie apart are told so by ApartParts. -/
import Derived.Test.YtjefaineggnogaaGreatFlatParts
import Derived.Test.YtjefaineggnogaaGreatFlatNil
set_option linter.unusedVariables false
set_option linter.unusedSimpArgs false
namespace Go.Proofs.YtjefaineggnogaaGreat
set_option maxRecDepth 100000
open Go.RowKit SM
/-- The bag's cells. -/
def bagParts (v : Value) : List Value := [.slice none 0 0, .slice none 0 0, .slice none 0 0, .slice none 0 0, .slice none 0 0, .slice none 0 0, .slice none 0 0, .slice none 0 0, .slice none 0 0, v, .slice none 0 0, .slice none 0 0, .slice none 0 0, .slice none 0 0, .slice none 0 0, .slice none 0 0, .slice none 0 0, .slice none 0 0, .slice none 0 0, .slice none 0 0, .slice none 0 0, .slice none 0 0, .slice none 0 0]
abbrev bagV (g : Nat) : Value := .slice (some ⟨g, 0, none⟩) 23 23
theorem bagParts_cell {B g : Nat} {w : World} {v : Value} (h : Ow encV 73 1 B w (bagV g) (bagParts v)) (j : Nat) {u : Value} (hu : (bagParts v)[j]? = some u) : w.cell? ⟨g, j, none⟩ = some u := by
  obtain ⟨A, c, he, _, _, hr⟩ := h.rd
  cases he
  rw [flatV] at hr
  obtain ⟨b, o, e, hc⟩ := hr (by simp [bagParts])
  cases e
  have := hc j u hu
  rwa [Nat.zero_add] at this
def PutPartsR (g B : Nat) (us : List Value) (l : Value) (w : World) (e : Ending) (w' : World) : Prop :=
  e = .returned (.tuple #[]) ∧ ∃ v', Ow encV 73 1 B w' (bagV g) (bagParts v') ∧ Ow encV 22 1 B w' v' (us ++ [l]) ∧ v'.ownBlock ≠ some g ∧ Tch (fun b => B ≤ b) w w'
set_option maxHeartbeats 2000000 in
theorem putParts_any (g B : Nat) (v l : Value) (us : List Value) (w : World) (A1 : Option Addr) (n1 c1 : Nat) (hl : l = .slice A1 n1 c1) (hb : Ow encV 73 1 B w (bagV g) (bagParts v)) (hv : Ow encV 22 1 B w v us)
    (hne : v.ownBlock ≠ some g) (hsz : us.length ≤ 1000000) (hB : B ≤ w.heap.size) :
    Calls Tryz.prog 26 #[.pointer (some ⟨g, 0, none⟩), l] w (PutPartsR g B us l w) := by
  subst hl
  have hinfo : (Tryz.prog.info? 22).map (fun i => (i.zero, i.size, i.bytes)) = some (some (.slice none 0 0), 1, 24) := by kernel_rfl
  have hsz1 : (Tryz.prog.info? 31).map (·.size) = some 1 := by kernel_rfl
  obtain ⟨i0, hi, hz0, hz1, hz2⟩ := info_parts hinfo
  have hbl : Below w.heap.size w (w.alloc (.cells #[.slice A1 n1 c1] 22)) := (Below.refl _ w).alloc (Nat.le_refl _) _
  have hgB := hb.lt (b := g) rfl
  obtain ⟨v', w3, hap, h1, h2, h3, h4⟩ := (hv.below hbl).append (ty := 31) (t := 31) (tx := 31) (zs := [.slice A1 n1 c1]) Tryz.underlying31 hi hz0 hz1 hz2 rfl (by omega)
    ((cells_rd w #[.slice A1 n1 c1] 22).src (c := 1) (m := 1) (size := 1) (tx := 31) Tryz.underlying31 rfl (by omega) (by intro u hu; simp only [encV, List.flatMap_cons, List.flatMap_nil, List.append_nil, List.mem_singleton] at hu; subst hu; rfl)) rfl (by unfold maxLen; omega) (by omega) (by simp; omega)
  have hT3 : Tch (fun b => v.ownBlock = some b) (w.alloc (.cells #[.slice A1 n1 c1] 22)) w3 := Tch.of_grown h3 fun b hb => hb
  have hb3 : Ow encV 73 1 B w3 (bagV g) (bagParts v) := (hb.below hbl).tch hT3 fun b hb hs => by
    have : g = b := by simpa [bagV, Value.ownBlock] using hb
    subst this
    exact hne hs
  have hv'g : v'.ownBlock ≠ some g := by
    rcases h4 with h4 | h4
    · rw [h4]; exact hne
    · rw [h4]; intro e; injection e with e; simp at e; omega
  obtain ⟨A, c, hgv, _⟩ := h1.rd
  obtain ⟨a1, a2, a3⟩ := own_store_run Tryz.prog (enc := encV) (k := 1) (fun _ => rfl) hb3 (j := 9) (by simp [bagParts]) v' (fun u hu => by simp only [encV, List.mem_singleton] at hu; subst hu; rw [hgv]; rfl)
  rw [Nat.mul_one] at a1 a2 a3
  have hst := run_storeAt_cells Tryz.prog w3 g 9 31 v' (by rw [hgv]; exact a3) (by rw [hsz1, hgv]; rfl) (by rw [hgv]; simp [Value.cells, Value.oneCell'])
  have hcells : v'.cells.toList = encV v' := by rw [hgv]; rfl
  rw [hcells] at hst
  have hT4 : Tch (fun b => b = g) w3 (w3.setCells g 9 (encV v')) := Tch.of_grown a2 fun b hb => by cases hb; rfl
  have hR : PutPartsR g B us (.slice A1 n1 c1) w (.returned (.tuple #[])) (w3.setCells g 9 (encV v')) := by
    refine ⟨rfl, v', a1, h1.tch hT4 fun b hb e => hv'g (by rw [hb, e]), hv'g, ?_⟩
    refine (((Tch.of_below hbl _).trans (hT3.mono (S' := fun b => B ≤ b) fun b hb => (hv.lt hb).1) (fun b hb => .inl hb)).trans (hT4.mono (S' := fun b => B ≤ b) fun b hb => ?_) (fun b hb => .inl hb))
    rw [hb]; exact hgB.1
  have hcell := bagParts_cell hb 9 (u := v) rfl
  have HAP := Lib.hid hap
  have HST := Lib.hid hst
  have HR := Lib.hid hR
  clear hbl h1 h2 h3 h4 hT3 hb3 hv'g a1 a2 a3 hst hT4 hR hap hi hz0 hz1 hz2 hb hv hinfo hsz1 hcells hgv
  generalize w3.setCells g 9 (encV v') = w5 at *
  go_enter Tryz.func26, Tryz.ntmps26
  go_wp2_with (first | (at_builtin; refine Lib.wpList_append_run _ rfl _ _ _ _ rfl _ _ rfl rfl _ _ HAP.out ?_) | (refine wpList_store_run HST.out rfl _ _ (by rfl) (by rfl) (by rfl) ?_))
  go_end0
  exact HR.out

set_option maxHeartbeats 16000000 in
theorem bagApartParts_any (L : VL) (g B B' : Nat) (v : Value) (w : World) (hb : Ow encV 73 1 B w (bagV g) (bagParts v)) (hv : Ow encV 22 1 B w v (L.map (·.1))) (hg : ¬ SLs L g) (hvb : ∀ b, v.ownBlock = some b → ¬ SLs L b)
    (hD : Dist L w.heap.size) (hF : Fam encP mkP 38 2 B' L 0 0 w) (hB : B' ≤ w.heap.size) (hn : L.length ≤ 1000) (hl : ∀ x ∈ L, x.2 ≤ 1000000) :
    Calls Tryz.prog 27 #[.pointer (some ⟨g, 0, none⟩)] w fun e w' => e = .returned (.bool true) ∧ Tch (SLs L) w w' := by
  have hG : ∀ b, (bagV g).ownBlock = some b → ¬ SLs L b := fun b hb => by
    have : g = b := by simpa [bagV, Value.ownBlock] using hb
    rw [← this]; exact hg
  obtain ⟨A, c, hve, hc1, hc2, hR⟩ := hv.rd
  rw [List.length_map] at hve hc1
  rw [flatV] at hR
  have hFl : ∀ W, Below w.heap.size w W → Calls Tryz.prog 48 #[v] W fun e w' => e = .returned (.bool true) ∧ Tch (SLs L) W w' := fun W hW => by
    rw [hve]
    refine flatParts_any L A c B' W hc1 hc2 (hR.below hW) (fun a ha => hvb _ ?_) (hD.mono hW.size) (hF.below hW) (Nat.le_trans hB hW.size) hn hl
    have h2 : w.ownsRow B 22 1 v (L.map (·.1)).length ((L.map (·.1)).flatMap encV) := hv
    rcases h2.2 with ⟨h3, _⟩ | ⟨q, cap, cur, h3, _⟩
    · rw [hve, ha] at h3; cases h3
    · rw [hve, ha] at h3; injection h3 with h3; injection h3 with h3; subst h3; rw [hve, ha]; rfl
  have HF := Lib.hid hFl
  have HG := Lib.hid hG
  have HO0 := Lib.hid hb
  have HT0 := Lib.hid (Below.refl w.heap.size w)
  have c0 := bagParts_cell hb 0 (u := .slice none 0 0) rfl
  clear hFl hb hv hg hvb hD hF hB hn hl hG hve hc1 hc2 hR
  go_enter Tryz.func27, Tryz.ntmps27
  go_wp2_with (first | (go_at_call 39; (with_reducible refine (flatWords_nil _).mono ?_); rintro e w' ⟨rfl, hb⟩; have HO1 := Lib.hid (HO0.out.below hb); have HT1 := Lib.hid (HT0.out.trans (hb.mono HT0.out.size)); clear hb; have c1 := bagParts_cell HO1.out 1 (u := .slice none 0 0) rfl; clear c0) | (go_at_call 40; (with_reducible refine (flatInts_nil _).mono ?_); rintro e w' ⟨rfl, hb⟩; have HO2 := Lib.hid (HO1.out.below hb); have HT2 := Lib.hid (HT1.out.trans (hb.mono HT1.out.size)); clear hb; have c2 := bagParts_cell HO2.out 2 (u := .slice none 0 0) rfl; clear c1) | (go_at_call 41; (with_reducible refine (flatLongs_nil _).mono ?_); rintro e w' ⟨rfl, hb⟩; have HO3 := Lib.hid (HO2.out.below hb); have HT3 := Lib.hid (HT2.out.trans (hb.mono HT2.out.size)); clear hb; have c3 := bagParts_cell HO3.out 3 (u := .slice none 0 0) rfl; clear c2) | (go_at_call 42; (with_reducible refine (flatTexts_nil _).mono ?_); rintro e w' ⟨rfl, hb⟩; have HO4 := Lib.hid (HO3.out.below hb); have HT4 := Lib.hid (HT3.out.trans (hb.mono HT3.out.size)); clear hb; have c4 := bagParts_cell HO4.out 4 (u := .slice none 0 0) rfl; clear c3) | (go_at_call 43; (with_reducible refine (flatBytes_nil _).mono ?_); rintro e w' ⟨rfl, hb⟩; have HO5 := Lib.hid (HO4.out.below hb); have HT5 := Lib.hid (HT4.out.trans (hb.mono HT4.out.size)); clear hb; have c5 := bagParts_cell HO5.out 5 (u := .slice none 0 0) rfl; clear c4) | (go_at_call 44; (with_reducible refine (flatWindows_nil _).mono ?_); rintro e w' ⟨rfl, hb⟩; have HO6 := Lib.hid (HO5.out.below hb); have HT6 := Lib.hid (HT5.out.trans (hb.mono HT5.out.size)); clear hb; have c6 := bagParts_cell HO6.out 6 (u := .slice none 0 0) rfl; clear c5) | (go_at_call 45; (with_reducible refine (flatLots_nil _).mono ?_); rintro e w' ⟨rfl, hb⟩; have HO7 := Lib.hid (HO6.out.below hb); have HT7 := Lib.hid (HT6.out.trans (hb.mono HT6.out.size)); clear hb; have c7 := bagParts_cell HO7.out 7 (u := .slice none 0 0) rfl; clear c6) | (go_at_call 46; (with_reducible refine (flatWants_nil _).mono ?_); rintro e w' ⟨rfl, hb⟩; have HO8 := Lib.hid (HO7.out.below hb); have HT8 := Lib.hid (HT7.out.trans (hb.mono HT7.out.size)); clear hb; have c8 := bagParts_cell HO8.out 8 (u := .slice none 0 0) rfl; clear c7) | (go_at_call 47; (with_reducible refine (flatUses_nil _).mono ?_); rintro e w' ⟨rfl, hb⟩; have HO9 := Lib.hid (HO8.out.below hb); have HT9 := Lib.hid (HT8.out.trans (hb.mono HT8.out.size)); clear hb; have c9 := bagParts_cell HO9.out 9 (u := v) rfl; clear c8) | (go_at_call 48; (with_reducible refine (HF.out _ HT9.out).mono ?_); rintro e w' ⟨rfl, ht⟩; have HO10 := Lib.hid (HO9.out.tch ht HG.out); have HT10 := Lib.hid ((Tch.of_below HT9.out (SLs L)).trans ht (fun _ h => .inl h)); clear ht; have c10 := bagParts_cell HO10.out 10 (u := .slice none 0 0) rfl; clear c9) | (go_at_call 49; (with_reducible refine (flatItems_nil _).mono ?_); rintro e w' ⟨rfl, hb⟩; have HO11 := Lib.hid (HO10.out.below hb); have HT11 := Lib.hid (HT10.out.trans (Tch.of_below hb (SLs L)) (fun _ h => .inl h)); clear hb; have c11 := bagParts_cell HO11.out 11 (u := .slice none 0 0) rfl; clear c10) | (go_at_call 50; (with_reducible refine (flatLines_nil _).mono ?_); rintro e w' ⟨rfl, hb⟩; have HO12 := Lib.hid (HO11.out.below hb); have HT12 := Lib.hid (HT11.out.trans (Tch.of_below hb (SLs L)) (fun _ h => .inl h)); clear hb; have c12 := bagParts_cell HO12.out 12 (u := .slice none 0 0) rfl; clear c11) | (go_at_call 51; (with_reducible refine (flatAsks_nil _).mono ?_); rintro e w' ⟨rfl, hb⟩; have HO13 := Lib.hid (HO12.out.below hb); have HT13 := Lib.hid (HT12.out.trans (Tch.of_below hb (SLs L)) (fun _ h => .inl h)); clear hb; have c13 := bagParts_cell HO13.out 13 (u := .slice none 0 0) rfl; clear c12) | (go_at_call 52; (with_reducible refine (flatTells_nil _).mono ?_); rintro e w' ⟨rfl, hb⟩; have HO14 := Lib.hid (HO13.out.below hb); have HT14 := Lib.hid (HT13.out.trans (Tch.of_below hb (SLs L)) (fun _ h => .inl h)); clear hb; have c14 := bagParts_cell HO14.out 14 (u := .slice none 0 0) rfl; clear c13) | (go_at_call 53; (with_reducible refine (flatStates_nil _).mono ?_); rintro e w' ⟨rfl, hb⟩; have HO15 := Lib.hid (HO14.out.below hb); have HT15 := Lib.hid (HT14.out.trans (Tch.of_below hb (SLs L)) (fun _ h => .inl h)); clear hb; have c15 := bagParts_cell HO15.out 15 (u := .slice none 0 0) rfl; clear c14) | (go_at_call 54; (with_reducible refine (flatRows_nil _).mono ?_); rintro e w' ⟨rfl, hb⟩; have HO16 := Lib.hid (HO15.out.below hb); have HT16 := Lib.hid (HT15.out.trans (Tch.of_below hb (SLs L)) (fun _ h => .inl h)); clear hb; have c16 := bagParts_cell HO16.out 16 (u := .slice none 0 0) rfl; clear c15) | (go_at_call 55; (with_reducible refine (flatTurns_nil _).mono ?_); rintro e w' ⟨rfl, hb⟩; have HO17 := Lib.hid (HO16.out.below hb); have HT17 := Lib.hid (HT16.out.trans (Tch.of_below hb (SLs L)) (fun _ h => .inl h)); clear hb; have c17 := bagParts_cell HO17.out 17 (u := .slice none 0 0) rfl; clear c16) | (go_at_call 56; (with_reducible refine (flatFates_nil _).mono ?_); rintro e w' ⟨rfl, hb⟩; have HO18 := Lib.hid (HO17.out.below hb); have HT18 := Lib.hid (HT17.out.trans (Tch.of_below hb (SLs L)) (fun _ h => .inl h)); clear hb; have c18 := bagParts_cell HO18.out 18 (u := .slice none 0 0) rfl; clear c17) | (go_at_call 57; (with_reducible refine (flatDirties_nil _).mono ?_); rintro e w' ⟨rfl, hb⟩; have HO19 := Lib.hid (HO18.out.below hb); have HT19 := Lib.hid (HT18.out.trans (Tch.of_below hb (SLs L)) (fun _ h => .inl h)); clear hb; have c19 := bagParts_cell HO19.out 19 (u := .slice none 0 0) rfl; clear c18) | (go_at_call 58; (with_reducible refine (flatOpens_nil _).mono ?_); rintro e w' ⟨rfl, hb⟩; have HO20 := Lib.hid (HO19.out.below hb); have HT20 := Lib.hid (HT19.out.trans (Tch.of_below hb (SLs L)) (fun _ h => .inl h)); clear hb; have c20 := bagParts_cell HO20.out 20 (u := .slice none 0 0) rfl; clear c19) | (go_at_call 59; (with_reducible refine (flatRecords_nil _).mono ?_); rintro e w' ⟨rfl, hb⟩; have HO21 := Lib.hid (HO20.out.below hb); have HT21 := Lib.hid (HT20.out.trans (Tch.of_below hb (SLs L)) (fun _ h => .inl h)); clear hb; have c21 := bagParts_cell HO21.out 21 (u := .slice none 0 0) rfl; clear c20) | (go_at_call 60; (with_reducible refine (flatSteps_nil _).mono ?_); rintro e w' ⟨rfl, hb⟩; have HO22 := Lib.hid (HO21.out.below hb); have HT22 := Lib.hid (HT21.out.trans (Tch.of_below hb (SLs L)) (fun _ h => .inl h)); clear hb; have c22 := bagParts_cell HO22.out 22 (u := .slice none 0 0) rfl; clear c21) | (go_at_call 61; (with_reducible refine (flatTales_nil _).mono ?_); rintro e w' ⟨rfl, hb⟩; have HO23 := Lib.hid (HO22.out.below hb); have HT23 := Lib.hid (HT22.out.trans (Tch.of_below hb (SLs L)) (fun _ h => .inl h)); clear hb; clear c22))
  go_ret
  exact ⟨rfl, HT23.out⟩

set_option maxHeartbeats 4000000 in
theorem apartParts_any (L : VL) (A0 : Option Addr) (c0 B' : Nat) (w : World) (hc0 : L.length ≤ c0) (hm0 : c0 ≤ maxLen) (hA : Rd w A0 (L.map (·.1))) (hA0 : ∀ a : Addr, A0 = some a → ¬ SLs L a.block) (hD : Dist L w.heap.size)
    (hF : Fam encP mkP 38 2 B' L 0 0 w) (hB : B' ≤ w.heap.size) (hn : L.length ≤ 1000) (hl : ∀ x ∈ L, x.2 ≤ 1000000) :
    Calls Tryz.prog 13 #[.slice A0 L.length c0] w fun e w' => e = .returned (.bool true) ∧ Tch (SLs L) w w' := by
  unfold maxLen at hm0
  have hb0 : Ow encV 73 1 w.heap.size (w.alloc (.cells #[.slice none 0 0, .slice none 0 0, .slice none 0 0, .slice none 0 0, .slice none 0 0, .slice none 0 0, .slice none 0 0, .slice none 0 0, .slice none 0 0, .slice none 0 0, .slice none 0 0, .slice none 0 0, .slice none 0 0, .slice none 0 0, .slice none 0 0, .slice none 0 0, .slice none 0 0, .slice none 0 0, .slice none 0 0, .slice none 0 0, .slice none 0 0, .slice none 0 0, .slice none 0 0] 73)) (bagV w.heap.size) (bagParts (.slice none 0 0)) := World.ownsRow_lit w _ 23 (Nat.le_refl _) (by decide) rfl
  have hbl : Below w.heap.size w (w.alloc (.cells #[.slice none 0 0, .slice none 0 0, .slice none 0 0, .slice none 0 0, .slice none 0 0, .slice none 0 0, .slice none 0 0, .slice none 0 0, .slice none 0 0, .slice none 0 0, .slice none 0 0, .slice none 0 0, .slice none 0 0, .slice none 0 0, .slice none 0 0, .slice none 0 0, .slice none 0 0, .slice none 0 0, .slice none 0 0, .slice none 0 0, .slice none 0 0, .slice none 0 0, .slice none 0 0] 73)) := (Below.refl _ w).alloc (Nat.le_refl _) _
  have H0 : Hid (Ow encV 73 1 w.heap.size (w.alloc (.cells #[.slice none 0 0, .slice none 0 0, .slice none 0 0, .slice none 0 0, .slice none 0 0, .slice none 0 0, .slice none 0 0, .slice none 0 0, .slice none 0 0, .slice none 0 0, .slice none 0 0, .slice none 0 0, .slice none 0 0, .slice none 0 0, .slice none 0 0, .slice none 0 0, .slice none 0 0, .slice none 0 0, .slice none 0 0, .slice none 0 0, .slice none 0 0, .slice none 0 0, .slice none 0 0] 73)) (bagV w.heap.size) (bagParts (.slice none 0 0)) ∧ Ow encV 22 1 w.heap.size (w.alloc (.cells #[.slice none 0 0, .slice none 0 0, .slice none 0 0, .slice none 0 0, .slice none 0 0, .slice none 0 0, .slice none 0 0, .slice none 0 0, .slice none 0 0, .slice none 0 0, .slice none 0 0, .slice none 0 0, .slice none 0 0, .slice none 0 0, .slice none 0 0, .slice none 0 0, .slice none 0 0, .slice none 0 0, .slice none 0 0, .slice none 0 0, .slice none 0 0, .slice none 0 0, .slice none 0 0] 73)) (.slice none 0 0) ((L.take 0).map (·.1)) ∧ (Value.slice none 0 0).ownBlock ≠ some w.heap.size ∧ Below w.heap.size w (w.alloc (.cells #[.slice none 0 0, .slice none 0 0, .slice none 0 0, .slice none 0 0, .slice none 0 0, .slice none 0 0, .slice none 0 0, .slice none 0 0, .slice none 0 0, .slice none 0 0, .slice none 0 0, .slice none 0 0, .slice none 0 0, .slice none 0 0, .slice none 0 0, .slice none 0 0, .slice none 0 0, .slice none 0 0, .slice none 0 0, .slice none 0 0, .slice none 0 0, .slice none 0 0, .slice none 0 0] 73))) :=
    ⟨hb0, World.ownsRow_nil _ _ _ _, (by intro e; cases e), hbl⟩
  clear hb0 hbl
  go_enter Tryz.func13, Tryz.ntmps13
  go_wp2
  go_loopw [4] (fun iv wr => ∃ (k : Nat) (v : Value), k ≤ L.length ∧ iv = .int .i64 k ∧ Hid (Ow encV 73 1 w.heap.size wr (bagV w.heap.size) (bagParts v) ∧ Ow encV 22 1 w.heap.size wr v ((L.take k).map (·.1)) ∧ v.ownBlock ≠ some w.heap.size ∧ Below w.heap.size w wr)) (fun iv _ => L.length - (intOf iv).toNat)
  case atStart => exact ⟨0, .slice none 0 0, Nat.zero_le _, rfl, H0⟩
  case round => as_aux_lemma =>
    clear H0
    obtain ⟨k, v, hk, rfl, HR⟩ := hrel
    obtain ⟨h1, h2, h3, h4⟩ := HR.out
    by_cases hlt : k < L.length
    · have hki : (k : Int) < (L.length : Int) := by omega
      have hk0 : (0 : Int) ≤ (k : Int) := by omega
      obtain ⟨⟨lv, n⟩, hx⟩ : ∃ x, L[k]? = some x := ⟨_, List.getElem?_eq_getElem hlt⟩
      obtain ⟨A, c, hv, _⟩ := hF.slot hx
      simp only at hv
      subst hv
      obtain ⟨b0, o0, rfl, h00⟩ := slot_of (hA.below h4) hx
      simp only at h00
      have hP := putParts_any w.heap.size w.heap.size v _ ((L.take k).map (·.1)) wr A n c rfl h1 h2 h3 (by rw [List.length_map, List.length_take]; omega) h4.size
      have hnext : ∀ w2, PutPartsR w.heap.size w.heap.size ((L.take k).map (·.1)) (.slice A n c) wr (.returned (.tuple #[])) w2 → ∃ v', Hid (Ow encV 73 1 w.heap.size w2 (bagV w.heap.size) (bagParts v') ∧ Ow encV 22 1 w.heap.size w2 v' ((L.take (k + 1)).map (·.1)) ∧ v'.ownBlock ≠ some w.heap.size ∧ Below w.heap.size w w2) := fun w2 hR => by
        obtain ⟨_, v', a1, a2, a3, a4⟩ := hR
        refine ⟨v', a1, ?_, a3, a4.below h4 h4.size (fun k hk => hk)⟩
        have e : (L.take (k + 1)).map (·.1) = (L.take k).map (·.1) ++ [Value.slice A n c] := by
          rw [List.take_add_one, hx]; simp
        rw [e]; exact a2
      have HP := Lib.hid hP
      have HN := Lib.hid hnext
      clear h1 h2 h3 h4 hP hnext hx HR
      go_wp2_with (go_at_call 26; (with_reducible refine HP.out.mono ?_); rintro e w2 hR; have hR0 := hR; obtain ⟨rfl, _⟩ := hR0; obtain ⟨v', hN⟩ := HN.out _ hR; have HN2 := Lib.hid hN; clear hN hR)
      go_roundw
      case rel => exact ⟨k + 1, v', by omega, by go_num, HN2.out⟩
      case measure => simp [intOf]; omega
    · obtain rfl : k = L.length := by omega
      rw [List.take_length] at h2
      have hAp := bagApartParts_any L w.heap.size w.heap.size B' v wr h1 h2 (fun h => Nat.lt_irrefl _ (hD.lt _ h)) (fun b hb h => by have := hD.lt b h; have := (h2.lt hb).1; omega) (hD.mono h4.size) (hF.below h4) (Nat.le_trans hB h4.size) hn hl
      have HAp := Lib.hid hAp
      have HB4 := Lib.hid h4
      clear h1 h2 h3 h4 hAp HR
      go_wp2_with ((go_at_call 27; (with_reducible refine HAp.out.mono ?_); rintro e w' ⟨rfl, ht⟩; have HT := Lib.hid ht; clear ht))
      go_ret
      exact ⟨rfl, (Tch.of_below HB4.out (SLs L)).trans HT.out (fun _ h => .inl h)⟩
end Go.Proofs.YtjefaineggnogaaGreat
