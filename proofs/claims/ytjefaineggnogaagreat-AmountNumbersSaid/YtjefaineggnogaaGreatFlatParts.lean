/- Lists of parts that lie apart are told so; what they hold is written over. -/
import Derived.Test.YtjefaineggnogaaGreatApart
import Derived.Test.YtjefaineggnogaaGreatLentParts
set_option linter.unusedVariables false
set_option linter.unusedSimpArgs false
namespace Go.Proofs.YtjefaineggnogaaGreat
set_option maxRecDepth 100000
open Go.RowKit SM
def mkP (k i : Nat) : Prt := markP k i
theorem Rd.at0 {w : World} {A : Option Addr} {us : List Value} (h : Rd w A us) {j : Nat} {u : Value} (hu : us[j]? = some u) : ∃ b o, A = some ⟨b, o, none⟩ ∧ w.cell? ⟨b, o + j, none⟩ = some u := by
  obtain ⟨b, o, rfl, hc⟩ := h (by rintro rfl; simp at hu)
  exact ⟨b, o, rfl, hc j u hu⟩

theorem infoSlP : (Tryz.prog.info? 22).map (fun i => (i.zero, i.size, i.bytes)) = some (some (.slice none 0 0), 1, 24) := by kernel_rfl
theorem sizeSlP : (Tryz.prog.info? 22).map (·.size) = some 1 := by kernel_rfl
theorem madeP : (madeCells (Value.agg #[.string ByteArray.empty, .int .i64 0]).cells (64 * 2)).toList = (List.replicate 64 ((ByteArray.empty, 0) : Prt)).flatMap encP := by kernel_rfl
theorem ow_cellP {B : Nat} {w : World} {A : Option Addr} {n c : Nat} {ys : List Prt} (h : Ow encP 38 2 B w (.slice A n c) ys) {i : Nat} {p : Prt} (hp : ys[i]? = some p) : ∃ b o, A = some ⟨b, o, none⟩ ∧ w.cell? ⟨b, o + i * 2, none⟩ = some (.string p.1) ∧ w.cell? ⟨b, o + i * 2 + 1, none⟩ = some (.int .i64 p.2) := by
  obtain ⟨A', c', e, _, _, hr⟩ := h.rd
  cases e
  obtain ⟨b, o, rfl, hc⟩ := Rd.elem (enc := encP) (k := 2) encP_len (by omega) hr hp
  exact ⟨b, o, rfl, hc 0 _ rfl, hc 1 _ rfl⟩

set_option maxHeartbeats 16000000 in
theorem flatParts_any (L : VL) (A0 : Option Addr) (c0 B : Nat) (w : World) (hc0 : L.length ≤ c0) (hm0 : c0 ≤ maxLen) (hA : Rd w A0 (L.map (·.1))) (hA0 : ∀ a : Addr, A0 = some a → ¬ SLs L a.block) (hD : Dist L w.heap.size)
    (hF : Fam encP mkP 38 2 B L 0 0 w) (hB : B ≤ w.heap.size) (hn : L.length ≤ 1000) (hl : ∀ x ∈ L, x.2 ≤ 1000000) :
    Calls Tryz.prog 48 #[.slice A0 L.length c0] w fun e w' => e = .returned (.bool true) ∧ Tch (SLs L) w w' := by
  unfold maxLen at hm0
  have hL : ∀ (j : Nat) (x : Value × Nat), L[j]? = some x → x.2 ≤ 1000000 := fun _ _ h => hl _ (List.mem_of_getElem? h)
  have HL := Lib.hid hL
  have HA0 := Lib.hid hA0
  clear hl hL hA0
  go_enter Tryz.func48, Tryz.ntmps48
  go_wp2
  go_loopw [3] (fun kv wr => ∃ k : Nat, k ≤ L.length ∧ kv = .int .i64 k ∧ Fam encP mkP 38 2 B L k 0 wr ∧ Tch (SLs L) w wr) (fun kv _ => L.length - (intOf kv).toNat)
  case atStart => exact ⟨0, Nat.zero_le _, rfl, hF, Tch.refl _ _⟩
  case round => as_aux_lemma =>
    clear hF
    obtain ⟨k, hk, rfl, hF, hT⟩ := hrel
    by_cases hlt : k < L.length
    · have hki : (k : Int) < (L.length : Int) := by omega
      have hk0 : (0 : Int) ≤ (k : Int) := by omega
      obtain ⟨⟨v, n⟩, hx⟩ : ∃ x, L[k]? = some x := ⟨_, List.getElem?_eq_getElem hlt⟩
      have hn1 : n ≤ 1000000 := HL.out _ _ hx
      obtain ⟨b0, o0, rfl, _⟩ := slot_of hA hx
      obtain ⟨A, c, hv, hc1, hc2⟩ := hF.slot hx
      simp only at hv hc1
      subst hv
      unfold maxLen at hc2
      have hslot : ∀ w2, Tch (SLs L) w w2 → w2.cell? ⟨b0, o0 + k, none⟩ = some (.slice A n c) := fun w2 hT2 => by
        obtain ⟨b, o, e, h⟩ := slot_of (hT2.rd hA fun a ha => HA0.out a ha) hx
        cases e
        exact h
      have HSL := Lib.hid hslot
      have HX := Lib.hid hx
      have h00 := hslot wr hT
      have HT0 := Lib.hid hT
      clear hx hslot hT
      go_wp2
      go_loopw [4] (fun iv w2 => ∃ i : Nat, i ≤ n ∧ iv = .int .i64 i ∧ Fam encP mkP 38 2 B L k i w2 ∧ Tch (SLs L) w w2) (fun iv _ => n - (intOf iv).toNat)
      case atStart => exact ⟨0, Nat.zero_le _, rfl, hF, HT0.out⟩
      case round => as_aux_lemma =>
        clear hF h00 HT0
        obtain ⟨i, hi, rfl, hF, hT⟩ := hrel
        have h00 := HSL.out _ hT
        have HT := Lib.hid hT
        clear hT
        by_cases hin : i < n
        · have hii : (i : Int) < (n : Int) := by omega
          have hi0 : (0 : Int) ≤ (i : Int) := by omega
          obtain ⟨g, cap, hv, _⟩ := hF.addr HX.out (by simp only; omega)
          simp only at hv
          injection hv with hv1 _ hv2
          subst hv1 hv2
          have hc := fun w => markPart_any k i w (by omega) (by omega) (by omega) (by omega)
          have HC := Lib.hid hc
          have hx0 := BelT.cell h00
          clear hc
          go_wp2
          (refine SM.wp_region_bel_tail 9 (by kernel_rfl) (by kernel_rfl) ?_; simp only [List.take_succ_cons, List.take_zero, List.drop_succ_cons, List.drop_zero]; (repeat (refine @wpQuiet_step _ _ _ _ _ _ _ ?_; intro K hK; go_simp; first | (refine @hK _ ?_; clear hK K) | (apply Exists.intro; refine ⟨fun _ => ?_, @hK _ ?_⟩; ((exact call_bel ((HC.out _).mono fun _ _ h => ⟨h.1, h.2 ▸ (Below.refl _ _).alloc (Nat.le_refl _) _⟩))); clear hK K))); refine @wpQuiet_nil _ _ _ _ _ ?_; intro wq hbq)
          clear hx0
          obtain ⟨w3, hst, hF3, hT3⟩ := (hF.below hbq).store Tryz.prog 38 encP_len encP_one sizeP hD HX.out hin
          replace hst : (Instr.storeAt 38 (.pointer (some ⟨g, i * 2, none⟩)) (.agg #[.string ⟨#[]⟩, .int .i64 (markI k i)])).run Tryz.prog wq = .ok () w3 := hst
          have HST := Lib.hid hst
          have HT4 := Lib.hid ((HT.out.trans (Tch.of_below hbq (SLs L)) (fun _ h => .inl h)).trans hT3 (fun _ h => .inl h))
          clear hst hT3 hF hbq HT
          go_wp2_with (refine wpList_store_run HST.out rfl _ _ rfl rfl rfl ?_)
          go_roundw
          case rel => exact ⟨i + 1, by omega, by go_num, hF3, HT4.out⟩
          case measure => simp [intOf]; omega
        · obtain rfl : i = n := by omega
          go_wp2
          go_roundw
          case rel => exact ⟨k + 1, by omega, by go_num, hF.next HX.out rfl, HT.out⟩
          case measure => simp [intOf]; omega
    · obtain rfl : k = L.length := by omega
      have hAM := hF.all (Nat.le_refl _)
      obtain ⟨i0, hi, hz0, hz1, hz2⟩ := info_parts infoPart
      obtain ⟨G, us, w4, hmk, hG⟩ : ∃ G us w4, (Instr.makeSlice 31 (.int .i64 (L.length : Int)) (.int .i64 (L.length : Int))).run Tryz.prog wr = .ok (.slice (some ⟨G, 0, none⟩) L.length L.length) w4 ∧ Gro encP mkP 38 2 B 22 L G 0 64 us w w4 w4.heap.size := by
        obtain ⟨i1, hi, hz0, hz1, hz2⟩ := info_parts infoSlP
        obtain ⟨w4, hmk, hgs, hg⟩ := run_makeSlice_full (P := Tryz.prog) wr B 31 22 i1 _ 1 Tryz.underlying31 hi hz0 hz1 .i64 .i64 L.length (by omega) (by rw [hz2]; omega) (by unfold maxLen; omega) (Nat.le_trans hB hT.size)
        have hlt4 := (hgs.lt wr.heap.size rfl).2
        rw [Nat.mul_one] at hgs
        have hlen : (madeCells (Value.slice none 0 0).cells L.length).toList.length = L.length := by rw [Array.length_toList, size_madeCells]
        refine ⟨wr.heap.size, (madeCells (Value.slice none 0 0).cells L.length).toList, w4, hmk, ⟨?_, hlen, hAM.tch (Tch.of_grown (S := fun _ => False) hg (fun k h => by cases h)) (fun _ _ h => h), Grn.zero, hT.trans (Tch.of_grown (S := fun _ => False) hg (fun k h => by cases h)) (fun _ h => h.elim), Nat.le_refl _, hD.mono hT.size, hT.size, hlt4⟩⟩
        unfold Ow
        rw [hlen, flatV]
        exact hgs
      have HI := Lib.hid hi
      have HZ0 := Lib.hid hz0
      have HZ1 := Lib.hid hz1
      have HZ2 := Lib.hid hz2
      clear hF hAM hT hi hz0 hz1 hz2
      have hslot : ∀ w2 k x, Tch (SLs L) w w2 → L[k]? = some x → ∃ b0 o0, A0 = some ⟨b0, o0, none⟩ ∧ w2.cell? ⟨b0, o0 + k, none⟩ = some x.1 := fun w2 k x hT2 hx => slot_of (hT2.rd hA fun a ha => HA0.out a ha) hx
      have HSL := Lib.hid hslot
      clear hslot hlt
      go_wp2
      clear hmk
      go_loopw [6] (fun kv wr => ∃ (k : Nat) (us : List Value), k ≤ L.length ∧ kv = .int .i64 k ∧ Gro encP mkP 38 2 B 22 L G k 64 us w wr wr.heap.size) (fun kv _ => L.length - (intOf kv).toNat)
      case atStart => exact ⟨0, us, Nat.zero_le _, rfl, hG⟩
      case round => as_aux_lemma =>
        clear hG us
        obtain ⟨k, us, hk, rfl, hG⟩ := hrel
        by_cases hlt : k < L.length
        · have hki : (k : Int) < (L.length : Int) := by omega
          have hk0 : (0 : Int) ≤ (k : Int) := by omega
          obtain ⟨⟨v, n⟩, hx⟩ : ∃ x, L[k]? = some x := ⟨_, List.getElem?_eq_getElem hlt⟩
          have hn1 : n ≤ 1000000 := HL.out _ _ hx
          obtain ⟨b0, o0, rfl, h00⟩ := HSL.out _ _ _ hG.tch hx
          obtain ⟨A, c, hv, hc1, hc2, _⟩ := (hG.all k _ hx).rd
          rw [marksOf_len] at hv hc1
          simp only at hv
          subst hv
          unfold maxLen at hc2
          have HX := Lib.hid hx
          have hI := hG.inn hx
          have hGsz := hG.base
          have hGb := hG.big
          simp only at h00 hc1
          obtain ⟨Hk, hHk⟩ : ∃ Hk, Hk = wr.heap.size := ⟨_, rfl⟩
          rw [← hHk] at hI
          have hI0 : Inn encP mkP 38 2 B 22 L G k 64 us w wr Hk (.slice A n c, n) (.slice A n c) (marksOf mkP k n) := hI
          clear hx hG hI hHk hGb
          go_wp2
          go_loopw [7, 8] (fun gv iv w2 => ∃ i : Nat, i ≤ 64 ∧ iv = .int .i64 i ∧ Inn encP mkP 38 2 B 22 L G k 64 us w w2 Hk (.slice A n c, n) gv (marksOf mkP k (n + i))) (fun _ iv _ => 64 - (intOf iv).toNat)
          case atStart => exact ⟨0, Nat.zero_le _, rfl, hI0⟩
          case round => as_aux_lemma =>
            clear hI0 h00
            obtain ⟨i, hi, rfl, hI⟩ := hrel
            by_cases hin : i < 64
            · have hii : (i : Int) < 64 := by omega
              obtain ⟨b, o, e, h00⟩ := HSL.out _ _ _ hI.tch HX.out
              cases e
              simp only at h00
              have hc := fun w => markPart_any k ((n : Int) + (i : Int)) w (by omega) (by omega) (by omega) (by omega)
              have HC := Lib.hid hc
              have hI2 := hI.below (((Below.refl _ wr).alloc (Nat.le_refl _) (.cells #[.string ⟨#[]⟩, .int .i64 (markI k ((n : Int) + (i : Int)))] 38)).alloc (by simp) (.cells #[.string ⟨#[]⟩, .int .i64 (markI k ((n : Int) + (i : Int)))] 38))
              obtain ⟨g', w3, hap, hI3⟩ := hI2.append (ty := 22) (t := 22) (tx := 22) (zs := [mkP k (n + i)]) encP_len (by omega) Tryz.underlying22 HI.out HZ0.out HZ1.out HZ2.out rfl HX.out (by rw [marksOf_len]; simp only; omega)
                ((cells_rd (wr.alloc (.cells #[.string ⟨#[]⟩, .int .i64 (markI k ((n : Int) + (i : Int)))] 38)) #[.string ⟨#[]⟩, .int .i64 (markI k ((n : Int) + (i : Int)))] 38).src (c := 1) (m := 1) (size := 2) (tx := 22) Tryz.underlying22 rfl (by omega) (flat_one encP_one [markP k ((n : Int) + (i : Int))])) rfl (by rw [marksOf_len]; unfold maxLen; omega) (by rw [marksOf_len]; omega) hB
              rw [← marksOf_succ] at hI3
              simp only [World.size_alloc] at hap
              have HAP := Lib.hid hap
              have HI3 : Hid (Inn encP mkP 38 2 B 22 L G k 64 us w w3 Hk (.slice A n c, n) g' (marksOf mkP k (n + (i + 1)))) := hI3
              clear hc hap hI hI2 hI3
              go_wp2_with (first | (go_at_call 20; (with_reducible refine (HC.out _).mono ?_); rintro e w' ⟨rfl, rfl⟩) | (at_builtin; refine Lib.wpList_append_run _ rfl _ _ _ _ rfl _ _ rfl rfl _ _ HAP.out ?_))
              go_roundw
              case rel => exact ⟨i + 1, by omega, by go_num, HI3.out⟩
              case measure => simp [intOf]; omega
            · obtain rfl : i = 64 := by omega
              obtain ⟨w3, hst, hG3⟩ := hI.put Tryz.prog 22 sizeSlP HX.out (marksOf_len _ _) (List.take_of_length_le (by rw [marksOf_len]; exact Nat.le_refl _))
              have HST := Lib.hid hst
              have HG3 := Lib.hid hG3
              have hlen := hI.len
              clear hst hG3 hI
              go_wp2_with (refine wpList_store_run HST.out rfl _ _ rfl rfl rfl ?_)
              go_roundw
              case rel => exact ⟨k + 1, _, by omega, by go_num, HG3.out⟩
              case measure => simp [intOf]; omega
        · obtain rfl : k = L.length := by omega
          obtain ⟨wB, rfl⟩ : ∃ wB : World, wB = wr := ⟨_, rfl⟩
          have HG := Lib.hid hG
          clear hG
          go_wp2
          go_loopw [9] (fun kv w2 => ∃ k : Nat, k ≤ L.length ∧ kv = .int .i64 k ∧ Below wB.heap.size wB w2) (fun kv _ => L.length - (intOf kv).toNat)
          case atStart => exact ⟨0, Nat.zero_le _, rfl, Below.refl _ _⟩
          case round => as_aux_lemma =>
            clear hk hlt
            obtain ⟨k, hk, rfl, hW⟩ := hrel
            by_cases hlt : k < L.length
            · have hki : (k : Int) < (L.length : Int) := by omega
              have hk0 : (0 : Int) ≤ (k : Int) := by omega
              obtain ⟨⟨v, n⟩, hx⟩ : ∃ x, L[k]? = some x := ⟨_, List.getElem?_eq_getElem hlt⟩
              have hn1 : n ≤ 1000000 := HL.out _ _ hx
              obtain ⟨b0, o0, rfl, h00⟩ := HSL.out _ _ _ HG.out.tch hx
              have hO := HG.out.all k _ hx
              obtain ⟨A, c, hv, hc1, hc2, _⟩ := hO.rd
              rw [marksOf_len] at hv hc1
              simp only at hv hc1
              subst hv
              unfold maxLen at hc2
              obtain ⟨u, ys, h11, hU, hyl, hyt⟩ := HG.out.slot hlt hx
              simp only at hyl hyt
              rw [List.take_of_length_le (by omega)] at hyt
              obtain ⟨Au, cu, hu, hu1, hu2, _⟩ := hU.rd
              rw [hyl] at hu hu1
              subst hu
              unfold maxLen at hu2
              simp only at h00
              have hgl := HG.out.len
              have h10 := hW.cell (p := ⟨G, k, none⟩) (World.block_lt_of_cell? _ _ h11)
              have h01 := hW.cell (p := ⟨b0, o0 + k, none⟩) (World.block_lt_of_cell? _ _ h00)
              rw [h11] at h10
              have HU := Lib.hid hU
              have HO := Lib.hid hO
              have HYT := Lib.hid hyt
              have HYL := Lib.hid hyl
              have H00 := Lib.hid h00
              have H11 := Lib.hid h11
              have HW := Lib.hid hW
              clear hx h00 h11 hO hU hyl hyt hW h01
              go_wp2
              go_loopw [10] (fun iv w2 => ∃ i : Nat, i ≤ n + 64 ∧ iv = .int .i64 i ∧ Below wB.heap.size wB w2) (fun iv _ => n + 64 - (intOf iv).toNat)
              case atStart => exact ⟨0, Nat.zero_le _, rfl, HW.out⟩
              case round => as_aux_lemma =>
                clear h10
                obtain ⟨i, hi, rfl, hW⟩ := hrel
                have hcB : ∀ a u, wB.cell? a = some u → wr.cell? a = some u := fun a u h => (hW.cell (p := a) (World.block_lt_of_cell? _ _ h)).trans h
                have h11 := hcB _ _ H11.out
                have h00 := hcB _ _ H00.out
                have hi0 : (0 : Int) ≤ (i : Int) := by omega
                have HW2 := Lib.hid hW
                by_cases hin : i < n + 64
                · have hii : (i : Int) < (n : Int) + 64 := by omega
                  obtain ⟨b1, o1, rfl, h2, h3⟩ := ow_cellP HU.out (i := i) (p := mkP k i) (by rw [HYT.out]; exact marksOf_get hin)
                  have h2' := hcB _ _ h2
                  have h3' := hcB _ _ h3
                  have hc := fun w => markPart_any k i w (by omega) (by omega) (by omega) (by omega)
                  have heq := fun w => eqPart (markP k i) (markP k i) w
                  unfold markP at heq
                  simp only [decide_true] at heq
                  have HC := Lib.hid hc
                  have hx1 := BelT.cell h11
                  have hx0 := BelT.cell h00
                  have hx2 : ∀ x : BelT wr, x.val.cell? ⟨b1, o1 + i * 2, none⟩ = some (.string ⟨#[]⟩) := BelT.cell h2'
                  have hx3 : ∀ x : BelT wr, x.val.cell? ⟨b1, o1 + i * 2 + 1, none⟩ = some (.int .i64 (markI k i)) := BelT.cell h3'
                  by_cases hil : i < n
                  · have hil2 : (i : Int) < (n : Int) := by omega
                    have hd : decide (i < n) = true := decide_eq_true hil
                    obtain ⟨b2, o2, rfl, h4, h5⟩ := ow_cellP HO.out (i := i) (p := mkP k i) (marksOf_get hil)
                    have h4' := hcB _ _ h4
                    have h5' := hcB _ _ h5
                    have hx4 : ∀ x : BelT wr, x.val.cell? ⟨b2, o2 + i * 2, none⟩ = some (.string ⟨#[]⟩) := BelT.cell h4'
                    have hx5 : ∀ x : BelT wr, x.val.cell? ⟨b2, o2 + i * 2 + 1, none⟩ = some (.int .i64 (markI k i)) := BelT.cell h5'
                    clear hc hcB h2 h3 h4 h5 h2' h3' h4' h5' hW
                    generalize markI k i = mm at *
                    as_aux_lemma =>
                      go_wp2
                      (refine SM.wp_region_bel_lit (by kernel_rfl) (by kernel_rfl) ?_; (repeat (go_big_quiet_step (((exact call_bel ((HC.out _).mono fun _ _ h => ⟨h.1, h.2 ▸ (Below.refl _ _).alloc (Nat.le_refl _) _⟩)))))); refine @wpQuiet_nil _ _ _ _ _ ?_; intro wq hbq)
                      have HQ := Lib.hid (HW2.out.trans (hbq.mono HW2.out.size))
                      clear hx0 hx1 hx2 hx3 hx4 hx5 hbq heq hd h00 h11
                      go_wp2
                      go_roundw
                      case rel => exact ⟨i + 1, by omega, by go_num, HQ.out⟩
                      case measure => simp [intOf]; omega
                  · have hil2 : ¬ ((i : Int) < (n : Int)) := by omega
                    have hd : decide (i < n) = false := decide_eq_false hil
                    clear hc hcB h2 h3 h2' h3' hW
                    generalize markI k i = mm at *
                    as_aux_lemma =>
                      go_wp2
                      (refine SM.wp_region_bel_lit (by kernel_rfl) (by kernel_rfl) ?_; (repeat (go_big_quiet_step (((exact call_bel ((HC.out _).mono fun _ _ h => ⟨h.1, h.2 ▸ (Below.refl _ _).alloc (Nat.le_refl _) _⟩)))))); refine @wpQuiet_nil _ _ _ _ _ ?_; intro wq hbq)
                      have HQ := Lib.hid (HW2.out.trans (hbq.mono HW2.out.size))
                      clear hx0 hx1 hx2 hx3 hbq heq hd h00 h11
                      go_wp2
                      go_roundw
                      case rel => exact ⟨i + 1, by omega, by go_num, HQ.out⟩
                      case measure => simp [intOf]; omega
                · obtain rfl : i = n + 64 := by omega
                  clear hcB hW
                  go_wp2
                  go_roundw
                  case rel => exact ⟨k + 1, by omega, by go_num, HW2.out⟩
                  case measure => simp [intOf]; omega
            · obtain rfl : k = L.length := by omega
              have hG4 := (HG.out.below hW).again 0
              clear HG hW hlt hk
              go_wp2
              go_loopw [11] (fun kv w2 => ∃ (k : Nat) (us : List Value), k ≤ L.length ∧ kv = .int .i64 k ∧ Gro encP mkP 38 2 B 22 L G k 0 us w w2 w2.heap.size) (fun kv _ => L.length - (intOf kv).toNat)
              case atStart => exact ⟨0, us, Nat.zero_le _, rfl, hG4⟩
              case round => as_aux_lemma =>
                clear hG4 us
                obtain ⟨k, us, hk, rfl, hG⟩ := hrel
                by_cases hlt : k < L.length
                · have hki : (k : Int) < (L.length : Int) := by omega
                  have hk0 : (0 : Int) ≤ (k : Int) := by omega
                  obtain ⟨⟨v, n⟩, hx⟩ : ∃ x, L[k]? = some x := ⟨_, List.getElem?_eq_getElem hlt⟩
                  have hn1 : n ≤ 1000000 := HL.out _ _ hx
                  obtain ⟨A, c, hv, hc1, hc2, _⟩ := (hG.all k _ hx).rd
                  rw [marksOf_len] at hv hc1
                  simp only at hv
                  subst hv
                  unfold maxLen at hc2
                  have HX := Lib.hid hx
                  have hGb := hG.big
                  have hGs := hG.base
                  simp only at hc1
                  obtain ⟨M, w5, hmk, hOw, hG5, hM⟩ : ∃ M w5, (Instr.makeSlice 22 (.int .i64 64) (.int .i64 64)).run Tryz.prog wr = .ok (.slice (some ⟨M, 0, none⟩) 64 64) w5 ∧ Ow encP 38 2 B w5 (.slice (some ⟨M, 0, none⟩) 64 64) (List.replicate 64 ((ByteArray.empty, 0) : Prt)) ∧ Gro encP mkP 38 2 B 22 L G k 0 us w w5 wr.heap.size ∧ wr.heap.size ≤ M := by
                    obtain ⟨w5, hmk, hgs, hg⟩ := run_makeSlice_full (P := Tryz.prog) wr B 22 38 i0 _ 2 Tryz.underlying22 HI.out HZ0.out HZ1.out .i64 .i64 64 (by omega) (by rw [HZ2.out]; omega) (by unfold maxLen; omega) (by omega)
                    rw [madeP] at hgs
                    exact ⟨wr.heap.size, w5, hmk, hgs, hG.below ((Below.refl _ wr).grown hg (Nat.le_refl _) (fun j hj => by cases hj)), Nat.le_refl _⟩
                  have HM0 : Hid (∃ zs : List Prt, zs.length = 64 ∧ Ow encP 38 2 B w5 (.slice (some ⟨M, 0, none⟩) 64 64) zs) := ⟨_, List.length_replicate .., hOw⟩
                  obtain ⟨Hk, hHk⟩ : ∃ Hk, Hk = wr.heap.size := ⟨_, rfl⟩
                  rw [← hHk] at hG5 hM
                  clear hx hG hHk hGb hOw
                  go_wp2
                  clear hmk
                  go_loopw [13] (fun iv w2 => ∃ i : Nat, i ≤ 64 ∧ iv = .int .i64 i ∧ Hid (∃ zs : List Prt, zs.length = 64 ∧ Ow encP 38 2 B w2 (.slice (some ⟨M, 0, none⟩) 64 64) zs) ∧ Gro encP mkP 38 2 B 22 L G k 0 us w w2 Hk) (fun iv _ => 64 - (intOf iv).toNat)
                  case atStart => exact ⟨0, Nat.zero_le _, rfl, HM0, hG5⟩
                  case round => as_aux_lemma =>
                    clear HM0 hG5
                    obtain ⟨i, hi, rfl, HM, hG⟩ := hrel
                    by_cases hin : i < 64
                    · have hii : (i : Int) < 64 := by omega
                      have hi0 : (0 : Int) ≤ (i : Int) := by omega
                      have hc := fun w => markPart_any ((k : Int) + (L.length : Int)) i w (by omega) (by omega) (by omega) (by omega)
                      have HC := Lib.hid hc
                      obtain ⟨zs, hzl, hO⟩ := HM.out
                      have hO2 : (wr.alloc (.cells #[.string ⟨#[]⟩, .int .i64 (markI ((k : Int) + (L.length : Int)) i)] 38)).ownsRow B 38 2 (.slice (some ⟨M, 0, none⟩) zs.length 64) zs.length (zs.flatMap encP) := by
                        have h2 := hO.below ((Below.refl _ wr).alloc (Nat.le_refl _) (.cells #[.string ⟨#[]⟩, .int .i64 (markI ((k : Int) + (L.length : Int)) i)] 38))
                        unfold Ow at h2
                        rw [hzl] at h2 ⊢
                        exact h2
                      obtain ⟨w3, hst, hO3, hg3⟩ := own_store (P := Tryz.prog) (ty := 38) encP_len encP_one hO2 (j := i) (by omega) (markP ((k : Int) + (L.length : Int)) i) sizeP
                      have HM3 : Hid (∃ zs : List Prt, zs.length = 64 ∧ Ow encP 38 2 B w3 (.slice (some ⟨M, 0, none⟩) 64 64) zs) := by
                        refine ⟨zs.set i (markP ((k : Int) + (L.length : Int)) i), by rw [List.length_set]; exact hzl, ?_⟩
                        unfold Ow
                        rw [List.length_set, hzl]
                        rw [hzl] at hO3
                        exact hO3
                      have hG3 := (hG.below ((Below.refl _ wr).alloc (Nat.le_refl _) (.cells #[.string ⟨#[]⟩, .int .i64 (markI ((k : Int) + (L.length : Int)) i)] 38))).tch1 (Tch.of_grown (S := fun b => b = M) hg3 (fun b hb => by cases hb; rfl)) hM
                      have HG3 := Lib.hid hG3
                      replace hst : (Instr.storeAt 38 (.pointer (some ⟨M, i * 2, none⟩)) (.agg #[.string ⟨#[]⟩, .int .i64 (markI ((k : Int) + (L.length : Int)) i)])).run Tryz.prog (wr.alloc (.cells #[.string ⟨#[]⟩, .int .i64 (markI ((k : Int) + (L.length : Int)) i)] 38)) = .ok () w3 := hst
                      have HST := Lib.hid hst
                      clear hc hst hO hO2 hO3 hg3 hG3 hG HM hzl zs
                      generalize markI ((k : Int) + (L.length : Int)) i = mm at *
                      go_wp2_with (first | (go_at_call 20; (with_reducible refine (HC.out _).mono ?_); rintro e w' ⟨rfl, rfl⟩) | (refine wpList_store_run HST.out rfl _ _ rfl rfl rfl ?_))
                      go_roundw
                      case rel => exact ⟨i + 1, by omega, by go_num, HM3, HG3.out⟩
                      case measure => simp [intOf]; omega
                    · obtain rfl : i = 64 := by omega
                      obtain ⟨zs, hzl, hO⟩ := HM.out
                      obtain ⟨b0, o0, rfl, h00⟩ := HSL.out _ _ _ hG.tch HX.out
                      simp only at h00
                      obtain ⟨_, _, he, _, _, hR⟩ := hO.rd
                      rw [hzl] at he
                      cases he
                      obtain ⟨g', w3, hap, hI3⟩ := (hG.inn HX.out).append (ty := 22) (t := 22) (tx := 22) (zs := zs) encP_len (by omega) Tryz.underlying22 HI.out HZ0.out HZ1.out HZ2.out rfl HX.out (by rw [marksOf_len]; exact Nat.le_refl _)
                        (hR.src (c := 64) (m := 64) (size := 2) (tx := 22) Tryz.underlying22 (by rw [flat_length encP_len, hzl]) (by omega) (flat_one encP_one zs)) hzl (by rw [marksOf_len]; unfold maxLen; simp only; omega) (by rw [marksOf_len]; simp only; omega) hB
                      obtain ⟨w4, hst, hG4⟩ := hI3.put Tryz.prog 22 sizeSlP HX.out (by rw [List.length_append, marksOf_len, hzl]) (by rw [Nat.add_zero, List.take_append_of_le_length (by rw [marksOf_len]; exact Nat.le_refl _)]; exact List.take_of_length_le (by rw [marksOf_len]; exact Nat.le_refl _))
                      have HAP := Lib.hid hap
                      have HST := Lib.hid hst
                      have HG4 := Lib.hid hG4
                      have hlen := hG.len
                      simp only at HAP
                      clear hap hst hG4 hI3 hG hO HM hR hzl
                      go_wp2_with (first | (at_builtin; refine Lib.wpList_append_run _ rfl _ _ _ _ rfl _ _ rfl rfl _ _ HAP.out ?_) | (refine wpList_store_run HST.out rfl _ _ rfl rfl rfl ?_))
                      go_roundw
                      case rel => exact ⟨k + 1, _, by omega, by go_num, HG4.out⟩
                      case measure => simp [intOf]; omega
                · obtain rfl : k = L.length := by omega
                  obtain ⟨wB, rfl⟩ : ∃ wB : World, wB = wr := ⟨_, rfl⟩
                  have HG := Lib.hid hG
                  clear hG
                  go_wp2
                  go_loopw [14] (fun kv w2 => ∃ k : Nat, k ≤ L.length ∧ kv = .int .i64 k ∧ Below wB.heap.size wB w2) (fun kv _ => L.length - (intOf kv).toNat)
                  case atStart => exact ⟨0, Nat.zero_le _, rfl, Below.refl _ _⟩
                  case round => as_aux_lemma =>
                    clear hk hlt
                    obtain ⟨k, hk, rfl, hW⟩ := hrel
                    by_cases hlt : k < L.length
                    · have hki : (k : Int) < (L.length : Int) := by omega
                      have hk0 : (0 : Int) ≤ (k : Int) := by omega
                      obtain ⟨⟨v, n⟩, hx⟩ : ∃ x, L[k]? = some x := ⟨_, List.getElem?_eq_getElem hlt⟩
                      have hn1 : n ≤ 1000000 := HL.out _ _ hx
                      obtain ⟨b0, o0, rfl, h00⟩ := HSL.out _ _ _ HG.out.tch hx
                      have hO := HG.out.all k _ hx
                      obtain ⟨A, c, hv, hc1, hc2, _⟩ := hO.rd
                      rw [marksOf_len] at hv hc1
                      simp only at hv hc1
                      subst hv
                      unfold maxLen at hc2
                      obtain ⟨u, ys, h11, hU, hyl, hyt⟩ := HG.out.slot hlt hx
                      simp only at hyl hyt
                      obtain ⟨Au, cu, hu, hu1, hu2, _⟩ := hU.rd
                      rw [hyl] at hu hu1
                      subst hu
                      unfold maxLen at hu2
                      simp only at h00
                      have hgl := HG.out.len
                      have h01 := hW.cell (p := ⟨b0, o0 + k, none⟩) (World.block_lt_of_cell? _ _ h00)
                      rw [h00] at h01
                      have HU := Lib.hid hU
                      have HO := Lib.hid hO
                      have HYT := Lib.hid hyt
                      have HYL := Lib.hid hyl
                      have H00 := Lib.hid h00
                      have H11 := Lib.hid h11
                      have HW := Lib.hid hW
                      clear hx h00 h11 hO hU hyl hyt hW
                      go_wp2
                      go_loopw [15] (fun iv w2 => ∃ i : Nat, i ≤ n ∧ iv = .int .i64 i ∧ Below wB.heap.size wB w2) (fun iv _ => n - (intOf iv).toNat)
                      case atStart => exact ⟨0, Nat.zero_le _, rfl, HW.out⟩
                      case round => as_aux_lemma =>
                        clear h01
                        obtain ⟨i, hi, rfl, hW⟩ := hrel
                        have hcB : ∀ a u, wB.cell? a = some u → wr.cell? a = some u := fun a u h => (hW.cell (p := a) (World.block_lt_of_cell? _ _ h)).trans h
                        have h11 := hcB _ _ H11.out
                        have h00 := hcB _ _ H00.out
                        have hi0 : (0 : Int) ≤ (i : Int) := by omega
                        have HW2 := Lib.hid hW
                        by_cases hin : i < n
                        · have hii : (i : Int) < (n : Int) := by omega
                          have hii2 : (i : Int) < (n : Int) + 64 := by omega
                          have hyi : ys[i]? = some (mkP k i) := by
                            have h9 := congrArg (fun l => l[i]?) HYT.out
                            simp only [Nat.add_zero] at h9
                            rw [List.getElem?_take_of_lt hin, marksOf_get hin] at h9
                            exact h9
                          obtain ⟨b1, o1, rfl, h2, h3⟩ := ow_cellP HU.out (i := i) (p := mkP k i) hyi
                          obtain ⟨b2, o2, rfl, h4, h5⟩ := ow_cellP HO.out (i := i) (p := mkP k i) (marksOf_get hin)
                          have h2' := hcB _ _ h2
                          have h3' := hcB _ _ h3
                          have h4' := hcB _ _ h4
                          have h5' := hcB _ _ h5
                          have hc := fun w => markPart_any k i w (by omega) (by omega) (by omega) (by omega)
                          have heq := fun w => eqPart (markP k i) (markP k i) w
                          unfold markP at heq
                          simp only [decide_true] at heq
                          have HC := Lib.hid hc
                          have hx1 := BelT.cell h11
                          have hx0 := BelT.cell h00
                          have hx2 : ∀ x : BelT wr, x.val.cell? ⟨b1, o1 + i * 2, none⟩ = some (.string ⟨#[]⟩) := BelT.cell h2'
                          have hx3 : ∀ x : BelT wr, x.val.cell? ⟨b1, o1 + i * 2 + 1, none⟩ = some (.int .i64 (markI k i)) := BelT.cell h3'
                          have hx4 : ∀ x : BelT wr, x.val.cell? ⟨b2, o2 + i * 2, none⟩ = some (.string ⟨#[]⟩) := BelT.cell h4'
                          have hx5 : ∀ x : BelT wr, x.val.cell? ⟨b2, o2 + i * 2 + 1, none⟩ = some (.int .i64 (markI k i)) := BelT.cell h5'
                          clear hc hcB h2 h3 h4 h5 h2' h3' h4' h5' hW hyi
                          generalize markI k i = mm at *
                          as_aux_lemma =>
                            go_wp2
                            (refine SM.wp_region_bel_lit (by kernel_rfl) (by kernel_rfl) ?_; (repeat (go_big_quiet_step (((exact call_bel ((HC.out _).mono fun _ _ h => ⟨h.1, h.2 ▸ (Below.refl _ _).alloc (Nat.le_refl _) _⟩)))))); refine @wpQuiet_nil _ _ _ _ _ ?_; intro wq hbq)
                            have HQ := Lib.hid (HW2.out.trans (hbq.mono HW2.out.size))
                            clear hx0 hx1 hx2 hx3 hx4 hx5 hbq heq h00 h11
                            go_wp2
                            go_roundw
                            case rel => exact ⟨i + 1, by omega, by go_num, HQ.out⟩
                            case measure => simp [intOf]; omega
                        · obtain rfl : i = n := by omega
                          clear hcB hW
                          go_wp2
                          go_roundw
                          case rel => exact ⟨k + 1, by omega, by go_num, HW2.out⟩
                          case measure => simp [intOf]; omega
                    · obtain rfl : k = L.length := by omega
                      have HT := Lib.hid (HG.out.tch.trans (Tch.of_below hW (SLs L)) (fun _ h => .inl h))
                      clear HG hW
                      go_wp2
                      go_ret
                      exact ⟨rfl, HT.out⟩
end Go.Proofs.YtjefaineggnogaaGreat
