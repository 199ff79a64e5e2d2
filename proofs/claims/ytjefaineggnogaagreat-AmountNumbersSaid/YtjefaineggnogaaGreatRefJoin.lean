/- The document's joining: it comes to the same. -/
import Derived.Test.YtjefaineggnogaaGreatRefJoinLaw
import Derived.Test.YtjefaineggnogaaGreatSlices
import Derived.Test.YtjefaineggnogaaGreatRef02
import Derived.Test.YtjefaineggnogaaGreatLentParts
import Derived.Test.YtjefaineggnogaaGreatApart
import Derived.Sort.Walk0
set_option linter.unusedVariables false
set_option linter.unusedSimpArgs false
namespace Go.Proofs.YtjefaineggnogaaGreat
set_option maxRecDepth 100000
open Go.RowKit SM
def restP (xss : List PL) (i k : Nat) : List Prt := ((xss[i]?.map (·.2)).getD []).drop k ++ allP (xss.drop (i + 1))
theorem restP_zero (xss : List PL) (i : Nat) : restP xss i 0 = allP (xss.drop i) := by
  unfold restP allP
  by_cases h : i < xss.length
  · rw [List.drop_eq_getElem_cons h, List.flatMap_cons, List.getElem?_eq_getElem h]; simp
  · have h' : xss.length ≤ i := by omega
    simp [List.getElem?_eq_none h', List.drop_eq_nil_of_le h', List.drop_eq_nil_of_le (show xss.length ≤ i + 1 by omega)]
theorem restP_cons {xss : List PL} {i k : Nat} {v : Value} {l : List Prt} (hx : xss[i]? = some (v, l)) (hk : k < l.length) : restP xss i k = l[k] :: restP xss i (k + 1) := by
  unfold restP
  rw [hx]
  simp only [Option.map_some, Option.getD_some]
  rw [List.drop_eq_getElem_cons hk]
  rfl
theorem restP_end {xss : List PL} {i : Nat} {v : Value} {l : List Prt} (hx : xss[i]? = some (v, l)) : restP xss i l.length = allP (xss.drop (i + 1)) := by
  unfold restP
  rw [hx]
  simp
theorem parts_get {w : World} {A : Option Addr} {xss : List PL} (h : PartsAt w A xss) {i : Nat} {v : Value} {l : List Prt} (hx : xss[i]? = some (v, l)) :
    ∃ b o A1 c1, A = some ⟨b, o, none⟩ ∧ w.cell? ⟨b, o + i, none⟩ = some (.slice A1 l.length c1) ∧ l.length ≤ c1 ∧ c1 ≤ maxLen ∧ Rd w A1 (l.flatMap encP) := by
  obtain ⟨hi, he⟩ := List.getElem?_eq_some_iff.1 hx
  obtain ⟨b, o, A1, c1, h1, h2, h3, h4, h5⟩ := h.get hi
  rw [he] at h2 h3 h5
  exact ⟨b, o, A1, c1, h1, h2, h3, h4, h5⟩
def RJ (ps rest acc : List Prt) : Prop := Rise acc ∧ joinL ps = joinGo acc rest ∧ acc.length + rest.length ≤ ps.length
theorem bytes_less (a b : ByteArray) : Op.bytesLess a.toList b.toList = decide (ltS a b) := by
  rw [bytesLess_eq, ByteArray.toList_eq, ByteArray.toList_eq]; rfl
theorem RJ.none {ps rest acc : List Prt} {s : ByteArray} {q : Int} (h : RJ ps ((s, q) :: rest) acc) (hn : (addI ((findA s acc).getD 0) q).2 = false) : joinL ps = none := by
  rw [h.2.1, joinGo, if_neg (by simp only; rw [hn]; exact Bool.false_ne_true)]
theorem RJ.next {ps rest acc : List Prt} {s : ByteArray} {q n : Int} (h : RJ ps ((s, q) :: rest) acc) (hn : addI ((findA s acc).getD 0) q = (n, true)) : RJ ps rest (insA s n acc) := by
  refine ⟨rise_insA s n h.1, ?_, ?_⟩
  · rw [h.2.1, joinGo, if_pos (by simp only; rw [hn])]
    simp only [hn]
  · have := length_insA_le s n acc
    have := h.2.2
    simp only [List.length_cons] at this
    omega

set_option maxHeartbeats 16000000 in
theorem refJoin_any (xss : List PL) (ps : List Prt) (hps : allP xss = ps) (A : Option Addr) (c : Nat) (w : World) (hc : xss.length ≤ c) (hm : c ≤ maxLen) (hA : PartsAt w A xss) (hlen : ps.length ≤ 1000000) :
    Calls Tryz.prog 11 #[.slice A xss.length c] w fun e w' =>
      ∃ v, e = .returned (.tuple #[v, .bool (joinL ps).isSome]) ∧ w'.ownsRow w.heap.size 38 2 v (joinD ps).length ((joinD ps).flatMap encP) ∧ Below w.heap.size w w' := by
  unfold maxLen at hm
  obtain ⟨i0, hi, hz0, hz1, hz2⟩ := info_parts infoPart
  have HI := Lib.hid hi
  have HZ0 := Lib.hid hz0
  have HZ1 := Lib.hid hz1
  have HZ2 := Lib.hid hz2
  have h00 : Hid (RJ ps (restP xss 0 0) []) := ⟨List.Pairwise.nil, by rw [restP_zero, List.drop_zero, hps]; rfl, by rw [restP_zero, List.drop_zero, hps]; simp⟩
  have hO0 : Ow encP 38 2 w.heap.size w (.slice none 0 0) [] := World.ownsRow_nil _ _ _ _
  clear hi hz0 hz1 hz2 hps
  go_enter Tryz.func11, Tryz.ntmps11
  go_wp2
  go_loopw [4, 5] (fun v iv wr => ∃ (i : Nat) (acc : List Prt), i ≤ xss.length ∧ iv = .int .i64 i ∧ Ow encP 38 2 w.heap.size wr v acc ∧ Hid (RJ ps (restP xss i 0) acc) ∧ Below w.heap.size w wr) (fun _ iv _ => xss.length - (intOf iv).toNat)
  case atStart => exact ⟨0, [], Nat.zero_le _, rfl, hO0, h00, Below.refl _ _⟩
  case round => as_aux_lemma =>
    clear hO0 h00
    obtain ⟨i, acc, hi, rfl, hO, HJ, hnx⟩ := hrel
    by_cases hlt : i < xss.length
    · have hii : (i : Int) < (xss.length : Int) := by omega
      have hi0 : (0 : Int) ≤ (i : Int) := by omega
      obtain ⟨⟨lv, l⟩, hx⟩ : ∃ x, xss[i]? = some x := ⟨_, List.getElem?_eq_getElem hlt⟩
      obtain ⟨b0, o0, A1, c1, rfl, h00, hc1, hc2, _⟩ := parts_get (hA.below hnx) hx
      unfold maxLen at hc2
      have HX := Lib.hid hx
      clear hx
      go_wp2
      go_loopw [4, 6] (fun v kv w2 => ∃ (k : Nat) (acc : List Prt), k ≤ l.length ∧ kv = .int .i64 k ∧ Ow encP 38 2 w.heap.size w2 v acc ∧ Hid (RJ ps (restP xss i k) acc) ∧ Below w.heap.size w w2) (fun _ kv _ => l.length - (intOf kv).toNat)
      case atStart => exact ⟨0, acc, Nat.zero_le _, rfl, hO, HJ, hnx⟩
      case round => as_aux_lemma =>
        clear hO HJ hnx h00
        obtain ⟨k, acc, hk, rfl, hO, HJ, hnx⟩ := hrel
        obtain ⟨b', o', A1', c1', he', h00, hc1', hc2', hR⟩ := parts_get (hA.below hnx) HX.out
        cases he'
        unfold maxLen at hc2'
        by_cases hkl : k < l.length
        · have hki : (k : Int) < (l.length : Int) := by omega
          have hk0 : (0 : Int) ≤ (k : Int) := by omega
          obtain ⟨b1, o1, rfl, hcell⟩ := Rd.elem (enc := encP) (k := 2) encP_len (by omega) hR (List.getElem?_eq_getElem hkl)
          have h1 := hcell 0 (.string l[k].1) rfl
          have h2 := hcell 1 (.int .i64 l[k].2) rfl
          simp only [Nat.add_zero] at h1
          have HJ2 : Hid (RJ ps ((l[k].1, l[k].2) :: restP xss i (k + 1)) acc) := by
            have := HJ.out
            rwa [restP_cons HX.out hkl] at this
          generalize l[k].1 = s at h1 HJ2
          generalize l[k].2 = q at h2 HJ2
          clear hcell HJ hR
          obtain ⟨Ao, co, hv, ho1, ho2, hRo⟩ := hO.rd
          subst hv
          unfold maxLen at ho2
          have hO1 := hO.below ((Below.refl _ wr).alloc (Nat.le_refl _) (.cells #[.string s, .int .i64 q] 38))
          have hB1 := hnx.trans (((Below.refl _ wr).alloc (Nat.le_refl _) (.cells #[.string s, .int .i64 q] 38)).mono hnx.size)
          have hp0 : (wr.alloc (.cells #[.string s, .int .i64 q] 38)).cell? ⟨wr.heap.size, 0, none⟩ = some (.string s) := by go_simp
          have hp1 : (wr.alloc (.cells #[.string s, .int .i64 q] 38)).cell? ⟨wr.heap.size, 1, none⟩ = some (.int .i64 q) := by go_simp
          clear hO hRo hnx
          go_wp2
          clear h00 h1 h2
          obtain ⟨PB, hPB⟩ : ∃ PB, PB = wr.heap.size := ⟨_, rfl⟩
          rw [← hPB] at hp0 hp1 ⊢
          obtain ⟨W1, hW1⟩ : ∃ W1, W1 = wr.alloc (.cells #[.string s, .int .i64 q] 38) := ⟨_, rfl⟩
          rw [← hW1] at hp0 hp1 hO1 hB1 ⊢
          clear hPB hW1
          go_loopw [8] (fun av w2 => ∃ (a m : Nat), a ≤ posA s acc ∧ av = .int .i64 a ∧ w2 = W1.drewN m) (fun av _ => acc.length - (intOf av).toNat)
          case atStart => exact ⟨0, 0, Nat.zero_le _, rfl, rfl⟩
          case round => as_aux_lemma =>
            obtain ⟨a, m, ha, rfl, rfl⟩ := hrel
            have hal := posA_le s acc
            have ha0 : (0 : Int) ≤ (a : Int) := by omega
            have hlen2 := HJ2.out.2.2
            simp only [List.length_cons] at hlen2
            by_cases hl : a < acc.length
            · have hli : (a : Int) < (acc.length : Int) := by omega
              have hd0 : decide (a < acc.length) = true := decide_eq_true hl
              obtain ⟨_, _, he, _, _, hRo⟩ := hO1.rd
              cases he
              obtain ⟨bo, oo, rfl, hcell⟩ := Rd.elem (enc := encP) (k := 2) encP_len (by omega) hRo (List.getElem?_eq_getElem hl)
              have h3 := hcell 0 (.string acc[a].1) rfl
              simp only [Nat.add_zero] at h3
              by_cases hlt : ltS acc[a].1 s
              · have hpos := posA_lt s acc ha hl hlt
                generalize acc[a].1 = t at h3 hlt
                have hless : Op.bytesLess t.toList s.toList = true := by rw [bytes_less, decide_eq_true hlt]
                clear hcell hRo hlt
                go_wp2
                (refine wp_region_quiet_lit (by kernel_rfl) (by kernel_rfl) ?_; (repeat (refine @wpQuiet_step _ _ _ _ _ _ _ ?_; intro K hK; go_simp; first | (refine @hK _ ?_; clear hK K) | (apply Exists.intro; refine ⟨fun _ => ?_, @hK _ ?_⟩; (fail); clear hK K))); refine @wpQuiet_nil _ _ _ _ _ ?_; intro _ hw'; obtain ⟨nq, hw''⟩ := hw'; subst hw'')
                go_wp2
                go_roundw
                case rel => exact ⟨a + 1, _, hpos, by go_num, rfl⟩
                case measure => simp [intOf]; omega
              · have hpos : a = posA s acc := posA_eq s acc ha fun _ => hlt
                have hless : Op.bytesLess acc[a].1.toList s.toList = false := by rw [bytes_less, decide_eq_false hlt]
                have hd2 : decide ((a : Int) = (acc.length : Int)) = false := decide_eq_false (by omega)
                have hd3 : ((a : Int) == (acc.length : Int)) = false := by simpa using (show ¬ (a : Int) = (acc.length : Int) by omega)
                by_cases heq : acc[a].1 = s
                · have hbeq : (acc[a].1.toList == s.toList) = true := by rw [str_eq_iff]; exact decide_eq_true heq
                  have hW7 : Below w.heap.size w W1 := hB1
                  have hIN : Hid (∀ n, acc.set a (s, n) = insA s n acc ∧ findA s acc = some acc[a].2) := fun n => by
                    subst hpos
                    exact found_ins s n HJ2.out.1 hl heq
                  have hel : acc[a]? = some (s, acc[a].2) := by rw [List.getElem?_eq_getElem hl, ← heq]
                  have HEQ := Lib.hid heq
                  have HEL0 := Lib.hid hel
                  generalize acc[a].1 = t at h3 hless hbeq
                  generalize acc[a].2 = cur at hIN HEL0
                  clear hcell hRo heq hel hpos hlt
                  go_wp2
                  (refine wp_region_quiet_lit (by kernel_rfl) (by kernel_rfl) ?_; (repeat (refine @wpQuiet_step _ _ _ _ _ _ _ ?_; intro K hK; go_simp; first | (refine @hK _ ?_; clear hK K) | (apply Exists.intro; refine ⟨fun _ => ?_, @hK _ ?_⟩; (fail); clear hK K))); refine @wpQuiet_nil _ _ _ _ _ ?_; intro _ hw'; obtain ⟨nq, hw''⟩ := hw'; subst hw'')
                  go_wp2
                  clear hless
                  (refine wp_region_quiet_lit (by kernel_rfl) (by kernel_rfl) ?_; (repeat (refine @wpQuiet_step _ _ _ _ _ _ _ ?_; intro K hK; go_simp; first | (refine @hK _ ?_; clear hK K) | (apply Exists.intro; refine ⟨fun _ => ?_, @hK _ ?_⟩; (fail); clear hK K))); refine @wpQuiet_nil _ _ _ _ _ ?_; intro _ hw'; obtain ⟨nq, hw''⟩ := hw'; subst hw'')
                  obtain ⟨g, cap, hv3, _⟩ := hO1.addr (by omega)
                  obtain rfl : g = bo := by cases hv3; rfl
                  obtain rfl : oo = 0 := by cases hv3; rfl
                  obtain rfl : cap = co := by cases hv3; rfl
                  clear hv3
                  have hO7 := hO1
                  obtain ⟨acc1, hacc1⟩ : ∃ acc1, acc1 = acc := ⟨_, rfl⟩
                  obtain ⟨W7, hW7e⟩ : ∃ W7, W7 = W1 := ⟨_, rfl⟩
                  have hel := HEL0.out
                  have hin : ∀ n, acc1.set a (s, n) = insA s n acc := fun n => by rw [hacc1]; exact (hIN.out n).1
                  have hcur : (findA s acc).getD 0 = cur := by rw [(hIN.out 0).2]; rfl
                  have hlen7 : acc1.length = acc.length := by rw [hacc1]
                  rw [← hacc1] at hO7 hel
                  rw [← hlen7]
                  rw [← hW7e] at hp0 hp1 hO7 hW7 ⊢
                  clear h3 hbeq hd0 hd2 hd3 hIN HEL0 hO1 hacc1 hW7e hlen7
                  obtain ⟨_, _, he7, hc71, hc72, hR7⟩ := hO7.rd
                  cases he7
                  unfold maxLen at hc72
                  obtain ⟨_, _, he8, hcell7⟩ := Rd.elem (enc := encP) (k := 2) encP_len (by omega) hR7 hel
                  cases he8
                  have h7a := hcell7 0 (.string s) rfl
                  have h7b := hcell7 1 (.int .i64 cur) rfl
                  simp only [Nat.add_zero, Nat.zero_add] at h7a h7b
                  have ha7 : a < acc1.length := (List.getElem?_eq_some_iff.1 hel).1
                  have ha7i : (a : Int) < (acc1.length : Int) := by omega
                  have ha0i : (0 : Int) ≤ (a : Int) := by omega
                  have hfr7 := World.ownsRow.frozenAt hO7 (a * 2 + 1)
                  have hadd := fun W => (refAdd_any cur q W).mono (R' := fun e w' => e = .returned (.tuple #[.int .i64 (addI cur q).1, .bool (addI cur q).2]) ∧ w' = W) fun _ _ h => ⟨h.1, h.2.symm⟩
                  obtain ⟨⟨n, ok⟩, hno⟩ : ∃ x, x = addI cur q := ⟨_, rfl⟩
                  rw [← hno] at hadd
                  have HADD := Lib.hid hadd
                  have HO7 := Lib.hid hO7
                  have HW7 := Lib.hid hW7
                  have HIN := Lib.hid hin
                  have HCUR := Lib.hid hcur
                  have HNO := Lib.hid hno
                  have HEL := Lib.hid hel
                  clear hadd hO7 hR7 hcell7 hW7 hin hcur hno hel
                  go_wp2
                  (refine wp_region_quiet_lit (by kernel_rfl) (by kernel_rfl) ?_; (repeat (refine @wpQuiet_step _ _ _ _ _ _ _ ?_; intro K hK; go_simp; first | (refine @hK _ ?_; clear hK K) | (apply Exists.intro; refine ⟨fun _ => ?_, @hK _ ?_⟩; ((exact (HADD.out _).mono fun _ _ h => ⟨h.1, _, h.2⟩)); clear hK K))); refine @wpQuiet_nil _ _ _ _ _ ?_; intro _ hw'; obtain ⟨nq, hw''⟩ := hw'; subst hw'')
                  cases ok
                  · have hnone : joinL ps = none := HJ2.out.none (by rw [HCUR.out, ← HNO.out])
                    have HN := Lib.hid hnone
                    clear hnone
                    go_wp2
                    go_ret2
                    exact ⟨.slice none 0 0, by rw [HN.out]; rfl, by unfold joinD; rw [HN.out]; exact World.ownsRow_nil _ _ _ _, below_drewN HW7.out _⟩
                  · obtain ⟨hO8, hg8⟩ := World.ownsRow.stored HO7.out (a * 2 + 1) (.int .i64 n)
                    rw [set_field acc1 a s cur n HEL.out] at hO8
                    have hO9 : Ow encP 38 2 w.heap.size (W7.setCell ⟨g, a * 2 + 1, none⟩ (.int .i64 n)) (.slice (some ⟨g, 0, none⟩) acc1.length cap) (insA s n acc) := by
                      unfold Ow
                      rw [← HIN.out n, List.length_set]
                      exact hO8
                    have hB9 : Below w.heap.size w (W7.setCell ⟨g, a * 2 + 1, none⟩ (.int .i64 n)) := HW7.out.grown hg8 HW7.out.size (fun j hj => by cases hj; exact (World.ownsRow.lt HO7.out g rfl).1)
                    have hJ9 : Hid (RJ ps (restP xss i (k + 1)) (insA s n acc)) := HJ2.out.next (by rw [HCUR.out]; exact HNO.out.symm)
                    have HO9 := Lib.hid hO9
                    have HB9 := Lib.hid hB9
                    clear hO8 hg8 hO9 hB9
                    go_wp2
                    go_roundw
                    case rel => exact ⟨k + 1, _, by omega, by go_num, HO9.out.below (below_drewN (Below.refl _ _) _), hJ9, below_drewN HB9.out _⟩
                    case measure => simp [intOf]; omega
                · have hbne : (acc[a].1.toList == s.toList) = false := by rw [str_eq_iff]; exact decide_eq_false heq
                  have hIN : Hid (∀ n, (placed s acc).set a (s, n) = insA s n acc ∧ findA s acc = none) := fun n => by
                    subst hpos
                    exact placed_ins s n HJ2.out.1 fun _ => heq
                  generalize acc[a].1 = t at h3 hless hbne
                  have HPOS := Lib.hid hpos
                  clear hcell hRo heq hlt hpos
                  go_wp2
                  (refine wp_region_quiet_lit (by kernel_rfl) (by kernel_rfl) ?_; (repeat (refine @wpQuiet_step _ _ _ _ _ _ _ ?_; intro K hK; go_simp; first | (refine @hK _ ?_; clear hK K) | (apply Exists.intro; refine ⟨fun _ => ?_, @hK _ ?_⟩; (fail); clear hK K))); refine @wpQuiet_nil _ _ _ _ _ ?_; intro _ hw'; obtain ⟨nq, hw''⟩ := hw'; subst hw'')
                  go_wp2
                  clear hless
                  obtain ⟨nq0, rfl⟩ : ∃ n0, n0 = nq := ⟨_, rfl⟩
                  (refine wp_region_quiet_lit (by kernel_rfl) (by kernel_rfl) ?_; (repeat (refine @wpQuiet_step _ _ _ _ _ _ _ ?_; intro K hK; go_simp; first | (refine @hK _ ?_; clear hK K) | (apply Exists.intro; refine ⟨fun _ => ?_, @hK _ ?_⟩; (fail); clear hK K))); refine @wpQuiet_nil _ _ _ _ _ ?_; intro _ hw'; obtain ⟨nq, hw''⟩ := hw'; subst hw'')
                  obtain ⟨W2, hW2⟩ : ∃ W2, W2 = ((W1.drewN m).drewN nq0).drewN nq := ⟨_, rfl⟩
                  rw [← hW2]
                  replace hW2 : Below W1.heap.size W1 W2 := hW2 ▸ below_drewN (below_drewN (below_drewN (Below.refl _ _) _) _) _
                  clear h3 hbne hd0 hd2 hd3 
                  have hB2 : Below w.heap.size w W2 := hB1.trans (hW2.mono hB1.size)
                  have hO2 := hO1.below hW2
                  have hp02 := (hW2.cell (p := ⟨PB, 0, none⟩) (World.block_lt_of_cell? _ _ hp0)).trans hp0
                  have hp12 := (hW2.cell (p := ⟨PB, 1, none⟩) (World.block_lt_of_cell? _ _ hp1)).trans hp1
                  obtain ⟨_, co2, heo, -, -, hRo2⟩ := hO2.rd
                  injection heo with heo1 heo2 heo3
                  clear heo2
                  subst heo1 heo3
                  obtain ⟨A2, hsl2, hS2⟩ := slice_upto acc _ co a W2 (by omega) ho1 (by unfold maxLen; omega) hRo2
                  obtain ⟨A3, hsl3, hS3⟩ := slice_from acc _ co a W2 (by omega) ho1 (by unfold maxLen; omega) hRo2
                  obtain ⟨-, A2', c2', he2, -, -, hR2⟩ := hS2
                  injection he2 with he21 he22 he23
                  clear he22
                  subst he21 he23
                  obtain ⟨-, A3', c3', he3, -, -, hR3⟩ := hS3
                  injection he3 with he31 he32 he33
                  clear he32
                  subst he31 he33
                  have hE : Ow encP 38 2 W2.heap.size (W2.alloc (.cells #[] 38)) (.slice (some ⟨W2.heap.size, 0, none⟩) 0 0) [] := World.ownsRow_lit W2 #[] 0 (Nat.le_refl _) (by decide) rfl
                  have hb3 : Below W2.heap.size W2 (W2.alloc (.cells #[] 38)) := (Below.refl _ _).alloc (Nat.le_refl _) _
                  have hta : (acc.take a).length = a := by rw [List.length_take]; omega
                  have hda : (acc.drop a).length = acc.length - a := List.length_drop
                  obtain ⟨v1, w4, hap1, h41, -, h42, -⟩ := hE.append (ty := 22) (t := 22) (tx := 22) (zs := acc.take a) Tryz.underlying22 HI.out HZ0.out HZ1.out HZ2.out rfl (by omega)
                    ((hR2.below hb3).src (c := co) (m := a) (size := 2) (tx := 22) Tryz.underlying22 (by rw [flat_length encP_len, hta]) (by omega) (flat_one encP_one _)) hta (by unfold maxLen; simp only [List.length_nil]; omega) (by simp only [List.length_nil]; omega) hb3.size
                  have hb4 : Below W2.heap.size W2 w4 := hb3.grown h42 hb3.size (fun j hj => (hE.lt hj).1)
                  obtain ⟨v2, w5, hap2, h51, -, h52, -⟩ := (h41.below ((Below.refl _ w4).alloc (Nat.le_refl _) (.cells #[.string s, .int .i64 0] 38))).append (ty := 22) (t := 22) (tx := 22) (zs := [(s, 0)]) Tryz.underlying22 HI.out HZ0.out HZ1.out HZ2.out rfl (by omega)
                    ((cells_rd w4 #[.string s, .int .i64 0] 38).src (c := 1) (m := 1) (size := 2) (tx := 22) Tryz.underlying22 rfl (by omega) (flat_one encP_one [(s, 0)])) rfl (by unfold maxLen; simp only [List.nil_append, hta]; omega) (by simp only [List.nil_append, hta]; omega) (by simp; have := hb4.size; omega)
                  have hb5 : Below W2.heap.size W2 w5 := (hb4.alloc hb4.size _).grown h52 (by simp; have := hb4.size; omega) (fun j hj => (h41.lt hj).1)
                  obtain ⟨v3, w6, hap3, h61, -, h62, -⟩ := h51.append (ty := 22) (t := 22) (tx := 22) (zs := acc.drop a) Tryz.underlying22 HI.out HZ0.out HZ1.out HZ2.out rfl (by omega)
                    ((hR3.below hb5).src (c := co - a) (m := acc.length - a) (size := 2) (tx := 22) Tryz.underlying22 (by rw [flat_length encP_len, hda]) (by omega) (flat_one encP_one _)) hda (by unfold maxLen; simp only [List.nil_append, List.length_append, hta, List.length_singleton]; omega) (by simp only [List.nil_append, List.length_append, hta, List.length_singleton]; omega) hb5.size
                  have hb6 : Below W2.heap.size W2 w6 := hb5.grown h62 hb5.size (fun j hj => (h51.lt hj).1)
                  have hplaced : ([] ++ acc.take a ++ [(s, 0)] ++ acc.drop a : List Prt) = placed s acc := by
                    unfold placed
                    rw [← HPOS.out]
                    simp
                  rw [hplaced] at h61
                  have hpl : (placed s acc).length = acc.length + 1 := by rw [← hplaced]; simp [hta, hda]; omega
                  obtain ⟨g, cap, hv3, -⟩ := h61.addr (by omega)
                  subst hv3
                  obtain ⟨acc1, hacc1⟩ : ∃ acc1, acc1 = placed s acc := ⟨_, rfl⟩
                  rw [← hacc1] at h61 hpl hap3
                  have hO7 : Ow encP 38 2 w.heap.size w6 (.slice (some ⟨g, 0, none⟩) acc1.length cap) acc1 := own_lower h61 hB2.size
                  have hW7 : Below w.heap.size w w6 := hB2.trans (hb6.mono hB2.size)
                  have hel : acc1[a]? = some (s, (0 : Int)) := by
                    rw [hacc1, ← hplaced, List.nil_append, List.append_assoc, List.getElem?_append_right (by omega), hta, Nat.sub_self]
                    rfl
                  have hin : ∀ n, acc1.set a (s, n) = insA s n acc := fun n => by rw [hacc1]; exact (hIN.out n).1
                  obtain ⟨cur, hcur0⟩ : ∃ cur : Int, cur = 0 := ⟨_, rfl⟩
                  have hcur : (findA s acc).getD 0 = cur := by rw [(hIN.out 0).2, hcur0]; rfl
                  rw [← hcur0] at hel
                  have hp07 := (hb6.cell (p := ⟨PB, 0, none⟩) (World.block_lt_of_cell? _ _ hp02)).trans hp02
                  have hp17 := (hb6.cell (p := ⟨PB, 1, none⟩) (World.block_lt_of_cell? _ _ hp12)).trans hp12
                  have hp04 := (hb4.cell (p := ⟨PB, 0, none⟩) (World.block_lt_of_cell? _ _ hp02)).trans hp02
                  try simp only [World.size_alloc] at hap2
                  have HIN0 := Lib.hid hin
                  have HCUR0 := Lib.hid hcur
                  have HEL0 := Lib.hid hel
                  have HO70 := Lib.hid hO7
                  have hgl := (List.getElem?_eq_some_iff.1 hel).1
                  clear hin hcur hel hpl hO7
                  have HAP1 := Lib.hid hap1
                  have HAP2 := Lib.hid hap2
                  have HAP3 := Lib.hid hap3
                  obtain ⟨W7, rfl⟩ : ∃ W7, W7 = w6 := ⟨_, rfl⟩
                  clear hplaced hacc1 hcur0 hap1 hap2 hap3 h41 h42 h51 h52 h61 h62 hb3 hb4 hb5 hb6 hE hta hda hR2 hR3 hRo2 hO2 hIN hp0 hp1 hW2 hB2 hO1
                  go_wp2_with (first | (at_builtin; refine Lib.wpList_append_run _ rfl _ _ _ _ rfl _ _ rfl rfl _ _ HAP1.out ?_) | (at_builtin; refine Lib.wpList_append_run _ rfl _ _ _ _ rfl _ _ rfl rfl _ _ HAP2.out ?_) | (at_builtin; refine Lib.wpList_append_run _ rfl _ _ _ _ rfl _ _ rfl rfl _ _ HAP3.out ?_))
                  clear hsl2 hsl3 HAP1 HAP2 HAP3
                  have hin := HIN0.out
                  have hcur := HCUR0.out
                  have hel := HEL0.out
                  have hO7 := HO70.out
                  have hp0 := hp07
                  have hp1 := hp17
                  clear HIN0 HCUR0 HEL0 HO70 hp04 hp02 hp12 hp07 hp17
                  obtain ⟨_, _, he7, hc71, hc72, hR7⟩ := hO7.rd
                  cases he7
                  unfold maxLen at hc72
                  obtain ⟨_, _, he8, hcell7⟩ := Rd.elem (enc := encP) (k := 2) encP_len (by omega) hR7 hel
                  cases he8
                  have h7a := hcell7 0 (.string s) rfl
                  have h7b := hcell7 1 (.int .i64 cur) rfl
                  simp only [Nat.add_zero, Nat.zero_add] at h7a h7b
                  have ha7 : a < acc1.length := (List.getElem?_eq_some_iff.1 hel).1
                  have ha7i : (a : Int) < (acc1.length : Int) := by omega
                  have ha0i : (0 : Int) ≤ (a : Int) := by omega
                  have hfr7 := World.ownsRow.frozenAt hO7 (a * 2 + 1)
                  have hadd := fun W => (refAdd_any cur q W).mono (R' := fun e w' => e = .returned (.tuple #[.int .i64 (addI cur q).1, .bool (addI cur q).2]) ∧ w' = W) fun _ _ h => ⟨h.1, h.2.symm⟩
                  obtain ⟨⟨n, ok⟩, hno⟩ : ∃ x, x = addI cur q := ⟨_, rfl⟩
                  rw [← hno] at hadd
                  have HADD := Lib.hid hadd
                  have HO7 := Lib.hid hO7
                  have HW7 := Lib.hid hW7
                  have HIN := Lib.hid hin
                  have HCUR := Lib.hid hcur
                  have HNO := Lib.hid hno
                  have HEL := Lib.hid hel
                  clear hadd hO7 hR7 hcell7 hW7 hin hcur hno hel
                  go_wp2
                  (refine wp_region_quiet_lit (by kernel_rfl) (by kernel_rfl) ?_; (repeat (refine @wpQuiet_step _ _ _ _ _ _ _ ?_; intro K hK; go_simp; first | (refine @hK _ ?_; clear hK K) | (apply Exists.intro; refine ⟨fun _ => ?_, @hK _ ?_⟩; ((exact (HADD.out _).mono fun _ _ h => ⟨h.1, _, h.2⟩)); clear hK K))); refine @wpQuiet_nil _ _ _ _ _ ?_; intro _ hw'; obtain ⟨nq, hw''⟩ := hw'; subst hw'')
                  cases ok
                  · have hnone : joinL ps = none := HJ2.out.none (by rw [HCUR.out, ← HNO.out])
                    have HN := Lib.hid hnone
                    clear hnone
                    go_wp2
                    go_ret2
                    exact ⟨.slice none 0 0, by rw [HN.out]; rfl, by unfold joinD; rw [HN.out]; exact World.ownsRow_nil _ _ _ _, below_drewN HW7.out _⟩
                  · obtain ⟨hO8, hg8⟩ := World.ownsRow.stored HO7.out (a * 2 + 1) (.int .i64 n)
                    rw [set_field acc1 a s cur n HEL.out] at hO8
                    have hO9 : Ow encP 38 2 w.heap.size (W7.setCell ⟨g, a * 2 + 1, none⟩ (.int .i64 n)) (.slice (some ⟨g, 0, none⟩) acc1.length cap) (insA s n acc) := by
                      unfold Ow
                      rw [← HIN.out n, List.length_set]
                      exact hO8
                    have hB9 : Below w.heap.size w (W7.setCell ⟨g, a * 2 + 1, none⟩ (.int .i64 n)) := HW7.out.grown hg8 HW7.out.size (fun j hj => by cases hj; exact (World.ownsRow.lt HO7.out g rfl).1)
                    have hJ9 : Hid (RJ ps (restP xss i (k + 1)) (insA s n acc)) := HJ2.out.next (by rw [HCUR.out]; exact HNO.out.symm)
                    have HO9 := Lib.hid hO9
                    have HB9 := Lib.hid hB9
                    clear hO8 hg8 hO9 hB9
                    go_wp2
                    go_roundw
                    case rel => exact ⟨k + 1, _, by omega, by go_num, HO9.out.below (below_drewN (Below.refl _ _) _), hJ9, below_drewN HB9.out _⟩
                    case measure => simp [intOf]; omega
            · have hpos : a = posA s acc := by omega
              have hIN : Hid (∀ n, (placed s acc).set a (s, n) = insA s n acc ∧ findA s acc = none) := fun n => by
                rw [hpos]
                exact placed_ins s n HJ2.out.1 (fun hl => by omega)
              have HPOS := Lib.hid hpos
              have hd0 : decide (a < acc.length) = false := decide_eq_false hl
              have hd1 : decide ((a : Int) < (acc.length : Int)) = false := decide_eq_false (by omega)
              have hd2 : ((a : Int) == (acc.length : Int)) = true := by simpa using (show (a : Int) = (acc.length : Int) by omega)
              have hd3 : (a == acc.length) = true := by simpa using (show a = acc.length by omega)
              clear hpos
              go_wp2
              (refine wp_region_quiet_lit (by kernel_rfl) (by kernel_rfl) ?_; (repeat (refine @wpQuiet_step _ _ _ _ _ _ _ ?_; intro K hK; go_simp; first | (refine @hK _ ?_; clear hK K) | (apply Exists.intro; refine ⟨fun _ => ?_, @hK _ ?_⟩; (fail); clear hK K))); refine @wpQuiet_nil _ _ _ _ _ ?_; intro _ hw'; obtain ⟨nq, hw''⟩ := hw'; subst hw'')
              go_wp2
              obtain ⟨nq0, rfl⟩ : ∃ n0, n0 = nq := ⟨_, rfl⟩
              (refine wp_region_quiet_lit (by kernel_rfl) (by kernel_rfl) ?_; (repeat (refine @wpQuiet_step _ _ _ _ _ _ _ ?_; intro K hK; go_simp; first | (refine @hK _ ?_; clear hK K) | (apply Exists.intro; refine ⟨fun _ => ?_, @hK _ ?_⟩; (fail); clear hK K))); refine @wpQuiet_nil _ _ _ _ _ ?_; intro _ hw'; obtain ⟨nq, hw''⟩ := hw'; subst hw'')
              obtain ⟨W2, hW2⟩ : ∃ W2, W2 = ((W1.drewN m).drewN nq0).drewN nq := ⟨_, rfl⟩
              rw [← hW2]
              replace hW2 : Below W1.heap.size W1 W2 := hW2 ▸ below_drewN (below_drewN (below_drewN (Below.refl _ _) _) _) _
              clear hd0 hd1 hd2 hd3
              have hB2 : Below w.heap.size w W2 := hB1.trans (hW2.mono hB1.size)
              have hO2 := hO1.below hW2
              have hp02 := (hW2.cell (p := ⟨PB, 0, none⟩) (World.block_lt_of_cell? _ _ hp0)).trans hp0
              have hp12 := (hW2.cell (p := ⟨PB, 1, none⟩) (World.block_lt_of_cell? _ _ hp1)).trans hp1
              obtain ⟨_, co2, heo, -, -, hRo2⟩ := hO2.rd
              injection heo with heo1 heo2 heo3
              clear heo2
              subst heo1 heo3
              obtain ⟨A2, hsl2, hS2⟩ := slice_upto acc _ co a W2 (by omega) ho1 (by unfold maxLen; omega) hRo2
              obtain ⟨A3, hsl3, hS3⟩ := slice_from acc _ co a W2 (by omega) ho1 (by unfold maxLen; omega) hRo2
              obtain ⟨-, A2', c2', he2, -, -, hR2⟩ := hS2
              injection he2 with he21 he22 he23
              clear he22
              subst he21 he23
              obtain ⟨-, A3', c3', he3, -, -, hR3⟩ := hS3
              injection he3 with he31 he32 he33
              clear he32
              subst he31 he33
              have hE : Ow encP 38 2 W2.heap.size (W2.alloc (.cells #[] 38)) (.slice (some ⟨W2.heap.size, 0, none⟩) 0 0) [] := World.ownsRow_lit W2 #[] 0 (Nat.le_refl _) (by decide) rfl
              have hb3 : Below W2.heap.size W2 (W2.alloc (.cells #[] 38)) := (Below.refl _ _).alloc (Nat.le_refl _) _
              have hta : (acc.take a).length = a := by rw [List.length_take]; omega
              have hda : (acc.drop a).length = acc.length - a := List.length_drop
              obtain ⟨v1, w4, hap1, h41, -, h42, -⟩ := hE.append (ty := 22) (t := 22) (tx := 22) (zs := acc.take a) Tryz.underlying22 HI.out HZ0.out HZ1.out HZ2.out rfl (by omega)
                ((hR2.below hb3).src (c := co) (m := a) (size := 2) (tx := 22) Tryz.underlying22 (by rw [flat_length encP_len, hta]) (by omega) (flat_one encP_one _)) hta (by unfold maxLen; simp only [List.length_nil]; omega) (by simp only [List.length_nil]; omega) hb3.size
              have hb4 : Below W2.heap.size W2 w4 := hb3.grown h42 hb3.size (fun j hj => (hE.lt hj).1)
              obtain ⟨v2, w5, hap2, h51, -, h52, -⟩ := (h41.below ((Below.refl _ w4).alloc (Nat.le_refl _) (.cells #[.string s, .int .i64 0] 38))).append (ty := 22) (t := 22) (tx := 22) (zs := [(s, 0)]) Tryz.underlying22 HI.out HZ0.out HZ1.out HZ2.out rfl (by omega)
                ((cells_rd w4 #[.string s, .int .i64 0] 38).src (c := 1) (m := 1) (size := 2) (tx := 22) Tryz.underlying22 rfl (by omega) (flat_one encP_one [(s, 0)])) rfl (by unfold maxLen; simp only [List.nil_append, hta]; omega) (by simp only [List.nil_append, hta]; omega) (by simp; have := hb4.size; omega)
              have hb5 : Below W2.heap.size W2 w5 := (hb4.alloc hb4.size _).grown h52 (by simp; have := hb4.size; omega) (fun j hj => (h41.lt hj).1)
              obtain ⟨v3, w6, hap3, h61, -, h62, -⟩ := h51.append (ty := 22) (t := 22) (tx := 22) (zs := acc.drop a) Tryz.underlying22 HI.out HZ0.out HZ1.out HZ2.out rfl (by omega)
                ((hR3.below hb5).src (c := co - a) (m := acc.length - a) (size := 2) (tx := 22) Tryz.underlying22 (by rw [flat_length encP_len, hda]) (by omega) (flat_one encP_one _)) hda (by unfold maxLen; simp only [List.nil_append, List.length_append, hta, List.length_singleton]; omega) (by simp only [List.nil_append, List.length_append, hta, List.length_singleton]; omega) hb5.size
              have hb6 : Below W2.heap.size W2 w6 := hb5.grown h62 hb5.size (fun j hj => (h51.lt hj).1)
              have hplaced : ([] ++ acc.take a ++ [(s, 0)] ++ acc.drop a : List Prt) = placed s acc := by
                unfold placed
                rw [← HPOS.out]
                simp
              rw [hplaced] at h61
              have hpl : (placed s acc).length = acc.length + 1 := by rw [← hplaced]; simp [hta, hda]; omega
              obtain ⟨g, cap, hv3, -⟩ := h61.addr (by omega)
              subst hv3
              obtain ⟨acc1, hacc1⟩ : ∃ acc1, acc1 = placed s acc := ⟨_, rfl⟩
              rw [← hacc1] at h61 hpl hap3
              have hO7 : Ow encP 38 2 w.heap.size w6 (.slice (some ⟨g, 0, none⟩) acc1.length cap) acc1 := own_lower h61 hB2.size
              have hW7 : Below w.heap.size w w6 := hB2.trans (hb6.mono hB2.size)
              have hel : acc1[a]? = some (s, (0 : Int)) := by
                rw [hacc1, ← hplaced, List.nil_append, List.append_assoc, List.getElem?_append_right (by omega), hta, Nat.sub_self]
                rfl
              have hin : ∀ n, acc1.set a (s, n) = insA s n acc := fun n => by rw [hacc1]; exact (hIN.out n).1
              obtain ⟨cur, hcur0⟩ : ∃ cur : Int, cur = 0 := ⟨_, rfl⟩
              have hcur : (findA s acc).getD 0 = cur := by rw [(hIN.out 0).2, hcur0]; rfl
              rw [← hcur0] at hel
              have hp07 := (hb6.cell (p := ⟨PB, 0, none⟩) (World.block_lt_of_cell? _ _ hp02)).trans hp02
              have hp17 := (hb6.cell (p := ⟨PB, 1, none⟩) (World.block_lt_of_cell? _ _ hp12)).trans hp12
              have hp04 := (hb4.cell (p := ⟨PB, 0, none⟩) (World.block_lt_of_cell? _ _ hp02)).trans hp02
              try simp only [World.size_alloc] at hap2
              have HIN0 := Lib.hid hin
              have HCUR0 := Lib.hid hcur
              have HEL0 := Lib.hid hel
              have HO70 := Lib.hid hO7
              have hgl := (List.getElem?_eq_some_iff.1 hel).1
              clear hin hcur hel hpl hO7
              have HAP1 := Lib.hid hap1
              have HAP2 := Lib.hid hap2
              have HAP3 := Lib.hid hap3
              obtain ⟨W7, rfl⟩ : ∃ W7, W7 = w6 := ⟨_, rfl⟩
              clear hplaced hacc1 hcur0 hap1 hap2 hap3 h41 h42 h51 h52 h61 h62 hb3 hb4 hb5 hb6 hE hta hda hR2 hR3 hRo2 hO2 hIN hp0 hp1 hW2 hB2 hO1
              go_wp2_with (first | (at_builtin; refine Lib.wpList_append_run _ rfl _ _ _ _ rfl _ _ rfl rfl _ _ HAP1.out ?_) | (at_builtin; refine Lib.wpList_append_run _ rfl _ _ _ _ rfl _ _ rfl rfl _ _ HAP2.out ?_) | (at_builtin; refine Lib.wpList_append_run _ rfl _ _ _ _ rfl _ _ rfl rfl _ _ HAP3.out ?_))
              clear hsl2 hsl3 HAP1 HAP2 HAP3
              have hin := HIN0.out
              have hcur := HCUR0.out
              have hel := HEL0.out
              have hO7 := HO70.out
              have hp0 := hp07
              have hp1 := hp17
              clear HIN0 HCUR0 HEL0 HO70 hp04 hp02 hp12 hp07 hp17
              obtain ⟨_, _, he7, hc71, hc72, hR7⟩ := hO7.rd
              cases he7
              unfold maxLen at hc72
              obtain ⟨_, _, he8, hcell7⟩ := Rd.elem (enc := encP) (k := 2) encP_len (by omega) hR7 hel
              cases he8
              have h7a := hcell7 0 (.string s) rfl
              have h7b := hcell7 1 (.int .i64 cur) rfl
              simp only [Nat.add_zero, Nat.zero_add] at h7a h7b
              have ha7 : a < acc1.length := (List.getElem?_eq_some_iff.1 hel).1
              have ha7i : (a : Int) < (acc1.length : Int) := by omega
              have ha0i : (0 : Int) ≤ (a : Int) := by omega
              have hfr7 := World.ownsRow.frozenAt hO7 (a * 2 + 1)
              have hadd := fun W => (refAdd_any cur q W).mono (R' := fun e w' => e = .returned (.tuple #[.int .i64 (addI cur q).1, .bool (addI cur q).2]) ∧ w' = W) fun _ _ h => ⟨h.1, h.2.symm⟩
              obtain ⟨⟨n, ok⟩, hno⟩ : ∃ x, x = addI cur q := ⟨_, rfl⟩
              rw [← hno] at hadd
              have HADD := Lib.hid hadd
              have HO7 := Lib.hid hO7
              have HW7 := Lib.hid hW7
              have HIN := Lib.hid hin
              have HCUR := Lib.hid hcur
              have HNO := Lib.hid hno
              have HEL := Lib.hid hel
              clear hadd hO7 hR7 hcell7 hW7 hin hcur hno hel
              go_wp2
              (refine wp_region_quiet_lit (by kernel_rfl) (by kernel_rfl) ?_; (repeat (refine @wpQuiet_step _ _ _ _ _ _ _ ?_; intro K hK; go_simp; first | (refine @hK _ ?_; clear hK K) | (apply Exists.intro; refine ⟨fun _ => ?_, @hK _ ?_⟩; ((exact (HADD.out _).mono fun _ _ h => ⟨h.1, _, h.2⟩)); clear hK K))); refine @wpQuiet_nil _ _ _ _ _ ?_; intro _ hw'; obtain ⟨nq, hw''⟩ := hw'; subst hw'')
              cases ok
              · have hnone : joinL ps = none := HJ2.out.none (by rw [HCUR.out, ← HNO.out])
                have HN := Lib.hid hnone
                clear hnone
                go_wp2
                go_ret2
                exact ⟨.slice none 0 0, by rw [HN.out]; rfl, by unfold joinD; rw [HN.out]; exact World.ownsRow_nil _ _ _ _, below_drewN HW7.out _⟩
              · obtain ⟨hO8, hg8⟩ := World.ownsRow.stored HO7.out (a * 2 + 1) (.int .i64 n)
                rw [set_field acc1 a s cur n HEL.out] at hO8
                have hO9 : Ow encP 38 2 w.heap.size (W7.setCell ⟨g, a * 2 + 1, none⟩ (.int .i64 n)) (.slice (some ⟨g, 0, none⟩) acc1.length cap) (insA s n acc) := by
                  unfold Ow
                  rw [← HIN.out n, List.length_set]
                  exact hO8
                have hB9 : Below w.heap.size w (W7.setCell ⟨g, a * 2 + 1, none⟩ (.int .i64 n)) := HW7.out.grown hg8 HW7.out.size (fun j hj => by cases hj; exact (World.ownsRow.lt HO7.out g rfl).1)
                have hJ9 : Hid (RJ ps (restP xss i (k + 1)) (insA s n acc)) := HJ2.out.next (by rw [HCUR.out]; exact HNO.out.symm)
                have HO9 := Lib.hid hO9
                have HB9 := Lib.hid hB9
                clear hO8 hg8 hO9 hB9
                go_wp2
                go_roundw
                case rel => exact ⟨k + 1, _, by omega, by go_num, HO9.out.below (below_drewN (Below.refl _ _) _), hJ9, below_drewN HB9.out _⟩
                case measure => simp [intOf]; omega
        · obtain rfl : k = l.length := by omega
          have HJ2 : Hid (RJ ps (restP xss (i + 1) 0) acc) := by
            have := HJ.out
            rw [restP_end HX.out, ← restP_zero] at this
            exact this
          clear HJ hR
          go_wp2
          go_roundw
          case rel => exact ⟨i + 1, acc, by omega, by go_num, hO, HJ2, hnx⟩
          case measure => simp [intOf]; omega
    · obtain rfl : i = xss.length := by omega
      have hj : joinL ps = some acc := by
        rw [HJ.out.2.1, restP_zero, List.drop_length]; rfl
      have hd : joinD ps = acc := by unfold joinD; rw [hj]; rfl
      have HJJ := Lib.hid hj
      have HDD := Lib.hid hd
      clear hj hd
      go_wp2
      go_ret2
      exact ⟨_, by rw [HJJ.out]; rfl, by rw [HDD.out]; exact hO, hnx⟩
end Go.Proofs.YtjefaineggnogaaGreat
