/- kit.right, kit.book: whether an item is kept, or a kit, as it stands; items by their codes. -/
import Derived.Test.YtnboigbknadpdaaDepths
import Derived.Test.YtnboigbknadpdaaCode
set_option linter.unusedVariables false
set_option linter.unusedSimpArgs false
namespace Go.Proofs.Ytnboigbknadpdaa
set_option maxRecDepth 100000
open Go.RowKit SM
/-- What is seen of the first k parts. -/
def seenF (ps : List Prt) : FI := fun s => if ps.any (fun p => decide (p.1 = s)) = true then some 1 else none
def Fine (ps : List Prt) : Prop := (∀ p ∈ ps, 1 ≤ p.2 ∧ p.2 ≤ 1073741824) ∧ (ps.map (·.1)).Nodup
theorem fine_snoc {ps : List Prt} {p : Prt} : Fine (ps ++ [p]) ↔ Fine ps ∧ (1 ≤ p.2 ∧ p.2 ≤ 1073741824) ∧ seenF ps p.1 = none := by
  unfold Fine seenF
  have h : (ps.any (fun q => decide (q.1 = p.1)) = true) ↔ p.1 ∈ ps.map (·.1) := by
    rw [List.any_eq_true, List.mem_map]
    simp
  rw [List.map_append, List.nodup_append]
  constructor
  · rintro ⟨h1, h2, _, h4⟩
    refine ⟨⟨fun q hq => h1 q (List.mem_append_left _ hq), h2⟩, h1 p (by simp), ?_⟩
    rw [if_neg]
    rw [h]
    intro hm
    exact h4 p.1 hm p.1 (by simp) rfl
  · rintro ⟨⟨h1, h2⟩, h3, h4⟩
    refine ⟨fun q hq => ?_, h2, by simp, fun a ha b hb => ?_⟩
    · rcases List.mem_append.1 hq with hq | hq
      · exact h1 q hq
      · simp only [List.mem_singleton] at hq; subst hq; exact h3
    · simp only [List.map_cons, List.map_nil, List.mem_singleton] at hb
      subst hb
      rintro rfl
      rw [if_pos (h.2 ha)] at h4
      cases h4
theorem seenF_snoc (ps : List Prt) (p : Prt) : seenF (ps ++ [p]) = updI (seenF ps) p.1 1 := by
  funext s
  unfold seenF updI
  rw [List.any_append]
  by_cases h : s = p.1
  · subst h; simp
  · rw [if_neg h]
    have : decide (p.1 = s) = false := decide_eq_false (fun e => h e.symm)
    rw [List.any_cons, List.any_nil, this, Bool.or_false, Bool.or_false]
theorem seenF_one {ps : List Prt} {s : ByteArray} (h : seenF ps s ≠ none) : seenF ps s = some 1 := by
  unfold seenF at h ⊢
  split
  · rfl
  · rename_i h2; rw [if_neg h2] at h; exact absurd rfl h
theorem fine_take {ps : List Prt} {k : Nat} (h : Fine ps) : Fine (ps.take k) :=
  ⟨fun p hp => h.1 p (List.mem_of_mem_take hp), h.2.sublist ((List.take_sublist k ps).map _)⟩
theorem rightB_kit {x : It} (h : x.parts ≠ []) (hf : Fine x.parts) : rightB x = (decide (x.life = 0) && decide (x.parts.length ≤ 8)) := by
  unfold rightB
  rw [if_neg h, decide_eq_true hf.1, decide_eq_true hf.2]
  simp
theorem rightB_bad {x : It} (h : x.parts ≠ []) (hf : ¬ Fine x.parts) : rightB x = false := by
  unfold rightB
  rw [if_neg h]
  by_cases h1 : ∀ p ∈ x.parts, 1 ≤ p.2 ∧ p.2 ≤ 1073741824
  · have h2 : ¬ (x.parts.map (·.1)).Nodup := fun h2 => hf ⟨h1, h2⟩
    simp [h2]
  · rw [decide_eq_false h1]; rfl
set_option maxHeartbeats 8000000 in
theorem kitRight_kept (cd : ByteArray) (lf : Int) (ot : List ByteArray) (pA oA : Option Addr) (pc oc : Nat) (w : World) :
    Calls Try.prog 49 #[.agg #[.string cd, .int .i64 lf, .slice pA 0 pc, .slice oA ot.length oc]] w fun e w' => e = .returned (.bool (rightB ⟨cd, lf, [], ot⟩)) ∧ Below w.heap.size w w' := by
  have HB : Hid (Below w.heap.size w (w.alloc (.cells #[.string cd, .int .i64 lf, .slice pA 0 pc, .slice oA ot.length oc] 32))) := (Below.refl _ w).alloc (Nat.le_refl _) _
  have HV : Hid (rightB ⟨cd, lf, [], ot⟩ = (decide (1 ≤ lf) && decide (lf ≤ 2000))) := rfl
  by_cases h1 : 0 < lf
  · by_cases h2 : lf ≤ 2000
    · have HV2 : Hid (rightB ⟨cd, lf, [], ot⟩ = true) := by rw [HV.out, decide_eq_true (show 1 ≤ lf by omega), decide_eq_true h2]; exact rfl
      have h3 : decide (lf ≤ 2000) = true := decide_eq_true h2
      go_enter Try.func49, Try.ntmps49
      go_wp2_with fail
      go_ret
      exact ⟨by rw [HV2.out]; exact rfl, HB.out⟩
    · have HV2 : Hid (rightB ⟨cd, lf, [], ot⟩ = false) := by rw [HV.out, decide_eq_false h2, Bool.and_false]; exact rfl
      have h3 : decide (lf ≤ 2000) = false := decide_eq_false h2
      go_enter Try.func49, Try.ntmps49
      go_wp2_with fail
      go_ret
      exact ⟨by rw [HV2.out]; exact rfl, HB.out⟩
  · have HV2 : Hid (rightB ⟨cd, lf, [], ot⟩ = false) := by rw [HV.out, decide_eq_false (show ¬ 1 ≤ lf by omega)]; exact rfl
    go_enter Try.func49, Try.ntmps49
    go_wp2_with fail
    go_ret
    exact ⟨by rw [HV2.out]; exact rfl, HB.out⟩
set_option maxHeartbeats 8000000 in
theorem kitRight_kit (cd : ByteArray) (lf : Int) (ps : List Prt) (ot : List ByteArray) (pA oA : Option Addr) (pc oc : Nat) (w : World) (hn : ps ≠ []) (hpn : ps.length ≤ pc) (hpm : pc ≤ maxLen) (hpr : Rd w pA (ps.flatMap encP))
    (hsz : ∀ p ∈ ps, p.1.size ≤ 140737488355328) (hlen : ps.length ≤ 1000000) :
    Calls Try.prog 49 #[.agg #[.string cd, .int .i64 lf, .slice pA ps.length pc, .slice oA ot.length oc]] w fun e w' => e = .returned (.bool (rightB ⟨cd, lf, ps, ot⟩)) ∧ Below w.heap.size w w' := by
  unfold maxLen at hpm
  have hmm := @run_makeMap Try.prog
  have hb1 : Below w.heap.size w ((w.alloc (.cells #[.string cd, .int .i64 lf, .slice pA ps.length pc, .slice oA ot.length oc] 32)).alloc (.map #[] 0)) := ((Below.refl _ w).alloc (Nat.le_refl _) _).alloc (by simp) _
  have hm0 := MapAt.made (strKK (P := Try.prog) Try.underlying9) (w.alloc (.cells #[.string cd, .int .i64 lf, .slice pA ps.length pc, .slice oA ot.length oc] 32))
  rw [World.size_alloc] at hm0
  have h0 : ((ps.length : Int) == 0) = false := by
    have : ps.length ≠ 0 := fun h => hn (List.eq_nil_of_length_eq_zero h)
    rw [beq_eq_false_iff_ne]; omega
  have HG : Hid (Fine ps → rightB ⟨cd, lf, ps, ot⟩ = (decide (lf = 0) && decide (ps.length ≤ 8))) := fun h => rightB_kit (x := ⟨cd, lf, ps, ot⟩) hn h
  have HBAD : Hid (¬ Fine ps → rightB ⟨cd, lf, ps, ot⟩ = false) := fun h => rightB_bad (x := ⟨cd, lf, ps, ot⟩) hn h
  have HR := Lib.hid hpr
  have HB1 := Lib.hid hb1
  have HM0 := Lib.hid hm0
  have HSZ := Lib.hid hsz
  clear hb1 hm0 hn hpr hsz
  go_enter Try.func49, Try.ntmps49
  go_wp2_with fail
  go_loopw [22] (fun iv wr => ∃ k m : Nat, k ≤ ps.length ∧ iv = .int .i64 k ∧ m ≤ k ∧ Hid (MapS wr (w.heap.size + 1) m (asI (seenF (ps.take k)))) ∧ Hid (Below w.heap.size w wr) ∧ Hid (Fine (ps.take k)) ∧
    Hid (w.heap.size + 1 < wr.heap.size ∧ wr.heap[w.heap.size]? = some (.cells #[.string cd, .int .i64 lf, .slice pA ps.length pc, .slice oA ot.length oc] 32))) (fun iv _ => ps.length - (intOf iv).toNat)
  case atStart => exact ⟨0, 0, Nat.zero_le _, rfl, Nat.le_refl _, HM0.out, HB1, ⟨(by intro p hp; cases hp), List.nodup_nil⟩, by simp, Below.heap_alloc _ _ _ (by simp) |>.trans (heap_alloc_new w _)⟩
  case round =>
    clear HM0 HB1
    obtain ⟨k, m, hk, rfl, hm, HM, HB, HF, HC⟩ := hrel
    by_cases hlt : k < ps.length
    · obtain ⟨sq, hsq⟩ : ∃ sq, sq = ps[k] := ⟨_, rfl⟩
      have hpk : ps[k]? = some sq := by rw [List.getElem?_eq_getElem hlt, hsq]
      have htk : ps.take (k + 1) = ps.take k ++ [sq] := by rw [List.take_succ_eq_append_getElem hlt, hsq]
      obtain ⟨b, o, rfl, hcell⟩ := Rd.elem (enc := encP) (k := 2) encP_len (by omega) (HR.out.below HB.out) hpk
      have hsz := HSZ.out _ (List.mem_of_getElem? hpk)
      obtain ⟨s, q⟩ := sq
      have h0 := hcell 0 (.string s) rfl
      have h1 := hcell 1 (.int .i64 q) rfl
      simp only [Nat.add_zero] at h0 hsz
      have hok : s.size ≤ maxLen := by unfold maxLen; omega
      have hM1 := HM.out.alloc (.cells #[.string s, .int .i64 q] 39)
      have hl := hM1.look false Try.underlying55 (zeroInt0 _) (x := s) hok
      rw [asI_getD] at hl
      obtain ⟨cur, hcur⟩ : ∃ cur, cur = (seenF (ps.take k) s).getD 0 := ⟨_, rfl⟩
      have hc01 : cur = 0 ∧ seenF (ps.take k) s = none ∨ cur = 1 ∧ seenF (ps.take k) s ≠ none := by
        cases hs : seenF (ps.take k) s with
        | none => rw [hs] at hcur; exact .inl ⟨hcur, rfl⟩
        | some v =>
          have := seenF_one (ps := ps.take k) (s := s) (by rw [hs]; simp)
          rw [hs] at this hcur
          cases this
          exact .inr ⟨hcur, by simp⟩
      rw [← hcur] at hl
      obtain ⟨w3, hst, hM3, hg3⟩ := hM1.store Try.underlying55 (by unfold maxLen; omega) (x := s) hok (.int .i64 (cur + 1))
      have hl2 := hM3.look false Try.underlying55 (zeroInt0 _) (x := s) hok
      rw [asI_upd, asI_getD, updI_same, Option.getD_some] at hl2
      have hHC := HC.out
      have hT3 : Tch (fun b => b = w.heap.size + 1) (wr.alloc (.cells #[.string s, .int .i64 q] 39)) w3 := Tch.of_grown hg3 (fun k hk => by injection hk with hk; exact hk.symm)
      have hp0 : w3.cell? ⟨wr.heap.size, 0, none⟩ = some (.string s) := hT3.cell (by simp) (by omega)
      have hp1 : w3.cell? ⟨wr.heap.size, 1, none⟩ = some (.int .i64 q) := hT3.cell (by simp) (by omega)
      have hB3 : Below w.heap.size w w3 := hT3.below (HB.out.alloc HB.out.size _) (by simp; omega) (fun k hk => by omega)
      have hC3 : w.heap.size + 1 < w3.heap.size ∧ w3.heap[w.heap.size]? = some (.cells #[.string cd, .int .i64 lf, .slice (some ⟨b, o, none⟩) ps.length pc, .slice oA ot.length oc] 32) := by
        have := hT3.size
        simp at this
        exact ⟨by omega, (hT3.block _ (by simp; omega) (by omega)).trans ((Below.heap_alloc _ _ _ (by omega)).trans hHC.2)⟩
      replace hst : (Instr.mapUpdate 55 (.map (some (w.heap.size + 1))) (.string s) (.int .i64 (cur + 1))).run Try.prog (wr.alloc (.cells #[.string s, .int .i64 q] 39)) = .ok () w3 := hst
      replace hl : (Instr.lookup 55 (.map (some (w.heap.size + 1))) (.string s) false).run Try.prog (wr.alloc (.cells #[.string s, .int .i64 q] 39)) = .ok (.int .i64 cur) (wr.alloc (.cells #[.string s, .int .i64 q] 39)) := hl
      replace hl2 : (Instr.lookup 55 (.map (some (w.heap.size + 1))) (.string s) false).run Try.prog w3 = .ok (.int .i64 (cur + 1)) w3 := hl2
      have HFI : Hid (Fine (ps.take (k + 1)) ↔ (1 ≤ q ∧ q ≤ 1073741824) ∧ cur = 0) := by
        rw [htk, fine_snoc]
        simp only
        constructor
        · rintro ⟨_, h2, h3⟩
          rcases hc01 with h | h
          · exact ⟨h2, h.1⟩
          · exact absurd h3 h.2
        · rintro ⟨h2, h3⟩
          rcases hc01 with h | h
          · exact ⟨HF.out, h2, h.2⟩
          · omega
      have HBD : Hid (¬ ((1 ≤ q ∧ q ≤ 1073741824) ∧ cur = 0) → rightB ⟨cd, lf, ps, ot⟩ = false) := fun h => HBAD.out (fun hf => h (HFI.out.1 (fine_take hf)))
      have HM3 : Hid (cur = 0 → MapS w3 (w.heap.size + 1) (m + 1) (asI (seenF (ps.take (k + 1))))) := fun h => by
        rw [htk, seenF_snoc]
        rw [asI_upd, h] at hM3
        exact hM3
      have HB3 := Lib.hid hB3
      have HC3 := Lib.hid hC3
      have hcr : cur = 0 ∨ cur = 1 := by rcases hc01 with h | h; · exact .inl h.1
                                         · exact .inr h.1
      clear hcell hpk htk hc01 hcur hM1 hM3 hg3 hHC hT3 hB3 hC3 HM HB HC HF
      by_cases hq1 : q < 1
      · have HV := Lib.hid (HBD.out (by omega))
        go_wp2_with fail
        go_ret
        exact ⟨by rw [HV.out]; exact rfl, HB3.out⟩
      · by_cases hq2 : q > 1073741824
        · have HV := Lib.hid (HBD.out (by omega))
          go_wp2_with fail
          go_ret
          exact ⟨by rw [HV.out]; exact rfl, HB3.out⟩
        · rcases hcr with rfl | rfl
          · have HF2 := Lib.hid (HFI.out.2 ⟨⟨by omega, by omega⟩, rfl⟩)
            have HM4 := Lib.hid (HM3.out rfl)
            simp only [Int.zero_add] at hst hl2
            go_wp2_with fail
            go_roundw
            case rel => exact ⟨k + 1, m + 1, by omega, by go_num, by omega, HM4, HB3, HF2, HC3⟩
            case measure => simp [intOf]; omega
          · have HV := Lib.hid (HBD.out (by omega))
            simp only [show (1 : Int) + 1 = 2 from rfl] at hst hl2
            go_wp2_with fail
            go_ret
            exact ⟨by rw [HV.out]; exact rfl, HB3.out⟩
    · obtain rfl : k = ps.length := by omega
      have hcw := fun j => cell_of_row wr w.heap.size j _ _ (0, 0) HC.out.2
      have hc1 : wr.cell? ⟨w.heap.size, 1, none⟩ = some (.int .i64 lf) := hcw 1
      have hc2 : wr.cell? ⟨w.heap.size, 2, none⟩ = some (.slice pA ps.length pc) := hcw 2
      have hF := HF.out
      rw [List.take_length] at hF
      have HV := Lib.hid (HG.out hF)
      clear hcw hF HM HF HC
      by_cases h1 : lf = 0
      · have h2 : (lf == 0) = true := by rw [beq_iff_eq]; exact h1
        by_cases h3 : ps.length ≤ 8
        · have h4 : decide ((ps.length : Int) ≤ 8) = true := decide_eq_true (by omega)
          have HV2 : Hid (rightB ⟨cd, lf, ps, ot⟩ = true) := by rw [HV.out, decide_eq_true h1, decide_eq_true h3]; exact rfl
          clear h1
          go_wp2_with fail
          go_ret
          exact ⟨by rw [HV2.out]; exact rfl, HB.out⟩
        · have h4 : decide ((ps.length : Int) ≤ 8) = false := decide_eq_false (by omega)
          have HV2 : Hid (rightB ⟨cd, lf, ps, ot⟩ = false) := by rw [HV.out, decide_eq_false h3, Bool.and_false]; exact rfl
          clear h1
          go_wp2_with fail
          go_ret
          exact ⟨by rw [HV2.out]; exact rfl, HB.out⟩
      · have h2 : (lf == 0) = false := by rw [beq_eq_false_iff_ne]; exact h1
        have HV2 : Hid (rightB ⟨cd, lf, ps, ot⟩ = false) := by rw [HV.out, decide_eq_false h1, Bool.false_and]; exact rfl
        go_wp2_with fail
        go_ret
        exact ⟨by rw [HV2.out]; exact rfl, HB.out⟩
theorem kitRight_any (x : Iv) (w : World) (hI : ItemAt w x) (hsz : ∀ p ∈ x.it.parts, p.1.size ≤ 140737488355328) (hlen : x.it.parts.length ≤ 1000000) :
    Calls Try.prog 49 #[aggIv x] w fun e w' => e = .returned (.bool (rightB x.it)) ∧ Below w.heap.size w w' := by
  obtain ⟨⟨cd, lf, ps, ot⟩, pA, pc, oA, oc⟩ := x
  by_cases hn : ps = []
  · subst hn
    exact kitRight_kept cd lf ot pA oA pc oc w
  · exact kitRight_kit cd lf ps ot pA oA pc oc w hn hI.pn hI.pm hI.pr hsz hlen
def BookR (l : List Iv) (w : World) (e : Ending) (w' : World) : Prop := ∃ ma m : Nat, e = .returned (.map (some ma)) ∧ w.heap.size ≤ ma ∧ m ≤ l.length ∧ MapS w' ma m (bookF l) ∧ Below w.heap.size w w'
set_option maxHeartbeats 8000000 in
theorem book_any (l : List Iv) (A : Option Addr) (c : Nat) (w : World) (hc : l.length ≤ c) (hm : c ≤ maxLen) (hA : ItemsAt w A l) (hS : SizesOk l) (hL : l.length ≤ 1000000) (hr : Rises (itsOf l)) :
    Calls Try.prog 50 #[.slice A l.length c] w (BookR l w) := by
  unfold maxLen at hm
  have hmm := @run_makeMap Try.prog
  have hb1 : Below w.heap.size w (w.alloc (.map #[] 0)) := (Below.refl _ w).alloc (Nat.le_refl _) _
  have hm0 := MapAt.made (strKK (P := Try.prog) Try.underlying9) w
  have HB1 := Lib.hid hb1
  have HM0 := Lib.hid hm0
  have HA := Lib.hid hA
  have HS := Lib.hid hS
  have HR := Lib.hid hr
  clear hb1 hm0 hA hS hr
  go_enter Try.func50, Try.ntmps50
  go_wp2_with fail
  go_loopw [9] (fun iv wr => ∃ k : Nat, k ≤ l.length ∧ iv = .int .i64 k ∧ Hid (MapS wr w.heap.size k (bookF (l.take k))) ∧ Hid (Below w.heap.size w wr) ∧ Hid (w.heap.size < wr.heap.size)) (fun iv _ => l.length - (intOf iv).toNat)
  case atStart => exact ⟨0, Nat.zero_le _, rfl, HM0.out, HB1, by show w.heap.size < (w.alloc _).heap.size; simp⟩
  case round =>
    clear HM0 HB1
    obtain ⟨k, hk, rfl, HM, HB, HZ⟩ := hrel
    by_cases hlt : k < l.length
    · obtain ⟨b, o, rfl, h0, h1, h2, h3, hI⟩ := (HA.out.below HB.out).get hlt
      have hsn : bookF (l.take (k + 1)) = upd (bookF (l.take k)) l[k].it.code (aggIv l[k]) := by
        rw [List.take_succ_eq_append_getElem hlt]
        exact bookF_snoc (rises_front HR.out hlt)
      have hsz := (HS.out _ (List.getElem_mem hlt)).1
      generalize l[k] = x at h0 h1 h2 h3 hI hsn hsz
      obtain ⟨⟨cd, lf, ps, ot⟩, pA, pc, oA, oc⟩ := x
      simp only at h0 h1 h2 h3 hsz
      have hpl := hI.pn
      have hpm := hI.pm
      have hol := hI.on
      have hom := hI.om
      unfold maxLen at hpm hom
      simp only at hpl hpm hol hom
      have hM1 := HM.out.alloc (.cells #[.string cd, .int .i64 lf, .slice pA ps.length pc, .slice oA ot.length oc] 32)
      obtain ⟨w3, hst, hM3, hg3⟩ := hM1.store Try.underlying54 (by unfold maxLen; omega) (x := cd) (by show cd.size ≤ maxLen; unfold maxLen; omega) (.agg #[.string cd, .int .i64 lf, .slice pA ps.length pc, .slice oA ot.length oc])
      rw [show upd (bookF (l.take k)) cd (.agg #[.string cd, .int .i64 lf, .slice pA ps.length pc, .slice oA ot.length oc]) = bookF (l.take (k + 1)) from hsn.symm] at hM3
      have hHZ := HZ.out
      have hB3 : Below w.heap.size w w3 := (HB.out.alloc HB.out.size _).grown hg3 (by simp; omega) (fun j hj => by cases hj; exact Nat.le_refl _)
      have hZ3 : w.heap.size < w3.heap.size := by have := hg3.size; simp at this; omega
      replace hst : (Instr.mapUpdate 54 (.map (some w.heap.size)) (.string cd) (.agg #[.string cd, .int .i64 lf, .slice pA ps.length pc, .slice oA ot.length oc])).run Try.prog (wr.alloc (.cells #[.string cd, .int .i64 lf, .slice pA ps.length pc, .slice oA ot.length oc] 32)) = .ok () w3 := hst
      have HM3 := Lib.hid hM3
      have HB3 := Lib.hid hB3
      have HZ3 := Lib.hid hZ3
      clear hsn hM1 hM3 hg3 hB3 hZ3 hHZ HM HB HZ hI
      go_wp2_with fail
      go_roundw
      case rel => exact ⟨k + 1, by omega, by go_num, HM3, HB3, HZ3⟩
      case measure => simp [intOf]; omega
    · obtain rfl : k = l.length := by omega
      have hM := HM.out
      rw [List.take_length] at hM
      have HM2 := Lib.hid hM
      clear hM HM
      go_wp2_with fail
      go_ret
      exact ⟨_, _, rfl, Nat.le_refl _, Nat.le_refl _, HM2.out, HB.out⟩
end Go.Proofs.Ytnboigbknadpdaa
