/- storemanref07.deep: how deep each item is, round by round. -/
import Derived.Test.YtnboigbknadpdaaRef07
import Derived.Laws.OwnMore
set_option linter.unusedVariables false
set_option linter.unusedSimpArgs false
namespace Go.Proofs.Ytnboigbknadpdaa
set_option maxRecDepth 100000
open Go.RowKit SM
def encN (n : Nat) : List Value := [.int .i64 (n : Int)]
theorem encN_len (n : Nat) : (encN n).length = 1 := rfl
theorem encN_one (n : Nat) : ∀ u ∈ encN n, u.oneCell' = true := by intro u hu; simp [encN] at hu; subst hu; rfl
/-- A row of numbers of the call's own. -/
def IntsAt (w : World) (base g cap : Nat) (out : List Nat) : Prop := w.ownsRow base 3 1 (.slice (some ⟨g, 0, none⟩) out.length cap) out.length (out.flatMap encN)
theorem IntsAt.get {w : World} {base g cap : Nat} {out : List Nat} (h : IntsAt w base g cap out) {j d : Nat} (hj : out[j]? = some d) : w.cell? ⟨g, j, none⟩ = some (.int .i64 (d : Int)) := by
  have h1 := flat_get (enc := encN) (k := 1) encN_len out j d hj 0 _ rfl
  have := World.ownsRow.cells h (g := g) rfl _ _ h1
  rw [Addr.add_lit] at this
  simpa using this
theorem IntsAt.free {w : World} {base g cap : Nat} {out : List Nat} (h : IntsAt w base g cap out) (j : Nat) : w.frozen? ⟨g, j, none⟩ = false := by
  rcases h.2 with ⟨h1, _⟩ | ⟨g', cap', cur, h1, _, hg, _⟩
  · cases h1
  · cases h1
    simp [World.frozen?, hg]
theorem IntsAt.set {w : World} {base g cap : Nat} {out : List Nat} (h : IntsAt w base g cap out) {j : Nat} (hj : j < out.length) (v : Nat) : IntsAt (w.setCell ⟨g, j, none⟩ (.int .i64 (v : Int))) base g cap (out.set j v) := by
  have := (own_store1 Try.prog encN_len encN_one h hj v _ rfl).1
  unfold IntsAt
  rw [List.length_set]
  exact this
theorem IntsAt.le {w : World} {base g cap : Nat} {out : List Nat} (h : IntsAt w base g cap out) : base ≤ g := (World.ownsRow.lt h g rfl).1
theorem IntsAt.below {w w' : World} {base g cap : Nat} {out : List Nat} (h : IntsAt w base g cap out) (hb : Below w.heap.size w w') : IntsAt w' base g cap out := own_below h hb
theorem stepV_le {xs : List It} {out : List Nat} {b : Nat} (h : ∀ d ∈ out, d ≤ b) : ∀ (ps : List Prt) (a : Nat), a ≤ b + 1 → stepV xs out ps a ≤ b + 1
  | [], a, ha => ha
  | p :: r, a, ha => by
    unfold stepV
    split
    · exact Nat.zero_le _
    · refine stepV_le h r _ (Nat.max_le.2 ⟨ha, ?_⟩)
      have : out.getD (placeI xs p.1) 0 ≤ b := by
        rw [List.getD_eq_getElem?_getD]
        cases hx : out[placeI xs p.1]? with
        | none => exact Nat.zero_le _
        | some d => exact h d (List.mem_of_getElem? hx)
      omega
theorem true_le {xs : List It} (hu : Uniq xs) {out : List Nat} (h : TrueV xs out) : ∀ d ∈ out, d ≤ xs.length := fun d hd => by
  obtain ⟨i, hi, rfl⟩ := List.getElem_of_mem hd
  by_cases h0 : out[i] = 0
  · omega
  · have hi2 : i < xs.length := by rw [← h.1]; exact hi
    have hp := (hu i xs[i] (List.getElem?_eq_getElem hi2)).2
    exact (h.2 xs[i].code out[i] (by rw [hp, List.getD_eq_getElem?_getD, List.getElem?_eq_getElem hi]; rfl) h0).le_len
set_option maxHeartbeats 16000000 in
theorem refDeep_any (l : List Iv) (A : Option Addr) (c : Nat) (w : World) (hc : l.length ≤ c) (hm : c ≤ maxLen) (hA : ItemsAt w A l) (hL : l.length ≤ 1000) (hu : Uniq (itsOf l))
    (hK : ∀ x ∈ l, ∀ p ∈ x.it.parts, ∃ y, findI (itsOf l) p.1 = some y) :
    Calls Try.prog 30 #[.slice A l.length c] w fun e w' => e = .returned (.slice (some ⟨w.heap.size, 0, none⟩) l.length l.length) ∧ IntsAt w' w.heap.size w.heap.size l.length (depthsV (itsOf l)) ∧ Below w.heap.size w w' := by
  unfold maxLen at hm
  obtain ⟨n, hn⟩ : ∃ n, n = l.length := ⟨_, rfl⟩
  obtain ⟨i0, hi, hz0, hz1, hz2⟩ := info_parts (show (Try.prog.info? 3).map (fun i => (i.zero, i.size, i.bytes)) = some (some (.int .i64 0), 1, 8) by kernel_rfl)
  obtain ⟨w1, hmk, hown0, hg0⟩ := run_make_full (P := Try.prog) w w.heap.size 60 3 i0 _ 1 Try.underlying60 hi hz0 hz1 .i64 .i64 l.length (by rw [hz2]; omega) (by unfold maxLen; omega) (Nat.le_refl _)
  have hb0 : Below w.heap.size w w1 := (Below.refl _ w).grown hg0 (Nat.le_refl _) (fun j hj => by cases hj)
  have hI0 : IntsAt w1 w.heap.size w.heap.size l.length (roundsV (itsOf l) 0) := by
    unfold IntsAt
    rw [roundsV_len, itsOf_len]
    have e : (madeCells (Value.int .i64 0).cells (l.length * 1)).toList = (roundsV (itsOf l) 0).flatMap encN := by
      rw [show (Value.int .i64 0).cells = #[Value.int .i64 0] from rfl, toList_madeCells_one, Nat.mul_one, roundsV, itsOf_len]
      generalize l.length = m
      induction m with
      | zero => rfl
      | succ m ih => rw [List.replicate_succ, List.replicate_succ, List.flatMap_cons, ← ih]; rfl
    rw [← e]
    exact hown0
  have HI0 := Lib.hid hI0
  have HB0 := Lib.hid hb0
  have HA := Lib.hid hA
  have HU := Lib.hid hu
  have HK := Lib.hid hK
  clear hI0 hb0 hA hu hK hown0 hg0 hi hz0 hz1 hz2
  go_enter Try.func30, Try.ntmps30
  go_wp2
  clear hmk
  go_loopw [4] (fun iv wr => ∃ r : Nat, r ≤ l.length + 1 ∧ iv = .int .i64 r ∧ Hid (IntsAt wr w.heap.size w.heap.size l.length (roundsV (itsOf l) r)) ∧ Hid (Below w.heap.size w wr)) (fun iv _ => l.length + 1 - (intOf iv).toNat)
  case atStart => exact ⟨0, Nat.zero_le _, rfl, HI0, HB0⟩
  case round =>
    clear HI0 HB0
    obtain ⟨r, hr, rfl, HI, HB⟩ := hrel
    by_cases hlt : r ≤ l.length
    · have hd1 : decide ((r : Int) ≤ (l.length : Int)) = true := decide_eq_true (by omega)
      have HR := Lib.hid (rounds_inv HU.out r)
      go_wp2
      go_loopw [5] (fun iv wr => ∃ i : Nat, i ≤ l.length ∧ iv = .int .i64 i ∧ Hid (IntsAt wr w.heap.size w.heap.size l.length (sweepTo (itsOf l) (roundsV (itsOf l) r) i)) ∧ Hid (Below w.heap.size w wr)) (fun iv _ => l.length - (intOf iv).toNat)
      case atStart => exact ⟨0, Nat.zero_le _, rfl, HI, HB⟩
      case round =>
        clear HI HB
        obtain ⟨i, hi, rfl, HI, HB⟩ := hrel
        by_cases hil : i < l.length
        · obtain ⟨b, o, rfl, h0, h1, h2, h3, hI⟩ := (HA.out.below HB.out).get hil
          have hinv := sweep_inv HU.out HR.out.1 HR.out.2 i
          have hol : (sweepTo (itsOf l) (roundsV (itsOf l) r) i).length = l.length := by rw [sweepTo_len, roundsV_len, itsOf_len]
          have hdl := true_le HU.out hinv.1
          rw [itsOf_len] at hdl
          have hnx : sweepTo (itsOf l) (roundsV (itsOf l) r) (i + 1) = (sweepTo (itsOf l) (roundsV (itsOf l) r) i).set i (stepV (itsOf l) (sweepTo (itsOf l) (roundsV (itsOf l) r) i) l[i].it.parts 1) := by
            rw [sweepTo_succ]
            unfold setV
            have : (itsOf l)[i]? = some l[i].it := by unfold itsOf; rw [List.getElem?_map, List.getElem?_eq_getElem hil]; rfl
            rw [this]; rfl
          have hkn := HK.out _ (List.getElem_mem hil)
          have hI0 := HI.out
          generalize sweepTo (itsOf l) (roundsV (itsOf l) r) i = out at hol hdl hnx hI0
          generalize l[i] = x at h0 h1 h2 h3 hI hnx hkn
          obtain ⟨⟨cd, lf, ps, ot⟩, pA, pc, oA, oc⟩ := x
          simp only at h0 h1 h2 h3 hnx hkn
          have hpn := hI.pn
          have hpm := hI.pm
          unfold maxLen at hpm
          simp only at hpn hpm
          have hIT := hI
          have hci := hI0.get (j := i) (d := out[i]'(by omega)) (List.getElem?_eq_getElem (by omega))
          have hfi := hI0.free i
          have hi0 : (0 : Int) ≤ (i : Int) := by omega
          have hil2 : (i : Int) < (l.length : Int) := by omega
          have HDL := Lib.hid hdl
          have HKN := Lib.hid hkn
          have HII := Lib.hid hI0
          have HIT := Lib.hid hIT
          have HB2 : ∀ v : Nat, Hid (Below w.heap.size w (wr.setCell ⟨w.heap.size, i, none⟩ (.int .i64 (v : Int)))) := fun v => HB.out.setCell (Nat.le_refl _) _
          have HI2 : ∀ v : Nat, v = stepV (itsOf l) out ps 1 → Hid (IntsAt (wr.setCell ⟨w.heap.size, i, none⟩ (.int .i64 (v : Int))) w.heap.size w.heap.size l.length (sweepTo (itsOf l) (roundsV (itsOf l) r) (i + 1))) := fun v hv => by
            rw [hnx, ← hv]
            exact hI0.set (by omega) v
          have HB3 := Lib.hid HB2
          have HI3 := Lib.hid HI2
          have HFD : Hid (∀ s, Calls Try.prog 29 #[.slice (some ⟨b, o, none⟩) l.length c, .string s] wr fun e w' => e = .returned (.int .i64 (findZ (itsOf l) s)) ∧ wr = w') := fun s => refFind_any l _ c s wr hc (by unfold maxLen; omega) (HA.out.below HB.out)
          generalize out[i]'(by omega) = oi at hci
          clear hinv hdl hnx hkn hI0 hI hIT HB2 HI2 HI HB h0 h1 h3
          go_wp2
          go_loopw [6, 7] (fun nv kv wr2 => ∃ k a : Nat, k ≤ ps.length ∧ kv = .int .i64 k ∧ nv = .int .i64 a ∧ wr = wr2 ∧ Hid (stepV (itsOf l) out ps 1 = stepV (itsOf l) out (ps.drop k) a) ∧ a ≤ l.length + 1) (fun _ kv _ => ps.length - (intOf kv).toNat)
          case atStart => exact ⟨0, 1, Nat.zero_le _, rfl, rfl, by trivial, rfl, by omega⟩
          case round =>
            obtain ⟨k, a, hk, rfl, rfl, rfl, HS, ha⟩ := hrel
            have hk0 : (0 : Int) ≤ (k : Int) := by omega
            by_cases hkl : k < ps.length
            · obtain ⟨b1, o1, hpa, h4, h5⟩ := HIT.out.part (j := k) hkl
              simp only at hpa h4 h5
              subst hpa
              have hst : stepV (itsOf l) out (ps.drop k) a = if out.getD (placeI (itsOf l) ps[k].1) 0 = 0 then 0 else stepV (itsOf l) out (ps.drop (k + 1)) (max a (out.getD (placeI (itsOf l) ps[k].1) 0 + 1)) := by
                rw [List.drop_eq_getElem_cons hkl]; rfl
              obtain ⟨y, hy⟩ := HKN.out _ (List.getElem_mem hkl)
              have hpl := (place_found hy).1
              rw [itsOf_len] at hpl
              have hfd := HFD.out ps[k].1
              rw [findZ_found hy] at hfd
              generalize ps[k].1 = s at h4 hst hpl hfd
              generalize placeI (itsOf l) s = pl at hst hpl hfd
              have hgd : out[pl]? = some (out.getD pl 0) := by
                rw [List.getD_eq_getElem?_getD, List.getElem?_eq_getElem (by omega)]; rfl
              have hcp := HII.out.get hgd
              have hdb := HDL.out _ (List.mem_of_getElem? hgd)
              generalize out.getD pl 0 = d at hst hcp hdb
              have HFD2 := Lib.hid hfd
              have hkl2 : (k : Int) < (ps.length : Int) := by omega
              have hpl0 : (0 : Int) ≤ (pl : Int) := by omega
              have hpl2 : (pl : Int) < (l.length : Int) := by omega
              by_cases hd : d = 0
              · have hd1 : ((d : Int) == 0) = true := by rw [beq_iff_eq]; omega
                rw [if_pos hd] at hst
                have HI4 := HI3.out 0 (by rw [HS.out, hst])
                have HB4 := HB3.out 0
                simp only [Int.ofNat_zero, Int.natCast_zero] at HI4 HB4
                clear hst hgd hfd HS hd
                go_wp2_with (go_at_call 29; (with_reducible refine HFD2.out.mono ?_); rintro e w' ⟨rfl, rfl⟩)
                go_roundw
                case rel => exact ⟨i + 1, by omega, by go_num, HI4, HB4⟩
                case measure => simp [intOf]; omega
              · have hd1 : ((d : Int) == 0) = false := by rw [beq_eq_false_iff_ne]; omega
                rw [if_neg hd] at hst
                have HS2 : Hid (stepV (itsOf l) out ps 1 = stepV (itsOf l) out (ps.drop (k + 1)) (max a (d + 1))) := HS.out.trans hst
                clear hst hgd hfd HS hd
                go_wp2_with (go_at_call 29; (with_reducible refine HFD2.out.mono ?_); rintro e w' ⟨rfl, rfl⟩)
                go_roundw
                case rel => exact ⟨k + 1, max a (d + 1), by omega, by go_num, by congr 1; omega, by trivial, HS2, by omega⟩
                case measure => simp [intOf]; omega
            · obtain rfl : k = ps.length := by omega
              have hst : a = stepV (itsOf l) out ps 1 := by rw [HS.out, List.drop_length]; rfl
              have HI4 := HI3.out a hst
              have HB4 := HB3.out a
              clear hst HS
              go_wp2
              go_roundw
              case rel => exact ⟨i + 1, by omega, by go_num, HI4, HB4⟩
              case measure => simp [intOf]; omega
        · obtain rfl : i = l.length := by omega
          have HI2 : Hid (IntsAt wr w.heap.size w.heap.size l.length (roundsV (itsOf l) (r + 1))) := by
            have h := HI.out
            rw [show l.length = (itsOf l).length from (itsOf_len l).symm] at h
            have e : roundsV (itsOf l) (r + 1) = sweepTo (itsOf l) (roundsV (itsOf l) r) (itsOf l).length := rfl
            rw [← e, itsOf_len] at h
            exact h
          clear HI
          go_wp2
          go_roundw
          case rel => exact ⟨r + 1, by omega, by go_num, HI2, HB⟩
          case measure => simp [intOf]; omega
    · obtain rfl : r = l.length + 1 := by omega
      have hd1 : decide (((l.length + 1 : Nat) : Int) ≤ (l.length : Int)) = false := decide_eq_false (by omega)
      have HI2 : Hid (IntsAt wr w.heap.size w.heap.size l.length (depthsV (itsOf l))) := by
        unfold depthsV
        rw [itsOf_len]
        exact HI.out
      clear HI
      go_wp2
      go_ret
      exact ⟨rfl, HI2.out, HB.out⟩
end Go.Proofs.Ytnboigbknadpdaa
