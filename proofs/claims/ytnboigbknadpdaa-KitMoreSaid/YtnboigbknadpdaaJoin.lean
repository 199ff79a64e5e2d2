/- amount.Join: the parts of all lists put together, by rising items; none, if a sum is no amount. -/
import Derived.Test.YtnboigbknadpdaaMaps
import Derived.Test.YtnboigbknadpdaaStr
import Derived.Test.YtnboigbknadpdaaSort
import Derived.Test.YtnboigbknadpdaaConcat
import Derived.Test.YtnboigbknadpdaaAmount
set_option linter.unusedVariables false
set_option linter.unusedSimpArgs false
namespace Go.Proofs.Ytnboigbknadpdaa
set_option maxRecDepth 100000
open Go.RowKit SM

/-- Parts put together, from what is there already on. -/
def joinGo (acc : List Prt) : List Prt → Option (List Prt)
  | [] => some acc
  | p :: r => if (addI ((findA p.1 acc).getD 0) p.2).2 = true then joinGo (insA p.1 (addI ((findA p.1 acc).getD 0) p.2).1 acc) r else none
def joinL (l : List Prt) : Option (List Prt) := joinGo [] l
def joinD (l : List Prt) : List Prt := (joinL l).getD []

def asV (acc : List Prt) (s : ByteArray) : Option Value := (findA s acc).map fun n => .int .i64 n
theorem asV_getD (acc : List Prt) (s : ByteArray) : (asV acc s).getD (.int .i64 0) = .int .i64 ((findA s acc).getD 0) := by
  unfold asV; cases findA s acc <;> rfl
theorem asV_upd {acc : List Prt} (h : Rise acc) (k : ByteArray) (n : Int) : SM.upd (asV acc) k (.int .i64 n) = asV (insA k n acc) := by
  funext s
  unfold SM.upd asV
  rw [findA_insA k n s h]
  split <;> rfl

theorem zeroInt (w : World) : (zeroValue 2).run Try.prog w = .ok (.int .i64 0) w := Try.zeroValue2 w

/-- The closure by which the parts are sorted. -/
theorem joinCmp (x y : Prt) (W : World) : Calls Try.prog 43 #[.agg #[.string x.1, .int .i64 x.2], .agg #[.string y.1, .int .i64 y.2]] W fun e w' =>
    e = .returned (.int .i64 (cmpS x.1 y.1)) ∧ ∃ q os', w' = Sort.grow (W.drewN q) os' := by
  have hcon := fun W' => Try.strings_Compare x.1 y.1 W'
  have HC := Lib.hid hcon
  clear hcon
  go_enter Try.func43, Try.ntmps43
  go_wp2_with (go_at_call 38; (with_reducible refine (HC.out _).mono ?_); rintro e w' ⟨rfl, rfl⟩)
  go_ret
  exact ⟨rfl, 0, _, by rw [Sort.alloc_eq_grow, Sort.alloc_eq_grow, Sort.grow_grow]; rfl⟩

instance : Inhabited Prt := ⟨(ByteArray.empty, 0)⟩
theorem joinCmp_lt (x y : Prt) : ltOf (fun x y : Prt => cmpS x.1 y.1) x y = decide (ltS x.1 y.1) := by
  unfold ltOf
  exact decide_eq_decide.2 (cmpS_lt _ _)
theorem joinSwo : Sort.SWO (ltOf fun x y : Prt => cmpS x.1 y.1) where
  irrefl x := by rw [joinCmp_lt]; simpa using ltS_irrefl x.1
  trans x y z h1 h2 := by rw [joinCmp_lt] at *; simp at *; exact ltS_trans h1 h2
  ntrans x y z h1 h2 := by
    rw [joinCmp_lt] at *
    simp at *
    intro h3
    rcases ltS_tri x.1 y.1 with h | h | h
    · exact h1 h
    · rw [h] at h3; exact h2 h3
    · exact h2 (ltS_trans h h3)
set_option maxHeartbeats 1000000 in
/-- The parts' sort, of a row that the call owns. -/
theorem sort_parts {base : Nat} (v : Value) (out : List Prt) (w : World) (hown : w.ownsRow base 39 2 v out.length (out.flatMap encP)) (hn : out.length < 4611686018427387904) :
    Calls Try.prog 42 #[v, .func (.func 43) #[] #[]] w fun e w' =>
      e = .returned (.tuple #[]) ∧ ∃ ys : List Prt, ys.Perm out ∧ (ys.Pairwise fun a b => ¬ ltS b.1 a.1) ∧ w'.ownsRow base 39 2 v ys.length (ys.flatMap encP) ∧ w.grownBy w' v.ownBlock := by
  rcases hown.2 with ⟨rfl, h0⟩ | ⟨g, cap, cur, rfl, hbase, hb, h1, h2, h3, h4⟩
  · have h0' : out = [] := List.eq_nil_of_length_eq_zero h0
    subst h0'
    refine (AnyF.slices_SortFunc_none Try.sortPart none 0 (.func (.func 43) #[] #[]) w).mono ?_
    rintro e w' ⟨rfl, rfl⟩
    exact ⟨rfl, [], List.Perm.refl _, List.Pairwise.nil, hown, ⟨rfl, rfl, rfl, Nat.le_refl _, fun _ _ _ => rfl⟩⟩
  · have hH : Sort.HoldsK encP 2 w g 0 out.toArray := holdsK_of_block encP_len (by omega) hb rfl h4
    have eg : ∀ args w, (callFunc 43 args).run Try.prog w = .ok (.enter 43 args) w := enters_of Try.func43 (by kernel_rfl) rfl
    have hcon := AnyQ.slices_SortFunc Try.sortPart 2 Try.isAgg39 Try.sizeOf39 encP encP_len encP_one (fun x y => cmpS x.1 y.1) joinSwo 43 #[] g 0 cap out.toArray w eg
      (fun _ _ _ _ x y => joinCmp x y _) hH (Array.getElem?_eq_some_iff.1 hb).1 (by simpa using hn)
    have hcon' : Calls Try.prog 42 #[.slice (some ⟨g, 0, none⟩) out.length cap, .func (.func 43) #[] #[]] w _ := hcon
    refine hcon'.mono ?_
    rintro e w' ⟨rfl, d', n, os, hp, hs, rfl⟩
    have hperm := perm_of_permIn hp
    have hd : d'.size = out.toArray.size := hp.1
    have hl : d'.toList.length = out.length := by rw [Array.length_toList, hd]; simp
    refine ⟨rfl, d'.toList, hperm, ?_, ?_, grownBy_sortedK _⟩
    · rw [← hd] at hs
      refine (pairwise_of_sortedIn hs).imp fun {_ _} h => ?_
      rw [joinCmp_lt] at h
      simpa using h
    · rw [hl]
      have := own_sortedK (ys := d'.toList) (m := n) (os := os) encP_len (by omega) hl hbase hb h1 h2 h3
      rwa [Array.toArray_toList] at this

set_option maxHeartbeats 4000000 in
set_option maxRecDepth 100000 in
theorem join_any (xss : List PL) (ps : List Prt) (hps : allP xss = ps) (A : Option Addr) (c : Nat) (w : World) (hc : xss.length ≤ c) (hm : c ≤ maxLen)
    (hA : PartsAt w A xss) (hlen : ps.length * 24 ≤ 140737488355328) (hsz : ∀ p ∈ ps, p.1.size ≤ maxLen) :
    Calls Try.prog 19 #[.slice A xss.length c] w fun e w' =>
      ∃ v, e = .returned (.tuple #[v, .bool (joinL ps).isSome]) ∧ w'.ownsRow w.heap.size 39 2 v (joinD ps).length ((joinD ps).flatMap encP) ∧ Below w.heap.size w w' := by
  have hmm := @run_makeMap Try.prog
  have hb0 : Below w.heap.size w (w.alloc (.map #[] 0)) := (Below.refl _ w).alloc (Nat.le_refl _) _
  have hmap0 := MapAt.made (strKK Try.underlying9) w
  have hcc := concat_parts xss A c (w.alloc (.map #[] 0)) hc hm (hA.below hb0) (by rw [hps]; exact hlen)
  rw [hps] at hcc
  clear hps
  have HCC := Lib.hid hcc
  clear hcc
  go_enter Try.func19, Try.ntmps19
  go_wp2_with (go_at_call 40; (with_reducible refine HCC.out.mono ?_); rintro e w1 ⟨v1, rfl, hown1, hb1⟩; obtain ⟨_, A1, c1, rfl, hc1, hc2, hr1⟩ := own_sl hown1)
  have hsm1 := hmap0.same (w' := w1) (hb1.block _ (by simp))
  have hb01 := hb0.trans (hb1.mono (by simp))
  clear hA hmap0 hb0 HCC hmm
  go_loopw [16] (fun i wr => ∃ (k : Nat) (acc : List Prt), k ≤ ps.length ∧ i = .int .i64 k ∧ MapAt (strKK Try.underlying9) wr w.heap.size k (asV acc) ∧ Hid (Rise acc ∧ joinL ps = joinGo acc (ps.drop k)) ∧ acc.length ≤ k ∧ Rd wr A1 (ps.flatMap encP) ∧ Below w.heap.size w wr ∧ w.heap.size < wr.heap.size) (fun i _ => ps.length - (intOf i).toNat)
  case atStart => exact ⟨0, [], Nat.zero_le _, rfl, hsm1, ⟨List.Pairwise.nil, rfl⟩, Nat.zero_le _, hr1, hb01, by have := hb1.size; simp at this; omega⟩
  case round =>
    obtain ⟨k, acc, hk, rfl, hmap, HJ, hal, hr, hnx, hsz1⟩ := hrel
    by_cases hlt : k < ps.length
    · obtain ⟨p, hp⟩ : ∃ p, ps[k]? = some p := ⟨_, List.getElem?_eq_getElem hlt⟩
      obtain ⟨b, o, rfl, hcell⟩ := Rd.elem (enc := encP) (k := 2) encP_len (by omega) hr hp
      obtain ⟨s, q⟩ := p
      have h0 := hcell 0 (.string s) rfl
      have h1 := hcell 1 (.int .i64 q) rfl
      simp only [Nat.add_zero] at h0
      have hok : s.size ≤ maxLen := hsz (s, q) (List.mem_of_getElem? hp)
      have HP := Lib.hid hp
      clear hcell hp hr1 hown1 hsm1 hb01
      obtain ⟨cur, hcur⟩ : ∃ cur, cur = (findA s acc).getD 0 := ⟨_, rfl⟩
      have hlook : (Instr.lookup 74 (.map (some w.heap.size)) (.string s) false).run Try.prog (wr.alloc (.cells #[.string s, .int .i64 q] 39)) = .ok (.int .i64 cur) (wr.alloc (.cells #[.string s, .int .i64 q] 39)) := by
        have h := (hmap.alloc (.cells #[.string s, .int .i64 q] 39)).look false Try.underlying74 (zeroInt _) (x := s) hok
        rw [asV_getD, ← hcur] at h
        exact h
      have hadd := add_any cur q (wr.alloc (.cells #[.string s, .int .i64 q] 39))
      have HD : Hid (ps.drop k = (s, q) :: ps.drop (k + 1)) := by
        have := HP.out
        rw [List.getElem?_eq_getElem hlt] at this
        injection this with this
        rw [List.drop_eq_getElem_cons hlt, this]; exact rfl
      by_cases hs : (addI cur q).2 = true
      · obtain ⟨n, hn⟩ : ∃ n, n = (addI cur q).1 := ⟨_, rfl⟩
        rw [hs, ← hn] at hadd
        have HADD := Lib.hid hadd
        have HS := Lib.hid hs
        have HN := Lib.hid hn
        have HC := Lib.hid hcur
        obtain ⟨w3, hst, hmap3, hg3⟩ := ((hmap.alloc (.cells #[.string s, .int .i64 q] 39)).alloc (.cells #[.int .i64 cur, .int .i64 q] 2)).store Try.underlying74 (by unfold maxLen; omega) (x := s) hok (.int .i64 n)
        replace hst : (Instr.mapUpdate 74 (.map (some w.heap.size)) (.string s) (.int .i64 n)).run Try.prog ((wr.alloc (.cells #[.string s, .int .i64 q] 39)).alloc (.cells #[.int .i64 cur, .int .i64 q] 2)) = .ok () w3 := hst
        have R : MapAt (strKK Try.underlying9) w3 w.heap.size (k + 1) (asV (insA s n acc)) ∧ Hid (Rise (insA s n acc) ∧ joinL ps = joinGo (insA s n acc) (ps.drop (k + 1))) ∧ (insA s n acc).length ≤ k + 1 ∧ Rd w3 (some ⟨b, o, none⟩) (ps.flatMap encP) ∧ Below w.heap.size w w3 ∧ w.heap.size < w3.heap.size := by
          rw [asV_upd HJ.out.1] at hmap3
          refine ⟨hmap3, ⟨rise_insA s n HJ.out.1, ?_⟩, ?_, ?_, ?_, ?_⟩
          · rw [HJ.out.2, HD.out, joinGo]
            simp only
            rw [← hcur, if_pos hs, ← hn]
          · have := length_insA_le s n acc; omega
          · refine hr.of_heap fun a ha hlt => ?_
            cases ha
            have hne : some b ≠ some w.heap.size := by
              intro e; injection e with e; subst e
              obtain ⟨D, ⟨es, clock, hbl, _⟩, _⟩ := hmap
              simp [World.cell?, hbl] at h0
            have hlt : b < wr.heap.size := hlt
            rw [hg3.block b (by simp; omega) hne]
            rw [Below.heap_alloc _ _ _ (by simp; omega), Below.heap_alloc _ _ _ hlt]
          · exact ((hnx.alloc hnx.size _).alloc (by simp; omega) _).grown hg3 (by simp; omega) (fun j hj => by cases hj; exact Nat.le_refl _)
          · have := hg3.size; simp at this; omega
        have HR := Lib.hid R
        clear hadd hs hn hcur R hr hmap hmap3 hg3 hnx
        go_wp2_with (go_at_call 41; (with_reducible refine HADD.out.mono ?_); rintro e w' ⟨rfl, rfl⟩)
        go_roundw
        case rel => exact ⟨k + 1, insA s n acc, by omega, by go_num, HR.out⟩
        case measure => simp [intOf]; omega
      · have hs' : (addI cur q).2 = false := by simpa using hs
        have HN : Hid (joinL ps = none) := by
          rw [HJ.out.2, HD.out, joinGo]
          simp only
          rw [← hcur, if_neg hs]; exact rfl
        rw [hs'] at hadd
        have HB : Hid (Below w.heap.size w ((wr.alloc (.cells #[.string s, .int .i64 q] 39)).alloc (.cells #[.int .i64 cur, .int .i64 q] 2))) := (hnx.alloc hnx.size _).alloc (by simp; omega) _
        have HADD := Lib.hid hadd
        clear hadd hs hs' hcur hr hmap hnx
        go_wp2_with (go_at_call 41; (with_reducible refine HADD.out.mono ?_); rintro e w' ⟨rfl, rfl⟩)
        go_ret2
        refine ⟨.slice none 0 0, by rw [HN.out]; exact rfl, ?_, HB.out⟩
        unfold joinD
        rw [HN.out]
        exact World.ownsRow_nil _ _ _ _
    · obtain rfl : k = ps.length := by omega
      have hJ : Rise acc ∧ joinL ps = some acc := ⟨HJ.out.1, by rw [HJ.out.2, List.drop_length]; rfl⟩
      have HJ2 := Lib.hid hJ
      obtain ⟨w5, cnt0, hrun5, hrg5, hcn, hg5, hs5⟩ := hmap.range (t := 74) Try.underlying74
      have hB5 : Below w.heap.size w w5 := hnx.grown hg5 hnx.size (fun j hj => by cases hj)
      obtain ⟨R, hR⟩ : ∃ R, R = wr.heap.size := ⟨_, rfl⟩
      rw [← hR] at hrun5 hrg5 hs5
      have hR1 : w.heap.size < R := by omega
      obtain ⟨B1, hB1⟩ : ∃ B1, B1 = w5.heap.size := ⟨_, rfl⟩
      have hRB : R < B1 := by omega
      have HB1 := Lib.hid hB1
      obtain ⟨i0, hi, hz0, hz1, hz2⟩ := info_parts infoPart
      have HI := Lib.hid hi
      have HZ0 := Lib.hid hz0
      have HZ1 := Lib.hid hz1
      have HZ2 := Lib.hid hz2
      clear hi hz0 hz1 hz2 hJ HJ hr1 hown1 hsm1 hb01 hr hmap hnx hg5 hs5 hR hB1
      go_wp2
      go_loopw [9] (fun v wr2 => ∃ (out : List Prt) (cnt : Nat), RangeAt (strKK Try.underlying9) wr2 w.heap.size R ps.length (asV acc) (out.map (·.1)) cnt ∧ wr2.ownsRow B1 39 2 v out.length (out.flatMap encP) ∧ Hid (∀ p ∈ out, findA p.1 acc = some p.2) ∧ Below w.heap.size w wr2 ∧ out.length + cnt ≤ ps.length ∧ B1 ≤ wr2.heap.size) (fun _ wr2 => wr2.rangeLeft w.heap.size R)
      case atStart => exact ⟨[], cnt0, hrg5, World.ownsRow_nil _ _ _ _, (by intro p hp; cases hp), hB5, by simpa using hcn, by rw [HB1.out]; exact Nat.le_refl _⟩
      case round =>
        clear hrun5 hrg5 hB5 hcn
        obtain ⟨out, cnt, hrg, hown, HF, hnx, hoc, hB2⟩ := hrel
        rcases hrg.next 0 with ⟨hc0, hall, hrun⟩ | ⟨x, v, w6, cnt', hnd, hfx, hokx, hrun, hrg6, hclt, hg6, hs6, hen⟩
        · have hnd := hrg.nodup
          have hperm : out.Perm acc := by
            refine (List.perm_ext_iff_of_nodup ?_ (rise_nodup HJ2.out.1)).2 fun p => ⟨fun hp => mem_of_findA (HF.out p hp), fun hp => ?_⟩
            · exact (List.pairwise_map.1 hnd).imp fun {_ _} h e => h (by rw [e])
            · have hfp := findA_of_mem HJ2.out.1 hp
              obtain ⟨q, hq, hqe⟩ := List.mem_map.1 (hall p.1 (by unfold asV; rw [hfp]; rfl))
              have h2 := HF.out q hq
              rw [hqe, hfp] at h2
              injection h2 with h2
              have e : q = p := Prod.ext hqe h2.symm
              exact e ▸ hq
          have hsort := sort_parts u9 out wr hown (by omega)
          have hend : ∀ w' : World, (∃ ys : List Prt, ys.Perm out ∧ (ys.Pairwise fun a b => ¬ ltS b.1 a.1) ∧ w'.ownsRow B1 39 2 u9 ys.length (ys.flatMap encP) ∧ wr.grownBy w' u9.ownBlock) →
              (∃ v, Ending.returned (.tuple #[u9, .bool true]) = .returned (.tuple #[v, .bool (joinL ps).isSome]) ∧ w'.ownsRow w.heap.size 39 2 v (joinD ps).length ((joinD ps).flatMap encP) ∧ Below w.heap.size w w') := by
            rintro w' ⟨ys, h1, h2, h3, h4⟩
            have hy : ys = acc := by
              refine rise_unique (rise_of_sorted h2 ?_) HJ2.out.1 (h1.trans hperm)
              exact (h1.map (·.1)).nodup_iff.2 hnd
            subst hy
            have hj : joinD ps = ys := by unfold joinD; rw [HJ2.out.2]; rfl
            refine ⟨u9, by rw [HJ2.out.2]; rfl, ?_, hnx.grown h4 hnx.size fun j hj => by have := (hown.lt j hj).1; omega⟩
            rw [hj]
            exact own_lower h3 (by omega)
          have HS := Lib.hid hsort
          have HE := Lib.hid hend
          clear hsort hend hperm hnd hall hrg hown hnx HF hc0
          go_wp2_with (go_at_call 42; (with_reducible refine HS.out.mono ?_); rintro e w' ⟨rfl, hys⟩; have HY := Lib.hid hys; clear hys)
          go_ret2
          exact HE.out _ HY.out
        · obtain ⟨n, hn, rfl⟩ : ∃ n, findA x acc = some n ∧ v = .int .i64 n := by
            unfold asV at hfx
            obtain ⟨n, h1, h2⟩ := Option.map_eq_some_iff.1 hfx
            exact ⟨n, h1, h2.symm⟩
          replace hrun : (Instr.next (.pointer (some ⟨R, 0, none⟩)) false 0).run Try.prog wr = .ok (.tuple #[.bool true, .string x, .int .i64 n]) w6 := hrun
          replace hen : (Instr.entry (.pointer (some ⟨R, 0, none⟩))).run Try.prog w6 = .ok (.tuple #[.string x, .int .i64 n]) w6 := hen
          have hne : ∀ j, u9.ownBlock = some j → B1 ≤ j := fun j hj => (hown.lt j hj).1
          have hown6 : w6.ownsRow B1 39 2 u9 out.length (out.flatMap encP) := hown.kept hg6 (by
            cases hu : u9.ownBlock with
            | none => exact .inl rfl
            | some j => exact .inr (fun e => by injection e with e; have := hne j hu; omega))
          obtain ⟨v', w7, hap, hown7, hg7, _⟩ := append_own_src (ty := 29) (t := 29) (tx := 29) Try.underlying29 HI.out HZ0.out HZ1.out HZ2.out rfl (by omega) (hown6.alloc (.cells #[.string x, .int .i64 n] 39))
            ((cells_two w6 (.string x) (.int .i64 n) 39).src (c := 1) (m := 1) (size := 2) (tx := 29) Try.underlying29 rfl (by omega) (by intro u hu; simp at hu; rcases hu with rfl | rfl <;> rfl)) (by unfold maxLen; omega) (by omega) (by simp; omega)
          have hrg7 : RangeAt (strKK Try.underlying9) w7 w.heap.size R ps.length (asV acc) ((out ++ [(x, n)]).map (·.1)) cnt' := by
            rw [List.map_append]
            refine (hrg6.alloc _).kept hg7 (fun e => ?_) (fun e => ?_)
            · have := hne _ e.symm; omega
            · have := hne _ e.symm; omega
          have hB7 : Below w.heap.size w w7 := ((hnx.grown hg6 hnx.size (fun j hj => by cases hj; omega)).alloc (by omega) _).grown hg7 (by simp; omega) (fun j hj => by have := hne j hj; omega)
          have hown7 : w7.ownsRow B1 39 2 v' (out ++ [(x, n)]).length ((out ++ [(x, n)]).flatMap encP) := by
            rw [List.length_append, List.flatMap_append]
            exact hown7
          have HF7 : Hid (∀ p ∈ out ++ [(x, n)], findA p.1 acc = some p.2) := by
            intro p hp
            rcases List.mem_append.1 hp with h | h
            · exact HF.out p h
            · simp at h; subst h; exact hn
          have hB72 : B1 ≤ w7.heap.size := by have := hg7.size; simp at this; omega
          have hmeas := hrg.left_eq
          have hmeas7 := hrg7.left_eq
          have HM := Lib.hid hmeas
          have HM7 := Lib.hid hmeas7
          have HALL := Lib.hid (And.intro hrg7 (And.intro hown7 (And.intro HF7 hB7)))
          have HAP := Lib.hid hap
          clear hmeas hmeas7 hrg7 hown7 HF7 hB7 hap hrg hrg6 hown hown6 hg6 hg7 hs6 hfx hn hnx hne hnd hokx
          go_wp2_with (at_builtin; refine Lib.wpList_append_run _ rfl _ _ _ _ rfl _ _ rfl rfl _ _ HAP.out ?_)
          go_roundw
          case rel => exact ⟨out ++ [(x, n)], cnt', HALL.out.1, HALL.out.2.1, HALL.out.2.2.1, HALL.out.2.2.2, by simp; omega, hB72⟩
          case measure => rw [HM.out, HM7.out]; exact hclt
end Go.Proofs.Ytnboigbknadpdaa
