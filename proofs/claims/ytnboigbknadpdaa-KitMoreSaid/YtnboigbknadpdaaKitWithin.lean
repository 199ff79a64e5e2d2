/- kit.Within: what is within an item. -/
import Derived.Test.YtnboigbknadpdaaWithin
import Derived.Test.YtnboigbknadpdaaKitIn
set_option linter.unusedVariables false
set_option linter.unusedSimpArgs false
namespace Go.Proofs.Ytnboigbknadpdaa
set_option maxRecDepth 100000
open Go.RowKit SM
/-- What Within answers. -/
def WithinR (l : List Iv) (c : ByteArray) (w : World) (e : Ending) (w' : World) : Prop :=
  ∃ v, e = .returned v ∧ w'.ownsRow w.heap.size 9 1 v (withinL (itsOf l) c).length ((withinL (itsOf l) c).flatMap encS) ∧ Below w.heap.size w w'
theorem WithinR.none {l : List Iv} {c : ByteArray} {w w' : World} (h : withinL (itsOf l) c = []) (hB : Below w.heap.size w w') : WithinR l c w (.returned (.slice none 0 0)) w' := by
  refine ⟨_, rfl, ?_, hB⟩
  rw [h]
  exact World.ownsRow_nil _ _ _ _
abbrev withWorld (w' : World) (ma : Nat) : World :=
  (((w'.alloc (.cells #[.map (some ma)] 54)).alloc (.map #[] 0)).alloc (.cells #[.map (some (w'.heap.size + 1))] 55)).alloc (.cells #[fn3 35 (w'.heap.size + 1 + 1) w'.heap.size (w'.heap.size + 1 + 1 + 1)] 65)
theorem withWorld_ok {l : List Iv} {w0 w' : World} {na ma : Nat} (hB : Below w0.heap.size w0 w') (hM : MapS w' ma na (bookF l)) :
    LookW 35 l w0 na ma (w'.heap.size + 1) (w'.heap.size + 1 + 1) w'.heap.size (w'.heap.size + 1 + 1 + 1) 0 (fun _ => none) (withWorld w' ma) ∧ LookP w0 ma (w'.heap.size + 1) (w'.heap.size + 1 + 1) w'.heap.size (w'.heap.size + 1 + 1 + 1) := by
  have h0 := hB.size
  have h1 := hM.lt
  have s1 : (w'.alloc (.cells #[.map (some ma)] 54)).heap.size = w'.heap.size + 1 := World.size_alloc ..
  refine ⟨⟨?_, ?_, ?_, ?_, ?_, ?_⟩, ⟨by omega, by omega, by omega, by omega, by omega⟩⟩
  · exact (((hB.alloc h0 _).alloc (by simp only [World.size_alloc]; omega) _).alloc (by simp only [World.size_alloc]; omega) _).alloc (by simp only [World.size_alloc]; omega) _
  · rw [World.cell?_alloc_past _ _ _ (by simp only [World.size_alloc]; omega), World.cell?_alloc_at _ _ _ _ (by simp only [World.size_alloc])]; rfl
  · rw [World.cell?_alloc_past _ _ _ (by simp only [World.size_alloc]; omega), World.cell?_alloc_past _ _ _ (by simp only [World.size_alloc]; omega), World.cell?_alloc_past _ _ _ (by simp only [World.size_alloc]; omega), World.cell?_alloc_at _ _ _ _ rfl]; rfl
  · rw [World.cell?_alloc_at _ _ _ _ (by simp only [World.size_alloc])]; rfl
  · exact (((hM.alloc _).alloc _).alloc _).alloc _
  · have h := ((MapAt.made (strKK (P := Try.prog) Try.underlying9) (w'.alloc (.cells #[.map (some ma)] 54))).alloc (.cells #[.map (some (w'.heap.size + 1))] 55)).alloc (.cells #[fn3 35 (w'.heap.size + 1 + 1) w'.heap.size (w'.heap.size + 1 + 1 + 1)] 65)
    rw [World.size_alloc] at h
    exact h
section
variable (l : List Iv) (A : Option Addr) (n : Nat) (c : ByteArray) (w : World)
set_option maxHeartbeats 8000000 in
theorem kitWithin_bad (hc : l.length ≤ n) (hm : n ≤ maxLen) (hA : ItemsAt w A l) (hS : SizesOk l) (hP : ∀ x ∈ l, x.it.parts.length ≤ 1000000) (h0 : checkE (itsOf l) ≠ 0) :
    Calls Try.prog 14 #[.slice A l.length n, .string c] w (WithinR l c w) := by
  have hck := check_any l A n w hc hm hA hS hP
  have hwe : withinL (itsOf l) c = [] := by unfold withinL; rw [if_neg (fun h => h0 h.1)]
  obtain ⟨d, hd⟩ : ∃ d, d = checkE (itsOf l) := ⟨_, rfl⟩
  have hck2 : Calls Try.prog 26 #[.slice A l.length n] w fun e w' => e = .returned (.tuple #[.map none, .map none, .int .i64 (d : Nat)]) ∧ Hid (∀ W, Below w'.heap.size w' W → WithinR l c w (.returned (.slice none 0 0)) W) := by
    refine hck.mono fun e w' ⟨hB, h⟩ => ?_
    rcases h with ⟨h1, _⟩ | ⟨_, rfl⟩
    · exact absurd h1 h0
    · rw [hd]
      exact ⟨rfl, fun W hW => WithinR.none hwe (hB.trans (hW.mono hB.size))⟩
  have hdz : ((d : Int) != 0) = true := by rw [bne_iff_ne]; omega
  have HCK := Lib.hid hck2
  clear hck hck2 hA hS hP hwe h0 hd
  go_enter Try.func14, Try.ntmps14
  go_wp2_with (go_at_call 26; (with_reducible refine HCK.out.mono ?_); rintro e w' ⟨rfl, HR⟩)
  go_ret
  exact HR.out _ ((Below.refl _ _).alloc (Nat.le_refl _) _)
set_option maxHeartbeats 8000000 in
theorem kitWithin_item (hc : l.length ≤ n) (hm : n ≤ maxLen) (hA : ItemsAt w A l) (hS : SizesOk l) (hP : ∀ x ∈ l, x.it.parts.length ≤ 1000000) (h0 : checkE (itsOf l) = 0) (hx : findI (itsOf l) c = none) (hcs : c.size ≤ 140737488355328) :
    Calls Try.prog 14 #[.slice A l.length n, .string c] w (WithinR l c w) := by
  have hwe : withinL (itsOf l) c = [] := by unfold withinL; rw [if_neg (fun h => by rw [hx] at h; cases h.2)]
  have hck := check_good l A n w hc hm hA hS hP h0 (fun ma w' => Hid (∀ W, Below w'.heap.size w' W → WithinR l c w (.returned (.slice none 0 0)) W) ∧
      (Instr.lookup 54 (.map (some ma)) (.string c) false).run Try.prog (w'.alloc (.cells #[.map (some ma)] 54)) = .ok (.agg #[.string ByteArray.empty, .int .i64 0, .slice none 0 0, .slice none 0 0]) (w'.alloc (.cells #[.map (some ma)] 54)))
    (fun ma na w' _ hM hB => ⟨fun W hW => WithinR.none hwe (hB.trans (hW.mono hB.size)), by
      have h := (hM.alloc (.cells #[.map (some ma)] 54)).look false Try.underlying54 (zeroItem _) (x := c) (by show c.size ≤ maxLen; unfold maxLen; omega)
      have e : bookF l c = none := by unfold bookF; rw [findIv_none hx]; rfl
      rw [e] at h
      exact h⟩)
  have HCK := Lib.hid hck
  have hf0 := field0
  have hce := toList_empty c
  have hbe : (ByteArray.empty.toList == c.toList) = decide (ByteArray.empty = c) := str_eq_iff _ _
  clear hck hA hS hP hwe h0 hx
  by_cases h1 : c.size = 0
  · rw [decide_eq_true h1] at hce
    clear hbe h1
    go_enter Try.func14, Try.ntmps14
    go_wp2_with (go_at_call 26; (with_reducible refine HCK.out.mono ?_); rintro e w' ⟨ma, mo, rfl, HR, hl⟩)
    go_ret
    exact HR.out _ ((Below.refl _ _).alloc (Nat.le_refl _) _)
  · rw [decide_eq_false h1] at hce
    rw [decide_eq_false (fun e => h1 (by rw [← e]; rfl))] at hbe
    clear h1
    go_enter Try.func14, Try.ntmps14
    go_wp2_with (go_at_call 26; (with_reducible refine HCK.out.mono ?_); rintro e w' ⟨ma, mo, rfl, HR, hl⟩)
    go_ret
    exact HR.out _ ((Below.refl _ _).alloc (Nat.le_refl _) _)
set_option maxHeartbeats 8000000 in
theorem kitWithin_found (hc : l.length ≤ n) (hm : n ≤ maxLen) (hA : ItemsAt w A l) (hS : SizesOk l) (hP : ∀ x ∈ l, x.it.parts.length ≤ 1000000) (h0 : checkE (itsOf l) = 0) (x : It) (hx : findI (itsOf l) c = some x) :
    Calls Try.prog 14 #[.slice A l.length n, .string c] w (WithinR l c w) := by
  have hsd := check_sound h0
  obtain ⟨y, hy, _⟩ := findIv_some hx
  have hcs : c.size ≤ 140737488355328 := by
    have h := (hS y (findIv_mem hy)).1
    rw [findIv_code hy] at h
    exact h
  have hcd := findIv_code hy
  have hc1 : 1 ≤ c.size := by
    have := (code_size (hsd.each y.it (List.mem_map.2 ⟨y, findIv_mem hy, rfl⟩)).1).1
    rw [hcd] at this
    exact this
  have hl60 := hsd.len
  rw [itsOf_len] at hl60
  have hK : ∀ x ∈ l, ∀ p ∈ x.it.parts, ∃ y, findIv l p.1 = some y := fun x hx p hp => by
    obtain ⟨y, hy⟩ := hsd.known x.it (List.mem_map.2 ⟨x, hx, rfl⟩) p hp
    obtain ⟨z, hz, _⟩ := findIv_some hy
    exact ⟨z, hz⟩
  have h8 : ∀ x ∈ l, x.it.parts.length ≤ 8 := fun x hx => by
    have h := (hsd.each x.it (List.mem_map.2 ⟨x, hx, rfl⟩)).2
    unfold rightB at h
    split at h
    · rename_i h2; rw [h2]; exact Nat.zero_le _
    · simp only [Bool.and_eq_true, decide_eq_true_eq] at h
      exact h.2
  have hmem := fun s => withinL_mem h0 hx s
  have hrise := withinL_rise h0 c
  obtain ⟨⟨cd, lf, ps, ot⟩, pA, pc, oA, oc⟩ := y
  obtain rfl : cd = c := hcd
  have hck := check_good l A n w hc hm hA hS hP h0 (fun ma w' =>
      (Instr.lookup 54 (.map (some ma)) (.string cd) false).run Try.prog (w'.alloc (.cells #[.map (some ma)] 54)) = .ok (.agg #[.string cd, .int .i64 lf, .slice pA ps.length pc, .slice oA ot.length oc]) (w'.alloc (.cells #[.map (some ma)] 54)) ∧
      Hid (Calls Try.prog 35 #[.string cd, .pointer (some ⟨w'.heap.size + 1 + 1, 0, none⟩), .pointer (some ⟨w'.heap.size, 0, none⟩), .pointer (some ⟨w'.heap.size + 1 + 1 + 1, 0, none⟩)] (withWorld w' ma) (fun e w5 =>
        e = .returned (.tuple #[]) ∧ w5.cell? ⟨w'.heap.size + 1 + 1, 0, none⟩ = some (.map (some (w'.heap.size + 1))) ∧
          Hid (Calls Try.prog 36 #[.func (.func 56) #[] #[.pointer (some ⟨w5.heap.size, 0, none⟩)], .func (.func 38) #[] #[]] (w5.alloc (.cells #[.map (some (w'.heap.size + 1))] 55)) (WithinR l cd w)))))
    (fun ma na w' _ hM hB => by
      refine ⟨?_, ?_⟩
      · have h := (hM.alloc (.cells #[.map (some ma)] 54)).look false Try.underlying54 (zeroItem _) (x := cd) (by show cd.size ≤ maxLen; unfold maxLen; omega)
        have e : bookF l cd = some (aggIv ⟨⟨cd, lf, ps, ot⟩, pA, pc, oA, oc⟩) := by unfold bookF; rw [hy]; rfl
        rw [e] at h
        exact h
      · obtain ⟨hW, hp⟩ := withWorld_ok hB hM
        have hua := untold_all (itsOf l) (fun _ => none)
        rw [itsOf_len] at hua
        have hwi := within_any l w na ma _ _ _ _ hp hA.each hS h8 hK _ cd (fun _ => none) 0 _ (Nat.le_refl _) ⟨_, hy⟩ (fun s v h => by cases h) hW (by omega)
        refine hwi.mono fun e w5 ⟨he, hT, g, m', hW5, hF, hC, hm'⟩ => ?_
        refine ⟨he, hW5.co, ?_⟩
        refine (sortedKeys_any w5 _ m' g hW5.out (by omega)).mono ?_
        rintro e w6 ⟨v, ys, rfl, hr, hys, ho, hb⟩
        have hyw : ys = withinL (itsOf l) cd := riseT_unique hr hrise fun s => by
          rw [hys s, hmem s]
          exact hF.all s
        rw [hyw] at ho
        have h5 := hW5.bel.size
        refine ⟨v, rfl, own_lower ho (by rw [World.size_alloc]; omega), (hW5.bel.alloc h5 _).trans (hb.mono (by rw [World.size_alloc]; omega))⟩)
  have HCK := Lib.hid hck
  have hky : ∀ (W : World) (mb : Option Nat), Calls Try.prog 37 #[.map mb] W fun e w' => e = .returned (.func (.func 56) #[] #[.pointer (some ⟨W.heap.size, 0, none⟩)]) ∧ W.alloc (.cells #[.map mb] 55) = w' := fun W mb =>
    (callsIn_wide.1 (AnyZ.keys_in Try.keysI Fence.wide 1 trivial rfl mb W)).mono fun e w' h => ⟨h.1, h.2.symm⟩
  have HKY := Lib.hid hky
  have hf0 := field0
  have hce := toList_empty cd
  rw [decide_eq_false (by omega)] at hce
  have hbe : (cd.toList == cd.toList) = true := by simp
  have hmm := @run_makeMap Try.prog
  clear hck hA hS hP h0 hx hy hK hsd hc1 hl60 hky hmem hrise h8
  go_enter Try.func14, Try.ntmps14
  go_wp2_with (first | (go_at_call 26; (with_reducible refine HCK.out.mono ?_); rintro e w' ⟨ma, mo, rfl, hl, HP⟩) | (go_at_call 35; (with_reducible refine HP.out.mono ?_); rintro e w5 ⟨rfl, hc5, HS⟩) | (go_at_call 37; (with_reducible refine (HKY.out _ _).mono ?_); rintro e w6 ⟨rfl, rfl⟩) | (go_at_call 36; (with_reducible refine HS.out.mono ?_); rintro e w7 ⟨v, rfl, ho, hb⟩))
  go_ret
  exact ⟨v, rfl, ho, hb⟩
theorem kitWithin_any (hc : l.length ≤ n) (hm : n ≤ maxLen) (hA : ItemsAt w A l) (hS : SizesOk l) (hP : ∀ x ∈ l, x.it.parts.length ≤ 1000000) (hcs : c.size ≤ 140737488355328) :
    Calls Try.prog 14 #[.slice A l.length n, .string c] w (WithinR l c w) := by
  by_cases h0 : checkE (itsOf l) = 0
  · cases hx : findI (itsOf l) c with
    | none => exact kitWithin_item l A n c w hc hm hA hS hP h0 hx hcs
    | some x => exact kitWithin_found l A n c w hc hm hA hS hP h0 x hx
  · exact kitWithin_bad l A n c w hc hm hA hS hP h0
end
end Go.Proofs.Ytnboigbknadpdaa
