/- kit.Parts: what is in so many of an item in the end. -/
import Derived.Test.YtnboigbknadpdaaPut
import Derived.Test.YtnboigbknadpdaaKitFns
import Derived.Test.YtnboigbknadpdaaSame
import Derived.Laws.EntriesVeiled
set_option linter.unusedVariables false
set_option linter.unusedSimpArgs false
namespace Go.Proofs.Ytnboigbknadpdaa
set_option maxRecDepth 100000
open Go.RowKit SM
/-- What is in so many of an item, of sound ones. -/
def endE (xs : List It) (c : ByteArray) (q : Int) : Option (List Prt) := putE xs xs.length [] c q
def partsE (xs : List It) (c : ByteArray) (q : Int) : Nat :=
  if checkE xs ≠ 0 then checkE xs else if ¬ (1 ≤ q ∧ q ≤ 1125899906842624) then 2 else if findI xs c = none then 150 else if endE xs c q = none then 3 else 0
def partsL (xs : List It) (c : ByteArray) (q : Int) : List Prt := if partsE xs c q = 0 then (endE xs c q).getD [] else []
theorem Sound.dep {xs : List It} (h : Sound xs) {c : ByteArray} {x : It} (hx : findI xs c = some x) : Dep xs c (depI xs c) ∧ depI xs c ≤ xs.length := by
  have h1 := (h.depth x (findI_mem hx)).1
  rw [findI_code hx] at h1
  have := dep_of h.uniq (c := c) (by omega)
  exact ⟨this, this.le_len⟩
/-- What Parts answers. -/
def PartsR (l : List Iv) (c : ByteArray) (q : Int) (w : World) (e : Ending) (w' : World) : Prop :=
  ∃ v, e = .returned (.tuple #[v, .int .i64 (partsE (itsOf l) c q : Nat)]) ∧ w'.ownsRow w.heap.size 39 2 v (partsL (itsOf l) c q).length ((partsL (itsOf l) c q).flatMap encP) ∧ Below w.heap.size w w'
theorem PartsR.bad {l : List Iv} {c : ByteArray} {q : Int} {w w' : World} {d : Nat} (hd : partsE (itsOf l) c q = d) (h0 : d ≠ 0) (hB : Below w.heap.size w w') : PartsR l c q w (.returned (.tuple #[.slice none 0 0, .int .i64 (d : Nat)])) w' := by
  refine ⟨_, by rw [hd], ?_, hB⟩
  unfold partsL
  rw [hd, if_neg h0]
  exact World.ownsRow_nil _ _ _ _
theorem PartsR.good {l : List Iv} {c : ByteArray} {q : Int} {w w' : World} {b : List Prt} {v : Value} (hd : partsE (itsOf l) c q = 0) (hb : endE (itsOf l) c q = some b) (ho : w'.ownsRow w.heap.size 39 2 v b.length (b.flatMap encP)) (hB : Below w.heap.size w w') : PartsR l c q w (.returned (.tuple #[v, .int .i64 0])) w' := by
  refine ⟨_, by rw [hd]; rfl, ?_, hB⟩
  unfold partsL
  rw [hd, if_pos rfl, hb]
  exact ho
/-- Ahead of the search. -/
abbrev putWorld (w' : World) (ma : Nat) : World :=
  ((w'.alloc (.cells #[.map (some ma)] 54)).alloc (.cells #[.slice none 0 0] 29)).alloc (.cells #[fn3 34 w'.heap.size (w'.heap.size + 1) (w'.heap.size + 1 + 1)] 64)
theorem putWorld_ok {l : List Iv} {w0 w' : World} {na ma : Nat} (hB : Below w0.heap.size w0 w') (hM : MapS w' ma na (bookF l)) :
    PutW l w0 na ma (w'.heap.size + 1) w'.heap.size (w'.heap.size + 1 + 1) [] (putWorld w' ma) ∧ PutP w0 ma (w'.heap.size + 1) w'.heap.size (w'.heap.size + 1 + 1) := by
  have h0 := hB.size
  have h1 := hM.lt
  refine ⟨⟨?_, ?_, ?_, ?_, _, ?_, World.ownsRow_nil _ _ _ _⟩, ⟨by omega, by omega, by omega, by omega⟩⟩
  · exact ((hB.alloc h0 _).alloc (by rw [World.size_alloc]; omega) _).alloc (by rw [World.size_alloc, World.size_alloc]; omega) _
  · rw [World.cell?_alloc_past _ _ _ (by rw [World.size_alloc, World.size_alloc]; omega), World.cell?_alloc_past _ _ _ (by rw [World.size_alloc]; omega), World.cell?_alloc_at _ _ _ _ rfl]; rfl
  · rw [World.cell?_alloc_at _ _ _ _ (by rw [World.size_alloc, World.size_alloc])]; rfl
  · exact ((hM.alloc _).alloc _).alloc _
  · have e1 := Below.heap_alloc ((w'.alloc (.cells #[.map (some ma)] 54)).alloc (.cells #[.slice none 0 0] 29)) (.cells #[fn3 34 w'.heap.size (w'.heap.size + 1) (w'.heap.size + 1 + 1)] 64) (w'.heap.size + 1) (by rw [World.size_alloc, World.size_alloc]; omega)
    have e2 := heap_alloc_new (w'.alloc (.cells #[.map (some ma)] 54)) (.cells #[.slice none 0 0] 29)
    rw [World.size_alloc] at e2
    exact e1.trans e2
section
variable (l : List Iv) (A : Option Addr) (n : Nat) (c : ByteArray) (q : Int) (w : World)
set_option maxHeartbeats 8000000 in
theorem kitParts_bad (hc : l.length ≤ n) (hm : n ≤ maxLen) (hA : ItemsAt w A l) (hS : SizesOk l) (hP : ∀ x ∈ l, x.it.parts.length ≤ 1000000) (h0 : checkE (itsOf l) ≠ 0) :
    Calls Try.prog 13 #[.slice A l.length n, .string c, .int .i64 q] w (PartsR l c q w) := by
  have hck := check_any l A n w hc hm hA hS hP
  have hpe : partsE (itsOf l) c q = checkE (itsOf l) := by unfold partsE; rw [if_pos h0]
  obtain ⟨d, hd⟩ : ∃ d, d = checkE (itsOf l) := ⟨_, rfl⟩
  have hck2 : Calls Try.prog 26 #[.slice A l.length n] w fun e w' => e = .returned (.tuple #[.map none, .map none, .int .i64 (d : Nat)]) ∧ Hid (∀ W, Below w'.heap.size w' W → PartsR l c q w (.returned (.tuple #[.slice none 0 0, .int .i64 (d : Nat)])) W) := by
    refine hck.mono fun e w' ⟨hB, h⟩ => ?_
    rcases h with ⟨h1, _⟩ | ⟨_, rfl⟩
    · exact absurd h1 h0
    · rw [hd]
      exact ⟨rfl, fun W hW => PartsR.bad hpe h0 (hB.trans (hW.mono hB.size))⟩
  have hdz : ((d : Int) != 0) = true := by rw [bne_iff_ne]; omega
  have HCK := Lib.hid hck2
  clear hck hck2 hA hS hP hpe h0 hd
  go_enter Try.func13, Try.ntmps13
  go_wp2_with (go_at_call 26; (with_reducible refine HCK.out.mono ?_); rintro e w' ⟨rfl, HR⟩)
  go_ret2
  exact HR.out _ ((Below.refl _ _).alloc (Nat.le_refl _) _)
/-- What check hands out of sound items. -/
theorem check_good (hc : l.length ≤ n) (hm : n ≤ maxLen) (hA : ItemsAt w A l) (hS : SizesOk l) (hP : ∀ x ∈ l, x.it.parts.length ≤ 1000000) (h0 : checkE (itsOf l) = 0) (R : Nat → World → Prop)
    (h : ∀ (ma na : Nat) (w' : World), w.heap.size ≤ ma → MapS w' ma na (bookF l) → Below w.heap.size w w' → R ma w') :
    Calls Try.prog 26 #[.slice A l.length n] w fun e w' => ∃ ma mo : Nat, e = .returned (.tuple #[.map (some ma), .map (some mo), .int .i64 0]) ∧ R ma w' :=
  (check_any l A n w hc hm hA hS hP).mono fun e w' ⟨hB, hh⟩ => by
    rcases hh with ⟨_, ma, mo, na, m, rfl, h1, h2, h3, h4⟩ | ⟨h1, _⟩
    · exact ⟨ma, mo, rfl, h ma na w' h1 h3 hB⟩
    · exact absurd h0 h1
set_option maxHeartbeats 8000000 in
theorem kitParts_arg (hc : l.length ≤ n) (hm : n ≤ maxLen) (hA : ItemsAt w A l) (hS : SizesOk l) (hP : ∀ x ∈ l, x.it.parts.length ≤ 1000000) (h0 : checkE (itsOf l) = 0) (hq : ¬ (1 ≤ q ∧ q ≤ 1125899906842624)) :
    Calls Try.prog 13 #[.slice A l.length n, .string c, .int .i64 q] w (PartsR l c q w) := by
  have hpe : partsE (itsOf l) c q = 2 := by unfold partsE; rw [if_neg (by rw [h0]; simp), if_pos hq]
  have hck := check_good l A n w hc hm hA hS hP h0 (fun ma w' => Hid (∀ W, Below w'.heap.size w' W → PartsR l c q w (.returned (.tuple #[.slice none 0 0, .int .i64 2])) W))
    (fun ma na w' _ _ hB W hW => PartsR.bad hpe (by decide) (hB.trans (hW.mono hB.size)))
  have HCK := Lib.hid hck
  clear hck hA hS hP hpe h0
  by_cases h1 : q < 1
  · clear hq
    go_enter Try.func13, Try.ntmps13
    go_wp2_with (go_at_call 26; (with_reducible refine HCK.out.mono ?_); rintro e w' ⟨ma, mo, rfl, HR⟩)
    go_ret2
    exact HR.out _ ((Below.refl _ _).alloc (Nat.le_refl _) _)
  · have hr := fun w => right_no q w (fun h => hq ⟨by omega, h.2⟩)
    have HRT := Lib.hid hr
    clear hq hr
    go_enter Try.func13, Try.ntmps13
    go_wp2_with (first | (go_at_call 26; (with_reducible refine HCK.out.mono ?_); rintro e w' ⟨ma, mo, rfl, HR⟩) | (go_at_call 33; (with_reducible refine (HRT.out _).mono ?_); rintro e w' ⟨rfl, rfl⟩))
    go_ret2
    exact HR.out _ ((Below.refl _ _).alloc (Nat.le_refl _) _)
set_option maxHeartbeats 8000000 in
theorem kitParts_item (hc : l.length ≤ n) (hm : n ≤ maxLen) (hA : ItemsAt w A l) (hS : SizesOk l) (hP : ∀ x ∈ l, x.it.parts.length ≤ 1000000) (h0 : checkE (itsOf l) = 0) (hq : 1 ≤ q ∧ q ≤ 1125899906842624) (hx : findI (itsOf l) c = none) (hcs : c.size ≤ 140737488355328) :
    Calls Try.prog 13 #[.slice A l.length n, .string c, .int .i64 q] w (PartsR l c q w) := by
  have hpe : partsE (itsOf l) c q = 150 := by unfold partsE; rw [if_neg (by rw [h0]; simp), if_neg (fun h => h hq), if_pos hx]
  have hck := check_good l A n w hc hm hA hS hP h0 (fun ma w' => Hid (∀ W, Below w'.heap.size w' W → PartsR l c q w (.returned (.tuple #[.slice none 0 0, .int .i64 150])) W) ∧
      (Instr.lookup 54 (.map (some ma)) (.string c) false).run Try.prog (w'.alloc (.cells #[.map (some ma)] 54)) = .ok (.agg #[.string ByteArray.empty, .int .i64 0, .slice none 0 0, .slice none 0 0]) (w'.alloc (.cells #[.map (some ma)] 54)))
    (fun ma na w' _ hM hB => ⟨fun W hW => PartsR.bad hpe (by decide) (hB.trans (hW.mono hB.size)), by
      have h := (hM.alloc (.cells #[.map (some ma)] 54)).look false Try.underlying54 (zeroItem _) (x := c) (by show c.size ≤ maxLen; unfold maxLen; omega)
      have e : bookF l c = none := by unfold bookF; rw [findIv_none hx]; rfl
      rw [e] at h
      exact h⟩)
  have HCK := Lib.hid hck
  have hr := fun w => right_yes q w ⟨by omega, hq.2⟩
  have HRT := Lib.hid hr
  have hf0 := field0
  have hq1 := hq.1
  have hce := toList_empty c
  have hbe : (ByteArray.empty.toList == c.toList) = decide (ByteArray.empty = c) := str_eq_iff _ _
  clear hck hA hS hP hpe h0 hr hq hx
  by_cases h1 : c.size = 0
  · rw [decide_eq_true h1] at hce
    clear hbe h1
    go_enter Try.func13, Try.ntmps13
    go_wp2_with (first | (go_at_call 26; (with_reducible refine HCK.out.mono ?_); rintro e w' ⟨ma, mo, rfl, HR, hl⟩) | (go_at_call 33; (with_reducible refine (HRT.out _).mono ?_); rintro e w' ⟨rfl, rfl⟩))
    go_ret2
    exact HR.out _ ((Below.refl _ _).alloc (Nat.le_refl _) _)
  · rw [decide_eq_false h1] at hce
    rw [decide_eq_false (fun e => h1 (by rw [← e]; rfl))] at hbe
    clear h1
    go_enter Try.func13, Try.ntmps13
    go_wp2_with (first | (go_at_call 26; (with_reducible refine HCK.out.mono ?_); rintro e w' ⟨ma, mo, rfl, HR, hl⟩) | (go_at_call 33; (with_reducible refine (HRT.out _).mono ?_); rintro e w' ⟨rfl, rfl⟩))
    go_ret2
    exact HR.out _ ((Below.refl _ _).alloc (Nat.le_refl _) _)
set_option maxHeartbeats 8000000 in
theorem kitParts_found (hc : l.length ≤ n) (hm : n ≤ maxLen) (hA : ItemsAt w A l) (hS : SizesOk l) (hP : ∀ x ∈ l, x.it.parts.length ≤ 1000000) (h0 : checkE (itsOf l) = 0) (hq : 1 ≤ q ∧ q ≤ 1125899906842624) (x : It) (hx : findI (itsOf l) c = some x) :
    Calls Try.prog 13 #[.slice A l.length n, .string c, .int .i64 q] w (PartsR l c q w) := by
  have hsd := check_sound h0
  obtain ⟨y, hy, _⟩ := findIv_some hx
  have hcs : c.size ≤ 140737488355328 := by
    have h := (hS y (findIv_mem hy)).1
    rw [findIv_code hy] at h
    exact h
  have hcd := findIv_code hy
  have hc1 : 1 ≤ c.size := by
    have := (code_size (hsd.each y.it (List.mem_map.2 ⟨y, findIv_mem hy, rfl⟩)).1).1
    rw [hcd] at this
    exact this
  have hl60 := hsd.len
  rw [itsOf_len] at hl60
  have hK : ∀ x ∈ l, ∀ p ∈ x.it.parts, ∃ y, findIv l p.1 = some y := fun x hx p hp => by
    obtain ⟨y, hy⟩ := hsd.known x.it (List.mem_map.2 ⟨x, hx, rfl⟩) p hp
    obtain ⟨z, hz, _⟩ := findIv_some hy
    exact ⟨z, hz⟩
  have hpe : ∀ b, endE (itsOf l) c q = some b → partsE (itsOf l) c q = 0 := fun b hb => by
    unfold partsE; rw [if_neg (by rw [h0]; simp), if_neg (fun h => h hq), if_neg (by rw [hx]; simp), if_neg (by rw [hb]; simp)]
  have hpn : endE (itsOf l) c q = none → partsE (itsOf l) c q = 3 := fun hb => by
    unfold partsE; rw [if_neg (by rw [h0]; simp), if_neg (fun h => h hq), if_neg (by rw [hx]; simp), if_pos hb]
  obtain ⟨⟨cd, lf, ps, ot⟩, pA, pc, oA, oc⟩ := y
  obtain rfl : cd = c := hcd
  have hck := check_good l A n w hc hm hA hS hP h0 (fun ma w' =>
      (Instr.lookup 54 (.map (some ma)) (.string cd) false).run Try.prog (w'.alloc (.cells #[.map (some ma)] 54)) = .ok (.agg #[.string cd, .int .i64 lf, .slice pA ps.length pc, .slice oA ot.length oc]) (w'.alloc (.cells #[.map (some ma)] 54)) ∧
      Hid (Calls Try.prog 34 #[.string cd, .int .i64 q, .pointer (some ⟨w'.heap.size, 0, none⟩), .pointer (some ⟨w'.heap.size + 1, 0, none⟩), .pointer (some ⟨w'.heap.size + 1 + 1, 0, none⟩)] (putWorld w' ma) (fun e w5 =>
        (e = .returned (.bool true) ∧ ∃ (A2 : Option Addr) (n2 c2 : Nat), w5.cell? ⟨w'.heap.size + 1, 0, none⟩ = some (.slice A2 n2 c2) ∧ Hid (PartsR l cd q w (.returned (.tuple #[.slice A2 n2 c2, .int .i64 0])) w5)) ∨
        (e = .returned (.bool false) ∧ Hid (PartsR l cd q w (.returned (.tuple #[.slice none 0 0, .int .i64 3])) w5)))))
    (fun ma na w' _ hM hB => by
      refine ⟨?_, ?_⟩
      · have h := (hM.alloc (.cells #[.map (some ma)] 54)).look false Try.underlying54 (zeroItem _) (x := cd) (by show cd.size ≤ maxLen; unfold maxLen; omega)
        have e : bookF l cd = some (aggIv ⟨⟨cd, lf, ps, ot⟩, pA, pc, oA, oc⟩) := by unfold bookF; rw [hy]; rfl
        rw [e] at h
        exact h
      · obtain ⟨hW, hp⟩ := putWorld_ok hB hM
        have hd := hsd.dep hx
        have hput := put_any l w na ma _ _ _ hp hA.each hS (by omega) hK (itsOf l).length cd q [] _ ⟨_, hd.1, hd.2⟩ Jd.nil (InC.nil _) hW
        refine hput.mono fun e w5 ⟨hT, h⟩ => ?_
        rcases h with ⟨rfl, b, hb, hW5⟩ | ⟨rfl, hno⟩
        · obtain ⟨v, h1, h2⟩ := hW5.ce
          have hb' : endE (itsOf l) cd q = some b := hb
          obtain ⟨A2, c2, rfl, _⟩ := own_rd h2
          exact .inl ⟨rfl, A2, _, c2, cell_of_one h1, PartsR.good (hpe b hb') hb' h2 hW5.bel⟩
        · exact .inr ⟨rfl, PartsR.bad (hpn hno) (by decide) (hT.below hW.bel hW.bel.size (fun k hk => by rw [hk]; exact hp.h0))⟩)
  have HCK := Lib.hid hck
  have hr := fun w => right_yes q w ⟨by omega, hq.2⟩
  have HRT := Lib.hid hr
  have hf0 := field0
  have hq1 := hq.1
  have hce := toList_empty cd
  rw [decide_eq_false (by omega)] at hce
  have hbe : (cd.toList == cd.toList) = true := by simp
  clear hck hA hS hP hpe hpn h0 hr hq hx hy hK hsd hc1 hl60
  go_enter Try.func13, Try.ntmps13
  go_wp2_with (first | (go_at_call 26; (with_reducible refine HCK.out.mono ?_); rintro e w' ⟨ma, mo, rfl, hl, HP⟩) | (go_at_call 33; (with_reducible refine (HRT.out _).mono ?_); rintro e w' ⟨rfl, rfl⟩) | (go_at_call 34; (with_reducible refine HP.out.mono ?_); rintro e w5 (⟨rfl, A2, n2, c2, hc5, HR⟩ | ⟨rfl, HR⟩)))
  · go_ret2
    exact HR.out
  · go_ret2
    exact HR.out
theorem kitParts_any (hc : l.length ≤ n) (hm : n ≤ maxLen) (hA : ItemsAt w A l) (hS : SizesOk l) (hP : ∀ x ∈ l, x.it.parts.length ≤ 1000000) (hcs : c.size ≤ 140737488355328) :
    Calls Try.prog 13 #[.slice A l.length n, .string c, .int .i64 q] w (PartsR l c q w) := by
  by_cases h0 : checkE (itsOf l) = 0
  · by_cases hq : 1 ≤ q ∧ q ≤ 1125899906842624
    · cases hx : findI (itsOf l) c with
      | none => exact kitParts_item l A n c q w hc hm hA hS hP h0 hq hx hcs
      | some x => exact kitParts_found l A n c q w hc hm hA hS hP h0 hq x hx
    · exact kitParts_arg l A n c q w hc hm hA hS hP h0 hq
  · exact kitParts_bad l A n c q w hc hm hA hS hP h0
end
end Go.Proofs.Ytnboigbknadpdaa
