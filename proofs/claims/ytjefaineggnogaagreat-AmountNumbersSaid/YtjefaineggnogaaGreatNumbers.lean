/- AmountNumbers returns true. -/
import Derived.Test.YtjefaineggnogaaGreatJoins
import Derived.Test.YtjefaineggnogaaGreatWalkTwo
import Derived.Test.YtjefaineggnogaaGreatWalkSums
import Derived.Deep.RegionHeld3
set_option linter.unusedVariables false
set_option linter.unusedSimpArgs false
namespace Go.Proofs.YtjefaineggnogaaGreat
set_option maxRecDepth 100000
open Go.RowKit SM

theorem numTwo (x y : Int) (W : World) : Calls Tryz.prog 14 #[.int .i64 x, .int .i64 y] W fun e w' => e = .returned (.bool true) ∧ Below W.heap.size W w' := two_walk x y W
theorem numSums (x y : Int) (W : World) (N : Nat) (hR : Rd W (some ⟨N, 0, none⟩) [.int .i64 x, .int .i64 y, .int .i64 1]) :
    Calls Tryz.prog 15 #[.slice (some ⟨N, 0, none⟩) 3 3] W fun e w' => e = .returned (.bool true) ∧ Below W.heap.size W w' :=
  sums_any [x, y, 1] (some ⟨N, 0, none⟩) 3 W (by simp) (by decide) hR
theorem numJoins (x y : Int) (W : World) (N M : Nat) (h1 : Rd W (some ⟨N, 0, none⟩) [.string ⟨#[65]⟩, .int .i64 x]) (h2 : Rd W (some ⟨M, 0, none⟩) [.string ⟨#[65]⟩, .int .i64 y, .string ⟨#[]⟩, .int .i64 0]) :
    Calls Tryz.prog 3 #[.slice (some ⟨N, 0, none⟩) 1 1, .slice none 0 0, .slice (some ⟨M, 0, none⟩) 2 2] W fun e w' => e = .returned (.bool true) ∧ Below W.heap.size W w' := by
  refine joins_any [(⟨#[65]⟩, x)] [] [(⟨#[65]⟩, y), (⟨#[]⟩, 0)] (some ⟨N, 0, none⟩) none (some ⟨M, 0, none⟩) 1 0 2 W (by simp) (by decide) h1 (by simp) (by decide) (Rd.nil _ _) (by simp) (by decide) h2 (by simp) ?_
  intro p hp
  simp only [List.nil_append, List.cons_append, List.mem_cons, List.not_mem_nil, or_false] at hp
  have e1 : (⟨#[65]⟩ : ByteArray).size ≤ 140737488351232 := by decide
  have e2 : (⟨#[]⟩ : ByteArray).size ≤ 140737488351232 := by decide
  rcases hp with rfl | rfl | rfl
  · exact e1
  · exact e1
  · exact e2

theorem cell_bel {W w' : World} {a : Addr} {u : Value} (hb : Below W.heap.size W w') (h : W.cell? a = some u) : w'.cell? a = some u := (hb.cell (p := a) (World.block_lt_of_cell? _ _ h)).trans h
theorem cell_all {W : World} {a : Addr} {u : Value} {o : Obj} (h : W.cell? a = some u) : (W.alloc o).cell? a = some u := cell_bel ((Below.refl _ W).alloc (Nat.le_refl _) o) h
theorem rdS (W : World) (x y z : Value) (t : TypeId) : Rd (W.alloc (.cells #[x, y, z] t)) (some ⟨W.heap.size, 0, none⟩) [x, y, z] := cells_rd W #[x, y, z] t
theorem bel_tr {W0 a b : World} (h : Below W0.heap.size W0 a) (h2 : Below a.heap.size a b) : Below W0.heap.size W0 b := h.trans (h2.mono h.size)
theorem bel_al {W0 a : World} (h : Below W0.heap.size W0 a) (o : Obj) : Below W0.heap.size W0 (a.alloc o) := h.alloc h.size o
theorem rdF (W : World) (x y : Value) (t : TypeId) (o : Obj) : Rd ((W.alloc (.cells #[x, y] t)).alloc o) (some ⟨W.heap.size, 0, none⟩) [x, y] := (cells_rd W #[x, y] t).alloc o
theorem rdF4 (W : World) (x y z u : Value) (t : TypeId) (o : Obj) : Rd ((W.alloc (.cells #[x, y, z, u] t)).alloc o) (some ⟨W.heap.size, 0, none⟩) [x, y, z, u] := (cells_rd W #[x, y, z, u] t).alloc o
theorem rdL {cs : List Value} (W : World) (t : TypeId) (o : Obj) : Rd ((W.alloc o).alloc (.cells cs.toArray t)) (some ⟨W.heap.size + 1, 0, none⟩) cs := by
  have := cells_rd (W.alloc o) cs.toArray t
  simpa using this
set_option maxHeartbeats 16000000 in
theorem numbers_any (w : World) : Calls Tryz.prog 4 #[] w fun e w' => e = .returned (.bool true) ∧ Below w.heap.size w w' := by
  have hAw : ∀ W, Below w.heap.size w W → Calls Tryz.prog 6 #[] W fun e w' => e = .returned (.bool true) ∧ Below w.heap.size w w' := fun W hW => (awake_any W).mono (by
    rintro e w' ⟨rfl, h⟩
    exact ⟨rfl, hW.trans (h.mono hW.size)⟩)
  have HAW := Lib.hid hAw
  clear hAw
  go_enter Tryz.func4, Tryz.ntmps4
  go_wp2
  have hR0 : Rd (w.alloc (.cells #[.int .i64 (-9223372036854775808), .int .i64 (-1125899906842624), .int .i64 (-1), .int .i64 0, .int .i64 1, .int .i64 2, .int .i64 3, .int .i64 33554432, .int .i64 33554433, .int .i64 375299968947541, .int .i64 375299968947542, .int .i64 1125899906842623, .int .i64 1125899906842624, .int .i64 1125899906842625, .int .i64 4611686018427387904, .int .i64 9223372036854775807] 2)) (some ⟨w.heap.size, 0, none⟩)
      (([-9223372036854775808, -1125899906842624, -1, 0, 1, 2, 3, 33554432, 33554433, 375299968947541, 375299968947542, 1125899906842623, 1125899906842624, 1125899906842625, 4611686018427387904, 9223372036854775807] : List Int).flatMap encI) := cells_rd w _ _
  obtain ⟨W1, hW1⟩ : ∃ W1, W1 = w.alloc (.cells #[.int .i64 (-9223372036854775808), .int .i64 (-1125899906842624), .int .i64 (-1), .int .i64 0, .int .i64 1, .int .i64 2, .int .i64 3, .int .i64 33554432, .int .i64 33554433, .int .i64 375299968947541, .int .i64 375299968947542, .int .i64 1125899906842623, .int .i64 1125899906842624, .int .i64 1125899906842625, .int .i64 4611686018427387904, .int .i64 9223372036854775807] 2) := ⟨_, rfl⟩
  have hB1 : Below w.heap.size w W1 := hW1 ▸ (Below.refl _ w).alloc (Nat.le_refl _) _
  obtain ⟨vals, hv⟩ : ∃ vals : List Int, vals = [-9223372036854775808, -1125899906842624, -1, 0, 1, 2, 3, 33554432, 33554433, 375299968947541, 375299968947542, 1125899906842623, 1125899906842624, 1125899906842625, 4611686018427387904, 9223372036854775807] := ⟨_, rfl⟩
  have hvl : vals.length = 16 := by rw [hv]; rfl
  rw [← hW1, ← hv] at hR0
  rw [← hW1]
  obtain ⟨G, hG⟩ : ∃ G, G = w.heap.size := ⟨_, rfl⟩
  rw [← hG] at hR0 ⊢
  have HVL := Lib.hid hvl
  have HB1 := Lib.hid hB1
  clear hW1 hv hvl hG hB1
  go_loopw [3] (fun iv wr => ∃ i : Nat, i ≤ 16 ∧ iv = .int .i64 i ∧ Below W1.heap.size W1 wr) (fun iv _ => 16 - (intOf iv).toNat)
  case atStart => exact ⟨0, Nat.zero_le _, rfl, Below.refl _ _⟩
  case round => as_aux_lemma =>
    obtain ⟨i, hi, rfl, hnx⟩ := hrel
    by_cases hlt : i < 16
    · have hii : (i : Int) < 16 := by omega
      have hi0 : (0 : Int) ≤ (i : Int) := by omega
      have HNX := Lib.hid hnx
      clear hnx
      go_wp2
      go_loopw [4] (fun kv wr => ∃ k : Nat, k ≤ 16 ∧ kv = .int .i64 k ∧ Below W1.heap.size W1 wr) (fun kv _ => 16 - (intOf kv).toNat)
      case atStart => exact ⟨0, Nat.zero_le _, rfl, HNX.out⟩
      case round => as_aux_lemma =>
        clear HNX
        obtain ⟨k, hk, rfl, hnx⟩ := hrel
        by_cases hlk : k < 16
        · have hki : (k : Int) < 16 := by omega
          have hk0 : (0 : Int) ≤ (k : Int) := by omega
          obtain ⟨_, _, he, hcell⟩ := Rd.elem (enc := encI) (k := 1) (j := i) encI_len (by omega) (hR0.below hnx) (List.getElem?_eq_getElem (by rw [HVL.out]; exact hlt))
          cases he
          obtain ⟨_, _, he, hcell'⟩ := Rd.elem (enc := encI) (k := 1) (j := k) encI_len (by omega) (hR0.below hnx) (List.getElem?_eq_getElem (by rw [HVL.out]; exact hlk))
          cases he
          obtain ⟨x, hx⟩ : ∃ x, x = vals[i]'(by rw [HVL.out]; exact hlt) := ⟨_, rfl⟩
          obtain ⟨y, hy⟩ : ∃ y, y = vals[k]'(by rw [HVL.out]; exact hlk) := ⟨_, rfl⟩
          have h0 := hcell 0 (.int .i64 x) (by rw [hx]; rfl)
          have h1 := hcell' 0 (.int .i64 y) (by rw [hy]; rfl)
          simp only [Nat.add_zero, Nat.mul_one, Nat.zero_add] at h0 h1
          have HNX := Lib.hid hnx
          have hT := fun W => numTwo x y W
          have hS := fun W N hR => numSums x y W N hR
          have hJ := fun W N M h1 h2 => numJoins x y W N M h1 h2
          have HT := Lib.hid hT
          have HS := Lib.hid hS
          have HJ := Lib.hid hJ
          clear hx hy hcell hcell' hnx hT hS hJ
          obtain ⟨wo, rfl⟩ : ∃ wo : World, wo = wr := ⟨_, rfl⟩
          go_wp2
          go_region_held3 (fun W => W.cell? ⟨G, i, none⟩ = some (.int .i64 x) ∧ W.cell? ⟨G, k, none⟩ = some (.int .i64 y)) (go_keep)
            (first | (go_at_call 14; (with_reducible refine (HT.out _).mono ?_); rintro e w5 ⟨rfl, hb⟩; have d0 := cell_bel hb h0; have d1 := cell_bel hb h1; have HB5 := Lib.hid hb; clear hb) | (go_at_call 15; (with_reducible refine (HS.out _ _ (rdS _ _ _ _ _)).mono ?_); rintro e w6 ⟨rfl, hb⟩; have e0 := cell_bel hb (cell_all d0); have e1 := cell_bel hb (cell_all d1); have HB6 := Lib.hid hb; clear hb) | (go_at_call 3; first | ((with_reducible refine (HJ.out _ _ _ (rdF _ _ _ _ _) (rdL _ _ _)).mono ?_); rintro e w7 ⟨rfl, hb⟩; have f0 := cell_bel hb (cell_all (cell_all e0)); have f1 := cell_bel hb (cell_all (cell_all e1)); have HB7 := Lib.hid hb; clear hb) | ((with_reducible refine (HJ.out _ _ _ (rdL _ _ _) (rdF4 _ _ _ _ _ _ _)).mono ?_); rintro e w7 ⟨rfl, hb⟩; have f0 := cell_bel hb (cell_all (cell_all e0)); have f1 := cell_bel hb (cell_all (cell_all e1)); have HB7 := Lib.hid hb; clear hb)))
          all_goals
            have HQ : Hid (Below W1.heap.size W1 w7) := (by first | exact bel_tr (bel_al (bel_al (bel_tr (bel_al (bel_tr HNX.out HB5.out) _) HB6.out) _) _) HB7.out | exact bel_tr (bel_al (bel_al (bel_tr (bel_al (bel_tr HNX.out.drew HB5.out) _) HB6.out) _) _) HB7.out)
            clear HB5 HB6 HB7 HNX d0 d1 e0 e1 f0 f1 h0 h1 HT HS HJ
            as_aux_lemma =>
              go_wp2
              go_roundw
              case rel => exact ⟨k + 1, by omega, by go_num, HQ.out⟩
              case measure => simp [intOf]; omega
        · obtain rfl : k = 16 := by omega
          go_wp2
          go_roundw
          case rel => exact ⟨i + 1, by omega, by go_num, hnx⟩
          case measure => simp [intOf]; omega
    · obtain rfl : i = 16 := by omega
      have ht1 := fun W => times_any 375299968947541 3 W
      have ht2 := fun W => times_any 375299968947542 3 W
      rw [show mulI 375299968947541 3 = (1125899906842623, true) from by decide] at ht1
      rw [show mulI 375299968947542 3 = (0, false) from by decide] at ht2
      have hs : ∀ W, Calls Tryz.prog 17 #[.slice none 0 0] W fun e w' => e = .returned (.tuple #[.int .i64 0, .bool true]) ∧ W = w' := fun W => sum_any [] none 0 W (Nat.le_refl _) (by decide) (Rd.nil _ _)
      have hj : ∀ W, Calls Tryz.prog 8 #[.slice none 0 0] W fun e w' => ∃ A c, e = .returned (.tuple #[.slice A 0 c, .bool true]) ∧ Below W.heap.size W w' := fun W => by
        have h := join_any [] [] rfl none 0 W (Nat.le_refl _) (by decide) ⟨Rd.nil _ _, fun x hx => by cases hx⟩ (by decide) (fun p hp => by cases hp)
        refine Calls.mono (R := _) h ?_
        rintro e w' ⟨v, rfl, hown, hb⟩
        obtain ⟨A, c, rfl, _⟩ := own_rd hown
        exact ⟨A, c, rfl, hb⟩
      have HT1 := Lib.hid ht1
      have HT2 := Lib.hid ht2
      have HSM := Lib.hid hs
      have HJN := Lib.hid hj
      have HNX := Lib.hid hnx
      clear ht1 ht2 hs hj hnx
      go_wp2_with fail
      (with_reducible refine (HT1.out _).mono ?_)
      rintro e w' ⟨rfl, rfl⟩
      go_wp2_with fail
      (with_reducible refine (HT2.out _).mono ?_)
      rintro e w' ⟨rfl, rfl⟩
      go_wp2_with fail
      (with_reducible refine (HSM.out _).mono ?_)
      rintro e w' ⟨rfl, rfl⟩
      go_wp2_with fail
      (with_reducible refine (HJN.out _).mono ?_)
      rintro e w9 ⟨A9, c9, rfl, hb9⟩
      have HB9 := Lib.hid (HB1.out.trans ((bel_tr HNX.out hb9).mono HB1.out.size))
      clear hb9 HNX
      go_wp2_with fail
      (with_reducible refine (HAW.out _ HB9.out).mono ?_)
      rintro e w10 ⟨rfl, hb10⟩
      have HB10 := Lib.hid hb10
      clear hb10
      go_wp2_with fail
      go_ret
      exact ⟨rfl, HB10.out⟩
theorem numbers_walk (W : World) : Calls Tryz.prog 4 #[] W fun e w' => e = .returned (.bool true) ∧ Below W.heap.size W w' := numbers_any W
end Go.Proofs.YtjefaineggnogaaGreat
