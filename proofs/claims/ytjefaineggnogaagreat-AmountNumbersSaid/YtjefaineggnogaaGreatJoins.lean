/- AmountJoins returns true. -/
import Derived.Test.YtjefaineggnogaaGreatRefJoin
import Derived.Test.YtjefaineggnogaaGreatApartParts
import Derived.Test.YtjefaineggnogaaGreatGreat
import Derived.Test.YtjefaineggnogaaGreatAwakeB
import Derived.Test.YtjefaineggnogaaGreatOpenParts
set_option linter.unusedVariables false
set_option linter.unusedSimpArgs false
namespace Go.Proofs.YtjefaineggnogaaGreat
set_option maxRecDepth 100000
open Go.RowKit SM

abbrev slA (A : Option Addr) (n c : Nat) : Value := .slice A n c
abbrev slG (g n c : Nat) : Value := .slice (some ⟨g, 0, none⟩) n c

/-- What is lent, with its block. -/
def LentR (W0 W : World) (xs : List Prt) (e : Ending) (w' : World) : Prop := ∃ g cap, e = .returned (slG g xs.length cap) ∧ LentP w' W0.heap.size (slG g xs.length cap) xs ∧ W.heap.size ≤ g ∧ g < w'.heap.size ∧ Below W0.heap.size W0 w' ∧ Below W.heap.size W w'
theorem lent_bel (W0 W : World) (xs : List Prt) (A : Option Addr) (c : Nat) (hW : Below W0.heap.size W0 W) (hc : xs.length ≤ c) (hm : c ≤ maxLen) (hA : Rd W0 A (xs.flatMap encP)) (hlen : xs.length ≤ 1000000) :
    Calls Tryz.prog 7 #[.slice A xs.length c] W (LentR W0 W xs) := (lentParts_any xs A c W hc hm (hA.below hW) hlen).mono (by
  rintro e w' ⟨v, rfl, ⟨g, cap, rfl, h⟩, hb⟩
  have h2 := h.lt g rfl
  exact ⟨g, cap, rfl, ⟨g, cap, rfl, own_lower h hW.size⟩, h2.1, h2.2, hW.trans (hb.mono hW.size), hb⟩)
/-- What is joined, with its row. -/
def JoinedR (W : World) (D : List Prt) (okb : Bool) (e : Ending) (w' : World) : Prop := ∃ A c, e = .returned (.tuple #[slA A D.length c, .bool okb]) ∧ Ow encP 38 2 W.heap.size w' (slA A D.length c) D ∧ D.length ≤ c ∧ c ≤ maxLen ∧ Below W.heap.size W w'
theorem joined_bel (W : World) (xss : List PL) (ps D : List Prt) (okb : Bool) (hD : joinD ps = D) (hok : (joinL ps).isSome = okb) (n : Nat) (hn : xss.length = n) (hps : allP xss = ps) (N : Nat) (hN : N = W.heap.size) (vs : List Value) (hvs : xss.map (·.1) = vs) (h : ∀ x ∈ xss, Sl W 2 x.1 x.2.length (x.2.flatMap encP)) (hm : n ≤ 300) (hlen : ps.length ≤ 1000) (hsz : ∀ p ∈ ps, p.1.size ≤ 1000000) :
    Calls Tryz.prog 8 #[.slice (some ⟨N, 0, none⟩) n n] (W.alloc (.cells vs.toArray 22)) (JoinedR W D okb) := by
  subst hn hvs hN hD hok
  refine (join_any xss ps hps (some ⟨W.heap.size, 0, none⟩) xss.length (W.alloc (.cells (xss.map (·.1)).toArray 22)) (Nat.le_refl _) (by unfold maxLen; omega) ⟨?_, fun x hx => (h x hx).below ((Below.refl _ W).alloc (Nat.le_refl _) _)⟩ (by omega) (fun p hp => by have := hsz p hp; unfold maxLen; omega)).mono ?_
  · have := cells_rd W (xss.map (·.1)).toArray 22
    simpa using this
  · rintro e w' ⟨v, rfl, hown, hb⟩
    obtain ⟨A, c, rfl, h1, h2, _⟩ := own_rd hown
    exact ⟨A, c, rfl, own_lower hown (by simp), h1, h2, ((Below.refl _ W).alloc (Nat.le_refl _) _).trans (hb.mono (by simp))⟩
theorem refJoined_bel (W : World) (xss : List PL) (ps D : List Prt) (okb : Bool) (hD : joinD ps = D) (hok : (joinL ps).isSome = okb) (n : Nat) (hn : xss.length = n) (hps : allP xss = ps) (N : Nat) (hN : N = W.heap.size) (vs : List Value) (hvs : xss.map (·.1) = vs) (h : ∀ x ∈ xss, Sl W 2 x.1 x.2.length (x.2.flatMap encP)) (hm : n ≤ 300) (hlen : ps.length ≤ 1000) :
    Calls Tryz.prog 11 #[.slice (some ⟨N, 0, none⟩) n n] (W.alloc (.cells vs.toArray 22)) (JoinedR W D okb) := by
  subst hn hvs hN hD hok
  refine (refJoin_any xss ps hps (some ⟨W.heap.size, 0, none⟩) xss.length (W.alloc (.cells (xss.map (·.1)).toArray 22)) (Nat.le_refl _) (by unfold maxLen; omega) ⟨?_, fun x hx => (h x hx).below ((Below.refl _ W).alloc (Nat.le_refl _) _)⟩ (by omega)).mono ?_
  · have := cells_rd W (xss.map (·.1)).toArray 22
    simpa using this
  · rintro e w' ⟨v, rfl, hown, hb⟩
    obtain ⟨A, c, rfl, h1, h2, _⟩ := own_rd hown
    exact ⟨A, c, rfl, own_lower hown (by simp), h1, h2, ((Below.refl _ W).alloc (Nat.le_refl _) _).trans (hb.mono (by simp))⟩
theorem ow_sl {B : Nat} {W : World} {v : Value} {ys : List Prt} (h : Ow encP 38 2 B W v ys) : Sl W 2 v ys.length (ys.flatMap encP) := own_sl h
/-- Two lists that were handed out lie apart. -/
theorem apart_two (W : World) (A1 A2 : Option Addr) (n c1 c2 B1 B2 : Nat) (ys : List Prt) (hn : ys.length = n) (h1 : Ow encP 38 2 B1 W (slA A1 n c1) ys) (h2 : Ow encP 38 2 B2 W (slA A2 n c2) ys) (hne : ∀ b, (slA A1 n c1).ownBlock = some b → b < B2) (hB : B1 ≤ B2) (hB2 : B2 ≤ W.heap.size) (hl : n ≤ 1000000) (N : Nat) (hN : N = W.heap.size) :
    Calls Tryz.prog 13 #[.slice (some ⟨N, 0, none⟩) 2 2] (W.alloc (.cells #[slA A1 n c1, slA A2 n c2] 22)) fun e w' => e = .returned (.bool true) ∧ Tch (fun b => B1 ≤ b) W w' := by
  subst hN
  have ha : Below W.heap.size W (W.alloc (.cells #[slA A1 n c1, slA A2 n c2] 22)) := (Below.refl _ W).alloc (Nat.le_refl _) _
  have hlt : ∀ b, SLs [(slA A1 n c1, n), (slA A2 n c2, n)] b → B1 ≤ b ∧ b < W.heap.size := fun b hb => by
    obtain ⟨x, hx, hxb⟩ := hb
    simp only [List.mem_cons, List.not_mem_nil, or_false] at hx
    rcases hx with rfl | rfl
    · exact h1.lt hxb
    · exact ⟨Nat.le_trans hB (h2.lt hxb).1, (h2.lt hxb).2⟩
  refine (apartParts_any [(slA A1 n c1, n), (slA A2 n c2, n)] (some ⟨W.heap.size, 0, none⟩) 2 B1 (W.alloc (.cells #[slA A1 n c1, slA A2 n c2] 22)) (Nat.le_refl _) (by decide) ?_ ?_ ?_ ?_ ?_ (by simp) ?_).mono ?_
  · exact cells_rd W #[slA A1 n c1, slA A2 n c2] 22
  · intro a he hs
    cases he
    have := (hlt _ hs).2
    simp at this
  · refine ⟨?_, fun b hb => Nat.lt_of_lt_of_le (hlt b hb).2 (by simp)⟩
    intro i j x y b hx hy hxb hyb
    match i, j, hx, hy with
    | 0, 0, _, _ => rfl
    | 1, 1, _, _ => rfl
    | 0, 1, hx, hy =>
      simp at hx hy; subst hx hy
      have := hne b hxb; have := (h2.lt hyb).1; omega
    | 1, 0, hx, hy =>
      simp at hx hy; subst hx hy
      have := hne b hyb; have := (h2.lt hxb).1; omega
    | i + 2, _, hx, _ => simp at hx
    | 0, j + 2, _, hy => simp at hy
    | 1, j + 2, _, hy => simp at hy
  · intro j x hx
    match j, hx with
    | 0, hx =>
      simp at hx; subst hx
      exact ⟨ys, hn, h1.below ha, fun h => by omega, fun _ => by simp [marksOf]⟩
    | 1, hx =>
      simp at hx; subst hx
      refine ⟨ys, hn, (own_lower (h2.below ha) hB : _), fun h => by omega, fun h => by omega⟩
    | j + 2, hx => simp at hx
  · simp; omega
  · intro x hx
    simp only [List.mem_cons, List.not_mem_nil, or_false] at hx
    rcases hx with rfl | rfl <;> exact hl
  · rintro e w' ⟨rfl, ht⟩
    exact ⟨rfl, ((Tch.of_below ha (fun b => B1 ≤ b)).trans ht (fun b hb => .inl (hlt b hb).1))⟩

theorem kept_bel (w0 W : World) (xs : List Prt) (A : Option Addr) (c g cap : Nat) (hc : xs.length ≤ c) (hm : c ≤ maxLen) (hA : Rd w0 A (xs.flatMap encP)) (hlen : xs.length ≤ 1000000) (hW : Below w0.heap.size w0 W) (hL : LentP W w0.heap.size (slG g xs.length cap) xs) :
    Calls Tryz.prog 9 #[slG g xs.length cap, .slice A xs.length c] W fun e w' => e = .returned (.bool true) ∧ Below W.heap.size W w' :=
  keptParts_any xs A c _ _ W hc hm (hA.below hW) hlen hL
theorem over_bel (B : Nat) (W : World) (xs : List Prt) (g cap : Nat) (hlen : xs.length ≤ 1000000) (hL : LentP W B (slG g xs.length cap) xs) :
    Calls Tryz.prog 10 #[slG g xs.length cap] W fun e w' => e = .returned (.tuple #[]) ∧ Tch (fun k => k = g) W w' := (overParts_any xs B _ W hlen hL).mono (by
  rintro e w' ⟨rfl, h⟩
  exact ⟨rfl, h.mono fun k hk => by simpa [Value.ownBlock, eq_comm] using hk⟩)
theorem LentP.tch {B g cap b : Nat} {W W' : World} {xs : List Prt} (h : LentP W B (slG g xs.length cap) xs) (ht : Tch (fun k => k = b) W W') (hne : g ≠ b) : LentP W' B (slG g xs.length cap) xs := by
  obtain ⟨g', cap', he, h⟩ := h
  cases he
  exact ⟨g, cap, rfl, ht.own h fun k hk e => hne (by
    have : g = k := by simpa [Value.ownBlock] using hk
    omega)⟩

set_option maxHeartbeats 16000000 in
theorem joins_any (la lb lc : List Prt) (Aa Ab Ac : Option Addr) (ca cb cc : Nat) (w : World) (ha1 : la.length ≤ ca) (ha2 : ca ≤ maxLen) (ha3 : Rd w Aa (la.flatMap encP)) (hb1 : lb.length ≤ cb) (hb2 : cb ≤ maxLen) (hb3 : Rd w Ab (lb.flatMap encP))
    (hc1 : lc.length ≤ cc) (hc2 : cc ≤ maxLen) (hc3 : Rd w Ac (lc.flatMap encP)) (hlen : la.length * 24 ≤ 140737488351232 ∧ lb.length * 24 ≤ 140737488351232 ∧ lc.length * 24 ≤ 140737488351232) (hsz : ∀ p ∈ la ++ (lb ++ lc), p.1.size ≤ 140737488351232) :
    Calls Tryz.prog 3 #[.slice Aa la.length ca, .slice Ab lb.length cb, .slice Ac lc.length cc] w fun e w' => e = .returned (.bool true) ∧ Below w.heap.size w w' := by
  have hall : allP [((.slice Aa la.length ca : Value), la), (.slice Ab lb.length cb, lb), (.slice Ac lc.length cc, lc)] = la ++ (lb ++ lc) := by simp [allP]
  have hsl : ∀ W, Below w.heap.size w W → ∀ y ∈ [((.slice Aa la.length ca : Value), la), (.slice Ab lb.length cb, lb), (.slice Ac lc.length cc, lc)], Sl W 2 y.1 y.2.length (y.2.flatMap encP) := fun W hW y hy => by
    simp only [List.mem_cons, List.not_mem_nil, or_false] at hy
    rcases hy with rfl | rfl | rfl
    · exact ⟨flat_length encP_len _, _, _, rfl, ha1, ha2, ha3.below hW⟩
    · exact ⟨flat_length encP_len _, _, _, rfl, hb1, hb2, hb3.below hW⟩
    · exact ⟨flat_length encP_len _, _, _, rfl, hc1, hc2, hc3.below hW⟩
  have hbl : ∀ (o : Obj), Below w.heap.size w (w.alloc o) := fun o => (Below.refl _ w).alloc (Nat.le_refl _) o
  have hG : Calls Tryz.prog 5 #[.slice (some ⟨w.heap.size, 0, none⟩) 3 3] (w.alloc (.cells #[.slice Aa la.length ca, .slice Ab lb.length cb, .slice Ac lc.length cc] 22)) (GreatR [((.slice Aa la.length ca : Value), la), (.slice Ab lb.length cb, lb), (.slice Ac lc.length cc, lc)] (w.alloc (.cells #[.slice Aa la.length ca, .slice Ab lb.length cb, .slice Ac lc.length cc] 22))) := by
    refine great_any [((.slice Aa la.length ca : Value), la), (.slice Ab lb.length cb, lb), (.slice Ac lc.length cc, lc)] (some ⟨w.heap.size, 0, none⟩) 3 _ (Nat.le_refl _) (by decide) ⟨?_, fun y hy => hsl _ (hbl _) y hy⟩ ?_ ?_
    · exact cells_rd w #[.slice Aa la.length ca, .slice Ab lb.length cb, .slice Ac lc.length cc] 22
    · intro y hy
      simp only [List.mem_cons, List.not_mem_nil, or_false] at hy
      rcases hy with rfl | rfl | rfl <;> simp only <;> omega
    · rw [hall]; intro p hp; have := hsz p hp; omega
  have hAw : ∀ W, Below w.heap.size w W → Calls Tryz.prog 6 #[] W fun e w' => e = .returned (.bool true) ∧ Below w.heap.size w w' := fun W hW => (awake_any W).mono (by
    rintro e w' ⟨rfl, h⟩
    exact ⟨rfl, hW.trans (h.mono hW.size)⟩)
  have HG := Lib.hid hG
  have HAW := Lib.hid hAw
  have HSL := Lib.hid hsl
  have HALL := Lib.hid hall
  have HB0 := Lib.hid (hbl (.cells #[.slice Aa la.length ca, .slice Ab lb.length cb, .slice Ac lc.length cc] 22))
  clear hG hAw hsl hall hsz hbl
  obtain ⟨okb, hokb⟩ : ∃ b, b = (joinL (la ++ (lb ++ lc))).isSome := ⟨_, rfl⟩
  by_cases hsmall : (allP [((.slice Aa la.length ca : Value), la), (.slice Ab lb.length cb, lb), (.slice Ac lc.length cc, lc)]).length ≤ 300 ∧ ∀ p ∈ allP [((.slice Aa la.length ca : Value), la), (.slice Ab lb.length cb, lb), (.slice Ac lc.length cc, lc)], p.1.size ≤ 6100
  · rw [HALL.out] at hsmall
    obtain ⟨hs1, hs2⟩ := hsmall
    simp only [List.length_append] at hs1
    have hs3 : (la ++ (lb ++ lc)).length ≤ 1000 := by simp only [List.length_append]; omega
    have HS2 := Lib.hid (fun p hp => Nat.le_trans (hs2 p hp) (by decide) : ∀ p ∈ la ++ (lb ++ lc), p.1.size ≤ 1000000)
    have HS3 := Lib.hid hs3
    have HRA := Lib.hid ha3
    have HRB := Lib.hid hb3
    have HRC := Lib.hid hc3
    have HHA2 := Lib.hid ha2
    have HHB2 := Lib.hid hb2
    have HHC2 := Lib.hid hc2
    have HOKB := Lib.hid hokb
    unfold maxLen at ha2 hb2 hc2
    clear hs2 hs3 ha3 hb3 hc3 hlen hokb
    go_enter Tryz.func3, Tryz.ntmps3
    go_wp2_with (go_at_call 5; (with_reducible refine HG.out.mono ?_); rintro e w1 ⟨b, m, rfl, rfl, _⟩; have HB1 := Lib.hid (below_drewN HB0.out m))
    · go_wp2_with (go_at_call 6; (with_reducible refine (HAW.out _ HB1.out).mono ?_); rintro e w2 ⟨rfl, hb⟩; have HB2 := Lib.hid hb; clear hb)
      go_ret
      exact ⟨rfl, HB2.out⟩
    · (with_reducible refine (lent_bel w _ la Aa ca HB1.out ha1 HHA2.out HRA.out (by omega)).mono ?_)
      rintro e w2 ⟨g1, k1, rfl, hL1, hg1, hg1', hB2, -⟩
      have HL1 := Lib.hid hL1
      have HB2 := Lib.hid hB2
      clear hL1 hB2
      go_wp2_with fail
      (with_reducible refine (lent_bel w _ lb Ab cb HB2.out hb1 HHB2.out HRB.out (by omega)).mono ?_)
      rintro e w3 ⟨g2, k2, rfl, hL2, hg2, hg2', hB3, hB3'⟩
      have HL2 := Lib.hid hL2
      have HL1b := Lib.hid (HL1.out.below hB3')
      have HB3 := Lib.hid hB3
      clear hL2 hB3 hB3' HL1
      go_wp2_with fail
      (with_reducible refine (lent_bel w _ lc Ac cc HB3.out hc1 HHC2.out HRC.out (by omega)).mono ?_)
      rintro e w4 ⟨g3, k3, rfl, hL3, hg3, hg3', hB4, hB4'⟩
      have HL3 := Lib.hid hL3
      have HL1 := Lib.hid (HL1b.out.below hB4')
      have HL2b := Lib.hid (HL2.out.below hB4')
      have HB4 := Lib.hid hB4
      clear hL3 hB4 hB4' HL1b HL2
      have hsl4 : ∀ W, Below w4.heap.size w4 W → ∀ y ∈ [(slG g1 la.length k1, la), (slG g2 lb.length k2, lb), (slG g3 lc.length k3, lc)], Sl W 2 y.1 y.2.length (y.2.flatMap encP) := fun W hW y hy => by
        simp only [List.mem_cons, List.not_mem_nil, or_false] at hy
        rcases hy with rfl | rfl | rfl
        · exact (HL1.out.below hW).sl
        · exact (HL2b.out.below hW).sl
        · exact (HL3.out.below hW).sl
      obtain ⟨D, hD⟩ : ∃ D, joinD (la ++ (lb ++ lc)) = D := ⟨_, rfl⟩
      have hj1 := joined_bel w4 [(slG g1 la.length k1, la), (slG g2 lb.length k2, lb), (slG g3 lc.length k3, lc)] _ D okb hD HOKB.out.symm 3 rfl (by simp [allP]) _ rfl [slG g1 la.length k1, slG g2 lb.length k2, slG g3 lc.length k3] rfl (hsl4 w4 (Below.refl _ _)) (by omega) HS3.out HS2.out
      have HJ1 := Lib.hid hj1
      have HSL4 := Lib.hid hsl4
      have HD := Lib.hid hD
      clear hj1 hsl4 hD
      go_wp2_with fail
      (with_reducible refine (HJ1.out).mono ?_)
      rintro e w5 ⟨A5, c5, rfl, hO5, hc51, hc52, hB5⟩
      have hj2 := joined_bel w5 [(slG g1 la.length k1, la), (slG g2 lb.length k2, lb), (slG g3 lc.length k3, lc)] _ D okb HD.out HOKB.out.symm 3 rfl (by simp [allP]) _ rfl [slG g1 la.length k1, slG g2 lb.length k2, slG g3 lc.length k3] rfl (HSL4.out w5 hB5) (by omega) HS3.out HS2.out
      have HJ2 := Lib.hid hj2
      have HO5 := Lib.hid hO5
      have HB5 := Lib.hid hB5
      have HC52 := Lib.hid hc52
      have hb5s := hB5.size
      clear hj2 HJ1 hO5 hB5 hc52
      go_wp2_with fail
      (with_reducible refine (HJ2.out).mono ?_)
      rintro e w6 ⟨A6, c6, rfl, hO6, hc61, hc62, hB6⟩
      have hB46 := HB5.out.trans (hB6.mono HB5.out.size)
      have HO5b := Lib.hid (HO5.out.below hB6)
      have hs56 := hB6.size
      have HO6 := Lib.hid hO6
      have HB46 := Lib.hid hB46
      have HC62 := Lib.hid hc62
      have HBL5 : Hid (∀ b, (slA A5 D.length c5).ownBlock = some b → w4.heap.size ≤ b ∧ b < w5.heap.size) := fun b hb => HO5.out.lt hb
      have hK1 := kept_bel w w6 la Aa ca g1 k1 ha1 HHA2.out HRA.out (by omega) (HB4.out.trans (hB46.mono HB4.out.size)) (HL1.out.below hB46)
      have HK1 := Lib.hid hK1
      clear hK1 hO6 hB6 hB46 hc62 HJ2 HO5
      go_wp2_with fail
      (with_reducible refine (HK1.out).mono ?_)
      rintro e w7 ⟨rfl, hB7⟩
      have hB47 := HB46.out.trans (hB7.mono HB46.out.size)
      have hK2 := kept_bel w w7 lb Ab cb g2 k2 hb1 HHB2.out HRB.out (by omega) (HB4.out.trans (hB47.mono HB4.out.size)) (HL2b.out.below hB47)
      have HK2 := Lib.hid hK2
      have HB47 := Lib.hid hB47
      have HB67 := Lib.hid hB7
      clear hK2 hB7 hB47 HK1
      go_wp2_with fail
      (with_reducible refine (HK2.out).mono ?_)
      rintro e w8 ⟨rfl, hB8⟩
      have hB48 := HB47.out.trans (hB8.mono HB47.out.size)
      have hK3 := kept_bel w w8 lc Ac cc g3 k3 hc1 HHC2.out HRC.out (by omega) (HB4.out.trans (hB48.mono HB4.out.size)) (HL3.out.below hB48)
      have HK3 := Lib.hid hK3
      have HB48 := Lib.hid hB48
      have HB68 := Lib.hid (HB67.out.trans (hB8.mono HB67.out.size))
      clear hK3 hB8 hB48 HK2 HB67
      go_wp2_with fail
      (with_reducible refine (HK3.out).mono ?_)
      rintro e w9 ⟨rfl, hB9⟩
      have hB49 := HB48.out.trans (hB9.mono HB48.out.size)
      have hO1 := over_bel w.heap.size w9 la g1 k1 (by omega) (HL1.out.below hB49)
      have HO1 := Lib.hid hO1
      have HB49 := Lib.hid hB49
      have HB69 := Lib.hid (HB68.out.trans (hB9.mono HB68.out.size))
      clear hO1 hB9 hB49 HK3 HB68
      go_wp2_with fail
      (with_reducible refine (HO1.out).mono ?_)
      rintro e w10 ⟨rfl, hT10⟩
      have hO2 := over_bel w.heap.size w10 lb g2 k2 (by omega) ((HL2b.out.below HB49.out).tch hT10 (by omega))
      have HO2 := Lib.hid hO2
      have HT10 := Lib.hid hT10
      clear hO2 hT10 HO1
      go_wp2_with fail
      (with_reducible refine (HO2.out).mono ?_)
      rintro e w11 ⟨rfl, hT11⟩
      have hO3 := over_bel w.heap.size w11 lc g3 k3 (by omega) (((HL3.out.below HB49.out).tch HT10.out (by omega)).tch hT11 (by omega))
      have HO3 := Lib.hid hO3
      have HT11 := Lib.hid hT11
      clear hO3 hT11 HO2
      go_wp2_with fail
      (with_reducible refine (HO3.out).mono ?_)
      rintro e w12 ⟨rfl, hT12⟩
      have hT : Tch (fun k => k = g1 ∨ k = g2 ∨ k = g3) w9 w12 := ((HT10.out.mono (S' := fun k => k = g1 ∨ k = g2 ∨ k = g3) fun k h => .inl h).trans HT11.out (fun k h => .inl (.inr (.inl h)))).trans hT12 (fun k h => .inl (.inr (.inr h)))
      have hw1 : w.heap.size ≤ g1 := by have := HB1.out.size; omega
      have hw2 : w.heap.size ≤ g2 := by have := HB2.out.size; omega
      have hw3 : w.heap.size ≤ g3 := by have := HB3.out.size; omega
      have hB09 := HB4.out.trans (HB49.out.mono HB4.out.size)
      have hB12 : Below w.heap.size w w12 := hT.below hB09 hB09.size (fun k hk => by rcases hk with rfl | rfl | rfl <;> assumption)
      have hs5 := HB5.out.size
      have hO5 : Ow encP 38 2 w4.heap.size w12 (slA A5 D.length c5) D := (HO5b.out.below HB69.out).tch hT fun b hb hk => by
        have := HBL5.out b hb
        rcases hk with h | h | h <;> omega
      have hO6 : Ow encP 38 2 w5.heap.size w12 (slA A6 D.length c6) D := (HO6.out.below HB69.out).tch hT fun b hb hk => by
        have := (HO6.out.lt hb).1
        rcases hk with h | h | h <;> omega
      have hrj := refJoined_bel w12 [((.slice Aa la.length ca : Value), la), (.slice Ab lb.length cb, lb), (.slice Ac lc.length cc, lc)] _ D okb HD.out HOKB.out.symm 3 rfl HALL.out _ rfl [.slice Aa la.length ca, .slice Ab lb.length cb, .slice Ac lc.length cc] rfl (HSL.out w12 hB12) (by omega) HS3.out
      have hs12 : w5.heap.size ≤ w12.heap.size := by have h1 := hT.size; have h2 := HB69.out.size; omega
      have hDl : D.length ≤ 1000 := by
        rw [← HD.out]
        unfold joinD
        cases hjl : joinL (la ++ (lb ++ lc)) with
        | none => simp
        | some out => have := joinL_length hjl; have := HS3.out; simp; omega
      have HRJ := Lib.hid hrj
      have HO5 := Lib.hid hO5
      have HO6b := Lib.hid hO6
      have HB12 := Lib.hid hB12
      have HS12 := Lib.hid hs12
      clear hT hT12 hB09 hO5 hO6 hrj hB12 hs12 HO3 HT10 HT11
      go_wp2_with fail
      (with_reducible refine (HRJ.out).mono ?_)
      rintro e w13 ⟨A13, c13, rfl, hO13, hc131, hc132, hB13⟩
      have hsm1 : ∀ W, Below w13.heap.size w13 W → Calls Tryz.prog 12 #[slA A5 D.length c5, slA A13 D.length c13] W fun e w' => e = .returned (.bool true) ∧ Below w13.heap.size w13 w' := fun W hW => by
        obtain ⟨_, _, he1, _, _, hr1⟩ := ((HO5.out.below hB13).below hW).rd
        obtain ⟨_, _, he2, _, _, hr2⟩ := (hO13.below hW).rd
        cases he1
        cases he2
        refine (same_parts D D A5 A13 c5 c13 W hc51 hc131 HC52.out hc132 hr1 hr2).mono ?_
        rintro e w' ⟨rfl, n, rfl⟩
        exact ⟨by rw [decide_eq_true rfl], below_drewN hW n⟩
      have hsm2 : ∀ W, Below w13.heap.size w13 W → Calls Tryz.prog 12 #[slA A6 D.length c6, slA A13 D.length c13] W fun e w' => e = .returned (.bool true) ∧ Below w13.heap.size w13 w' := fun W hW => by
        obtain ⟨_, _, he1, _, _, hr1⟩ := ((HO6b.out.below hB13).below hW).rd
        obtain ⟨_, _, he2, _, _, hr2⟩ := (hO13.below hW).rd
        cases he1
        cases he2
        refine (same_parts D D A6 A13 c6 c13 W hc61 hc131 HC62.out hc132 hr1 hr2).mono ?_
        rintro e w' ⟨rfl, n, rfl⟩
        exact ⟨by rw [decide_eq_true rfl], below_drewN hW n⟩
      have hap : ∀ W N, Below w13.heap.size w13 W → N = W.heap.size → Calls Tryz.prog 13 #[.slice (some ⟨N, 0, none⟩) 2 2] (W.alloc (.cells #[slA A5 D.length c5, slA A6 D.length c6] 22)) fun e w' => e = .returned (.bool true) ∧ Below w.heap.size w w' := fun W N hW hN => by
        have hw5 := HS12.out
        have hw13 := hB13.size
        have hwW := hW.size
        refine (apart_two W A5 A6 D.length c5 c6 w4.heap.size w5.heap.size D rfl ((HO5.out.below hB13).below hW) ((HO6b.out.below hB13).below hW) (fun b hb => (HBL5.out b hb).2) hs5 (by omega) (by omega) N hN).mono ?_
        rintro e w' ⟨rfl, ht⟩
        have hbW : Below w.heap.size w W := (HB12.out.trans (hB13.mono HB12.out.size)).trans (hW.mono (by have := HB12.out.size; omega))
        exact ⟨rfl, ht.below hbW hbW.size fun k hk => by have := HB4.out.size; omega⟩
      have HSM1 := Lib.hid hsm1
      have HSM2 := Lib.hid hsm2
      have HAP := Lib.hid hap
      have HB13 := Lib.hid (Below.refl w13.heap.size w13)
      have hbb : (okb == okb) = true := by cases okb <;> rfl
      clear hsm1 hsm2 hap hO13 hc131 hc132 hB13 HRJ
      go_wp2_with fail
      (with_reducible refine (HSM1.out _ HB13.out).mono ?_)
      rintro e w14 ⟨rfl, hB14⟩
      have HB14 := Lib.hid hB14
      clear hB14
      go_wp2_with fail
      (with_reducible refine (HSM2.out _ HB14.out).mono ?_)
      rintro e w15 ⟨rfl, hB15⟩
      have HB15 := Lib.hid hB15
      clear hB15
      go_wp2_with fail
      (with_reducible refine (HAP.out _ _ HB15.out rfl).mono ?_)
      rintro e w16 ⟨rfl, hB16⟩
      have HB16 := Lib.hid hB16
      clear hB16
      go_wp2_with fail
      (with_reducible refine (HAW.out _ HB16.out).mono ?_)
      rintro e w17 ⟨rfl, hB17⟩
      have HB17 := Lib.hid hB17
      clear hB17
      go_wp2_with fail
      go_ret
      exact ⟨rfl, HB17.out⟩
  · have hG' := HG.out.mono (R' := fun e w' => e = .returned (.bool true) ∧ Below w.heap.size w w') (by
      rintro e w' ⟨b, m, rfl, rfl, hb⟩
      cases b
      · exact absurd (hb rfl) hsmall
      · exact ⟨rfl, below_drewN HB0.out m⟩)
    have HG2 := Lib.hid hG'
    clear hG' hsmall ha3 hb3 hc3 hlen hokb HG
    go_enter Tryz.func3, Tryz.ntmps3
    go_wp2_with fail
    (with_reducible refine HG2.out.mono ?_)
    rintro e w1 ⟨rfl, hB1⟩
    have HB1 := Lib.hid hB1
    clear hB1
    go_wp2_with fail
    (with_reducible refine (HAW.out _ HB1.out).mono ?_)
    rintro e w2 ⟨rfl, hB2⟩
    have HB2 := Lib.hid hB2
    clear hB2
    go_wp2_with fail
    go_ret
    exact ⟨rfl, HB2.out⟩
end Go.Proofs.YtjefaineggnogaaGreat
