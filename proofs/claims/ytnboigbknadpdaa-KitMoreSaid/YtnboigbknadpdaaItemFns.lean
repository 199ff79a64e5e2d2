/- Single items: their marks, whether two are the same, lent, kept. -/
import Derived.Test.YtnboigbknadpdaaItems
import Derived.Test.YtnboigbknadpdaaLentTexts
import Derived.Test.YtnboigbknadpdaaLentParts
set_option linter.unusedVariables false
set_option linter.unusedSimpArgs false
namespace Go.Proofs.Ytnboigbknadpdaa
set_option maxRecDepth 100000
open Go.RowKit SM
def markIv (k i : Int) : Iv := ⟨⟨⟨#[]⟩, markI k i, [], []⟩, none, 0, none, 0⟩
theorem markIv_at (w : World) (k i : Int) : ItemAt w (markIv k i) := ⟨Nat.le_refl _, Nat.zero_le _, Rd.nil _ _, Nat.le_refl _, Nat.zero_le _, Rd.nil _ _⟩
set_option maxHeartbeats 1000000 in
theorem markItem_any (k i : Int) (w : World) (hk0 : 0 ≤ k) (hk : k ≤ 1000000000) (hi0 : 0 ≤ i) (hi : i ≤ 1000000000) :
    Calls Try.prog 25 #[.int .i64 k, .int .i64 i] w fun e w' => e = .returned (.agg #[.string ⟨#[]⟩, .int .i64 (markI k i), .slice none 0 0, .slice none 0 0]) ∧ w.alloc (.cells #[.string ⟨#[]⟩, .int .i64 (markI k i), .slice none 0 0, .slice none 0 0] 32) = w' := by
  have hc := fun w => mark_any k i w hk0 hk hi0 hi
  have HC := Lib.hid hc
  clear hc
  generalize markI k i = m at *
  go_enter Try.func25, Try.ntmps25
  go_wp2_with ((go_at_call 47; (with_reducible refine (HC.out _).mono ?_); rintro e w' ⟨rfl, rfl⟩))
  exact bodyPost_ret (v := .agg #[.string ⟨#[]⟩, .int .i64 m, .slice none 0 0, .slice none 0 0]) (by simp [results, Try.results25, go_sem]) rfl ⟨rfl, rfl⟩
/-- Whether two items are the same. -/
def itEq (x y : It) : Bool := decide (x.code = y.code) && (decide (x.life = y.life) && (decide (x.parts = y.parts) && decide (x.others = y.others)))
theorem itEq_refl (x : It) : itEq x x = true := by simp [itEq]
theorem itEq_iff (x y : It) : itEq x y = true ↔ x = y := by
  constructor
  · intro h
    simp only [itEq, Bool.and_eq_true, decide_eq_true_eq] at h
    obtain ⟨h1, h2, h3, h4⟩ := h
    cases x; cases y
    simp only at h1 h2 h3 h4
    subst h1 h2 h3 h4
    rfl
  · rintro rfl; exact itEq_refl x
set_option maxHeartbeats 4000000 in
theorem sameItem_any (x y : Iv) (w : World) (hx : ItemAt w x) (hy : ItemAt w y) :
    Calls Try.prog 32 #[aggIv x, aggIv y] w fun e w' => e = .returned (.bool (itEq x.it y.it)) ∧ Below w.heap.size w w' := by
  obtain ⟨⟨c1, l1, p1, o1⟩, pA1, pc1, oA1, oc1⟩ := x
  obtain ⟨⟨c2, l2, p2, o2⟩, pA2, pc2, oA2, oc2⟩ := y
  have hst := str_eq_iff c1 c2
  have hB : Below w.heap.size w ((w.alloc (.cells #[.string c1, .int .i64 l1, .slice pA1 p1.length pc1, .slice oA1 o1.length oc1] 32)).alloc (.cells #[.string c2, .int .i64 l2, .slice pA2 p2.length pc2, .slice oA2 o2.length oc2] 32)) := ((Below.refl _ w).alloc (Nat.le_refl _) _).alloc (by simp) _
  have HB := Lib.hid hB
  have hsp : ∀ W : World, Below w.heap.size w W → Calls Try.prog 20 #[.slice pA1 p1.length pc1, .slice pA2 p2.length pc2] W fun e w' => e = .returned (.bool (decide (p1 = p2))) ∧ ∃ n, w' = W.drewN n := fun W hW =>
    same_parts p1 p2 pA1 pA2 pc1 pc2 W hx.pn hy.pn hx.pm hy.pm (hx.pr.below hW) (hy.pr.below hW)
  have hso : ∀ W : World, Below w.heap.size w W → Calls Try.prog 23 #[.slice oA1 o1.length oc1, .slice oA2 o2.length oc2] W fun e w' => e = .returned (.bool (decide (o1 = o2))) ∧ ∃ n, w' = W.drewN n := fun W hW =>
    same_texts o1 o2 oA1 oA2 oc1 oc2 W hx.on hy.on hx.om hy.om (hx.or.below hW) (hy.or.below hW)
  have hsp2 := hsp _ hB
  have hso2 := fun n => hso _ (below_drewN hB n)
  have HSP := Lib.hid hsp2
  have HSO := Lib.hid hso2
  have HE : Hid (itEq ⟨c1, l1, p1, o1⟩ ⟨c2, l2, p2, o2⟩ = (decide (c1 = c2) && (decide (l1 = l2) && (decide (p1 = p2) && decide (o1 = o2))))) := rfl
  clear hsp hso hsp2 hso2 hB hx hy
  unfold aggIv Iv.pv Iv.ov
  generalize itEq ⟨c1, l1, p1, o1⟩ ⟨c2, l2, p2, o2⟩ = r at *
  simp only
  by_cases h1 : c1 = c2
  · rw [decide_eq_true h1] at hst HE
    by_cases h2 : l1 = l2
    · have h2b : (l1 == l2) = true := by rw [beq_iff_eq]; exact h2
      rw [decide_eq_true h2] at HE
      generalize decide (p1 = p2) = bp at HSP HE
      generalize decide (o1 = o2) = bo at HSO HE
      clear h1 h2
      cases bp with
      | true =>
        have HE2 : Hid (r = bo) := show r = bo from by rw [HE.out]; simp
        clear HE
        go_enter Try.func32, Try.ntmps32
        go_wp2_with (first | (go_at_call 20; (with_reducible refine HSP.out.mono ?_); rintro e w' ⟨rfl, n, rfl⟩) | (go_at_call 23; (with_reducible refine (HSO.out _).mono ?_); rintro e w' ⟨rfl, n2, rfl⟩))
        go_ret
        exact ⟨by rw [HE2.out]; exact rfl, below_drewN HB.out _⟩
      | false =>
        have HE2 : Hid (r = false) := show r = false from by rw [HE.out]; simp
        clear HE
        go_enter Try.func32, Try.ntmps32
        go_wp2_with (first | (go_at_call 20; (with_reducible refine HSP.out.mono ?_); rintro e w' ⟨rfl, n, rfl⟩) | (go_at_call 23; (with_reducible refine (HSO.out _).mono ?_); rintro e w' ⟨rfl, n2, rfl⟩))
        go_ret
        exact ⟨by rw [HE2.out]; exact rfl, below_drewN HB.out _⟩
    · have h2b : (l1 == l2) = false := by rw [beq_eq_false_iff_ne]; exact h2
      have HE2 : Hid (r = false) := show r = false from by rw [HE.out, decide_eq_false h2]; simp
      clear HE h1 HSP HSO
      go_enter Try.func32, Try.ntmps32
      go_wp2_with fail
      go_ret
      exact ⟨by rw [HE2.out]; exact rfl, HB.out⟩
  · rw [decide_eq_false h1] at hst
    have HE2 : Hid (r = false) := show r = false from by rw [HE.out, decide_eq_false h1]; simp
    clear HE h1 HSP HSO
    go_enter Try.func32, Try.ntmps32
    go_wp2_with fail
    go_ret
    exact ⟨by rw [HE2.out]; exact rfl, HB.out⟩
/-- An item that was lent. -/
structure LentIv (w : World) (base : Nat) (y : Iv) (x : It) : Prop where
  it : y.it = x
  p : LentP w base y.pv x.parts
  o : LentT w base y.ov x.others
theorem LentIv.below {w w' : World} {base : Nat} {y : Iv} {x : It} (h : LentIv w base y x) (hb : Below w.heap.size w w') : LentIv w' base y x := ⟨h.it, h.p.below hb, h.o.below hb⟩
theorem own_types {w : World} {b1 b2 k1 k2 n1 n2 : Nat} {e1 e2 : TypeId} {v1 v2 : Value} {c1 c2 : List Value} (h1 : w.ownsRow b1 e1 k1 v1 n1 c1) (h2 : w.ownsRow b2 e2 k2 v2 n2 c2) (hne : e1 ≠ e2) : ∀ b, v1.ownBlock = some b → v2.ownBlock ≠ some b := fun b hb hb2 => by
  rcases h1.2 with ⟨rfl, _⟩ | ⟨g, cap, cur, rfl, _, hg, _⟩
  · cases hb
  · rcases h2.2 with ⟨rfl, _⟩ | ⟨g2, cap2, cur2, rfl, _, hg2, _⟩
    · cases hb2
    · cases hb
      injection hb2 with hb2
      subst hb2
      rw [hg] at hg2
      injection hg2 with hg2
      injection hg2 with _ he _
      exact hne he
theorem row_setCell {w : World} {b j : Nat} {cs : Array Value} {u : Value} {t : TypeId} (h : w.heap[b]? = some (.cells cs t (0, 0))) : (w.setCell ⟨b, j, none⟩ u).heap[b]? = some (.cells (cs.setIfInBounds j u) t (0, 0)) := by
  have hlt := lt_of_block h
  have h' : w.heap[b] = .cells cs t (0, 0) := by simpa [Array.getElem?_eq_getElem hlt] using h
  show (w.heap.modify b _)[b]? = _
  rw [Array.getElem?_eq_getElem (by simpa using hlt), Array.getElem_modify_self, h']
  rfl
theorem free_of_row {w : World} {b j : Nat} {cs : Array Value} {t : TypeId} (h : w.heap[b]? = some (.cells cs t (0, 0))) : w.frozen? ⟨b, j, none⟩ = false := by simp [World.frozen?, h]
theorem sizeIt : (Try.prog.info? 32).map (·.size) = some 4 := by kernel_rfl
def zeroIv : Iv := ⟨⟨⟨#[]⟩, 0, [], []⟩, none, 0, none, 0⟩
set_option maxHeartbeats 4000000 in
theorem lentItem_any (x : Iv) (w : World) (hI : ItemAt w x) (hp : x.it.parts.length ≤ 1000000) (ho : x.it.others.length ≤ 1000000) :
    Calls Try.prog 24 #[aggIv x] w fun e w' => ∃ y, e = .returned (aggIv y) ∧ LentIv w' w.heap.size y x.it ∧ Below w.heap.size w w' := by
  obtain ⟨⟨cd, lf, ps, ot⟩, pA, pc, oA, oc⟩ := x
  obtain ⟨N, hN⟩ : ∃ N, N = w.heap.size := ⟨_, rfl⟩
  obtain ⟨W2, hW2⟩ : ∃ W2, W2 = ((w.alloc (.cells #[.string cd, .int .i64 lf, .slice pA ps.length pc, .slice oA ot.length oc] 32)).alloc (.cells #[.string ⟨#[]⟩, .int .i64 0, .slice none 0 0, .slice none 0 0] 32)) := ⟨_, rfl⟩
  have hB2 : Below w.heap.size w W2 := by rw [hW2]; exact ((Below.refl _ w).alloc (Nat.le_refl _) _).alloc (by simp) _
  have hs2 : W2.heap.size = N + 2 := by rw [hW2, hN]; simp
  have hn2 : W2.heap[N]? = some (.cells #[.string cd, .int .i64 lf, .slice pA ps.length pc, .slice oA ot.length oc] 32 (0, 0)) := by
    rw [hW2, hN, Below.heap_alloc _ _ _ (by simp), heap_alloc_new]
  have hm2 : W2.heap[N + 1]? = some (.cells #[.string ⟨#[]⟩, .int .i64 0, .slice none 0 0, .slice none 0 0] 32 (0, 0)) := by
    rw [hW2, hN]
    have := heap_alloc_new (w.alloc (.cells #[.string cd, .int .i64 lf, .slice pA ps.length pc, .slice oA ot.length oc] 32)) (.cells #[.string ⟨#[]⟩, .int .i64 0, .slice none 0 0, .slice none 0 0] 32)
    rw [World.size_alloc] at this
    exact this
  have hlp := lentParts_any ps pA pc W2 hI.pn hI.pm (hI.pr.below hB2) hp
  have hlp2 : Calls Try.prog 45 #[.slice pA ps.length pc] W2 (fun e w3 => ∃ g cap, e = .returned (.slice (some ⟨g, 0, none⟩) ps.length cap) ∧ w3.cell? ⟨N, 2, none⟩ = some (.slice pA ps.length pc) ∧ w3.frozen? ⟨N, 2, none⟩ = false ∧
      (w3.setCell ⟨N, 2, none⟩ (.slice (some ⟨g, 0, none⟩) ps.length cap)).cell? ⟨N, 3, none⟩ = some (.slice oA ot.length oc) ∧
      Hid (Calls Try.prog 46 #[.slice oA ot.length oc] (w3.setCell ⟨N, 2, none⟩ (.slice (some ⟨g, 0, none⟩) ps.length cap)) (fun e w5 => ∃ g2 cap2, e = .returned (.slice (some ⟨g2, 0, none⟩) ot.length cap2) ∧ w5.cell? ⟨N, 3, none⟩ = some (.slice oA ot.length oc) ∧ w5.frozen? ⟨N, 3, none⟩ = false ∧
        (w5.setCell ⟨N, 3, none⟩ (.slice (some ⟨g2, 0, none⟩) ot.length cap2)).cell? ⟨N, 0, none⟩ = some (.string cd) ∧ (w5.setCell ⟨N, 3, none⟩ (.slice (some ⟨g2, 0, none⟩) ot.length cap2)).cell? ⟨N, 1, none⟩ = some (.int .i64 lf) ∧
        (w5.setCell ⟨N, 3, none⟩ (.slice (some ⟨g2, 0, none⟩) ot.length cap2)).cell? ⟨N, 2, none⟩ = some (.slice (some ⟨g, 0, none⟩) ps.length cap) ∧ (w5.setCell ⟨N, 3, none⟩ (.slice (some ⟨g2, 0, none⟩) ot.length cap2)).cell? ⟨N, 3, none⟩ = some (.slice (some ⟨g2, 0, none⟩) ot.length cap2) ∧
        ∃ w7, Hid ((Instr.storeAt 32 (.pointer (some ⟨N + 1, 0, none⟩)) (.agg #[.string cd, .int .i64 lf, .slice (some ⟨g, 0, none⟩) ps.length cap, .slice (some ⟨g2, 0, none⟩) ot.length cap2])).run Try.prog (w5.setCell ⟨N, 3, none⟩ (.slice (some ⟨g2, 0, none⟩) ot.length cap2)) = .ok () w7) ∧
          w7.cell? ⟨N + 1, 0, none⟩ = some (.string cd) ∧ w7.cell? ⟨N + 1, 1, none⟩ = some (.int .i64 lf) ∧ w7.cell? ⟨N + 1, 2, none⟩ = some (.slice (some ⟨g, 0, none⟩) ps.length cap) ∧ w7.cell? ⟨N + 1, 3, none⟩ = some (.slice (some ⟨g2, 0, none⟩) ot.length cap2) ∧
          Hid (LentIv w7 w.heap.size ⟨⟨cd, lf, ps, ot⟩, some ⟨g, 0, none⟩, cap, some ⟨g2, 0, none⟩, cap2⟩ ⟨cd, lf, ps, ot⟩ ∧ Below w.heap.size w w7)))) := by
    refine hlp.mono fun e w3 ⟨v, he, ⟨g, cap, hv, hL⟩, hB⟩ => ?_
    subst hv
    have hn3 := (hB.block N (by omega)).trans hn2
    have hm3 := (hB.block (N + 1) (by omega)).trans hm2
    have hg3 := (hL.lt g rfl).1
    have hB3 : Below w.heap.size w w3 := hB2.trans (hB.mono hB2.size)
    have hs3 := hB.size
    have hn4 := row_setCell (j := 2) (u := .slice (some ⟨g, 0, none⟩) ps.length cap) hn3
    have hB4 : Below w.heap.size w (w3.setCell ⟨N, 2, none⟩ (.slice (some ⟨g, 0, none⟩) ps.length cap)) := hB3.setCell (by show w.heap.size ≤ N; omega) _
    have hs4 : (w3.setCell ⟨N, 2, none⟩ (.slice (some ⟨g, 0, none⟩) ps.length cap)).heap.size = w3.heap.size := by simp [World.setCell]
    have hm4 : (w3.setCell ⟨N, 2, none⟩ (.slice (some ⟨g, 0, none⟩) ps.length cap)).heap[N + 1]? = _ := (Below.heap_setCell _ _ _ _ (by show N + 1 ≠ N; omega)).trans hm3
    have hL4 := ownsRow_setCell_other hL (a := ⟨N, 2, none⟩) (fun e => by injection e with e; have e : g = N := e; omega) (.slice (some ⟨g, 0, none⟩) ps.length cap)
    refine ⟨g, cap, he, (cell_of_row _ _ _ _ _ _ hn3).trans rfl, free_of_row hn3, (cell_of_row _ _ _ _ _ _ hn4).trans rfl, ?_⟩
    have hlt := lentTexts_any ot oA oc (w3.setCell ⟨N, 2, none⟩ (.slice (some ⟨g, 0, none⟩) ps.length cap)) hI.on hI.om (hI.or.below hB4) ho
    refine hlt.mono fun e w5 ⟨v, he, ⟨g2, cap2, hv, hT⟩, hB'⟩ => ?_
    subst hv
    have hn5 := (hB'.block N (by omega)).trans hn4
    have hm5 := (hB'.block (N + 1) (by omega)).trans hm4
    have hg5 := (hT.lt g2 rfl).1
    have hL5 := own_below hL4 hB'
    have hB5 : Below w.heap.size w w5 := hB4.trans (hB'.mono hB4.size)
    have hs5 := hB'.size
    have hn6 := row_setCell (j := 3) (u := .slice (some ⟨g2, 0, none⟩) ot.length cap2) hn5
    have hB6 : Below w.heap.size w (w5.setCell ⟨N, 3, none⟩ (.slice (some ⟨g2, 0, none⟩) ot.length cap2)) := hB5.setCell (by show w.heap.size ≤ N; omega) _
    have hm6 : (w5.setCell ⟨N, 3, none⟩ (.slice (some ⟨g2, 0, none⟩) ot.length cap2)).heap[N + 1]? = _ := (Below.heap_setCell _ _ _ _ (by show N + 1 ≠ N; omega)).trans hm5
    have hL6 := ownsRow_setCell_other hL5 (a := ⟨N, 3, none⟩) (fun e => by injection e with e; have e : g = N := e; omega) (.slice (some ⟨g2, 0, none⟩) ot.length cap2)
    have hT6 := ownsRow_setCell_other hT (a := ⟨N, 3, none⟩) (fun e => by injection e with e; have e : g2 = N := e; omega) (.slice (some ⟨g2, 0, none⟩) ot.length cap2)
    have hrow : (w5.setCell ⟨N, 3, none⟩ (.slice (some ⟨g2, 0, none⟩) ot.length cap2)).ownsRow (N + 1) 32 4 (.slice (some ⟨N + 1, 0, none⟩) [zeroIv].length 1) [zeroIv].length ([zeroIv].flatMap encIv) := by
      refine ⟨rfl, .inr ⟨N + 1, 1, _, rfl, Nat.le_refl _, hm6, Nat.le_refl 1, by decide, rfl, rfl⟩⟩
    obtain ⟨w7, hst, hown7, hg7⟩ := own_store (P := Try.prog) (ty := 32) encIv_len encIv_one hrow (j := 0) (by simp) ⟨⟨cd, lf, ps, ot⟩, some ⟨g, 0, none⟩, cap, some ⟨g2, 0, none⟩, cap2⟩ sizeIt
    have hc7 := fun j u h => hown7.cells (g := N + 1) rfl j u h
    have hs6 : (w5.setCell ⟨N, 3, none⟩ (.slice (some ⟨g2, 0, none⟩) ot.length cap2)).heap.size = w5.heap.size := by simp [World.setCell]
    refine ⟨g2, cap2, he, (cell_of_row _ _ _ _ _ _ hn5).trans rfl, free_of_row hn5, (cell_of_row _ _ _ _ _ _ hn6).trans rfl, (cell_of_row _ _ _ _ _ _ hn6).trans rfl, (cell_of_row _ _ _ _ _ _ hn6).trans rfl, (cell_of_row _ _ _ _ _ _ hn6).trans rfl, w7, hst, hc7 0 _ rfl, hc7 1 _ rfl, hc7 2 _ rfl, hc7 3 _ rfl, ?_, ?_⟩
    · refine ⟨rfl, ⟨g, cap, rfl, own_lower (hL6.kept hg7 (.inr fun e => ?_)) (by omega)⟩, ⟨g2, cap2, rfl, own_lower (hT6.kept hg7 (.inr fun e => ?_)) (by omega)⟩⟩
      · injection e with e; have e : g = N + 1 := e; omega
      · injection e with e; have e : g2 = N + 1 := e; omega
    · exact hB6.grown hg7 (by omega) (fun k hk => by injection hk with hk; omega)
  rw [hW2] at hlp2
  have HLP := Lib.hid hlp2
  subst hN
  clear hlp hlp2 hm2 hn2 hs2 hB2 hW2 hI
  unfold aggIv Iv.pv Iv.ov
  simp only
  go_enter Try.func24, Try.ntmps24
  go_wp2_with (first | (go_at_call 45; (with_reducible refine HLP.out.mono ?_); rintro e w3 ⟨g, cap, rfl, hc32, hf32, hc43, HLT⟩) | (go_at_call 46; (with_reducible refine HLT.out.mono ?_); rintro e w5 ⟨g2, cap2, rfl, hc53, hf53, hc60, hc61, hc62, hc63, w7, HST, hc70, hc71, hc72, hc73, HR⟩) | (refine wpList_store_run HST.out rfl _ _ (by rfl) (by rfl) (by rfl) ?_))
  refine bodyPost_ret (v := .agg #[.string cd, .int .i64 lf, .slice (some ⟨g, 0, none⟩) ps.length cap, .slice (some ⟨g2, 0, none⟩) ot.length cap2]) (by simp [results, Try.results24, go_sem, hc70, hc71, hc72, hc73]) rfl ⟨⟨⟨cd, lf, ps, ot⟩, some ⟨g, 0, none⟩, cap, some ⟨g2, 0, none⟩, cap2⟩, rfl, HR.out.1, HR.out.2⟩
end Go.Proofs.Ytnboigbknadpdaa
