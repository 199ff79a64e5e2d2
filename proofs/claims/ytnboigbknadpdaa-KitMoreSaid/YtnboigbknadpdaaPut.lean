/- kit.Parts' search: what is in so many of an item is put to what is there. -/
import Derived.Test.YtnboigbknadpdaaCheck
import Derived.Test.YtnboigbknadpdaaKitLeaf
import Derived.Test.YtnboigbknadpdaaJoin
set_option linter.unusedVariables false
set_option linter.unusedSimpArgs false
namespace Go.Proofs.Ytnboigbknadpdaa
set_option maxRecDepth 100000
open Go.RowKit SM
/-- What the search finds in memory. -/
structure PutW (l : List Iv) (w0 : World) (na ma be ba bl : Nat) (acc : List Prt) (w : World) : Prop where
  bel : Below w0.heap.size w0 w
  ca : w.cell? ⟨ba, 0, none⟩ = some (.map (some ma))
  cl : w.cell? ⟨bl, 0, none⟩ = some (fn3 34 ba be bl)
  all : MapS w ma na (bookF l)
  ce : ∃ v, w.heap[be]? = some (.cells #[v] 29 (0, 0)) ∧ w.ownsRow w0.heap.size 39 2 v acc.length (acc.flatMap encP)
/-- The places differ. -/
structure PutP (w0 : World) (ma be ba bl : Nat) : Prop where
  h0 : w0.heap.size ≤ be
  h1 : be ≠ ba
  h2 : be ≠ bl
  h3 : be ≠ ma
section
variable {l : List Iv} {w0 w w' : World} {na ma be ba bl : Nat} {acc : List Prt}
theorem own_ne {w : World} {base n be : Nat} {v u : Value} {cs : List Value} (h : w.ownsRow base 39 2 v n cs) (hb : w.heap[be]? = some (.cells #[u] 29 (0, 0))) : v.ownBlock ≠ some be := fun e => by
  rcases h.2 with ⟨rfl, _⟩ | ⟨g, cap, cur, rfl, _, hg, _⟩
  · cases e
  · injection e with e
    subst e
    rw [hg] at hb
    simp at hb
theorem PutW.below (h : PutW l w0 na ma be ba bl acc w) (hb : Below w.heap.size w w') : PutW l w0 na ma be ba bl acc w' where
  bel := h.bel.trans (hb.mono h.bel.size)
  ca := hb.cell (World.block_lt_of_cell? w _ h.ca) |>.trans h.ca
  cl := hb.cell (World.block_lt_of_cell? w _ h.cl) |>.trans h.cl
  all := h.all.same (hb.block _ h.all.lt)
  ce := by
    obtain ⟨v, h1, h2⟩ := h.ce
    exact ⟨v, (hb.block _ (lt_of_block h1)).trans h1, own_below h2 hb⟩
theorem PutW.set (h : PutW l w0 na ma be ba bl acc w) (hp : PutP w0 ma be ba bl) {v : Value} {b : List Prt} (ho : w.ownsRow w0.heap.size 39 2 v b.length (b.flatMap encP)) : PutW l w0 na ma be ba bl b (w.setCell ⟨be, 0, none⟩ v) where
  bel := h.bel.setCell hp.h0 _
  ca := by
    have hb : (w.setCell ⟨be, 0, none⟩ v).heap[ba]? = w.heap[ba]? := Below.heap_setCell _ _ _ _ (fun e => hp.h1 e.symm)
    exact (World.cell?_of_block (w := w) (a := ⟨ba, 0, none⟩) hb).trans h.ca
  cl := by
    have hb : (w.setCell ⟨be, 0, none⟩ v).heap[bl]? = w.heap[bl]? := Below.heap_setCell _ _ _ _ (fun e => hp.h2 e.symm)
    exact (World.cell?_of_block (w := w) (a := ⟨bl, 0, none⟩) hb).trans h.cl
  all := h.all.same (Below.heap_setCell _ _ _ _ (fun e => hp.h3 e.symm))
  ce := by
    obtain ⟨u, h1, h2⟩ := h.ce
    exact ⟨v, one_setCell h1, ownsRow_setCell_other ho (own_ne ho h1) _⟩
theorem PutW.item (h : PutW l w0 na ma be ba bl acc w) {c : ByteArray} (hc : c.size ≤ maxLen) {x : Iv} (hx : findIv l c = some x) : (Instr.lookup 54 (.map (some ma)) (.string c) false).run Try.prog w = .ok (aggIv x) w := by
  have h := h.all.look false Try.underlying54 (zeroItem _) (x := c) hc
  have e : bookF l c = some (aggIv x) := by unfold bookF; rw [hx]; rfl
  rw [e] at h
  exact h
end
theorem tch_setCell (w : World) (be : Nat) (v : Value) : Tch (fun k => k = be) w (w.setCell ⟨be, 0, none⟩ v) := ⟨rfl, rfl, rfl, by simp [World.setCell], fun k _ hk => Below.heap_setCell _ _ _ _ hk⟩
/-- What the search answers. -/
def PutR (l : List Iv) (w0 : World) (na ma be ba bl n : Nat) (acc : List Prt) (c : ByteArray) (q : Int) (w : World) (e : Ending) (w' : World) : Prop :=
  Tch (fun k => k = be) w w' ∧ ((e = .returned (.bool true) ∧ ∃ b, putE (itsOf l) n acc c q = some b ∧ PutW l w0 na ma be ba bl b w') ∨ (e = .returned (.bool false) ∧ putE (itsOf l) n acc c q = none))
set_option maxHeartbeats 8000000 in
theorem put_leaf (l : List Iv) (w0 : World) (na ma be ba bl n : Nat) (acc : List Prt) (cd : ByteArray) (q lf : Int) (ot : List ByteArray) (pA oA : Option Addr) (pc oc : Nat) (w : World) (hp : PutP w0 ma be ba bl)
    (hx : findIv l cd = some ⟨⟨cd, lf, [], ot⟩, pA, pc, oA, oc⟩) (hcs : cd.size ≤ 140737488355328) (hal : acc.length ≤ 1000000) (has : ∀ p ∈ acc, p.1.size ≤ maxLen) (hW : PutW l w0 na ma be ba bl acc w) :
    Calls Try.prog 34 #[.string cd, .int .i64 q, .pointer (some ⟨ba, 0, none⟩), .pointer (some ⟨be, 0, none⟩), .pointer (some ⟨bl, 0, none⟩)] w (PutR l w0 na ma be ba bl (n + 1) acc cd q w) := by
  have hfx : findI (itsOf l) cd = some ⟨cd, lf, [], ot⟩ := by rw [findIv_it, hx]; rfl
  have hpe := putE_leaf (n := n) (acc := acc) (q := q) hfx rfl
  have hit := hW.item (c := cd) (by unfold maxLen; omega) hx
  unfold aggIv Iv.pv Iv.ov at hit
  simp only [List.length_nil] at hit
  obtain ⟨ev, hce, hown⟩ := hW.ce
  obtain ⟨A, cp, rfl, hac, hcm, hrd⟩ := own_rd hown
  have hc0 := cell_of_one hce
  have ca := hW.ca
  have hf2 := field2
  have hA : PartsAt ((w.alloc (.cells #[.string cd, .int .i64 q] 39)).alloc (.cells #[.slice A acc.length cp, .slice (some ⟨w.heap.size, 0, none⟩) 1 1] 29)) (some ⟨w.heap.size + 1, 0, none⟩)
      [((.slice A acc.length cp : Value), acc), (.slice (some ⟨w.heap.size, 0, none⟩) 1 1, [(cd, q)])] := by
    refine ⟨?_, fun x hx => ?_⟩
    · have := cells_rd (w.alloc (.cells #[.string cd, .int .i64 q] 39)) #[.slice A acc.length cp, .slice (some ⟨w.heap.size, 0, none⟩) 1 1] 29
      simpa using this
    · simp only [List.mem_cons, List.not_mem_nil, or_false] at hx
      rcases hx with rfl | rfl
      · exact ⟨flat_length encP_len _, _, cp, rfl, hac, hcm, (hrd.alloc _).alloc _⟩
      · exact ⟨rfl, _, 1, rfl, Nat.le_refl 1, by decide, (cells_rd w #[.string cd, .int .i64 q] 39).alloc _⟩
  have hj := join_any _ (acc ++ [(cd, q)]) (by simp [allP]) _ 2 _ (by simp) (by decide) hA (by simp; omega) (fun p hp => by
    rcases List.mem_append.1 hp with hp | hp
    · exact has p hp
    · simp only [List.mem_singleton] at hp; subst hp; show cd.size ≤ maxLen; unfold maxLen; omega)
  have hB2 : Below w.heap.size w ((w.alloc (.cells #[.string cd, .int .i64 q] 39)).alloc (.cells #[.slice A acc.length cp, .slice (some ⟨w.heap.size, 0, none⟩) 1 1] 29)) := ((Below.refl _ w).alloc (Nat.le_refl _) _).alloc (by simp) _
  have h0 := hW.bel.size
  have hj2 : Calls Try.prog 19 #[.slice (some ⟨w.heap.size + 1, 0, none⟩) 2 2] ((w.alloc (.cells #[.string cd, .int .i64 q] 39)).alloc (.cells #[.slice A acc.length cp, .slice (some ⟨w.heap.size, 0, none⟩) 1 1] 29)) (fun e w' =>
      ∃ (A2 : Option Addr) (n2 c2 : Nat) (b : Bool), e = .returned (.tuple #[.slice A2 n2 c2, .bool b]) ∧ w'.cell? ⟨be, 0, none⟩ = some (.slice A acc.length cp) ∧ w'.frozen? ⟨be, 0, none⟩ = false ∧ Hid (PutR l w0 na ma be ba bl (n + 1) acc cd q w (.returned (.bool b)) (w'.setCell ⟨be, 0, none⟩ (.slice A2 n2 c2)))) := by
    refine Calls.mono (R := _) hj ?_
    rintro e w' ⟨v, rfl, ho, hb⟩
    obtain ⟨A2, c2, rfl, _, _, _⟩ := own_rd ho
    have hBw : Below w.heap.size w w' := hB2.trans (hb.mono hB2.size)
    have hW' := hW.below hBw
    have hce' : w'.heap[be]? = some (.cells #[.slice A acc.length cp] 29 (0, 0)) := (hBw.block _ (lt_of_block hce)).trans hce
    refine ⟨A2, _, c2, _, rfl, cell_of_one hce', free_of_one hce', (Tch.of_below hBw _).trans (tch_setCell w' be _) (fun k h => .inl h), ?_⟩
    cases hjl : joinL (acc ++ [(cd, q)]) with
    | none => exact .inr ⟨rfl, by rw [hpe, hjl]⟩
    | some b =>
      refine .inl ⟨rfl, b, by rw [hpe, hjl], hW'.set hp ?_⟩
      have hjd : joinD (acc ++ [(cd, q)]) = b := by unfold joinD; rw [hjl]; rfl
      rw [hjd] at ho ⊢
      exact own_lower ho (by rw [World.size_alloc, World.size_alloc]; omega)
  have HJ := Lib.hid hj2
  clear hj hj2 hA hB2 hW hce hown hrd hpe hfx hx has
  go_enter Try.func34, Try.ntmps34
  go_wp2_with (go_at_call 19; (with_reducible refine HJ.out.mono ?_); rintro e w' ⟨A2, n2, c2, b, rfl, hc1, hc2, HR⟩)
  go_ret
  exact HR.out
set_option maxHeartbeats 8000000 in
theorem put_any (l : List Iv) (w0 : World) (na ma be ba bl : Nat) (hp : PutP w0 ma be ba bl) (hI : ∀ x ∈ l, ItemAt w0 x) (hS : SizesOk l) (hL : l.length ≤ 1000)
    (hK : ∀ x ∈ l, ∀ p ∈ x.it.parts, ∃ y, findIv l p.1 = some y) : ∀ (n : Nat) (c : ByteArray) (q : Int) (acc : List Prt) (w : World), (∃ d, Dep (itsOf l) c d ∧ d ≤ n) → Jd acc → InC (itsOf l) acc →
      PutW l w0 na ma be ba bl acc w →
    Calls Try.prog 34 #[.string c, .int .i64 q, .pointer (some ⟨ba, 0, none⟩), .pointer (some ⟨be, 0, none⟩), .pointer (some ⟨bl, 0, none⟩)] w (PutR l w0 na ma be ba bl n acc c q w) := by
  intro n
  induction n with
  | zero =>
    intro c q acc w ⟨d, hd, hn⟩
    have := hd.pos
    omega
  | succ n ih =>
    intro c q acc w ⟨d, hd, hn⟩ hj hin hW
    obtain ⟨y0, hy0⟩ : ∃ y, findI (itsOf l) c = some y := by
      cases hd with
      | mk x _ _ ds hx => exact ⟨x, hx⟩
    obtain ⟨x, hx, _⟩ := findIv_some hy0
    have hcs : c.size ≤ 140737488355328 := by
      have h := (hS x (findIv_mem hx)).1
      rw [findIv_code hx] at h
      exact h
    have hlen := jd_len hj hin
    rw [itsOf_len] at hlen
    have has : ∀ p ∈ acc, p.1.size ≤ maxLen := fun p hp => by
      obtain ⟨y, hy⟩ := hin p hp
      obtain ⟨z, hz, _⟩ := findIv_some hy
      have h := (hS z (findIv_mem hz)).1
      rw [findIv_code hz] at h
      unfold maxLen; omega
    obtain ⟨⟨cd, lf, ps, ot⟩, pA, pc, oA, oc⟩ := x
    obtain rfl : cd = c := findIv_code hx
    by_cases hps : ps = []
    · subst hps
      exact put_leaf l w0 na ma be ba bl n acc cd q lf ot pA oA pc oc w hp hx hcs (by omega) has hW
    · have hfx : findI (itsOf l) cd = some ⟨cd, lf, ps, ot⟩ := by rw [findIv_it, hx]; rfl
      have hpe := putE_kit (n := n) (acc := acc) (q := q) hfx hps
      simp only at hpe
      have hit := hW.item (c := cd) (by unfold maxLen; omega) hx
      have hitem := hI _ (findIv_mem hx)
      have hpk := hK _ (findIv_mem hx)
      have hpsz := (hS _ (findIv_mem hx)).2
      have ca := hW.ca
      have hpn := hitem.pn
      have hpm := hitem.pm
      unfold maxLen at hpm
      unfold aggIv Iv.pv Iv.ov at hit
      simp only at hit hpn hpm hpk hpsz
      have hf2 := field2
      have h0 : ((ps.length : Int) == 0) = false := by
        have : ps.length ≠ 0 := fun h => hps (List.eq_nil_of_length_eq_zero h)
        rw [beq_eq_false_iff_ne]; omega
      have hdp : ∀ p ∈ ps, ∃ d, Dep (itsOf l) p.1 d ∧ d ≤ n := fun p hp => by
        obtain ⟨m, hm, hlt⟩ := hd.edge (⟨_, hfx, p.2, hp⟩ : Edge (itsOf l) cd p.1)
        exact ⟨m, hm, by omega⟩
      have HPE := Lib.hid hpe
      have HIT := Lib.hid hitem
      have HDP := Lib.hid hdp
      have HIH := Lib.hid ih
      have HW := Lib.hid hW
      have HJ := Lib.hid hj
      have HIN := Lib.hid hin
      clear hpe hitem hpk hpsz hdp ih hW hj hin hI hS hK hfx hx hy0 hps has hd
      go_enter Try.func34, Try.ntmps34
      go_wp2_with fail
      go_loopw [37] (fun iv wr => ∃ (k : Nat) (b : List Prt), k ≤ ps.length ∧ iv = .int .i64 k ∧ Hid (PutW l w0 na ma be ba bl b wr) ∧ Hid (Tch (fun k => k = be) w wr) ∧ Hid (Jd b ∧ InC (itsOf l) b) ∧
        Hid (putE (itsOf l) (n + 1) acc cd q = putsE (itsOf l) n b q (ps.drop k))) (fun iv _ => ps.length - (intOf iv).toNat)
      case atStart => exact ⟨0, acc, Nat.zero_le _, rfl, HW, Tch.refl _ _, ⟨HJ.out, HIN.out⟩, HPE.out⟩
      case round =>
        clear hit ca HPE HW HJ HIN
        obtain ⟨k, b, hk, rfl, HW, HT, HJ, HQ⟩ := hrel
        by_cases hlt : k < ps.length
        · obtain ⟨b1, o1, hpa, h0, h1⟩ := (HIT.out.below HW.out.bel).part (j := k) hlt
          simp only at hpa h0 h1
          subst hpa
          obtain ⟨sq, hsq⟩ : ∃ sq, sq = ps[k] := ⟨_, rfl⟩
          have hpk : ps[k]? = some sq := by rw [List.getElem?_eq_getElem hlt, hsq]
          have hdr : ps.drop k = sq :: ps.drop (k + 1) := by rw [List.drop_eq_getElem_cons hlt, hsq]
          have hmem : sq ∈ ps := List.mem_of_getElem? hpk
          rw [← hsq] at h0 h1
          obtain ⟨s, pq⟩ := sq
          simp only at h0 h1
          have hB1 : Below wr.heap.size wr (wr.alloc (.cells #[.string s, .int .i64 pq] 39)) := (Below.refl _ _).alloc (Nat.le_refl _) _
          have hW1 := HW.out.below hB1
          have hT1 : Tch (fun k => k = be) w (wr.alloc (.cells #[.string s, .int .i64 pq] 39)) := HT.out.trans (Tch.of_below hB1 (fun k => k = be)) (fun k h => .inl h)
          have htm := times_any q pq (wr.alloc (.cells #[.string s, .int .i64 pq] 39))
          have hcl := hW1.cl
          obtain ⟨m, ok, hm⟩ : ∃ m ok, mulI q pq = (m, ok) := ⟨_, _, rfl⟩
          rw [hm] at htm
          simp only at htm
          have HTM := Lib.hid htm
          cases ok with
          | false =>
            have HV : Hid (PutR l w0 na ma be ba bl (n + 1) acc cd q w (.returned (.bool false)) (wr.alloc (.cells #[.string s, .int .i64 pq] 39))) := ⟨hT1, .inr ⟨rfl, by rw [HQ.out, hdr]; exact putsE_over (by rw [hm])⟩⟩
            clear htm hm hdr hpk hsq hmem HW HT HJ HQ hT1 hW1 hB1
            go_wp2_with (go_at_call 16; (with_reducible refine HTM.out.mono ?_); rintro e w' ⟨rfl, rfl⟩)
            go_ret
            exact HV.out
          | true =>
            have hih := HIH.out s m b _ (HDP.out _ hmem) HJ.out.1 HJ.out.2 hW1
            have hpc := putsE_cons (xs := itsOf l) (n := n) (acc := b) (r := ps.drop (k + 1)) (p := (s, pq)) hm
            simp only at hpc
            have hih2 : Calls Try.prog 34 #[.string s, .int .i64 m, .pointer (some ⟨ba, 0, none⟩), .pointer (some ⟨be, 0, none⟩), .pointer (some ⟨bl, 0, none⟩)] (wr.alloc (.cells #[.string s, .int .i64 pq] 39)) (fun e w' =>
                (e = .returned (.bool true) ∧ ∃ b2, Hid (PutW l w0 na ma be ba bl b2 w') ∧ Hid (Tch (fun k => k = be) w w') ∧ Hid (Jd b2 ∧ InC (itsOf l) b2) ∧ Hid (putE (itsOf l) (n + 1) acc cd q = putsE (itsOf l) n b2 q (ps.drop (k + 1)))) ∨
                (e = .returned (.bool false) ∧ Hid (PutR l w0 na ma be ba bl (n + 1) acc cd q w (.returned (.bool false)) w'))) := by
              refine hih.mono fun e w' ⟨hT, h⟩ => ?_
              have hT2 := hT1.trans hT (fun k h => .inl h)
              rcases h with ⟨rfl, b2, hb2, hW2⟩ | ⟨rfl, hno⟩
              · exact .inl ⟨rfl, b2, hW2, hT2, ⟨putE_jd hb2, putE_in hb2 HJ.out.2⟩, by rw [HQ.out, hdr, hpc, hb2]; exact rfl⟩
              · exact .inr ⟨rfl, hT2, .inr ⟨rfl, by rw [HQ.out, hdr, hpc, hno]; rfl⟩⟩
            have HIH2 := Lib.hid hih2
            clear htm hm hdr hpk hsq hmem HW HT HJ HQ hT1 hW1 hB1 hih hih2 hpc
            go_wp2_with (first | (go_at_call 16; (with_reducible refine HTM.out.mono ?_); rintro e w' ⟨rfl, rfl⟩) | (go_at_call 34; (with_reducible refine HIH2.out.mono ?_); rintro e w' (⟨rfl, b2, HW, HT, HJ, HQ⟩ | ⟨rfl, HV⟩)))
            · go_roundw
              case rel => exact ⟨k + 1, b2, by omega, by go_num, HW, HT, HJ, HQ⟩
              case measure => simp [intOf]; omega
            · go_ret
              exact HV.out
        · obtain rfl : k = ps.length := by omega
          have HV : Hid (PutR l w0 na ma be ba bl (n + 1) acc cd q w (.returned (.bool true)) wr) := ⟨HT.out, .inl ⟨rfl, b, by rw [HQ.out, List.drop_length]; exact putsE_nil HJ.out.1, HW.out⟩⟩
          clear HW HT HJ HQ
          go_wp2_with fail
          go_ret
          exact HV.out
end Go.Proofs.Ytnboigbknadpdaa
