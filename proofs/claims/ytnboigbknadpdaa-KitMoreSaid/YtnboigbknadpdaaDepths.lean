/- kit.depths: how deep items are; its search, by a contract of its own. -/
import Derived.Test.YtnboigbknadpdaaItems
import Derived.Test.YtnboigbknadpdaaRows2
import Derived.Laws.EntriesVeiled
set_option linter.unusedVariables false
set_option linter.unusedSimpArgs false
namespace Go.Proofs.Ytnboigbknadpdaa
set_option maxRecDepth 100000
open Go.RowKit SM
theorem tch_grown {S : Nat → Prop} {w w' : World} {b : Nat} (h : Tch S w w') (hs : ∀ k, S k → k = b) : w.grownBy w' (some b) := ⟨h.os, h.tape, h.output, h.size, fun k hk hne => h.block k hk fun h2 => hne (by rw [hs k h2])⟩
theorem SM.Tch.cell {S : Nat → Prop} {w w' : World} (h : Tch S w w') {b o : Nat} {v : Value} (hc : w.cell? ⟨b, o, none⟩ = some v) (hs : ¬ S b) : w'.cell? ⟨b, o, none⟩ = some v :=
  (World.cell?_of_block (w := w) (a := ⟨b, o, none⟩) (h.block b (World.block_lt_of_cell? w _ hc) hs)).trans hc
/-- A function value of three captured variables. -/
abbrev fn3 (f a b c : Nat) : Value := .func (.func f) #[] #[.pointer (some ⟨a, 0, none⟩), .pointer (some ⟨b, 0, none⟩), .pointer (some ⟨c, 0, none⟩)]
/-- What the search for depths finds in memory. -/
structure LookW (F : Nat) (l : List Iv) (w0 : World) (na ma mo bo ba bl m : Nat) (f : FI) (w : World) : Prop where
  bel : Below w0.heap.size w0 w
  co : w.cell? ⟨bo, 0, none⟩ = some (.map (some mo))
  ca : w.cell? ⟨ba, 0, none⟩ = some (.map (some ma))
  cl : w.cell? ⟨bl, 0, none⟩ = some (fn3 F bo ba bl)
  all : MapS w ma na (bookF l)
  out : MapS w mo m (asI f)
/-- The places differ. -/
structure LookP (w0 : World) (ma mo bo ba bl : Nat) : Prop where
  h0 : w0.heap.size ≤ mo
  h1 : mo ≠ bo
  h2 : mo ≠ ba
  h3 : mo ≠ bl
  h4 : mo ≠ ma
section
variable {F : Nat} {l : List Iv} {w0 w w' : World} {na ma mo bo ba bl m m' : Nat} {f f' : FI}
theorem LookW.tch (h : LookW F l w0 na ma mo bo ba bl m f w) (hp : LookP w0 ma mo bo ba bl) (ht : Tch (fun k => k = mo) w w') (ho : MapS w' mo m' (asI f')) : LookW F l w0 na ma mo bo ba bl m' f' w' where
  bel := ht.below h.bel h.bel.size (fun k hk => by rw [hk]; exact hp.h0)
  co := ht.cell h.co (fun e => hp.h1 e.symm)
  ca := ht.cell h.ca (fun e => hp.h2 e.symm)
  cl := ht.cell h.cl (fun e => hp.h3 e.symm)
  all := h.all.kept (tch_grown ht fun _ h => h) (fun e => by injection e with e; exact hp.h4 e.symm)
  out := ho
theorem LookW.alloc (h : LookW F l w0 na ma mo bo ba bl m f w) (hp : LookP w0 ma mo bo ba bl) (o : Obj) : LookW F l w0 na ma mo bo ba bl m f (w.alloc o) :=
  h.tch hp (Tch.of_below ((Below.refl _ w).alloc (Nat.le_refl _) o) _) (h.out.alloc o)
theorem LookW.other {S : Nat → Prop} (h : LookW F l w0 na ma mo bo ba bl m f w) (ht : Tch S w w') (hs : ∀ k, S k → w0.heap.size ≤ k ∧ k ≠ bo ∧ k ≠ ba ∧ k ≠ bl ∧ k ≠ ma ∧ k ≠ mo) : LookW F l w0 na ma mo bo ba bl m f w' where
  bel := ht.below h.bel h.bel.size (fun k hk => (hs k hk).1)
  co := ht.cell h.co (fun e => (hs _ e).2.1 rfl)
  ca := ht.cell h.ca (fun e => (hs _ e).2.2.1 rfl)
  cl := ht.cell h.cl (fun e => (hs _ e).2.2.2.1 rfl)
  all := h.all.same (ht.block _ h.all.lt (fun e => (hs _ e).2.2.2.2.1 rfl))
  out := h.out.same (ht.block _ h.out.lt (fun e => (hs _ e).2.2.2.2.2 rfl))
theorem LookW.look (h : LookW F l w0 na ma mo bo ba bl m f w) {c : ByteArray} (hc : c.size ≤ maxLen) : (Instr.lookup 55 (.map (some mo)) (.string c) false).run Try.prog w = .ok (.int .i64 ((f c).getD 0)) w := by
  have h := h.out.look false Try.underlying55 (zeroInt0 _) (x := c) hc
  rw [asI_getD] at h
  exact h
theorem LookW.item (h : LookW F l w0 na ma mo bo ba bl m f w) {c : ByteArray} (hc : c.size ≤ maxLen) {x : Iv} (hx : findIv l c = some x) : (Instr.lookup 54 (.map (some ma)) (.string c) false).run Try.prog w = .ok (aggIv x) w := by
  have h := h.all.look false Try.underlying54 (zeroItem _) (x := c) hc
  have e : bookF l c = some (aggIv x) := by unfold bookF; rw [hx]; rfl
  rw [e] at h
  exact h
theorem LookW.store (h : LookW F l w0 na ma mo bo ba bl m f w) (hp : LookP w0 ma mo bo ba bl) {c : ByteArray} (hc : c.size ≤ maxLen) (hm : m ≤ 1000000) (v : Int) : ∃ w', (Instr.mapUpdate 55 (.map (some mo)) (.string c) (.int .i64 v)).run Try.prog w = .ok () w' ∧ LookW F l w0 na ma mo bo ba bl (m + 1) (updI f c v) w' ∧ Tch (fun k => k = mo) w w' := by
  obtain ⟨w3, hst, hmap3, hg3⟩ := h.out.store Try.underlying55 (by unfold maxLen; omega) (x := c) hc (.int .i64 v)
  rw [asI_upd] at hmap3
  have ht : Tch (fun k => k = mo) w w3 := Tch.of_grown hg3 (fun k hk => by injection hk with hk; exact hk.symm)
  exact ⟨w3, hst, h.tch hp ht hmap3, ht⟩
end
/-- What the search answers. -/
def LookR (l : List Iv) (w0 : World) (na ma mo bo ba bl m : Nat) (f : FI) (c : ByteArray) (w : World) (e : Ending) (w' : World) : Prop :=
  Tch (fun k => k = mo) w w' ∧ ((e = .returned (.bool true) ∧ ∃ g m', LookW 66 l w0 na ma mo bo ba bl m' g w' ∧ LookOk (itsOf l) f g c ∧ m' + 2 * untold (itsOf l) g ≤ m + 2 * untold (itsOf l) f) ∨
    (e = .returned (.bool false) ∧ ¬ ∃ n, Dep (itsOf l) c n))
set_option maxHeartbeats 8000000 in
theorem look_told (l : List Iv) (w0 : World) (na ma mo bo ba bl : Nat) (c : ByteArray) (f : FI) (m : Nat) (w : World) (hcs : c.size ≤ maxLen) (hinv : LookInv (itsOf l) f c) (hW : LookW 66 l w0 na ma mo bo ba bl m f w) (v : Int) (hf : f c = some v) :
    Calls Try.prog 66 #[.string c, .pointer (some ⟨bo, 0, none⟩), .pointer (some ⟨ba, 0, none⟩), .pointer (some ⟨bl, 0, none⟩)] w (LookR l w0 na ma mo bo ba bl m f c w) := by
  have co := hW.co
  have hl0 := hW.look hcs
  rw [hf] at hl0
  simp only [Option.getD_some] at hl0
  have hvz := look_nz hinv hf
  have hsn := look_seen hinv hf
  have HW := Lib.hid hW
  have HS := Lib.hid hsn
  have hz : (v != 0) = true := by rw [bne_iff_ne]; omega
  by_cases hv : 0 < v
  · clear hW hsn hf hinv hvz
    go_enter Try.func66, Try.ntmps66
    go_wp2_with fail
    go_ret
    exact ⟨Tch.refl _ _, .inl ⟨rfl, f, m, HW.out, HS.out.1 hv, Nat.le_refl _⟩⟩
  · clear hW hsn hf hinv hvz
    go_enter Try.func66, Try.ntmps66
    go_wp2_with fail
    go_ret
    exact ⟨Tch.refl _ _, .inr ⟨rfl, HS.out.2 hv⟩⟩
set_option maxHeartbeats 8000000 in
theorem look_any (l : List Iv) (w0 : World) (na ma mo bo ba bl : Nat) (hp : LookP w0 ma mo bo ba bl) (hI : ∀ x ∈ l, ItemAt w0 x) (hS : SizesOk l) (hL : l.length ≤ 1000)
    (hK : ∀ x ∈ l, ∀ p ∈ x.it.parts, ∃ y, findIv l p.1 = some y) : ∀ (n : Nat) (c : ByteArray) (f : FI) (m : Nat) (w : World), untold (itsOf l) f ≤ n → (∃ x, findIv l c = some x) → LookInv (itsOf l) f c →
      LookW 66 l w0 na ma mo bo ba bl m f w → m + 2 * untold (itsOf l) f ≤ 1000000 →
    Calls Try.prog 66 #[.string c, .pointer (some ⟨bo, 0, none⟩), .pointer (some ⟨ba, 0, none⟩), .pointer (some ⟨bl, 0, none⟩)] w (LookR l w0 na ma mo bo ba bl m f c w) := by
  intro n
  induction n with
  | zero =>
    intro c f m w hn ⟨x, hx⟩ hinv hW hm
    have hcs : c.size ≤ maxLen := by
      have h := (hS x (findIv_mem hx)).1
      rw [findIv_code hx] at h
      unfold maxLen; omega
    cases hf : f c with
    | some v => exact look_told l w0 na ma mo bo ba bl c f m w hcs hinv hW v hf
    | none =>
      have hfx : findI (itsOf l) c = some x.it := by rw [findIv_it, hx]; rfl
      have := untold_upd hf (-1) (xs := itsOf l) ⟨x.it, findI_mem hfx, findI_code hfx⟩
      omega
  | succ n ih =>
    intro c f m w hn ⟨x, hx⟩ hinv hW hm
    have hcs : c.size ≤ maxLen := by
      have h := (hS x (findIv_mem hx)).1
      rw [findIv_code hx] at h
      unfold maxLen; omega
    have co := hW.co
    have hl0 := hW.look hcs
    cases hf : f c with
    | some v => exact look_told l w0 na ma mo bo ba bl c f m w hcs hinv hW v hf
    | none =>
      rw [hf] at hl0
      simp only [Option.getD_none] at hl0
      obtain ⟨⟨cd, lf, ps, ot⟩, pA, pc, oA, oc⟩ := x
      obtain rfl : cd = c := findIv_code hx
      obtain ⟨w1, hst1, hW1, hT1⟩ := hW.store hp hcs (by omega) (-1)
      have hfx : findI (itsOf l) cd = some ⟨cd, lf, ps, ot⟩ := by rw [findIv_it, hx]; rfl
      have hu1 := untold_upd hf (-1) (xs := itsOf l) ⟨_, findI_mem hfx, findI_code hfx⟩
      have hit := hW1.item hcs hx
      have hitem := hI _ (findIv_mem hx)
      have hpk := hK _ (findIv_mem hx)
      have hps := (hS _ (findIv_mem hx)).2
      have ca1 := hW1.ca
      have hpn := hitem.pn
      have hpm := hitem.pm
      unfold maxLen at hpm
      unfold aggIv Iv.pv Iv.ov at hit
      simp only at hit hpn hpm hpk hps
      have hf2 := field2
      have HW1 := Lib.hid hW1
      have HT1 := Lib.hid hT1
      have HINV := Lib.hid hinv
      have HF := Lib.hid hf
      have HFX := Lib.hid hfx
      have HIT := Lib.hid hitem
      have HPK := Lib.hid hpk
      have HPS := Lib.hid hps
      have HIH := Lib.hid ih
      have HX := Lib.hid hx
      clear hW hW1 hT1 hinv hf hfx hitem hpk hps ih hI hS hK hx
      go_enter Try.func66, Try.ntmps66
      go_wp2_with fail
      go_loopw [7, 24] (fun nv iv wr => ∃ (k d m2 : Nat) (g : FI), k ≤ ps.length ∧ iv = .int .i64 k ∧ nv = .int .i64 d ∧ Hid (LookW 66 l w0 na ma mo bo ba bl m2 g wr) ∧ Hid (Tch (fun k => k = mo) w wr) ∧
        Hid (Keeps (itsOf l) (updI f cd (-1)) g ∧ Upto (itsOf l) ps k d) ∧ m2 + 2 * untold (itsOf l) g ≤ m + 1 + 2 * untold (itsOf l) (updI f cd (-1)) ∧ d ≤ 1000000) (fun _ iv _ => ps.length - (intOf iv).toNat)
      case atStart => exact ⟨0, 1, m + 1, updI f cd (-1), Nat.zero_le _, rfl, rfl, HW1, HT1, ⟨Keeps.refl _ _, Upto.zero _ _⟩, Nat.le_refl _, by omega⟩
      case round =>
        clear hl0 hst1 ca1 hit HW1 HT1
        obtain ⟨k, d, m2, g, hk, rfl, rfl, HW, HT, HU, hm2, hd⟩ := hrel
        by_cases hlt : k < ps.length
        · obtain ⟨b, o, hpa, h0, h1⟩ := (HIT.out.below HW.out.bel).part (j := k) hlt
          simp only at hpa h0 h1
          subst hpa
          obtain ⟨sq, hsq⟩ : ∃ sq, sq = ps[k] := ⟨_, rfl⟩
          have hpk : ps[k]? = some sq := by rw [List.getElem?_eq_getElem hlt, hsq]
          have hmem : sq ∈ ps := List.mem_of_getElem? hpk
          rw [← hsq] at h0 h1
          clear hsq
          obtain ⟨s, q⟩ := sq
          simp only at h0 h1
          have hss := HPS.out _ hmem
          simp only at hss
          have hW1 := HW.out.alloc hp (.cells #[.string s, .int .i64 q] 39)
          have hless := HU.out.1.less
          have hih := HIH.out s g m2 _ (by omega) (HPK.out _ hmem) (look_part HINV.out HF.out HU.out.1 HFX.out hmem) hW1 (by omega)
          have hcl := hW1.cl
          have hih2 : Calls Try.prog 66 #[.string s, .pointer (some ⟨bo, 0, none⟩), .pointer (some ⟨ba, 0, none⟩), .pointer (some ⟨bl, 0, none⟩)] (wr.alloc (.cells #[.string s, .int .i64 q] 39)) (fun e w' =>
              w'.cell? ⟨bo, 0, none⟩ = some (.map (some mo)) ∧ w'.cell? ⟨wr.heap.size, 0, none⟩ = some (.string s) ∧ Hid (Tch (fun k => k = mo) w w') ∧
              ((e = .returned (.bool true) ∧ ∃ (d2 m3 : Nat) (g2 : FI), (Instr.lookup 55 (.map (some mo)) (.string s) false).run Try.prog w' = .ok (.int .i64 d2) w' ∧ d2 ≤ 1000 ∧ m3 + 2 * untold (itsOf l) g2 ≤ m + 1 + 2 * untold (itsOf l) (updI f cd (-1)) ∧
                  Hid (LookW 66 l w0 na ma mo bo ba bl m3 g2 w') ∧ Hid (Keeps (itsOf l) (updI f cd (-1)) g2 ∧ Upto (itsOf l) ps (k + 1) (max d (d2 + 1)))) ∨
                (e = .returned (.bool false) ∧ Hid (¬ ∃ n, Dep (itsOf l) cd n)))) := by
            refine hih.mono fun e w' ⟨hT, h⟩ => ?_
            refine ⟨hT.cell hW1.co (fun e => hp.h1 e.symm), hT.cell (by simp) (fun e => ?_), ?_, ?_⟩
            · have := hW1.out.lt
              have := HW.out.out.lt
              omega
            · exact (HT.out.trans (Tch.of_below ((Below.refl _ wr).alloc (Nat.le_refl _) _) (fun k => k = mo)) (fun k h => .inl h)).trans hT (fun k h => .inl h)
            · rcases h with ⟨rfl, g2, m3, hW2, ⟨hk2, d2, hg2, hd2⟩, hm3⟩ | ⟨rfl, hno⟩
              · have hl2 := hW2.look (c := s) (by unfold maxLen; omega)
                rw [hg2] at hl2
                have := hd2.le_len
                rw [itsOf_len] at this
                exact .inl ⟨rfl, d2, m3, g2, hl2, by omega, by omega, hW2, HU.out.1.trans hk2, HU.out.2.succ hpk hd2⟩
              · exact .inr ⟨rfl, look_bad HFX.out hmem hno⟩
          have HIH2 := Lib.hid hih2
          clear hih hih2 hW1 HW HU HT hmem hpk
          go_wp2_with (go_at_call 66; (with_reducible refine HIH2.out.mono ?_); rintro e w' ⟨hco, hcp, HT, ⟨rfl, d2, m3, g2, hl2, hd2, hm3, HW, HU⟩ | ⟨rfl, HN⟩⟩)
          · go_roundw
            case rel => exact ⟨k + 1, max d (d2 + 1), m3, g2, by omega, by go_num, by congr 1; omega, HW, HT, HU, hm3, by omega⟩
            case measure => simp [intOf]; omega
          · go_ret
            exact ⟨HT.out, .inr ⟨rfl, HN.out⟩⟩
        · obtain rfl : k = ps.length := by omega
          obtain ⟨w3, hst3, hW3, hT3⟩ := HW.out.store hp hcs (by omega) d
          have hco := HW.out.co
          have hless := HU.out.1.less
          have hle2 : untold (itsOf l) (updI g cd d) ≤ untold (itsOf l) g := untold_le (fun s hs => by
            unfold updI; split
            · simp
            · exact hs) _
          have HW3 := Lib.hid hW3
          have HT3 := Lib.hid (HT.out.trans hT3 (fun k h => .inl h))
          have HOK := Lib.hid (look_done HF.out HU.out.1 HFX.out HU.out.2)
          clear HW HT HU hW3 hT3
          go_wp2_with fail
          go_ret
          exact ⟨HT3.out, .inl ⟨rfl, _, _, HW3.out, HOK.out, by omega⟩⟩
/-- The depths as a map. -/
def depF (xs : List It) : FI := fun s => if depI xs s = 0 then none else some (depI xs s : Int)
theorem depF_of {xs : List It} (hu : Uniq xs) {f : FI} (hk : Keeps xs (fun _ => none) f) (hall : ∀ x ∈ xs, ∃ v, f x.code = some v) : f = depF xs := by
  funext s
  unfold depF
  cases hf : f s with
  | some v =>
    obtain ⟨d, rfl, hd⟩ := hk.2 s v rfl hf
    have h1 := depI_of hu hd
    have := hd.pos
    rw [h1, if_neg (by omega)]
  | none =>
    cases hi : findI xs s with
    | none => rw [depI_none hi]; rfl
    | some x =>
      obtain ⟨v, hv⟩ := hall x (findI_mem hi)
      rw [findI_code hi, hf] at hv
      cases hv
def DepthsR (l : List Iv) (w : World) (e : Ending) (w' : World) : Prop :=
  Below w.heap.size w w' ∧ ((∃ mo m : Nat, e = .returned (.tuple #[.map (some mo), .bool true]) ∧ w.heap.size ≤ mo ∧ m ≤ 1000000 ∧ MapS w' mo m (asI (depF (itsOf l))) ∧ ∀ x ∈ itsOf l, depI (itsOf l) x.code ≠ 0) ∨
    (e = .returned (.tuple #[.map none, .bool false]) ∧ ∃ x ∈ itsOf l, depI (itsOf l) x.code = 0))
set_option maxHeartbeats 8000000 in
theorem kitDepths_any (l : List Iv) (w : World) (na ma : Nat) (hI : ∀ x ∈ l, ItemAt w x) (hS : SizesOk l) (hL : l.length ≤ 1000) (hu : Uniq (itsOf l))
    (hK : ∀ x ∈ l, ∀ p ∈ x.it.parts, ∃ y, findIv l p.1 = some y) (hM : MapS w ma na (bookF l)) : Calls Try.prog 51 #[.map (some ma)] w (DepthsR l w) := by
  have hmm := @run_makeMap Try.prog
  obtain ⟨N, hN⟩ : ∃ N, N = w.heap.size := ⟨_, rfl⟩
  obtain ⟨W4, hW4⟩ : ∃ W4, W4 = ((((w.alloc (.cells #[.map (some ma)] 54)).alloc (.map #[] 0)).alloc (.cells #[.map (some (w.heap.size + 1))] 55)).alloc (.cells #[fn3 66 (w.heap.size + 1 + 1) w.heap.size (w.heap.size + 1 + 1 + 1)] 58)) := ⟨_, rfl⟩
  have hM4 : MapS W4 ma na (bookF l) := by rw [hW4]; exact (((hM.alloc _).alloc _).alloc _).alloc _
  have hO4 : MapS W4 (N + 1) 0 (asI fun _ => none) := by
    rw [hW4, hN]
    have h := ((MapAt.made (strKK (P := Try.prog) Try.underlying9) (w.alloc (.cells #[.map (some ma)] 54))).alloc (.cells #[.map (some (w.heap.size + 1))] 55)).alloc (.cells #[fn3 66 (w.heap.size + 1 + 1) w.heap.size (w.heap.size + 1 + 1 + 1)] 58)
    rw [World.size_alloc] at h
    exact h
  have hB4 : Below w.heap.size w W4 := by rw [hW4]; exact ((((Below.refl _ w).alloc (Nat.le_refl _) _).alloc (by simp) _).alloc (by simp; omega) _).alloc (by simp; omega) _
  have hs4 : W4.heap.size = N + 4 := by rw [hW4, hN]; simp
  have hco4 : W4.cell? ⟨N + 1 + 1, 0, none⟩ = some (.map (some (N + 1))) := by rw [hW4, hN, World.cell?_alloc_past _ _ _ (by simp), World.cell?_alloc_at _ _ _ _ (by simp)]; rfl
  have hca4 : W4.cell? ⟨N, 0, none⟩ = some (.map (some ma)) := by rw [hW4, hN, World.cell?_alloc_past _ _ _ (by simp; omega), World.cell?_alloc_past _ _ _ (by simp; omega), World.cell?_alloc_past _ _ _ (by simp), World.cell?_alloc_at _ _ _ _ rfl]; rfl
  have hcl4 : W4.cell? ⟨N + 1 + 1 + 1, 0, none⟩ = some (fn3 66 (N + 1 + 1) N (N + 1 + 1 + 1)) := by rw [hW4, hN, World.cell?_alloc_at _ _ _ _ (by simp)]; rfl
  have hma : ma < N := by rw [hN]; exact hM.lt
  obtain ⟨w5, cnt0, hrun5, hrg5, hcn, hg5, hs5⟩ := hM4.range (t := 54) Try.underlying54
  have hp : LookP w ma (N + 1) (N + 1 + 1) N (N + 1 + 1 + 1) := ⟨by omega, by omega, by omega, by omega, by omega⟩
  have hT5 : Tch (fun _ => False) W4 w5 := Tch.of_grown hg5 (fun k hk => by cases hk)
  have hW5 : LookW 66 l w na ma (N + 1) (N + 1 + 1) N (N + 1 + 1 + 1) 0 (fun _ => none) w5 :=
    LookW.other ⟨hB4, hco4, hca4, hcl4, hM4, hO4⟩ hT5 (fun k hk => hk.elim)
  obtain ⟨R, hR⟩ : ∃ R, R = W4.heap.size := ⟨_, rfl⟩
  rw [← hR] at hrun5 hrg5
  have hRN : R = N + 4 := by omega
  have HR := Lib.hid hRN
  have hml := hrg5.lt
  rw [hW4] at hrun5
  have HRG := Lib.hid hrg5
  have HW5 := Lib.hid hW5
  have HLA := Lib.hid (look_any l w na ma (N + 1) (N + 1 + 1) N (N + 1 + 1 + 1) hp hI hS hL hK)
  have HU := Lib.hid hu
  have HP := Lib.hid hp
  have HMA := Lib.hid hma
  have HN := Lib.hid hN
  subst hN
  clear hW4 hM4 hO4 hB4 hs4 hco4 hca4 hcl4 hcn hg5 hs5 hp hT5 hW5 hR hRN hrg5 hI hS hK hM hu hma
  go_enter Try.func51, Try.ntmps51
  go_wp2_with fail
  go_loopw [] (fun wr => ∃ (done : List ByteArray) (cnt m : Nat) (f : FI), Hid (RangeS wr ma R na (bookF l) done cnt) ∧ Hid (LookW 66 l w na ma (w.heap.size + 1) (w.heap.size + 1 + 1) w.heap.size (w.heap.size + 1 + 1 + 1) m f wr) ∧ Hid (Keeps (itsOf l) (fun _ => none) f ∧ ∀ c ∈ done, ∃ v, f c = some v) ∧ m + 2 * untold (itsOf l) f ≤ 2 * l.length ∧ Hid (R < wr.heap.size)) (fun wr => wr.rangeLeft ma R)
  case atStart =>
    refine ⟨[], cnt0, 0, fun _ => none, HRG, HW5, ⟨Keeps.refl _ _, fun c hc => by cases hc⟩, ?_, hml⟩
    have := untold_all (itsOf l) (fun _ => none)
    rw [itsOf_len] at this
    omega
  case round =>
    clear hrun5
    obtain ⟨done, cnt, m, f, HRG, HW, HK, hm, HRL⟩ := hrel
    have hlR := HRL.out
    have hRN := HR.out
    have hco := HW.out.co
    rcases HRG.out.next 0 with ⟨hc0, hall, hrun⟩ | ⟨x, v, w6, cnt', hnd, hfx, hokx, hrun, hrg6, hclt, hg6, hs6, hen⟩
    · have hF : f = depF (itsOf l) := depF_of HU.out HK.out.1 fun x hx => by
        obtain ⟨y, hy, hyx⟩ := List.mem_map.1 hx
        obtain ⟨i, hi, he⟩ := List.getElem_of_mem hx
        have hfx : findI (itsOf l) x.code = some x := (HU.out i x (by rw [List.getElem?_eq_getElem hi, he])).1
        obtain ⟨z, hz, hzx⟩ := findIv_some hfx
        exact HK.out.2 _ (hall x.code (by unfold bookF; rw [hz]; rfl))
      have hD : ∀ x ∈ itsOf l, depI (itsOf l) x.code ≠ 0 := fun x hx => by
        obtain ⟨i, hi, he⟩ := List.getElem_of_mem hx
        have hfx : findI (itsOf l) x.code = some x := (HU.out i x (by rw [List.getElem?_eq_getElem hi, he])).1
        obtain ⟨z, hz, hzx⟩ := findIv_some hfx
        obtain ⟨v, hv⟩ := HK.out.2 _ (hall x.code (by unfold bookF; rw [hz]; rfl))
        obtain ⟨d, rfl, hd⟩ := HK.out.1.2 _ _ rfl hv
        rw [depI_of HU.out hd]
        have := hd.pos
        omega
      have hout := HW.out.out
      rw [hF] at hout
      have HE := Lib.hid (And.intro HW.out.bel (And.intro hout hD))
      clear hRN hF hD hout HW HRG HK hall
      go_wp2_with fail
      go_ret2
      exact ⟨HE.out.1, .inl ⟨_, _, rfl, by omega, by have := HR.out; omega, HE.out.2.1, HE.out.2.2⟩⟩
    · obtain ⟨y, hy, rfl⟩ : ∃ y, findIv l x = some y ∧ v = aggIv y := by
        unfold bookF at hfx
        obtain ⟨y, h1, h2⟩ := Option.map_eq_some_iff.1 hfx
        exact ⟨y, h1, h2.symm⟩
      have hp := HP.out
      have hma := HMA.out
      have hT6 : Tch (fun k => k = R) wr w6 := Tch.of_grown hg6 (fun k hk => by injection hk with hk; exact hk.symm)
      have hW6 := HW.out.other hT6 (fun k hk => by rw [hk]; exact ⟨by omega, by omega, by omega, by omega, by omega, by omega⟩)
      have hcl := hW6.cl
      have hih := HLA.out _ x f m w6 (Nat.le_refl _) ⟨y, hy⟩ (fun s v hs => .inl (HK.out.1.2 s v rfl hs)) hW6 (by have := untold_all (itsOf l) f; omega)
      have hih2 : Calls Try.prog 66 #[.string x, .pointer (some ⟨w.heap.size + 1 + 1, 0, none⟩), .pointer (some ⟨w.heap.size, 0, none⟩), .pointer (some ⟨w.heap.size + 1 + 1 + 1, 0, none⟩)] w6 (fun e w' =>
          ((e = .returned (.bool true) ∧ ∃ (m3 : Nat) (g2 : FI), m3 + 2 * untold (itsOf l) g2 ≤ 2 * l.length ∧ Hid (wr.rangeLeft ma R = cnt ∧ w'.rangeLeft ma R = cnt') ∧ Hid (RangeS w' ma R na (bookF l) (done ++ [x]) cnt') ∧
              Hid (LookW 66 l w na ma (w.heap.size + 1) (w.heap.size + 1 + 1) w.heap.size (w.heap.size + 1 + 1 + 1) m3 g2 w') ∧ Hid (Keeps (itsOf l) (fun _ => none) g2 ∧ ∀ c ∈ done ++ [x], ∃ v, g2 c = some v) ∧ Hid (R < w'.heap.size)) ∨
            (e = .returned (.bool false) ∧ Hid (DepthsR l w (.returned (.tuple #[.map none, .bool false])) w')))) := by
        refine hih.mono fun e w' ⟨hT, h⟩ => ?_
        rcases h with ⟨rfl, g2, m3, hW2, ⟨hk2, d2, hg2, hd2⟩, hm3⟩ | ⟨rfl, hno⟩
        · have hrg7 : RangeS w' ma R na (bookF l) (done ++ [x]) cnt' := hrg6.kept (tch_grown hT fun _ h => h) (fun e => by injection e with e; omega) (fun e => by injection e with e; omega)
          refine .inl ⟨rfl, m3, g2, by omega, ⟨HRG.out.left_eq, hrg7.left_eq⟩, hrg7, hW2, ⟨HK.out.1.trans hk2, fun c hc => ?_⟩, ?_⟩
          · rcases List.mem_append.1 hc with hc | hc
            · obtain ⟨v, hv⟩ := HK.out.2 c hc
              exact ⟨v, hk2.1 c v hv⟩
            · simp only [List.mem_singleton] at hc
              subst hc
              exact ⟨_, hg2⟩
          · have := hT.size
            show R < w'.heap.size
            omega
        · refine .inr ⟨rfl, hT.below hW6.bel hW6.bel.size (fun k hk => by rw [hk]; exact hp.h0), .inr ⟨rfl, y.it, List.mem_map.2 ⟨y, findIv_mem hy, rfl⟩, ?_⟩⟩
          rw [findIv_code hy]
          rcases Nat.eq_zero_or_pos (depI (itsOf l) x) with h0 | h0
          · exact h0
          · exact absurd ⟨_, dep_of HU.out (by omega)⟩ hno
      have HIH := Lib.hid hih2
      unfold aggIv at hrun hen
      clear hRN hih hih2 hW6 HW HK HRG hT6 hg6 hrg6 hnd hfx hokx hy
      replace hrun : (Instr.next (.pointer (some ⟨R, 0, none⟩)) false 0).run Try.prog wr = .ok (.tuple #[.bool true, .string x, .agg #[.string y.it.code, .int .i64 y.it.life, y.pv, y.ov]]) w6 := hrun
      replace hen : (Instr.entry (.pointer (some ⟨R, 0, none⟩))).run Try.prog w6 = .ok (.tuple #[.string x, .agg #[.string y.it.code, .int .i64 y.it.life, y.pv, y.ov]]) w6 := hen
      go_wp2_with (go_at_call 66; (with_reducible refine HIH.out.mono ?_); rintro e w' (⟨rfl, m3, g2, hm3, HC, HRG, HW, HK, HRL2⟩ | ⟨rfl, HE⟩))
      · go_roundw
        case rel => exact ⟨_, _, m3, g2, HRG, HW, HK, hm3, HRL2⟩
        case measure => rw [HC.out.1, HC.out.2]; exact hclt
      · go_ret2
        exact HE.out
end Go.Proofs.Ytnboigbknadpdaa
