/- kit.Within: what is within an item; its search, by a contract of its own. -/
import Derived.Test.YtnboigbknadpdaaKitParts
import Derived.Test.YtnboigbknadpdaaSortStr
set_option linter.unusedVariables false
set_option linter.unusedSimpArgs false
namespace Go.Proofs.Ytnboigbknadpdaa
set_option maxRecDepth 100000
open Go.RowKit SM
/-- All counts are at least one, and no more than m. -/
def Cnt (f : FI) (m : Nat) : Prop := ∀ s v, f s = some v → 1 ≤ v ∧ v ≤ m
theorem Cnt.upd {f : FI} {m : Nat} (h : Cnt f m) {c : ByteArray} {v : Int} (h1 : 1 ≤ v) (h2 : v ≤ m + 1) : Cnt (updI f c v) (m + 1) := fun s u hs => by
  unfold updI at hs
  split at hs
  · cases hs; exact ⟨h1, by omega⟩
  · have := h s u hs; omega
theorem Cnt.getD {f : FI} {m : Nat} (h : Cnt f m) (c : ByteArray) : ((f c).getD 0 = 0 ∧ f c = none) ∨ (1 ≤ (f c).getD 0 ∧ (f c).getD 0 ≤ m ∧ Told f c) := by
  cases hf : f c with
  | none => exact .inl ⟨rfl, rfl⟩
  | some v => exact .inr ⟨(h c v hf).1, (h c v hf).2, by unfold Told; rw [hf]; simp⟩
def WithR (l : List Iv) (w0 : World) (na ma ms bs ba bl m : Nat) (f : FI) (c : ByteArray) (w : World) (e : Ending) (w' : World) : Prop :=
  e = .returned (.tuple #[]) ∧ Tch (fun k => k = ms) w w' ∧ ∃ g m', LookW 35 l w0 na ma ms bs ba bl m' g w' ∧ Fills (itsOf l) f g c ∧ Cnt g m' ∧ m' + 8 * untold (itsOf l) g ≤ m + 8 * untold (itsOf l) f + 1
set_option maxHeartbeats 8000000 in
theorem within_told (l : List Iv) (w0 : World) (na ma ms bs ba bl : Nat) (hp : LookP w0 ma ms bs ba bl) (c : ByteArray) (f : FI) (m : Nat) (w : World) (hcs : c.size ≤ maxLen) (hcn : Cnt f m)
    (hW : LookW 35 l w0 na ma ms bs ba bl m f w) (hm : m ≤ 900000) (hf : Told f c) :
    Calls Try.prog 35 #[.string c, .pointer (some ⟨bs, 0, none⟩), .pointer (some ⟨ba, 0, none⟩), .pointer (some ⟨bl, 0, none⟩)] w (WithR l w0 na ma ms bs ba bl m f c w) := by
  have co := hW.co
  have hl0 := hW.look hcs
  obtain ⟨cur, hcur⟩ : ∃ cur, cur = (f c).getD 0 := ⟨_, rfl⟩
  have hcg := hcn.getD c
  rw [← hcur] at hcg hl0
  obtain ⟨w1, hst1, hW1, hT1⟩ := hW.store hp hcs (by omega) (cur + 1)
  have co1 := hW1.co
  have hl1 := hW1.look hcs
  rw [updI_same, Option.getD_some] at hl1
  rcases hcg with ⟨_, hf2⟩ | ⟨hc1, hc2, _⟩
  · exact absurd hf2 hf
  · have hF := Fills.seen (xs := itsOf l) (cur + 1) hf
    have hle := hF.untold_le
    have HR : Hid (WithR l w0 na ma ms bs ba bl m f c w (.returned (.tuple #[])) w1) := ⟨rfl, hT1, _, m + 1, hW1, hF, hcn.upd (by omega) (by omega), by omega⟩
    clear hW hT1 hW1 hcn hF hf hp hcur hle
    go_enter Try.func35, Try.ntmps35
    go_wp2_with fail
    go_end0
    exact HR.out
set_option maxHeartbeats 8000000 in
theorem within_any (l : List Iv) (w0 : World) (na ma ms bs ba bl : Nat) (hp : LookP w0 ma ms bs ba bl) (hI : ∀ x ∈ l, ItemAt w0 x) (hS : SizesOk l) (h8 : ∀ x ∈ l, x.it.parts.length ≤ 8)
    (hK : ∀ x ∈ l, ∀ p ∈ x.it.parts, ∃ y, findIv l p.1 = some y) : ∀ (n : Nat) (c : ByteArray) (f : FI) (m : Nat) (w : World), untold (itsOf l) f ≤ n → (∃ x, findIv l c = some x) → Cnt f m →
      LookW 35 l w0 na ma ms bs ba bl m f w → m + 8 * untold (itsOf l) f ≤ 900000 →
    Calls Try.prog 35 #[.string c, .pointer (some ⟨bs, 0, none⟩), .pointer (some ⟨ba, 0, none⟩), .pointer (some ⟨bl, 0, none⟩)] w (WithR l w0 na ma ms bs ba bl m f c w) := by
  intro n
  induction n with
  | zero =>
    intro c f m w hn ⟨x, hx⟩ hcn hW hm
    have hcs : c.size ≤ maxLen := by
      have h := (hS x (findIv_mem hx)).1
      rw [findIv_code hx] at h
      unfold maxLen; omega
    by_cases hf : f c = none
    · have hfx : findI (itsOf l) c = some x.it := by rw [findIv_it, hx]; rfl
      have := untold_upd hf 1 (xs := itsOf l) ⟨x.it, findI_mem hfx, findI_code hfx⟩
      omega
    · exact within_told l w0 na ma ms bs ba bl hp c f m w hcs hcn hW (by omega) hf
  | succ n ih =>
    intro c f m w hn ⟨x, hx⟩ hcn hW hm
    have hcs : c.size ≤ maxLen := by
      have h := (hS x (findIv_mem hx)).1
      rw [findIv_code hx] at h
      unfold maxLen; omega
    by_cases hf : f c = none
    · have co := hW.co
      have hl0 := hW.look hcs
      rw [hf, Option.getD_none] at hl0
      obtain ⟨w1, hst1, hW1, hT1⟩ := hW.store hp hcs (by omega) 1
      have co1 := hW1.co
      have hl1 := hW1.look hcs
      rw [updI_same, Option.getD_some] at hl1
      obtain ⟨⟨cd, lf, ps, ot⟩, pA, pc, oA, oc⟩ := x
      obtain rfl : cd = c := findIv_code hx
      have hfx : findI (itsOf l) cd = some ⟨cd, lf, ps, ot⟩ := by rw [findIv_it, hx]; rfl
      have hu1 := untold_upd hf 1 (xs := itsOf l) ⟨_, findI_mem hfx, findI_code hfx⟩
      have hit := hW1.item hcs hx
      have hitem := hI _ (findIv_mem hx)
      have hpk := hK _ (findIv_mem hx)
      have hps := (hS _ (findIv_mem hx)).2
      have hp8 := h8 _ (findIv_mem hx)
      have ca1 := hW1.ca
      have hpn := hitem.pn
      have hpm := hitem.pm
      unfold maxLen at hpm
      unfold aggIv Iv.pv Iv.ov at hit
      simp only at hit hpn hpm hpk hps hp8
      have hf2 := field2
      have HW1 := Lib.hid hW1
      have HT1 := Lib.hid hT1
      have HF := Lib.hid hf
      have HFX := Lib.hid hfx
      have HIT := Lib.hid hitem
      have HPK := Lib.hid hpk
      have HPS := Lib.hid hps
      have HIH := Lib.hid ih
      have HC1 := Lib.hid (hcn.upd (c := cd) (v := 1) (by omega) (by omega))
      clear hW hW1 hT1 hcn hf hfx hitem hpk hps ih hI hS hK hx h8
      go_enter Try.func35, Try.ntmps35
      go_wp2_with fail
      go_loopw [20] (fun iv wr => ∃ (k m2 : Nat) (g : FI), k ≤ ps.length ∧ iv = .int .i64 k ∧ Hid (LookW 35 l w0 na ma ms bs ba bl m2 g wr) ∧ Hid (Tch (fun k => k = ms) w wr) ∧
        Hid (FillsTo (itsOf l) f g cd ps k ∧ Cnt g m2) ∧ m2 + 8 * untold (itsOf l) g ≤ m + 1 + 8 * untold (itsOf l) (updI f cd 1) + k) (fun iv _ => ps.length - (intOf iv).toNat)
      case atStart => exact ⟨0, m + 1, updI f cd 1, Nat.zero_le _, rfl, HW1, HT1, ⟨FillsTo.zero 1 ps, HC1.out⟩, Nat.le_refl _⟩
      case round =>
        clear hl0 hst1 co1 hl1 ca1 hit HW1 HT1
        obtain ⟨k, m2, g, hk, rfl, HW, HT, HU, hm2⟩ := hrel
        by_cases hlt : k < ps.length
        · obtain ⟨b, o, hpa, h0, h1⟩ := (HIT.out.below HW.out.bel).part (j := k) hlt
          simp only at hpa h0 h1
          subst hpa
          obtain ⟨sq, hsq⟩ : ∃ sq, sq = ps[k] := ⟨_, rfl⟩
          have hpk : ps[k]? = some sq := by rw [List.getElem?_eq_getElem hlt, hsq]
          have hmem : sq ∈ ps := List.mem_of_getElem? hpk
          rw [← hsq] at h0 h1
          clear hsq
          obtain ⟨s, q⟩ := sq
          simp only at h0 h1
          have hW1 := HW.out.alloc hp (.cells #[.string s, .int .i64 q] 39)
          have hless := HU.out.1.untold_le HFX.out HF.out
          have hih := HIH.out s g m2 _ (by omega) (HPK.out _ hmem) HU.out.2 hW1 (by omega)
          have hcl := hW1.cl
          have hT2 := HT.out.trans (Tch.of_below ((Below.refl _ wr).alloc (Nat.le_refl _) (.cells #[.string s, .int .i64 q] 39)) (fun k => k = ms)) (fun k h => .inl h)
          have hih2 : Calls Try.prog 35 #[.string s, .pointer (some ⟨bs, 0, none⟩), .pointer (some ⟨ba, 0, none⟩), .pointer (some ⟨bl, 0, none⟩)] (wr.alloc (.cells #[.string s, .int .i64 q] 39)) (fun e w' =>
              e = .returned (.tuple #[]) ∧ ∃ (m3 : Nat) (g2 : FI), Hid (LookW 35 l w0 na ma ms bs ba bl m3 g2 w') ∧ Hid (Tch (fun k => k = ms) w w') ∧ Hid (FillsTo (itsOf l) f g2 cd ps (k + 1) ∧ Cnt g2 m3) ∧ m3 + 8 * untold (itsOf l) g2 ≤ m + 1 + 8 * untold (itsOf l) (updI f cd 1) + (k + 1)) := by
            refine hih.mono fun e w' ⟨he, hT, g2, m3, hW2, hF2, hC2, hm3⟩ => ?_
            exact ⟨he, m3, g2, hW2, hT2.trans hT (fun k h => .inl h), ⟨HU.out.1.succ HFX.out hpk hF2, hC2⟩, by omega⟩
          have HIH2 := Lib.hid hih2
          clear hih hih2 hW1 HW HU HT hmem hpk hT2
          go_wp2_with (go_at_call 35; (with_reducible refine HIH2.out.mono ?_); rintro e w' ⟨rfl, m3, g2, HW, HT, HU, hm3⟩)
          go_roundw
          case rel => exact ⟨k + 1, m3, g2, by omega, by go_num, HW, HT, HU, by omega⟩
          case measure => simp [intOf]; omega
        · obtain rfl : k = ps.length := by omega
          have HR : Hid (WithR l w0 na ma ms bs ba bl m f cd w (.returned (.tuple #[])) wr) := ⟨rfl, HT.out, g, m2, HW.out, HU.out.1.done HFX.out, HU.out.2, by omega⟩
          clear HW HT HU
          go_wp2_with fail
          go_end0
          exact HR.out
    · exact within_told l w0 na ma ms bs ba bl hp c f m w hcs hcn hW (by omega) hf
end Go.Proofs.Ytnboigbknadpdaa
