/- Items in memory. -/
import Derived.Test.YtnboigbknadpdaaKitDfs
import Derived.Test.YtnboigbknadpdaaConcat
import Derived.Test.YtnboigbknadpdaaMaps
set_option linter.unusedVariables false
set_option linter.unusedSimpArgs false
namespace Go.Proofs.Ytnboigbknadpdaa
set_option maxRecDepth 100000
open Go.RowKit SM
/-- An item, and where its lists lie. -/
structure Iv where
  it : It
  pA : Option Addr
  pc : Nat
  oA : Option Addr
  oc : Nat
def Iv.pv (x : Iv) : Value := .slice x.pA x.it.parts.length x.pc
def Iv.ov (x : Iv) : Value := .slice x.oA x.it.others.length x.oc
def encS (s : ByteArray) : List Value := [.string s]
theorem encS_len (s : ByteArray) : (encS s).length = 1 := rfl
theorem encS_one (s : ByteArray) : ∀ u ∈ encS s, u.oneCell' = true := by intro u hu; simp [encS] at hu; subst hu; rfl
def encIv (x : Iv) : List Value := [.string x.it.code, .int .i64 x.it.life, x.pv, x.ov]
theorem encIv_len (x : Iv) : (encIv x).length = 4 := rfl
theorem encIv_one (x : Iv) : ∀ u ∈ encIv x, u.oneCell' = true := by
  intro u hu
  simp only [encIv, List.mem_cons, List.not_mem_nil, or_false] at hu
  rcases hu with rfl | rfl | rfl | rfl <;> rfl
def aggIv (x : Iv) : Value := .agg #[.string x.it.code, .int .i64 x.it.life, x.pv, x.ov]
def zeroIt : Value := .agg #[.string ByteArray.empty, .int .i64 0, .slice none 0 0, .slice none 0 0]
/-- What an item's lists are. -/
structure ItemAt (w : World) (x : Iv) : Prop where
  pn : x.it.parts.length ≤ x.pc
  pm : x.pc ≤ maxLen
  pr : Rd w x.pA (x.it.parts.flatMap encP)
  on : x.it.others.length ≤ x.oc
  om : x.oc ≤ maxLen
  or : Rd w x.oA (x.it.others.flatMap encS)
theorem ItemAt.below {w w' : World} {x : Iv} (h : ItemAt w x) (hb : Below w.heap.size w w') : ItemAt w' x := ⟨h.pn, h.pm, h.pr.below hb, h.on, h.om, h.or.below hb⟩
/-- What a list of items is. -/
structure ItemsAt (w : World) (A : Option Addr) (l : List Iv) : Prop where
  rd : Rd w A (l.flatMap encIv)
  each : ∀ x ∈ l, ItemAt w x
theorem ItemsAt.below {w w' : World} {A : Option Addr} {l : List Iv} (h : ItemsAt w A l) (hb : Below w.heap.size w w') : ItemsAt w' A l := ⟨h.rd.below hb, fun x hx => (h.each x hx).below hb⟩
theorem ItemsAt.below2 {w0 w w' : World} {A : Option Addr} {l : List Iv} (h : ItemsAt w0 A l) (hb : Below w0.heap.size w0 w) : ItemsAt w A l := h.below hb
/-- The sizes of all texts. -/
def SizesOk (l : List Iv) : Prop := ∀ x ∈ l, x.it.code.size ≤ 140737488355328 ∧ ∀ p ∈ x.it.parts, p.1.size ≤ 140737488355328
def itsOf (l : List Iv) : List It := l.map (·.it)
theorem itsOf_len (l : List Iv) : (itsOf l).length = l.length := by simp [itsOf]
/-- The cells of item i. -/
theorem ItemsAt.get {w : World} {A : Option Addr} {l : List Iv} (h : ItemsAt w A l) {i : Nat} (hi : i < l.length) :
    ∃ b o, A = some ⟨b, o, none⟩ ∧ w.cell? ⟨b, o + i * 4, none⟩ = some (.string l[i].it.code) ∧ w.cell? ⟨b, o + i * 4 + 1, none⟩ = some (.int .i64 l[i].it.life) ∧
      w.cell? ⟨b, o + i * 4 + 2, none⟩ = some (.slice l[i].pA l[i].it.parts.length l[i].pc) ∧ w.cell? ⟨b, o + i * 4 + 3, none⟩ = some (.slice l[i].oA l[i].it.others.length l[i].oc) ∧ ItemAt w l[i] := by
  obtain ⟨b, o, rfl, hc⟩ := Rd.elem (enc := encIv) (k := 4) encIv_len (by omega) h.rd (List.getElem?_eq_getElem hi)
  exact ⟨b, o, rfl, hc 0 _ rfl, hc 1 _ rfl, hc 2 _ rfl, hc 3 _ rfl, h.each _ (List.getElem_mem hi)⟩
/-- Part j's cells. -/
theorem ItemAt.part {w : World} {x : Iv} (h : ItemAt w x) {j : Nat} (hj : j < x.it.parts.length) :
    ∃ b o, x.pA = some ⟨b, o, none⟩ ∧ w.cell? ⟨b, o + j * 2, none⟩ = some (.string x.it.parts[j].1) ∧ w.cell? ⟨b, o + j * 2 + 1, none⟩ = some (.int .i64 x.it.parts[j].2) := by
  obtain ⟨b, o, he, hc⟩ := Rd.elem (enc := encP) (k := 2) encP_len (by omega) h.pr (List.getElem?_eq_getElem hj)
  exact ⟨b, o, he, hc 0 _ rfl, hc 1 _ rfl⟩

/-! ### items by their codes -/
def findIv (l : List Iv) (c : ByteArray) : Option Iv := l.find? fun x => decide (x.it.code = c)
theorem findIv_it (l : List Iv) (c : ByteArray) : findI (itsOf l) c = (findIv l c).map (·.it) := by
  unfold findI findIv itsOf
  rw [List.find?_map]; rfl
theorem findIv_mem {l : List Iv} {c : ByteArray} {x : Iv} (h : findIv l c = some x) : x ∈ l := List.mem_of_find?_eq_some h
theorem findIv_code {l : List Iv} {c : ByteArray} {x : Iv} (h : findIv l c = some x) : x.it.code = c := by
  have := List.find?_some h
  simpa using this
theorem findIv_some {l : List Iv} {c : ByteArray} {x : It} (h : findI (itsOf l) c = some x) : ∃ y, findIv l c = some y ∧ y.it = x := by
  rw [findIv_it] at h
  exact Option.map_eq_some_iff.1 h
theorem findIv_none {l : List Iv} {c : ByteArray} (h : findI (itsOf l) c = none) : findIv l c = none := by
  rw [findIv_it] at h
  simpa using h
/-- The map of the items by their codes. -/
def bookF (l : List Iv) (c : ByteArray) : Option Value := (findIv l c).map aggIv
theorem findIv_snoc {l : List Iv} {x : Iv} (h : ∀ y ∈ l, y.it.code ≠ x.it.code) (c : ByteArray) : findIv (l ++ [x]) c = if c = x.it.code then some x else findIv l c := by
  unfold findIv
  rw [List.find?_append]
  by_cases hc : c = x.it.code
  · have : l.find? (fun y => decide (y.it.code = c)) = none := by
      rw [List.find?_eq_none]
      intro y hy
      simpa [hc] using h y hy
    rw [this, if_pos hc, hc]
    simp
  · rw [if_neg hc]
    have hd : decide (x.it.code = c) = false := decide_eq_false (fun e => hc e.symm)
    simp [hd]
theorem bookF_snoc {l : List Iv} {x : Iv} (h : ∀ y ∈ l, y.it.code ≠ x.it.code) : bookF (l ++ [x]) = upd (bookF l) x.it.code (aggIv x) := by
  funext c
  unfold bookF upd
  rw [findIv_snoc h]
  split
  · rfl
  · rfl
theorem zeroItem (w : World) : (zeroValue 32).run Try.prog w = .ok zeroIt w := Try.zeroValue32 w
theorem zeroInt0 (w : World) : (zeroValue 3).run Try.prog w = .ok (.int .i64 0) w := Try.zeroValue3 w
theorem field2 (a b c d : Value) (w : World) : (Instr.field 32 (.agg #[a, b, c, d]) 2).run Try.prog w = .ok c w := by kernel_rfl
theorem field0 (a b c d : Value) (w : World) : (Instr.field 32 (.agg #[a, b, c, d]) 0).run Try.prog w = .ok a w := by kernel_rfl
/-- Block b is a map from texts, told by f. -/
abbrev MapS (w : World) (b n : Nat) (f : ByteArray → Option Value) : Prop := MapAt (strKK (P := Try.prog) Try.underlying9) w b n f
abbrev RangeS (w : World) (b r n : Nat) (f : ByteArray → Option Value) (done : List ByteArray) (cnt : Nat) : Prop := RangeAt (strKK (P := Try.prog) Try.underlying9) w b r n f done cnt
/-- A map from texts to numbers. -/
def asI (f : FI) (s : ByteArray) : Option Value := (f s).map fun n => .int .i64 n
theorem asI_getD (f : FI) (s : ByteArray) : (asI f s).getD (.int .i64 0) = .int .i64 ((f s).getD 0) := by
  unfold asI; cases f s <;> rfl
theorem asI_upd (f : FI) (c : ByteArray) (v : Int) : upd (asI f) c (.int .i64 v) = asI (updI f c v) := by
  funext s
  unfold upd asI updI
  split <;> rfl
theorem rises_front {l : List Iv} (h : Rises (itsOf l)) {i : Nat} (hi : i < l.length) : ∀ y ∈ l.take i, y.it.code ≠ l[i].it.code := by
  intro y hy e
  obtain ⟨j, hj, he⟩ := List.getElem_of_mem hy
  have hj2 : j < i := by rw [List.length_take] at hj; omega
  rw [List.getElem_take] at he
  have h' := List.pairwise_iff_getElem.1 h j i (by rw [itsOf_len]; omega) (by rw [itsOf_len]; exact hi) hj2
  simp only [itsOf, List.getElem_map] at h'
  rw [he, e] at h'
  exact ltS_irrefl _ h'
theorem codes_nodup {l : List Iv} (h : Rises (itsOf l)) (c : ByteArray) {i : Nat} (hi : i < l.length) (hc : l[i].it.code = c) : findIv l c = some l[i] := by
  obtain ⟨h1, _⟩ := h.uniq i l[i].it (by unfold itsOf; rw [List.getElem?_map, List.getElem?_eq_getElem hi]; rfl)
  rw [hc] at h1
  obtain ⟨y, h2, h3⟩ := findIv_some h1
  unfold findIv at h2 ⊢
  rw [List.find?_eq_some_iff_getElem] at h2 ⊢
  obtain ⟨ha, j, hj, he, hb⟩ := h2
  refine ⟨by simpa using hc, i, hi, rfl, fun k hk => ?_⟩
  have := rises_front h hi l[k] (List.mem_iff_getElem.2 ⟨k, by rw [List.length_take]; omega, by rw [List.getElem_take]⟩)
  rw [hc] at this
  simpa using this
end Go.Proofs.Ytnboigbknadpdaa
