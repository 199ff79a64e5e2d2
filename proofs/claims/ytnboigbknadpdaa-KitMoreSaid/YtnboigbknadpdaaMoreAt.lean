/- The items that KitMore makes: what they are, where they lie, and what the functions answer at them. -/
import Derived.Test.YtnboigbknadpdaaCopies
import Derived.Test.YtnboigbknadpdaaMoreLaw
import Derived.Test.YtnboigbknadpdaaKitChecks
set_option linter.unusedVariables false
set_option linter.unusedSimpArgs false
namespace Go.Proofs.Ytnboigbknadpdaa
set_option maxRecDepth 100000
open Go.RowKit SM
def x8 : It := ⟨⟨#[90, 56]⟩, 7, [], []⟩
def z8 : Iv := ⟨x8, none, 0, none, 0⟩
def x9 (ps : List Prt) : It := ⟨⟨#[90, 57]⟩, 0, ps, []⟩
def z9 (ps : List Prt) (pA : Option Addr) (pc : Nat) : Iv := ⟨x9 ps, pA, pc, none, 0⟩
theorem z8_at (w : World) : ItemAt w z8 := ⟨Nat.le_refl _, Nat.zero_le _, Rd.nil _ _, Nat.le_refl _, Nat.zero_le _, Rd.nil _ _⟩
theorem code8 : codeB x8.code = true := by decide +kernel
theorem right8 : rightB x8 = true := by decide +kernel
theorem code9 : codeB ⟨#[90, 57]⟩ = true := by decide +kernel
theorem lt89 : ltS ⟨#[90, 56]⟩ ⟨#[90, 57]⟩ := by decide +kernel
theorem depI_has {xs : List It} (h : checkE xs = 0) {c : ByteArray} (h2 : depI xs c ≠ 0) : ∃ y, findI xs c = some y := by
  have := dep_of (check_sound h).uniq h2
  cases this with
  | mk y _ _ ds hy _ _ _ => exact ⟨y, hy⟩
theorem depI_le {xs : List It} (h : checkE xs = 0) (c : ByteArray) : depI xs c ≤ 8 := by
  by_cases h2 : depI xs c = 0
  · omega
  · obtain ⟨y, hy⟩ := depI_has h h2
    exact ((check_sound h).has hy).2.2
theorem depI_pos {xs : List It} (h : checkE xs = 0) {c : ByteArray} {y : It} (hy : findI xs c = some y) : 1 ≤ depI xs c := ((check_sound h).has hy).2.1
/-- Nothing is wrong with the items, and there is room for two more. -/
structure Room (xs : List It) : Prop where
  ok : checkE xs = 0
  len : xs.length ≤ 58
  low : ∀ x ∈ xs, ltS x.code ⟨#[90, 56]⟩
theorem Room.eight {xs : List It} (h : Room xs) : checkE (xs ++ [x8]) = 0 := more_kept h.ok h.len rfl code8 right8 h.low
theorem Room.nine {xs : List It} (h : Room xs) (ps : List Prt) : checkE (xs ++ [x8] ++ [x9 ps]) = 0 ↔ fineP (xs ++ [x8]) ps ∧ deepP (xs ++ [x8]) ps ≤ 8 := by
  refine more_kit (x := x9 ps) h.eight (by have := h.len; simp; omega) rfl code9 fun y hy => ?_
  rcases List.mem_append.1 hy with hy | hy
  · exact ltS_trans (h.low y hy) lt89
  · simp only [List.mem_singleton] at hy; subst hy; exact lt89
theorem Room.same {xs : List It} (h : Room xs) {ps : List Prt} (h2 : checkE (xs ++ [x8] ++ [x9 ps]) = 0) {c : ByteArray} {y : It} (hy : findI xs c = some y) : deepE (xs ++ [x8] ++ [x9 ps]) c = deepE xs c := by
  unfold deepE
  rw [if_pos h2, if_pos h.ok, depI_more h.eight h2 (findI_more hy), depI_more h.ok h.eight hy]
/-- The items with Z8 lie there. -/
def M8 (l : List Iv) (w W : World) (g c : Nat) : Prop :=
  KB w W ∧ ∃ ys, itsOf ys = itsOf l ∧ (∀ y ∈ ys, CopyIv W w.heap.size y) ∧ W.ownsRow w.heap.size 32 4 (.slice (some ⟨g, 0, none⟩) (l.length + 1) c) (l.length + 1) ((ys ++ [z8]).flatMap encIv)
theorem M8.below {l : List Iv} {w W W' : World} {g c : Nat} (h : M8 l w W g c) (hb : Below W.heap.size W W') : M8 l w W' g c := by
  obtain ⟨hK, ys, h1, h2, h3⟩ := h
  exact ⟨hK.trans hb, ys, h1, fun y hy => (h2 y hy).below hb, own_below h3 hb⟩
theorem M8.cap {l : List Iv} {w W : World} {g c : Nat} (h : M8 l w W g c) : l.length + 1 ≤ c ∧ c ≤ maxLen := by
  obtain ⟨hK, ys, h1, h2, h3⟩ := h
  obtain ⟨A, k, he, h4, h5, h6⟩ := own_rd h3
  cases he
  exact ⟨h4, h5⟩
theorem M8.at {l : List Iv} {w W : World} {g c : Nat} (h : M8 l w W g c) : ∃ ys, ys.length = l.length ∧ itsOf ys = itsOf l ∧ ItemsAt W (some ⟨g, 0, none⟩) (ys ++ [z8]) := by
  obtain ⟨hK, ys, h1, h2, h3⟩ := h
  obtain ⟨A, k, he, h4, h5, h6⟩ := own_rd h3
  cases he
  have hl : ys.length = l.length := by rw [← itsOf_len ys, h1, itsOf_len]
  refine ⟨ys, hl, h1, h6, fun y hy => ?_⟩
  rcases List.mem_append.1 hy with hy | hy
  · exact (h2 y hy).item
  · simp only [List.mem_singleton] at hy; subst hy; exact z8_at W
/-- The items with Z8 and Z9 lie there. -/
def M9 (l : List Iv) (ps : List Prt) (w W : World) (g c : Nat) : Prop :=
  KB w W ∧ l.length + 2 ≤ c ∧ c ≤ maxLen ∧ ∃ ys, ys.length = l.length + 2 ∧ itsOf ys = itsOf l ++ [x8] ++ [x9 ps] ∧ ItemsAt W (some ⟨g, 0, none⟩) ys
theorem M9.below {l : List Iv} {ps : List Prt} {w W W' : World} {g c : Nat} (h : M9 l ps w W g c) (hb : Below W.heap.size W W') : M9 l ps w W' g c := by
  obtain ⟨hK, h1, h2, ys, h3, h4, h5⟩ := h
  exact ⟨hK.trans hb, h1, h2, ys, h3, h4, h5.below hb⟩
/-- What is asked of the items and of the parts. -/
structure SzOk (l : List Iv) (ps : List Prt) : Prop where
  sm : Small7 l
  pz : ∀ p ∈ ps, p.1.size ≤ 140737488355328
  len : ps.length ≤ 100
def Sz (xs : List It) : Prop := ∀ x ∈ xs, x.code.size ≤ 140737488355328 ∧ (∀ p ∈ x.parts, p.1.size ≤ 140737488355328) ∧ x.parts.length ≤ 1000000
theorem SzOk.sz {l : List Iv} {ps : List Prt} (h : SzOk l ps) : Sz (itsOf l) := fun x hx => by
  obtain ⟨z, hz, rfl⟩ := List.mem_map.1 hx
  obtain ⟨h1, h2, _⟩ := small_sizes h.sm
  exact ⟨(h1 z hz).1, (h1 z hz).2, h2 z hz⟩
theorem SzOk.sz8 {l : List Iv} {ps : List Prt} (h : SzOk l ps) : Sz (itsOf l ++ [x8]) := fun x hx => by
  rcases List.mem_append.1 hx with hx | hx
  · exact h.sz x hx
  · simp only [List.mem_singleton] at hx; subst hx
    exact ⟨by decide, fun p hp => (by cases hp), by decide⟩
theorem SzOk.sz9 {l : List Iv} {ps : List Prt} (h : SzOk l ps) : Sz (itsOf l ++ [x8] ++ [x9 ps]) := fun x hx => by
  rcases List.mem_append.1 hx with hx | hx
  · exact h.sz8 x hx
  · simp only [List.mem_singleton] at hx; subst hx
    exact ⟨by show (⟨#[90, 57]⟩ : ByteArray).size ≤ _; decide, h.pz, by have := h.len; show ps.length ≤ _; omega⟩
theorem itsOf_app (a b : List Iv) : itsOf (a ++ b) = itsOf a ++ itsOf b := List.map_append
theorem M8.check {l : List Iv} {ps : List Prt} {w W : World} {g c : Nat} (h : M8 l w W g c) (hz : SzOk l ps) :
    Calls Try.prog 9 #[.slice (some ⟨g, 0, none⟩) (l.length + 1) c] W fun e w' => e = .returned (.int .i64 (checkE (itsOf l ++ [x8]) : Nat)) ∧ Below W.heap.size W w' := by
  obtain ⟨ys, hl, h1, hA⟩ := h.at
  have hi : itsOf (ys ++ [z8]) = itsOf l ++ [x8] := by rw [itsOf_app, h1]; rfl
  have hs := items_sizes hz.sz8 hi
  have := kitCheck_any (ys ++ [z8]) _ c W (by have := h.cap; simp; omega) h.cap.2 hA hs.1 hs.2
  rw [hi, List.length_append, hl] at this
  exact this
theorem ItemsAt.left {W : World} {A : Option Addr} {a b : List Iv} (h : ItemsAt W A (a ++ b)) : ItemsAt W A a :=
  ⟨Rd.left (by have := h.rd; rwa [List.flatMap_append] at this), fun x hx => h.each x (List.mem_append_left _ hx)⟩
theorem M8.front {l : List Iv} {ps : List Prt} {w W : World} {g c : Nat} (h : M8 l w W g c) (hz : SzOk l ps) :
    Calls Try.prog 9 #[.slice (some ⟨g, 0, none⟩) l.length c] W fun e w' => e = .returned (.int .i64 (checkE (itsOf l) : Nat)) ∧ Below W.heap.size W w' := by
  obtain ⟨ys, hl, h1, hA⟩ := h.at
  have hs := items_sizes hz.sz h1
  have := kitCheck_any ys _ c W (by have := h.cap; omega) h.cap.2 hA.left hs.1 hs.2
  rw [h1, hl] at this
  exact this
theorem M8.deep {l : List Iv} {ps : List Prt} {w W : World} {g c : Nat} (h : M8 l w W g c) (hz : SzOk l ps) (s : ByteArray) (hs : s.size ≤ 140737488355328) :
    Calls Try.prog 18 #[.slice (some ⟨g, 0, none⟩) (l.length + 1) c, .string s] W fun e w' => e = .returned (.int .i64 (deepE (itsOf l ++ [x8]) s : Nat)) ∧ Below W.heap.size W w' := by
  obtain ⟨ys, hl, h1, hA⟩ := h.at
  have hi : itsOf (ys ++ [z8]) = itsOf l ++ [x8] := by rw [itsOf_app, h1]; rfl
  have hs2 := items_sizes hz.sz8 hi
  have := kitDeep_any (ys ++ [z8]) _ c s W (by have := h.cap; simp; omega) h.cap.2 hA hs2.1 hs2.2 hs
  rw [hi, List.length_append, hl] at this
  exact this
theorem M9.check {l : List Iv} {ps : List Prt} {w W : World} {g c : Nat} (h : M9 l ps w W g c) (hz : SzOk l ps) :
    Calls Try.prog 9 #[.slice (some ⟨g, 0, none⟩) (l.length + 2) c] W fun e w' => e = .returned (.int .i64 (checkE (itsOf l ++ [x8] ++ [x9 ps]) : Nat)) ∧ Below W.heap.size W w' := by
  obtain ⟨hK, hc, hm, ys, hl, hi, hA⟩ := h
  have hs := items_sizes hz.sz9 hi
  have := kitCheck_any ys _ c W (by omega) hm hA hs.1 hs.2
  rw [hi, hl] at this
  exact this
theorem M9.deep {l : List Iv} {ps : List Prt} {w W : World} {g c : Nat} (h : M9 l ps w W g c) (hz : SzOk l ps) (s : ByteArray) (hs : s.size ≤ 140737488355328) :
    Calls Try.prog 18 #[.slice (some ⟨g, 0, none⟩) (l.length + 2) c, .string s] W fun e w' => e = .returned (.int .i64 (deepE (itsOf l ++ [x8] ++ [x9 ps]) s : Nat)) ∧ Below W.heap.size W w' := by
  obtain ⟨hK, hc, hm, ys, hl, hi, hA⟩ := h
  have hs2 := items_sizes hz.sz9 hi
  have := kitDeep_any ys _ c s W (by omega) hm hA hs2.1 hs2.2 hs
  rw [hi, hl] at this
  exact this
/-- A row that is not empty lies somewhere. -/
theorem own_some {w : World} {base n k : Nat} {e : TypeId} {v : Value} {cs : List Value} (h : w.ownsRow base e k v n cs) (hn : n ≠ 0) : ∃ g cap, v = .slice (some ⟨g, 0, none⟩) n cap := by
  rcases h.2 with ⟨_, h0⟩ | ⟨g, cap, _, h1, _⟩
  · exact absurd h0 hn
  · exact ⟨g, cap, h1⟩
/-- Z8 behind the copies. -/
theorem append8 {l : List Iv} {ys : List Iv} {v : Value} {w W : World} (hlen : l.length ≤ 100) (hK : KB w W) (h : CopyIs W w.heap.size v (itsOf l) ys) :
    ∃ (g c : Nat) (w5 : World), (Builtin.append_ #[22, 22] 22 #[v, .slice (some ⟨W.heap.size, 0, none⟩) 1 1]).run Try.prog (W.alloc (.cells #[.string ⟨#[90, 56]⟩, .int .i64 7, .slice none 0 0, .slice none 0 0] 32)) = .ok (.slice (some ⟨g, 0, none⟩) (l.length + 1) c) w5 ∧ M8 l w w5 g c := by
  obtain ⟨i0, hi, hz0, hz1, hz2⟩ := info_parts infoIt
  obtain ⟨h1, h2, h3⟩ := h
  rw [itsOf_len] at h3
  have hbW : Below W.heap.size W (W.alloc (.cells #[.string ⟨#[90, 56]⟩, .int .i64 7, .slice none 0 0, .slice none 0 0] 32)) := (Below.refl _ W).alloc (Nat.le_refl _) _
  have hownW := own_below h3 hbW
  obtain ⟨v', w5, hap, hown5, hg5, _⟩ := append_own_src (ty := 22) (t := 22) (tx := 22) Try.underlying22 hi hz0 hz1 hz2 rfl (by omega) hownW
    ((cells_rd W #[.string ⟨#[90, 56]⟩, .int .i64 7, .slice none 0 0, .slice none 0 0] 32).src (c := 1) (m := 1) (size := 4) (tx := 22) Try.underlying22 rfl (by omega) (flat_one encIv_one [z8])) (by unfold maxLen; omega) (by omega) (by have := hK.size; simp; omega)
  obtain ⟨g, c, rfl⟩ := own_some hown5 (by omega)
  refine ⟨g, c, w5, hap, (hK.trans hbW).grown hg5 (by have := hK.size; simp; omega) (fun j hj => (h3.lt j hj).1), ys, h1, fun y hy => ((h2 y hy).below hbW).kept hownW hg5, ?_⟩
  rw [List.flatMap_append]
  exact hown5
/-- Z9 behind them. -/
theorem append9 {l : List Iv} {ps : List Prt} {pA : Option Addr} {pc : Nat} {w W : World} {g c : Nat} (hlen : l.length ≤ 100) (h : M8 l w W g c) (hpc : ps.length ≤ pc) (hpm : pc ≤ maxLen) (hp : Rd w pA (ps.flatMap encP)) :
    ∃ (g2 c2 : Nat) (w5 : World), (Builtin.append_ #[22, 22] 22 #[.slice (some ⟨g, 0, none⟩) (l.length + 1) c, .slice (some ⟨W.heap.size, 0, none⟩) 1 1]).run Try.prog (W.alloc (.cells #[.string ⟨#[90, 57]⟩, .int .i64 0, .slice pA ps.length pc, .slice none 0 0] 32)) = .ok (.slice (some ⟨g2, 0, none⟩) (l.length + 2) c2) w5 ∧ M9 l ps w w5 g2 c2 := by
  obtain ⟨i0, hi, hz0, hz1, hz2⟩ := info_parts infoIt
  obtain ⟨hK, ys, h1, h2, h3⟩ := h
  have hl : ys.length = l.length := by rw [← itsOf_len ys, h1, itsOf_len]
  have hbW : Below W.heap.size W (W.alloc (.cells #[.string ⟨#[90, 57]⟩, .int .i64 0, .slice pA ps.length pc, .slice none 0 0] 32)) := (Below.refl _ W).alloc (Nat.le_refl _) _
  have hownW := own_below h3 hbW
  obtain ⟨v', w5, hap, hown5, hg5, _⟩ := append_own_src (ty := 22) (t := 22) (tx := 22) Try.underlying22 hi hz0 hz1 hz2 rfl (by omega) hownW
    ((cells_rd W #[.string ⟨#[90, 57]⟩, .int .i64 0, .slice pA ps.length pc, .slice none 0 0] 32).src (c := 1) (m := 1) (size := 4) (tx := 22) Try.underlying22 rfl (by omega) (flat_one encIv_one [z9 ps pA pc])) (by unfold maxLen; omega) (by omega) (by have := hK.size; simp; omega)
  obtain ⟨g2, c2, rfl⟩ := own_some hown5 (by omega)
  have hK5 : KB w w5 := (hK.trans hbW).grown hg5 (by have := hK.size; simp; omega) (fun j hj => (h3.lt j hj).1)
  obtain ⟨A, k, he, h4, h5, h6⟩ := own_rd hown5
  cases he
  refine ⟨g2, c2, w5, hap, hK5, h4, h5, ys ++ [z8] ++ [z9 ps pA pc], by simp [hl], by rw [itsOf_app, itsOf_app, h1]; rfl, by rw [List.flatMap_append]; exact h6, fun y hy => ?_⟩
  rcases List.mem_append.1 hy with hy | hy
  · rcases List.mem_append.1 hy with hy | hy
    · exact (((h2 y hy).below hbW).kept hownW hg5).item
    · simp only [List.mem_singleton] at hy; subst hy; exact z8_at w5
  · simp only [List.mem_singleton] at hy; subst hy
    exact ⟨hpc, hpm, hp.below hK5, Nat.le_refl _, Nat.zero_le _, Rd.nil _ _⟩
end Go.Proofs.Ytnboigbknadpdaa
