/- Lists that lie apart: each in a row of its own; marked, grown, read again. No program. -/
import Derived.Test.YtjefaineggnogaaGreatRows2
set_option linter.unusedVariables false
set_option linter.unusedSimpArgs false
namespace Go.Proofs.YtjefaineggnogaaGreat
set_option maxRecDepth 100000
namespace SM
open Go.RowKit
section
variable {α : Type} {enc : α → List Value} {K : Nat} {E : TypeId} {B : Nat} {mk : Nat → Nat → α}
def marksOf (mk : Nat → Nat → α) (r n : Nat) : List α := (List.range n).map (mk r)
theorem marksOf_succ (r n : Nat) : marksOf mk r (n + 1) = marksOf mk r n ++ [mk r n] := by simp [marksOf, List.range_succ]
theorem marksOf_len (r n : Nat) : (marksOf mk r n).length = n := by simp [marksOf]
theorem marksOf_get {r n i : Nat} (h : i < n) : (marksOf mk r n)[i]? = some (mk r i) := by simp [marksOf, h]
theorem marksOf_take {r n i : Nat} (h : i ≤ n) : (marksOf mk r n).take i = marksOf mk r i := by
  apply List.ext_getElem?
  intro t
  by_cases ht : t < i
  · rw [List.getElem?_take_of_lt ht, marksOf_get (by omega), marksOf_get ht]
  · rw [List.getElem?_take_eq_none (by omega), List.getElem?_eq_none (by rw [marksOf_len]; omega)]

/-- A row of the call's own that holds ys. -/
def Ow (enc : α → List Value) (E K B : Nat) (w : World) (v : Value) (ys : List α) : Prop := w.ownsRow B E K v ys.length (ys.flatMap enc)
theorem Ow.below {w w' : World} {v : Value} {ys : List α} (h : Ow enc E K B w v ys) (hb : Below w.heap.size w w') : Ow enc E K B w' v ys := own_below h hb
theorem Ow.tch {S : Nat → Prop} {w w' : World} {v : Value} {ys : List α} (h : Ow enc E K B w v ys) (ht : Tch S w w') (hs : ∀ b, v.ownBlock = some b → ¬ S b) : Ow enc E K B w' v ys := ht.own h hs
theorem Ow.lt {w : World} {v : Value} {ys : List α} (h : Ow enc E K B w v ys) {b : Nat} (hb : v.ownBlock = some b) : B ≤ b ∧ b < w.heap.size := World.ownsRow.lt h b hb
theorem Ow.rd {w : World} {v : Value} {ys : List α} (h : Ow enc E K B w v ys) : ∃ A c, v = .slice A ys.length c ∧ ys.length ≤ c ∧ c ≤ maxLen ∧ Rd w A (ys.flatMap enc) := own_rd h
theorem Ow.addr {w : World} {v : Value} {ys : List α} (h : Ow enc E K B w v ys) (hn : 0 < ys.length) : ∃ g cap, v = .slice (some ⟨g, 0, none⟩) ys.length cap ∧ B ≤ g ∧ g < w.heap.size := by
  have h' : w.ownsRow B E K v ys.length (ys.flatMap enc) := h
  rcases h'.2 with ⟨_, h0⟩ | ⟨g, cap, cur, rfl, hg, hh, _⟩
  · omega
  · exact ⟨g, cap, rfl, hg, (Array.getElem?_eq_some_iff.1 hh).1⟩
/-- The shorter one of two slices of one row. -/
theorem Ow.prefix (hk : ∀ x, (enc x).length = K) (h0 : 0 < K) {w w' : World} {v g : Value} {xs ys : List α} (h : Ow enc E K B w v xs) (hg : Ow enc E K B w g ys) (hg' : Ow enc E K B w' g ys) (hb : v.ownBlock = g.ownBlock) (hl : xs.length ≤ ys.length) : Ow enc E K B w' v xs := by
  obtain ⟨a1, a2⟩ : w.ownsRow B E K v xs.length (xs.flatMap enc) := h
  obtain ⟨_, b2⟩ : w.ownsRow B E K g ys.length (ys.flatMap enc) := hg
  obtain ⟨_, c2⟩ : w'.ownsRow B E K g ys.length (ys.flatMap enc) := hg'
  refine ⟨a1, ?_⟩
  rcases a2 with h1 | ⟨b, cap, cur, rfl, hB, hh, hn, hm, hs, ht⟩
  · exact .inl h1
  · rcases b2 with ⟨rfl, _⟩ | ⟨b2, cap2, cur2, rfl, _, hh2, _, _, hs2, ht2⟩
    · simp [Value.ownBlock] at hb
    · have : b = b2 := by simpa [Value.ownBlock] using hb
      subst this
      rcases c2 with ⟨h1, _⟩ | ⟨b3, cap3, cur3, h3, _, hh3, _, _, hs3, ht3⟩
      · cases h1
      · cases h3
        rw [hh] at hh2
        cases hh2
        have hcap : cap = cap2 := Nat.eq_of_mul_eq_mul_right h0 (hs.symm.trans hs2)
        subst hcap
        refine .inr ⟨b, cap, cur3, rfl, hB, hh3, hn, hm, hs3, ?_⟩
        rw [← ht]
        have e1 : xs.length * K ≤ ys.length * K := Nat.mul_le_mul_right _ hl
        have e2 : cur3.toList.take (ys.length * K) = cur.toList.take (ys.length * K) := ht3.trans ht2.symm
        have := congrArg (List.take (xs.length * K)) e2
        rwa [List.take_take, List.take_take, Nat.min_eq_left e1] at this
/-- An append onto a row of the call's own: the new one, and the elder one still. -/
theorem Ow.append {P : Program} {t tx ty : TypeId} {i : TypeInfo} {z : Value} {bytes m : Nat} {w : World} {v x : Value} {ys zs : List α} (ht : P.underlying t = some (.slice E)) (hi : P.info? E = some i) (hz : i.zero = some z)
    (hsize : i.size = K) (hby : i.bytes = bytes) (hzs : z.cells.size = K) (h0 : 0 < K) (h : Ow enc E K B w v ys) (hs : Src P K tx x m (zs.flatMap enc) w) (hm : zs.length = m) (h63 : ys.length + m ≤ maxLen) (hb : (ys.length + m) * bytes ≤ 140737488355328) (hB : B ≤ w.heap.size) :
    ∃ v' w', (Builtin.append_ #[t, tx] ty #[v, x]).run P w = .ok v' w' ∧ Ow enc E K B w' v' (ys ++ zs) ∧ Ow enc E K B w' v ys ∧ w.grownBy w' v.ownBlock ∧ (v'.ownBlock = v.ownBlock ∨ v'.ownBlock = some w.heap.size) := by
  obtain ⟨v', w', h1, h2, h3, _, h5, h6⟩ := append_own_more (ty := ty) ht hi hz hsize hby hzs h0 h hs h63 hb hB
  refine ⟨v', w', h1, ?_, h5, h3, h6⟩
  unfold Ow
  rw [List.length_append, List.flatMap_append, hm]
  exact h2

/-! ### a family of rows -/
abbrev VL := List (Value × Nat)
def SLs (L : VL) (b : Nat) : Prop := ∃ x ∈ L, x.1.ownBlock = some b
/-- They lie in blocks of their own, below H. -/
structure Dist (L : VL) (H : Nat) : Prop where
  dist : ∀ (i j : Nat) x y b, L[i]? = some x → L[j]? = some y → x.1.ownBlock = some b → y.1.ownBlock = some b → i = j
  lt : ∀ b, SLs L b → b < H
/-- Marked up to the list k, and there up to i. -/
def Fam (enc : α → List Value) (mk : Nat → Nat → α) (E K B : Nat) (L : VL) (k i : Nat) (w : World) : Prop :=
  ∀ (j : Nat) x, L[j]? = some x → ∃ ys : List α, ys.length = x.2 ∧ Ow enc E K B w x.1 ys ∧ (j < k → ys = marksOf mk j x.2) ∧ (j = k → ys.take i = marksOf mk k i)
variable {L : VL} {k i : Nat} {w w' : World}
theorem Fam.below (h : Fam enc mk E K B L k i w) (hb : Below w.heap.size w w') : Fam enc mk E K B L k i w' := fun j x hx => by
  obtain ⟨ys, h1, h2, h3⟩ := h j x hx
  exact ⟨ys, h1, h2.below hb, h3⟩
theorem Fam.next {x : Value × Nat} (h : Fam enc mk E K B L k i w) (hx : L[k]? = some x) (hi : i = x.2) : Fam enc mk E K B L (k + 1) 0 w := fun j y hy => by
  obtain ⟨ys, h1, h2, h3, h4⟩ := h j y hy
  refine ⟨ys, h1, h2, fun hj => ?_, fun _ => by simp [marksOf]⟩
  by_cases hjk : j = k
  · subst hjk
    rw [hx] at hy
    cases hy
    have := h4 rfl
    rw [hi, ← h1, List.take_length] at this
    rw [← h1]; exact this
  · exact h3 (by omega)
theorem Fam.slot {x : Value × Nat} (h : Fam enc mk E K B L k i w) {j : Nat} (hx : L[j]? = some x) : ∃ A c, x.1 = .slice A x.2 c ∧ x.2 ≤ c ∧ c ≤ maxLen := by
  obtain ⟨ys, h1, h2, _⟩ := h j x hx
  obtain ⟨A, c, e, hc, hm, _⟩ := h2.rd
  rw [h1] at e hc
  exact ⟨A, c, e, hc, hm⟩
theorem Fam.addr {x : Value × Nat} (h : Fam enc mk E K B L k i w) {j : Nat} (hx : L[j]? = some x) (hn : 0 < x.2) : ∃ g cap, x.1 = .slice (some ⟨g, 0, none⟩) x.2 cap ∧ B ≤ g ∧ g < w.heap.size ∧ x.2 ≤ cap ∧ cap ≤ maxLen := by
  obtain ⟨ys, h1, h2, _⟩ := h j x hx
  obtain ⟨g, cap, e, hg⟩ := h2.addr (by omega)
  rw [h1] at e
  obtain ⟨A, c, e2, hc, hm, _⟩ := h2.rd
  rw [h1] at e2 hc
  rw [e] at e2
  injection e2 with _ _ e3
  subst e3
  exact ⟨g, cap, e, hg.1, hg.2, hc, hm⟩
/-- One element more is marked. -/
theorem Fam.store (P : Program) (ty : TypeId) (hk : ∀ x, (enc x).length = K) (h1c : ∀ x, ∀ u ∈ enc x, u.oneCell' = true) (hi0 : (P.info? ty).map (·.size) = some K) {H : Nat} (hD : Dist L H) (h : Fam enc mk E K B L k i w) {g cap n : Nat} (hx : L[k]? = some (.slice (some ⟨g, 0, none⟩) n cap, n)) (hin : i < n) :
    ∃ w', (Instr.storeAt ty (.pointer (some ⟨g, i * K, none⟩)) (.agg (enc (mk k i)).toArray)).run P w = .ok () w' ∧ Fam enc mk E K B L k (i + 1) w' ∧ Tch (SLs L) w w' := by
  obtain ⟨ys, h1, h2, h3, h4⟩ := h k _ hx
  have h2' : w.ownsRow B E K (.slice (some ⟨g, 0, none⟩) n cap) n (ys.flatMap enc) := by unfold Ow at h2; rwa [h1] at h2
  simp only at h1
  rw [← h1] at h2'
  obtain ⟨w', hr, ho, hg⟩ := own_store (P := P) (ty := ty) hk h1c h2' (j := i) (by omega) (mk k i) hi0
  refine ⟨w', hr, fun j x hj => ?_, Tch.of_grown hg fun b hb => ⟨_, List.mem_of_getElem? hx, by cases hb; rfl⟩⟩
  by_cases hjk : j = k
  · subst hjk
    rw [hx] at hj
    cases hj
    refine ⟨ys.set i (mk j i), by simp [h1], ?_, fun h => by omega, fun _ => ?_⟩
    · unfold Ow; rw [List.length_set]
      rw [h1] at ho ⊢
      exact ho
    · have h5 := h4 rfl
      rw [marksOf_succ, ← h5]
      apply List.ext_getElem?
      intro t
      have hlt : (ys.take i).length = i := by rw [List.length_take]; omega
      by_cases ht : t < i
      · rw [List.getElem?_take_of_lt (by omega), List.getElem?_append_left (by omega), List.getElem?_take_of_lt ht, List.getElem?_set_ne (by omega)]
      · by_cases ht2 : t = i
        · subst ht2
          rw [List.getElem?_take_of_lt (by omega), List.getElem?_append_right (by omega), hlt, Nat.sub_self, List.getElem?_set_self (by omega)]
          rfl
        · rw [List.getElem?_take_eq_none (by omega), List.getElem?_append_right (by omega), hlt, List.getElem?_eq_none]
          simp; omega
  · obtain ⟨zs, a1, a2, a3, a4⟩ := h j x hj
    refine ⟨zs, a1, a2.tch (Tch.of_grown (S := fun b => b = g) hg (fun b hb => by cases hb; rfl)) (fun b hb e => hjk ?_), a3, fun e => absurd e hjk⟩
    subst e
    exact hD.dist j k x _ b hj hx hb rfl

/-- All are marked. -/
def AllM (enc : α → List Value) (mk : Nat → Nat → α) (E K B : Nat) (L : VL) (w : World) : Prop := ∀ (j : Nat) x, L[j]? = some x → Ow enc E K B w x.1 (marksOf mk j x.2)
theorem Fam.all (h : Fam enc mk E K B L k 0 w) (hk : L.length ≤ k) : AllM enc mk E K B L w := fun j x hx => by
  obtain ⟨ys, _, h2, h3, _⟩ := h j x hx
  have := (List.getElem?_eq_some_iff.1 hx).1
  rw [← h3 (by omega)]; exact h2
theorem AllM.tch {S : Nat → Prop} (h : AllM enc mk E K B L w) (ht : Tch S w w') (hs : ∀ b, SLs L b → ¬ S b) : AllM enc mk E K B L w' := fun j x hx => (h j x hx).tch ht fun b hb => hs b ⟨x, List.mem_of_getElem? hx, hb⟩
theorem AllM.below (h : AllM enc mk E K B L w) (hb : Below w.heap.size w w') : AllM enc mk E K B L w' := fun j x hx => (h j x hx).below hb
/-- Behind an append onto one of them (or onto what has grown out of it). -/
theorem AllM.appended (hk : ∀ x, (enc x).length = K) (h0 : 0 < K) {H : Nat} (hD : Dist L H) (h : AllM enc mk E K B L w) {x : Value × Nat} (hx : L[k]? = some x) {g : Value} {ys : List α} (hg : Ow enc E K B w g ys) (hg' : Ow enc E K B w' g ys) (hl : x.2 ≤ ys.length)
    (hrow : w.grownBy w' g.ownBlock) (hb : ∀ b, g.ownBlock = some b → x.1.ownBlock = some b ∨ H ≤ b) : AllM enc mk E K B L w' := fun j y hy => by
  have a := h j y hy
  by_cases he : ∃ b, y.1.ownBlock = some b ∧ g.ownBlock = some b
  · obtain ⟨b, hb1, hb2⟩ := he
    rcases hb b hb2 with h3 | h3
    · have : j = k := hD.dist j k y x b hy hx hb1 h3
      subst this
      rw [hx] at hy
      cases hy
      exact Ow.prefix hk h0 a hg hg' (hb1.trans hb2.symm) (by rw [marksOf_len]; exact hl)
    · have := hD.lt b ⟨y, List.mem_of_getElem? hy, hb1⟩
      omega
  · exact a.tch (Tch.of_grown (S := fun b => g.ownBlock = some b) hrow (fun b hb => hb)) (fun b hb hs => he ⟨b, hb, hs⟩)

theorem Dist.mono {H H' : Nat} (h : Dist L H) (hh : H ≤ H') : Dist L H' := ⟨h.dist, fun b hb => Nat.lt_of_lt_of_le (h.lt b hb) hh⟩
theorem slot_of {w : World} {A : Option Addr} (hA : Rd w A (L.map (·.1))) {j : Nat} {x : Value × Nat} (hx : L[j]? = some x) : ∃ b o, A = some ⟨b, o, none⟩ ∧ w.cell? ⟨b, o + j, none⟩ = some x.1 := by
  obtain ⟨b, o, rfl, hc⟩ := hA (by rintro e; rw [List.map_eq_nil_iff] at e; subst e; simp at hx)
  exact ⟨b, o, rfl, hc j _ (by rw [List.getElem?_map, hx]; rfl)⟩

/-- What has grown out of the first m; each begins with its marks, in the block where it was, or in one from H to Hm. -/
def Grn (enc : α → List Value) (mk : Nat → Nat → α) (E K B : Nat) (L : VL) (H Hm m q : Nat) (us : List Value) (w : World) : Prop :=
  ∀ (j : Nat) x, j < m → L[j]? = some x → ∃ u ys, us[j]? = some u ∧ Ow enc E K B w u ys ∧ ys.length = x.2 + 64 ∧ ys.take (x.2 + q) = marksOf mk j (x.2 + q) ∧ ∀ b, u.ownBlock = some b → x.1.ownBlock = some b ∨ H ≤ b ∧ b < Hm
variable {H Hm m q : Nat} {us : List Value}
theorem Grn.zero : Grn enc mk E K B L H Hm 0 q us w := fun j x h => by omega
theorem Grn.raise (h : Grn enc mk E K B L H Hm m q us w) {Hm' : Nat} (hh : Hm ≤ Hm') : Grn enc mk E K B L H Hm' m q us w := fun j x hj hx => by
  obtain ⟨u, ys, h1, h2, h3, h4, h5⟩ := h j x hj hx
  exact ⟨u, ys, h1, h2, h3, h4, fun b hb => (h5 b hb).imp id fun ⟨a, b⟩ => ⟨a, by omega⟩⟩
theorem Grn.tch {S : Nat → Prop} (h : Grn enc mk E K B L H Hm m q us w) (ht : Tch S w w') (hs : ∀ (j : Nat) x b, j < m → L[j]? = some x → (x.1.ownBlock = some b ∨ H ≤ b ∧ b < Hm) → ¬ S b) : Grn enc mk E K B L H Hm m q us w' := fun j x hj hx => by
  obtain ⟨u, ys, h1, h2, h3, h4, h5⟩ := h j x hj hx
  exact ⟨u, ys, h1, h2.tch ht fun b hb => hs j x b hj hx (h5 b hb), h3, h4, h5⟩
theorem Grn.below (h : Grn enc mk E K B L H Hm m q us w) (hb : Below w.heap.size w w') : Grn enc mk E K B L H Hm m q us w' := fun j x hj hx => by
  obtain ⟨u, ys, h1, h2, h3⟩ := h j x hj hx
  exact ⟨u, ys, h1, h2.below hb, h3⟩
theorem Grn.put (h : Grn enc mk E K B L H Hm m q us w) {x : Value × Nat} {u : Value} {ys : List α} (hm : m < us.length) (hx : L[m]? = some x) (hu : Ow enc E K B w u ys) (hl : ys.length = x.2 + 64) (hy : ys.take (x.2 + q) = marksOf mk m (x.2 + q)) (hb : ∀ b, u.ownBlock = some b → x.1.ownBlock = some b ∨ H ≤ b ∧ b < Hm) : Grn enc mk E K B L H Hm (m + 1) q (us.set m u) w := fun j y hj hy' => by
  by_cases hjm : j = m
  · subst hjm
    rw [hx] at hy'
    cases hy'
    exact ⟨u, ys, List.getElem?_set_self hm, hu, hl, hy, hb⟩
  · obtain ⟨u', ys', h1, h2⟩ := h j y (by omega) hy'
    exact ⟨u', ys', by rw [List.getElem?_set_ne (by omega)]; exact h1, h2⟩

/-- One cell. -/
def encV (v : Value) : List Value := [v]
/-- What stands while the lists grow: the slice G of what has grown; all are marked. -/
structure Gro (enc : α → List Value) (mk : Nat → Nat → α) (E K B : Nat) (T : TypeId) (L : VL) (G m q : Nat) (us : List Value) (w0 w : World) (Hm : Nat) : Prop where
  gs : Ow encV T 1 B w (.slice (some ⟨G, 0, none⟩) us.length us.length) us
  len : us.length = L.length
  all : AllM enc mk E K B L w
  grn : Grn enc mk E K B L (G + 1) Hm m q us w
  tch : Tch (SLs L) w0 w
  size : Hm ≤ w.heap.size
  dist : Dist L G
  base : w0.heap.size ≤ G
  big : G < Hm
variable {T : TypeId} {G : Nat} {w0 : World}
theorem Gro.below (h : Gro enc mk E K B T L G m q us w0 w Hm) (hb : Below w.heap.size w w') : Gro enc mk E K B T L G m q us w0 w' Hm :=
  ⟨h.gs.below hb, h.len, h.all.below hb, h.grn.below hb, h.tch.trans (Tch.of_below hb (SLs L)) (fun _ h => .inl h), Nat.le_trans h.size hb.size, h.dist, h.base, h.big⟩
theorem Gro.raise (h : Gro enc mk E K B T L G m q us w0 w Hm) : Gro enc mk E K B T L G m q us w0 w w.heap.size :=
  ⟨h.gs, h.len, h.all, h.grn.raise h.size, h.tch, Nat.le_refl _, h.dist, h.base, Nat.lt_of_lt_of_le h.big h.size⟩
/-- .. and the one that grows. -/
structure Inn (enc : α → List Value) (mk : Nat → Nat → α) (E K B : Nat) (T : TypeId) (L : VL) (G m q : Nat) (us : List Value) (w0 w : World) (Hm : Nat) (x : Value × Nat) (g : Value) (ys : List α) : Prop extends Gro enc mk E K B T L G m q us w0 w Hm where
  own : Ow enc E K B w g ys
  blk : ∀ b, g.ownBlock = some b → x.1.ownBlock = some b ∨ Hm ≤ b
variable {x : Value × Nat} {g : Value} {ys zs : List α}
theorem Inn.below (h : Inn enc mk E K B T L G m q us w0 w Hm x g ys) (hb : Below w.heap.size w w') : Inn enc mk E K B T L G m q us w0 w' Hm x g ys := ⟨h.toGro.below hb, h.own.below hb, h.blk⟩
/-- It grows. -/
theorem Inn.append {P : Program} {t tx ty : TypeId} {i : TypeInfo} {z : Value} {bytes : Nat} {src : Value} {r : Nat} (hk : ∀ x, (enc x).length = K) (h0 : 0 < K) (ht : P.underlying t = some (.slice E)) (hi : P.info? E = some i) (hz : i.zero = some z)
    (hsize : i.size = K) (hby : i.bytes = bytes) (hzs : z.cells.size = K) (h : Inn enc mk E K B T L G m q us w0 w Hm x g ys) (hx : L[m]? = some x) (hl : x.2 ≤ ys.length) (hs : Src P K tx src r (zs.flatMap enc) w) (hr : zs.length = r) (h63 : ys.length + r ≤ maxLen) (hb : (ys.length + r) * bytes ≤ 140737488355328) (hB : B ≤ w0.heap.size) :
    ∃ g' w', (Builtin.append_ #[t, tx] ty #[g, src]).run P w = .ok g' w' ∧ Inn enc mk E K B T L G m q us w0 w' Hm x g' (ys ++ zs) := by
  have hB' : B ≤ w.heap.size := by have := h.base; have := h.big; have := h.size; omega
  obtain ⟨g', w', hrun, h1, h2, h3, h4⟩ := Ow.append (ty := ty) ht hi hz hsize hby hzs h0 h.own hs hr h63 hb hB'
  have hT : Tch (fun b => g.ownBlock = some b) w w' := Tch.of_grown h3 fun b hb => hb
  have hGH : ∀ b, g.ownBlock = some b → b ≠ G := fun b hb e => by
    rcases h.blk b hb with h5 | h5
    · have := h.dist.lt b ⟨x, List.mem_of_getElem? hx, h5⟩; omega
    · have := h.big; omega
  refine ⟨g', w', hrun, ⟨⟨h.gs.tch hT fun b hb hs => hGH b hs (by simpa [Value.ownBlock] using hb.symm), h.len, ?_, ?_, ?_, ?_, h.dist, h.base, h.big⟩, h1, ?_⟩⟩
  · exact AllM.appended hk h0 (h.dist.mono (Nat.le_of_lt h.big)) h.all hx h.own h2 hl h3 h.blk
  · refine h.grn.tch hT fun j y b hj hy hyb hgb => ?_
    rcases hyb with h5 | ⟨h5, h6⟩
    · rcases h.blk b hgb with h7 | h7
      · have := h.dist.dist j m y x b hy hx h5 h7; omega
      · have := h.dist.lt b ⟨y, List.mem_of_getElem? hy, h5⟩; have := h.big; omega
    · rcases h.blk b hgb with h7 | h7
      · have := h.dist.lt b ⟨x, List.mem_of_getElem? hx, h7⟩; omega
      · omega
  · refine h.tch.trans hT fun b hb => ?_
    rcases h.blk b hb with h5 | h5
    · exact .inl ⟨x, List.mem_of_getElem? hx, h5⟩
    · right; have := h.base; have := h.big; omega
  · exact Nat.le_trans h.size h3.size
  · intro b hb
    rcases h4 with h4 | h4
    · exact h.blk b (h4 ▸ hb)
    · rw [h4] at hb; cases hb; exact .inr h.size
theorem run_storeAt_cells (P : Program) (w : World) (b o : Nat) (ty : TypeId) (v : Value) (ht : w.there b o v.cells.size) (hi : (P.info? ty).map (·.size) = some v.cells.size) (h1 : v.cells.all (·.oneCell') = true) :
    (Instr.storeAt ty (.pointer (some ⟨b, o, none⟩)) v).run P w = .ok () (w.setCells b o v.cells.toList) := by
  have := run_storeCells_cells (P := P) b o v.cells.toList 0 w (fun j hj => by simpa using (ht j (by simpa using hj)).1) (fun j hj => by simpa using (ht j (by simpa using hj)).2)
    (fun u hu => (Array.all_eq_true_iff_forall_mem.1 h1) u (by simpa using hu))
  cases hq : P.info? ty with
  | none => simp [hq] at hi
  | some i =>
    have hs : v.cells.size = i.size := by simp [hq] at hi; omega
    simp only [Nat.add_zero] at this
    simp [Instr.storeAt, Instr.sureAddr, storeVar, sizeOf, typeInfo, hq, hs, this]
/-- It is laid into the slice of what has grown. -/
theorem Inn.put (P : Program) (ty : TypeId) (hi : (P.info? ty).map (·.size) = some 1) (h : Inn enc mk E K B T L G m q us w0 w Hm x g ys) (hx : L[m]? = some x) (hl : ys.length = x.2 + 64) (hy : ys.take (x.2 + q) = marksOf mk m (x.2 + q)) :
    ∃ w', (Instr.storeAt ty (.pointer (some ⟨G, m, none⟩)) g).run P w = .ok () w' ∧ Gro enc mk E K B T L G (m + 1) q (us.set m g) w0 w' w'.heap.size := by
  have hml : m < us.length := by rw [h.len]; exact (List.getElem?_eq_some_iff.1 hx).1
  obtain ⟨A, c, hgv, _⟩ := h.own.rd
  obtain ⟨h2, h3, h4⟩ := own_store_run P (enc := encV) (k := 1) (fun _ => rfl) h.gs hml g (fun u hu => by simp only [encV, List.mem_singleton] at hu; subst hu; rw [hgv]; rfl)
  rw [Nat.mul_one] at h2 h3 h4
  have hrun := run_storeAt_cells P w G m ty g (by rw [hgv]; exact h4) (by rw [hi, hgv]; rfl) (by rw [hgv]; simp [Value.cells, Value.oneCell'])
  have hcells : g.cells.toList = encV g := by rw [hgv]; rfl
  rw [hcells] at hrun
  have hT : Tch (fun b => b = G) w (w.setCells G m (encV g)) := Tch.of_grown h3 fun b hb => by cases hb; rfl
  have hLG : ∀ b, SLs L b → ¬ b = G := fun b hb e => by have := h.dist.lt b hb; omega
  refine ⟨_, hrun, ⟨?_, by rw [List.length_set]; exact h.len, h.all.tch hT hLG, ?_, ?_, Nat.le_refl _, h.dist, h.base, ?_⟩⟩
  · unfold Ow; rw [List.length_set]; exact h2
  · have h5 := (h.grn.raise h.size).put hml hx h.own hl hy fun b hb => (h.blk b hb).imp id fun h6 => ⟨by have := h.big; omega, (h.own.lt hb).2⟩
    refine (h5.tch hT fun j y b hj hy' hyb e => ?_).raise h3.size
    rcases hyb with h6 | h6
    · exact hLG b ⟨y, List.mem_of_getElem? hy', h6⟩ e
    · omega
  · exact h.tch.trans hT fun b hb => .inr (by rw [hb]; exact h.base)
  · have := h3.size; have := h.big; have := h.size; omega
theorem Gro.tch1 (h : Gro enc mk E K B T L G m q us w0 w Hm) {M : Nat} (ht : Tch (fun b => b = M) w w') (hM : Hm ≤ M) : Gro enc mk E K B T L G m q us w0 w' Hm := by
  have hLM : ∀ b, SLs L b → ¬ b = M := fun b hb e => by have := h.dist.lt b hb; have := h.big; omega
  refine ⟨h.gs.tch ht fun b hb e => ?_, h.len, h.all.tch ht hLM, h.grn.tch ht fun j y b _ hy hyb e => ?_, h.tch.trans ht fun b hb => .inr ?_, Nat.le_trans h.size ht.size, h.dist, h.base, h.big⟩
  · have hb' : G = b := by simpa [Value.ownBlock] using hb
    have := h.big; omega
  · rcases hyb with h6 | h6
    · exact hLM b ⟨y, List.mem_of_getElem? hy, h6⟩ e
    · omega
  · have := h.base; have := h.big; omega
theorem Gro.again (h : Gro enc mk E K B T L G m q us w0 w Hm) (q' : Nat) : Gro enc mk E K B T L G 0 q' us w0 w w.heap.size :=
  ⟨h.gs, h.len, h.all, Grn.zero, h.tch, Nat.le_refl _, h.dist, h.base, Nat.lt_of_lt_of_le h.big h.size⟩
theorem Gro.inn (h : Gro enc mk E K B T L G m q us w0 w Hm) (hx : L[m]? = some x) : Inn enc mk E K B T L G m q us w0 w Hm x x.1 (marksOf mk m x.2) := ⟨h, h.all m x hx, fun _ hb => .inl hb⟩
theorem flatV (l : List Value) : l.flatMap encV = l := by induction l with
  | nil => rfl
  | cons x r ih => rw [List.flatMap_cons, ih]; rfl
/-- What the slice of what has grown holds. -/
theorem Gro.slot (h : Gro enc mk E K B T L G m q us w0 w Hm) {j : Nat} (hj : j < m) (hx : L[j]? = some x) : ∃ u ys, w.cell? ⟨G, j, none⟩ = some u ∧ Ow enc E K B w u ys ∧ ys.length = x.2 + 64 ∧ ys.take (x.2 + q) = marksOf mk j (x.2 + q) := by
  obtain ⟨u, ys, h1, h2, h3, h4, _⟩ := h.grn j x hj hx
  obtain ⟨A, c, he, _, _, hr⟩ := h.gs.rd
  cases he
  rw [flatV] at hr
  obtain ⟨b, o, e, hc⟩ := hr (by rintro rfl; simp at h1)
  cases e
  have := hc j u h1
  rw [Nat.zero_add] at this
  exact ⟨u, ys, this, h2, h3, h4⟩
end
end SM
end Go.Proofs.YtjefaineggnogaaGreat
