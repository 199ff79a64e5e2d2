/- Rows of the call's own: appended to (and what becomes of the elder slice), stored into. -/
import Derived.Test.YtnboigbknadpdaaHeap
import Derived.Deep.MidRow
set_option linter.unusedVariables false
set_option linter.unusedSimpArgs false
namespace Go.Proofs.Ytnboigbknadpdaa
set_option maxRecDepth 100000
namespace SM
open Go.RowKit
theorem flat_drop {α : Type} {enc : α → List Value} {k : Nat} (hk : ∀ x, (enc x).length = k) : ∀ (l : List α) (n : Nat), (l.drop n).flatMap enc = (l.flatMap enc).drop (n * k)
  | [], n => by simp
  | x :: r, 0 => by simp
  | x :: r, n + 1 => by
    have e : (enc x).drop ((n + 1) * k) = [] := List.drop_eq_nil_of_le (by rw [hk, Nat.add_mul]; omega)
    rw [List.drop_succ_cons, flat_drop hk r n, List.flatMap_cons, List.drop_append, hk, e, List.nil_append]
    congr 1
    rw [Nat.add_mul]; omega
theorem flat_take {α : Type} {enc : α → List Value} {k : Nat} (hk : ∀ x, (enc x).length = k) : ∀ (l : List α) (n : Nat), (l.take n).flatMap enc = (l.flatMap enc).take (n * k)
  | [], n => by simp
  | x :: r, 0 => by simp
  | x :: r, n + 1 => by
    rw [List.take_succ_cons, List.flatMap_cons, flat_take hk r n, List.flatMap_cons, List.take_append, hk, List.take_of_length_le (l := enc x) (by rw [hk, Nat.add_mul]; omega)]
    congr 2
    rw [Nat.add_mul]; omega


section
variable {P : Program} {w : World} {base : Nat} {t tx ty e : TypeId} {i : TypeInfo} {z : Value} {size bytes : Nat} {v x : Value} {n m : Nat} {xs news : List Value}
theorem append_own_more (ht : P.underlying t = some (.slice e)) (hi : P.info? e = some i) (hz : i.zero = some z)
    (hsize : i.size = size) (hby : i.bytes = bytes) (hzs : z.cells.size = size) (hsz : 0 < size)
    (hown : w.ownsRow base e size v n xs) (hs : Src P size tx x m news w)
    (h63 : n + m ≤ maxLen) (hbytes : (n + m) * bytes ≤ 140737488355328) (hbase : base ≤ w.heap.size) :
    ∃ v' w', (Builtin.append_ #[t, tx] ty #[v, x]).run P w = .ok v' w' ∧ w'.ownsRow base e size v' (n + m) (xs ++ news) ∧ w.grownBy w' v.ownBlock ∧
      (v' = .slice none 0 0 ↔ v = .slice none 0 0 ∧ m = 0) ∧ w'.ownsRow base e size v n xs ∧ (v'.ownBlock = v.ownBlock ∨ v'.ownBlock = some w.heap.size) := by
  subst hsize
  subst hby
  have hl := hs.newsLen
  have hsmall : n + m ≤ 9223372036854775807 := by simp only [maxLen] at h63; omega
  have hlen : (xs ++ news).length = (n + m) * i.size := by rw [List.length_append, hown.1, hl, Nat.add_mul]
  have grown : ∀ (old : Nat), old < n + m → ∀ (row : Option Nat),
      (w.drew.alloc (.cells ((xs ++ news).toArray ++ Builtin.zeroCells z.cells (grownCap w (n + m) old e - (n + m))) e)).ownsRow base e i.size
        (.slice (some ⟨w.heap.size, 0, none⟩) (n + m) (grownCap w (n + m) old e)) (n + m) (xs ++ news) ∧
      w.grownBy (w.drew.alloc (.cells ((xs ++ news).toArray ++ Builtin.zeroCells z.cells (grownCap w (n + m) old e - (n + m))) e)) row := by
    intro old ho row
    have hge := grownCap_ge w (n + m) old e
    have hcm : grownCap w (n + m) old e ≤ maxLen := grownCap_le_maxLen w (n + m) old e h63
    refine ⟨⟨hlen, .inr ⟨w.heap.size, _, _, rfl, hbase, heap_alloc_new w.drew _, hge, hcm, ?_, ?_⟩⟩, ⟨rfl, rfl, rfl, by simp, fun k hk _ => Below.heap_alloc w.drew _ k hk⟩⟩
    · simp only [Array.size_append, List.size_toArray, size_zeroCells, hzs, hlen, ← Nat.add_mul]
      congr 1
      omega
    · simp only [Array.toList_append]
      rw [← hlen]
      exact List.take_left
  rcases hown.2 with ⟨rfl, rfl⟩ | ⟨g, cap, cur, rfl, hbg, hg, hnc, hcm, hcs, htake⟩
  · have hx : xs = [] := List.eq_nil_of_length_eq_zero (by simpa using hown.1)
    subst hx
    by_cases hm : m = 0
    · subst hm
      have hn : news = [] := List.eq_nil_of_length_eq_zero (by simpa using hl)
      subst hn
      refine ⟨.slice none 0 0, w, ?_, World.ownsRow_nil w base e i.size, ⟨rfl, rfl, rfl, Nat.le_refl _, fun _ _ _ => rfl⟩, by simp, World.ownsRow_nil w base e i.size, .inl rfl⟩
      have hc := hs.cells
      rcases hs.kind with ⟨e', hk⟩ | hk <;> simp [Builtin.append_, run_underlying ht, run_underlying hk, sizeOf, typeInfo, hi, hs.len, hc]
    · have hr := run_append_grow_src (P := P) w t tx ty e i z ht hi hz none 0 0 [] (run_firstCells_none w.drew i.size 0 0 0) x m news hs (by omega) (by omega)
        (growslice_fits (by omega) (by have hb := hbytes; simp only [Nat.zero_add] at hb ⊢; exact hb))
      have hgr := grown 0 (by omega) (Value.ownBlock (.slice none 0 0))
      simp only [Nat.zero_add, List.nil_append] at hgr hr ⊢
      exact ⟨_, _, hr, hgr.1, hgr.2, by simp [hm], World.ownsRow_nil _ base e i.size, .inr rfl⟩
  · by_cases hroom : n + m ≤ cap
    · have hfit : n * i.size + news.length ≤ cur.size := by rw [hl, hcs, ← Nat.add_mul]; exact Nat.mul_le_mul_right _ hroom
      have hcell : ∀ j, j < news.length → (w.cell? ⟨g, 0 + n * i.size + j, none⟩).isSome = true := fun j hj => by
        rw [cell_of_row w g _ cur e (0, 0) hg, Nat.zero_add]
        rw [Array.getElem?_eq_getElem (by omega)]; rfl
      have hfr : ∀ j, j < news.length → w.frozen? ⟨g, 0 + n * i.size + j, none⟩ = false := fun j hj => by
        simp [World.frozen?, hg]
      have hr := run_append_room_src (P := P) w t tx ty e i ht hi g 0 n cap x m news hs hroom hcell hfr
      have hset : w.setCells g (0 + n * i.size) news = w.setRow g (cur.toList.take (n * i.size) ++ news ++ cur.toList.drop (n * i.size + news.length)).toArray := by
        have a1 := run_storeCells_cells (P := P) g (0 + n * i.size) news 0 w (by simpa using hcell) (by simpa using hfr) hs.one
        have a2 := run_storeCells_at P g (n * i.size) e news 0 cur w hg (by simpa using hfit) hs.one
        simp only [Nat.add_zero, Nat.zero_add] at a1 a2
        rw [a1] at a2
        simpa using a2
      rw [hset] at hr
      refine ⟨_, _, hr, ⟨hlen, .inr ⟨g, cap, _, rfl, hbg, setRow_heap w g cur _ e _ hg, hroom, hcm, ?_, ?_⟩⟩, ⟨rfl, rfl, rfl, by simp, fun k _ hk => setRow_other w g k _ (fun e => hk (by simp [Value.ownBlock, e]))⟩, by simp, ⟨hown.1, .inr ⟨g, cap, _, rfl, hbg, setRow_heap w g cur _ e _ hg, hnc, hcm, ?_, ?_⟩⟩, .inl rfl⟩
      · simp only [List.size_toArray, List.length_append, List.length_take, List.length_drop, Array.length_toList]
        omega
      · rw [htake, ← hlen]
        exact List.take_left
      · simp only [List.size_toArray, List.length_append, List.length_take, List.length_drop, Array.length_toList]
        omega
      · rw [htake, List.append_assoc, ← hown.1]
        exact List.take_left
    · have holds : ∀ j u, xs[j]? = some u → w.drew.cell? ((⟨g, 0, none⟩ : Addr).add j) = some u := hown.cells (g := g) rfl
      have hr := run_append_grow_src (P := P) w t tx ty e i z ht hi hz (some ⟨g, 0, none⟩) n cap xs (run_firstCells_some w.drew i.size n ⟨g, 0, none⟩ n cap xs hown.1 holds) x m news hs (by omega) (by omega) (growslice_fits (by omega) hbytes)
      have hgr := grown cap (by omega) (Value.ownBlock (.slice (some ⟨g, 0, none⟩) n cap))
      exact ⟨_, _, hr, hgr.1, hgr.2, by simp, ⟨hown.1, .inr ⟨g, cap, cur, rfl, hbg, (Below.heap_alloc w.drew _ g (Array.getElem?_eq_some_iff.1 hg).1).trans hg, hnc, hcm, hcs, htake⟩⟩, .inr rfl⟩

end

section
variable {P : Program} {w : World} {base : Nat} {ty e : TypeId} {k : Nat} {α : Type} {enc : α → List Value}
theorem set_flat (hk : ∀ x, (enc x).length = k) : ∀ (xs : List α) (j : Nat) (x : α), j < xs.length → (xs.set j x).flatMap enc = (xs.flatMap enc).take (j * k) ++ enc x ++ (xs.flatMap enc).drop (j * k + k)
  | [], j, x, h => by simp at h
  | y :: r, 0, x, h => by
    rw [List.set_cons_zero, List.flatMap_cons, List.flatMap_cons, Nat.zero_mul, List.take_zero, List.nil_append, Nat.zero_add, List.drop_left' (hk y)]
  | y :: r, j + 1, x, h => by
    have ih := set_flat hk r j x (by simpa using h)
    have e1 : (j + 1) * k = k + j * k := by rw [Nat.add_mul]; omega
    rw [List.set_cons_succ, List.flatMap_cons, ih, List.flatMap_cons, e1, List.take_append, hk, List.take_of_length_le (l := enc y) (by rw [hk]; omega), List.drop_append, hk, List.drop_eq_nil_of_le (as := enc y) (by rw [hk]; omega)]
    simp only [Nat.add_sub_cancel_left, List.nil_append, List.append_assoc]
    rw [show k + j * k + k - k = j * k + k by omega]
/-- A store into a row of the call's own. -/
theorem own_store_run (P : Program) (hk : ∀ x, (enc x).length = k) {g cap : Nat} {xs : List α} (hown : w.ownsRow base e k (.slice (some ⟨g, 0, none⟩) xs.length cap) xs.length (xs.flatMap enc)) {j : Nat} (hj : j < xs.length) (x : α) (h1 : ∀ u ∈ enc x, u.oneCell' = true) :
    (w.setCells g (j * k) (enc x)).ownsRow base e k (.slice (some ⟨g, 0, none⟩) xs.length cap) xs.length ((xs.set j x).flatMap enc) ∧ w.grownBy (w.setCells g (j * k) (enc x)) (some g) ∧ w.there g (j * k) k := by
  rcases hown.2 with ⟨h, _⟩ | ⟨g', cap', cur, h, hbg, hg, hnc, hcm, hcs, htake⟩
  · cases h
  cases h
  have hfit : j * k + (enc x).length ≤ cur.size := by
    rw [hk, hcs]
    have h1 : (j + 1) * k ≤ cap * k := Nat.mul_le_mul_right _ (by omega)
    rw [Nat.add_mul] at h1
    omega
  have hcell : ∀ t, t < k → (w.cell? ⟨g, j * k + t, none⟩).isSome = true := fun t ht => by
    rw [cell_of_row w g _ cur e (0, 0) hg, Array.getElem?_eq_getElem (by rw [hk] at hfit; omega)]; rfl
  have hfr : ∀ t, t < k → w.frozen? ⟨g, j * k + t, none⟩ = false := fun t ht => by simp [World.frozen?, hg]
  have hset : w.setCells g (j * k) (enc x) = w.setRow g (cur.toList.take (j * k) ++ enc x ++ cur.toList.drop (j * k + (enc x).length)).toArray := by
    have a1 := run_storeCells_cells (P := P) g (j * k) (enc x) 0 w (by simpa [hk] using hcell) (by simpa [hk] using hfr) h1
    have a2 := run_storeCells_at P g (j * k) e (enc x) 0 cur w hg (by simpa using hfit) h1
    simp only [Nat.add_zero] at a1 a2
    rw [a1] at a2
    simpa using a2
  refine ⟨?_, ?_, fun t ht => ⟨hcell t ht, hfr t ht⟩⟩
  · rw [hset]
    refine ⟨by rw [flat_length hk, List.length_set], .inr ⟨g, cap, _, rfl, hbg, setRow_heap w g cur _ e _ hg, hnc, hcm, ?_, ?_⟩⟩
    · simp only [List.size_toArray, List.length_append, List.length_take, List.length_drop, Array.length_toList]
      omega
    · have hx := set_flat hk xs j x hj
      have hl : (xs.flatMap enc).length = xs.length * k := flat_length hk xs
      have hjx : j * k + k ≤ xs.length * k := by
        have : (j + 1) * k ≤ xs.length * k := Nat.mul_le_mul_right _ (by omega)
        rw [Nat.add_mul] at this
        omega
      rw [hx, ← htake, List.take_take, Nat.min_eq_left (by omega)]
      apply List.ext_getElem?
      intro t
      rw [hk] at hfit ⊢
      have hcl : cur.toList.length = cap * k := by rw [Array.length_toList, hcs]
      have hck : xs.length * k ≤ cap * k := Nat.mul_le_mul_right _ hnc
      have hA : (cur.toList.take (j * k) ++ enc x).length = j * k + k := by rw [List.length_append, List.length_take, hk]; omega
      generalize List.take (j * k) cur.toList ++ enc x = A at hA ⊢
      by_cases ht : t < xs.length * k
      · rw [List.getElem?_take_of_lt ht]
        by_cases ht2 : t < j * k + k
        · rw [List.getElem?_append_left (by omega), List.getElem?_append_left (by omega)]
        · rw [List.getElem?_append_right (by omega), List.getElem?_append_right (by omega), hA, List.getElem?_drop, List.getElem?_drop, List.getElem?_take_of_lt (by omega)]
      · rw [List.getElem?_take_eq_none (by omega), List.getElem?_eq_none]
        rw [List.length_append, hA, List.length_drop, List.length_take]
        omega
  · rw [hset]
    exact ⟨rfl, rfl, rfl, by simp, fun b _ hb => setRow_other w g b _ (fun e => hb (by rw [e]))⟩
theorem own_store (hk : ∀ x, (enc x).length = k) (h1 : ∀ x, ∀ u ∈ enc x, u.oneCell' = true) {g cap : Nat} {xs : List α} (hown : w.ownsRow base e k (.slice (some ⟨g, 0, none⟩) xs.length cap) xs.length (xs.flatMap enc)) {j : Nat} (hj : j < xs.length) (x : α) (hi : (P.info? ty).map (·.size) = some k) :
    ∃ w', (Instr.storeAt ty (.pointer (some ⟨g, j * k, none⟩)) (.agg (enc x).toArray)).run P w = .ok () w' ∧ w'.ownsRow base e k (.slice (some ⟨g, 0, none⟩) xs.length cap) xs.length ((xs.set j x).flatMap enc) ∧ w.grownBy w' (some g) := by
  obtain ⟨h2, h3, h4⟩ := own_store_run P hk hown hj x (h1 x)
  refine ⟨_, ?_, h2, h3⟩
  have := run_storeAt_mid (P := P) w g (j * k) ty (enc x).toArray (by simpa [hk] using h4) (by simpa [hk] using hi) (by simpa using h1 x)
  simpa using this
/-- .. of one cell. -/
theorem own_store1 (P : Program) (hk : ∀ x, (enc x).length = 1) (h1 : ∀ x, ∀ u ∈ enc x, u.oneCell' = true) {g cap : Nat} {xs : List α} (hown : w.ownsRow base e 1 (.slice (some ⟨g, 0, none⟩) xs.length cap) xs.length (xs.flatMap enc)) {j : Nat} (hj : j < xs.length) (x : α) (u : Value) (hu : enc x = [u]) :
    (w.setCell ⟨g, j, none⟩ u).ownsRow base e 1 (.slice (some ⟨g, 0, none⟩) xs.length cap) xs.length ((xs.set j x).flatMap enc) ∧ w.grownBy (w.setCell ⟨g, j, none⟩ u) (some g) ∧ w.there g j 1 := by
  have := own_store_run P hk hown hj x (h1 x)
  rw [hu, Nat.mul_one] at this
  exact this
end
/-! ### what a call touches -/
/-- w' is w with new blocks, and writes into blocks of S alone. -/
structure Tch (S : Nat → Prop) (w w' : World) : Prop where
  os : w'.os = w.os
  tape : w'.tape = w.tape
  output : w'.output = w.output
  size : w.heap.size ≤ w'.heap.size
  block : ∀ k, k < w.heap.size → ¬ S k → w'.heap[k]? = w.heap[k]?
section
variable {S S' : Nat → Prop} {w w' w'' : World}
theorem Tch.refl (S : Nat → Prop) (w : World) : Tch S w w := ⟨rfl, rfl, rfl, Nat.le_refl _, fun _ _ _ => rfl⟩
theorem Tch.trans (h : Tch S w w') (h2 : Tch S' w' w'') (hs : ∀ k, S' k → S k ∨ w.heap.size ≤ k) : Tch S w w'' :=
  ⟨h2.os.trans h.os, h2.tape.trans h.tape, h2.output.trans h.output, Nat.le_trans h.size h2.size, fun k hk hn => (h2.block k (Nat.lt_of_lt_of_le hk h.size) (fun h' => (hs k h').elim hn (by omega))).trans (h.block k hk hn)⟩
theorem Tch.mono (h : Tch S w w') (hs : ∀ k, S k → S' k) : Tch S' w w' := ⟨h.os, h.tape, h.output, h.size, fun k hk hn => h.block k hk (fun h' => hn (hs k h'))⟩
theorem Tch.drop (h : Tch S w w') (hs : ∀ k, S k → S' k ∨ w.heap.size ≤ k) : Tch S' w w' := ⟨h.os, h.tape, h.output, h.size, fun k hk hn => h.block k hk (fun h' => (hs k h').elim hn (by omega))⟩
theorem Tch.of_below (h : Below w.heap.size w w') (S : Nat → Prop) : Tch S w w' := ⟨h.os, h.tape, h.output, h.size, fun k hk _ => h.block k hk⟩
theorem Tch.of_grown {row : Option Nat} (h : w.grownBy w' row) (hs : ∀ k, row = some k → S k) : Tch S w w' := ⟨h.os, h.tape, h.output, h.size, fun k hk hn => h.block k hk (fun e => hn (hs k e.symm))⟩
theorem Tch.below {B : Nat} {w0 : World} (h : Tch S w w') (h0 : Below B w0 w) (hB : B ≤ w.heap.size) (hs : ∀ k, S k → B ≤ k) : Below B w0 w' :=
  ⟨h.os.trans h0.os, h.tape.trans h0.tape, h.output.trans h0.output, Nat.le_trans h0.size h.size, fun k hk => (h.block k (by omega) (fun h' => by have := hs k h'; omega)).trans (h0.block k hk)⟩
theorem Tch.own (h : Tch S w w') {base n k : Nat} {e : TypeId} {v : Value} {cs : List Value} (ho : w.ownsRow base e k v n cs) (hs : ∀ b, v.ownBlock = some b → ¬ S b) : w'.ownsRow base e k v n cs :=
  own_same ho fun b hb hlt => h.block b hlt (hs b hb)
theorem Tch.rd (h : Tch S w w') {A : Option Addr} {cs : List Value} (hr : Rd w A cs) (hs : ∀ a : Addr, A = some a → ¬ S a.block) : Rd w' A cs :=
  hr.of_heap fun a ha hlt => h.block _ hlt (hs a ha)
end
/-- A store whose run is known, at a list of operations. -/
theorem wpList_store_run {P : Program} {ops : Array Oper} {rest : List Oper} {op : Oper} {a : Act} {w w' : World} {Q : Exit → Act → World → Prop} {ty : TypeId} {p v : Value} (hr : (Instr.storeAt ty p v).run P w = .ok () w')
    (hgd : op.guard = none) (x y : Operand) (ho : op.op = .store ty x y) (hx : a.eval x = p) (hy : a.eval y = v) (h : wpList P ops Q rest (a.put op.dst undef) w') : wpList P ops Q (op :: rest) a w :=
  wpList_plain hgd fun _ hK => by
    unfold Oper.wp execOp
    simp only [ho, hx, hy, Sem.run_bind, hr, Result.andThen_ok, Sem.run_pure, Oper.upon]
    exact hK _ _ h
end SM
end Go.Proofs.Ytnboigbknadpdaa
