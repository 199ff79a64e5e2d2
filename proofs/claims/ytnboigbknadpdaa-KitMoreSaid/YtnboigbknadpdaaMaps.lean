/- Maps that a call makes, told as functions from keys to values: look-ups, stores and walks over them, of whatever element type. -/
import Derived.WalkKit
import Derived.Maps.RangeWalk
import Derived.Maps.OwnOps
import Derived.Sort.KeysCollected
import Derived.Deep.Draws
set_option linter.unusedVariables false
set_option linter.unusedSimpArgs false
namespace Go.Proofs.Ytnboigbknadpdaa
set_option maxRecDepth 100000
namespace SM
open Go.RowKit Go.Maps

def rawR (v : Value) : Option (DataW Value × List MemPlace) := some (.held v, [])

structure KK (P : Program) (k : TypeId) (κ : Type) where
  K : Keyed P k
  val : κ → Value
  lit : κ → Lit
  ok : κ → Prop
  key : ∀ {x}, ok x → keyOf P k (val x) = some (lit x)
  inj : ∀ {x y}, lit x = lit y → x = y
  inv : ∀ {v l}, keyOf P k v = some l → ∃ x, v = val x ∧ l = lit x ∧ ok x

variable {P : Program} {k : TypeId} {κ : Type}

/-- The datum D says what f says. -/
def Rel (kk : KK P k κ) (D : DataW Value) (f : κ → Option Value) : Prop :=
  (∀ x v, f x = some v → kk.ok x) ∧ ∀ x, kk.ok x → (∀ v, f x = some v → ∀ z, D.atKey (kk.lit x) z = .held v) ∧ (f x = none → Maps.has D (kk.lit x) = false)

/-- Block b of w is a map of at most n entries, told by f. -/
def MapAt (kk : KK P k κ) (w : World) (b n : Nat) (f : κ → Option Value) : Prop :=
  ∃ D : DataW Value, w.ownsMap P k rawR b n D ∧ Rel kk D f

theorem Rel.has_of (kk : KK P k κ) {D : DataW Value} {f : κ → Option Value} (h : Rel kk D f) {x : κ} {v : Value} (hx : f x = some v) : Maps.has D (kk.lit x) = true :=
  Maps.has_true_of_atKey ((h.2 x (h.1 x v hx)).1 v hx)

def upd [DecidableEq κ] (f : κ → Option Value) (x : κ) (v : Value) : κ → Option Value := fun y => if y = x then some v else f y

section
variable {kk : KK P k κ} {w w' : World} {b n : Nat} {f : κ → Option Value}

theorem MapAt.made (kk : KK P k κ) (w : World) : MapAt kk (w.alloc (.map #[] 0)) w.heap.size 0 (fun _ => none) :=
  ⟨.map [], World.ownsMap_made w P k rawR, (by intro x v h; cases h), (by intro x _; exact ⟨(by intro v h; cases h), fun _ => rfl⟩)⟩
theorem MapAt.lt (h : MapAt kk w b n f) : b < w.heap.size := let ⟨_, h1, _⟩ := h; h1.lt
theorem MapAt.kept {row : Option Nat} (h : MapAt kk w b n f) (hg : w.grownBy w' row) (hne : some b ≠ row) : MapAt kk w' b n f :=
  let ⟨D, h1, h2⟩ := h; ⟨D, h1.kept hg hne, h2⟩
theorem MapAt.same (h : MapAt kk w b n f) (hs : w'.heap[b]? = w.heap[b]?) : MapAt kk w' b n f :=
  let ⟨D, ⟨es, clock, hb, r⟩, h2⟩ := h; ⟨D, ⟨es, clock, hs.trans hb, r⟩, h2⟩
theorem MapAt.alloc (h : MapAt kk w b n f) (o : Obj) : MapAt kk (w.alloc o) b n f := let ⟨D, h1, h2⟩ := h; ⟨D, h1.alloc o, h2⟩
theorem MapAt.drew (h : MapAt kk w b n f) : MapAt kk w.drew b n f := h
theorem MapAt.drewN (h : MapAt kk w b n f) (m : Nat) : MapAt kk (w.drewN m) b n f := h.same rfl
theorem MapAt.mono (h : MapAt kk w b n f) {n' : Nat} (hn : n ≤ n') : MapAt kk w b n' f := let ⟨D, h1, h2⟩ := h; ⟨D, h1.mono hn, h2⟩
theorem MapAt.okay (h : MapAt kk w b n f) {x : κ} {v : Value} (hx : f x = some v) : kk.ok x := let ⟨_, _, h2⟩ := h; h2.1 x v hx

theorem MapAt.look (c : Bool) (h : MapAt kk w b n f) {t e : TypeId} (ht : P.underlying t = some (.map k e)) {z : Value} (hz : (zeroValue e).run P w = .ok z w) {x : κ} (hx : kk.ok x) :
    (Instr.lookup t (.map (some b)) (kk.val x) c).run P w = .ok (if c then .tuple #[(f x).getD z, .bool (f x).isSome] else (f x).getD z) w := by
  obtain ⟨D, ⟨es, clock, hb, F, _, rfl⟩, h1, h2⟩ := h
  rcases Maps.fit_look c kk.K ht hz hb F (kk.key hx) with ⟨hrun, _, hat⟩ | ⟨e0, y, _, _, hrun, hR, hat, _⟩
  · cases hf : f x with
    | none => simpa using hrun
    | some v =>
      have a := (h2 x hx).1 v hf .nil
      rw [hat] at a
      cases a
  · have hy : y.1 = .held e0.val := by simp only [rawR, Option.some.injEq] at hR; rw [← hR]
    cases hf : f x with
    | none =>
      have a := Maps.atKey_of_not_has ((h2 x hx).2 hf) .nil
      rw [hat, hy] at a
      cases a
    | some v =>
      have a := (h2 x hx).1 v hf .nil
      rw [hat, hy] at a
      cases a
      simpa using hrun

theorem MapAt.store [DecidableEq κ] (h : MapAt kk w b n f) {t e : TypeId} (ht : P.underlying t = some (.map k e)) (hn : n < maxLen) {x : κ} (hx : kk.ok x) (v : Value) :
    ∃ w', (Instr.mapUpdate t (.map (some b)) (kk.val x) v).run P w = .ok () w' ∧ MapAt kk w' b (n + 1) (upd f x v) ∧ w.grownBy w' (some b) := by
  obtain ⟨D, hown, h1, h2⟩ := h
  obtain ⟨w', hrun, hown', hg⟩ := hown.update (d := .held v) (ps := []) kk.K ht hn (kk.key hx) rfl
  obtain ⟨es, rfl, _⟩ := hown.entries kk.K
  refine ⟨w', hrun, ⟨_, hown', fun y u hy => ?_, fun y hy => ?_⟩, hg⟩
  · unfold upd at hy
    split at hy
    · rename_i e; exact e ▸ hx
    · exact h1 y u hy
  · unfold upd
    by_cases e : y = x
    · subst e
      rw [if_pos rfl]
      refine ⟨fun u hu z => ?_, fun hu => by cases hu⟩
      cases hu
      exact Maps.atKey_put_same ⟨es, rfl⟩ (kk.K.key (kk.key hx)) _ z
    · rw [if_neg e]
      have hne : kk.lit y ≠ kk.lit x := fun e1 => e (kk.inj e1)
      exact ⟨fun u hu z => by rw [Maps.atKey_put_other hne]; exact (h2 y hy).1 u hu z, fun hu => by rw [Maps.has_put_other hne]; exact (h2 y hy).2 hu⟩

/-- A walk over the map: 'done' has come; cnt are left. -/
def RangeAt (kk : KK P k κ) (w : World) (b r n : Nat) (f : κ → Option Value) (done : List κ) (cnt : Nat) : Prop :=
  ∃ D left, w.ranges P k rawR b r n D left cnt ∧ Rel kk D f ∧ done.Nodup ∧ (∀ x ∈ done, (f x).isSome = true) ∧ ∀ x, (f x).isSome = true → (x ∈ done ↔ left (kk.lit x) = false)

theorem RangeAt.map {done : List κ} {r cnt : Nat} (h : RangeAt kk w b r n f done cnt) : MapAt kk w b n f := let ⟨D, _, h1, h2, _⟩ := h; ⟨D, h1.owns, h2⟩
theorem RangeAt.kept {done : List κ} {r cnt : Nat} {row : Option Nat} (h : RangeAt kk w b r n f done cnt) (hg : w.grownBy w' row) (hb : some b ≠ row) (hr : some r ≠ row) : RangeAt kk w' b r n f done cnt :=
  let ⟨D, left, h1, h2⟩ := h; ⟨D, left, h1.kept hg hb hr, h2⟩
theorem RangeAt.lt {done : List κ} {r cnt : Nat} (h : RangeAt kk w b r n f done cnt) : r < w.heap.size := let ⟨_, _, h1, _⟩ := h; h1.lt
theorem RangeAt.ne {done : List κ} {r cnt : Nat} (h : RangeAt kk w b r n f done cnt) : r ≠ b := let ⟨_, _, h1, _⟩ := h; h1.ne
theorem RangeAt.left_eq {done : List κ} {r cnt : Nat} (h : RangeAt kk w b r n f done cnt) : w.rangeLeft b r = cnt := let ⟨_, _, h1, _⟩ := h; h1.left_eq
theorem RangeAt.alloc {done : List κ} {r cnt : Nat} (h : RangeAt kk w b r n f done cnt) (o : Obj) : RangeAt kk (w.alloc o) b r n f done cnt := let ⟨D, left, h1, h2⟩ := h; ⟨D, left, h1.alloc o, h2⟩

theorem RangeAt.nodup {done : List κ} {r cnt : Nat} (h : RangeAt kk w b r n f done cnt) : done.Nodup := let ⟨_, _, _, _, h3, _⟩ := h; h3

theorem MapAt.size_le (h : MapAt kk w b n f) : ∃ D : DataW Value, w.ownsMap P k rawR b n D ∧ Maps.size D ≤ n := by
  obtain ⟨D, hown, _⟩ := h
  refine ⟨D, hown, ?_⟩
  obtain ⟨es, clock, _, _, hs, rfl⟩ := hown
  simp only [Maps.size, length_sorted]
  simpa using hs

/-- 'range m': an iterator at the heap's end. -/
theorem MapAt.range (h : MapAt kk w b n f) {t e : TypeId} (ht : P.underlying t = some (.map k e)) :
    ∃ w' cnt, (Instr.range t (.map (some b))).run P w = .ok (.pointer (some ⟨w.heap.size, 0, none⟩)) w' ∧ RangeAt kk w' b w.heap.size n f [] cnt ∧ cnt ≤ n ∧ w.grownBy w' none ∧ w'.heap.size = w.heap.size + 1 := by
  obtain ⟨D, hown, hrel⟩ := h
  obtain ⟨w', hrun, hr, hg, hs⟩ := hown.range kk.K ht
  have hsz : Maps.size D ≤ n := by
    obtain ⟨es, clock, _, _, hs, rfl⟩ := hown
    simp only [Maps.size, length_sorted]
    simpa using hs
  refine ⟨w', _, hrun, ⟨D, _, hr, hrel, List.nodup_nil, by simp, fun x hx => ?_⟩, hsz, hg, hs⟩
  obtain ⟨v, hv⟩ := Option.isSome_iff_exists.1 hx
  simp [hrel.has_of kk hv]

/-- The step: all has come, or one entry more comes. -/
theorem RangeAt.next {done : List κ} {r cnt : Nat} (h : RangeAt kk w b r n f done cnt) (ty : TypeId) :
    (cnt = 0 ∧ (∀ x, (f x).isSome = true → x ∈ done) ∧ (Instr.next (.pointer (some ⟨r, 0, none⟩)) false ty).run P w = .ok (.tuple #[.bool false]) w) ∨
    ∃ x v w' cnt', x ∉ done ∧ f x = some v ∧ kk.ok x ∧ (Instr.next (.pointer (some ⟨r, 0, none⟩)) false ty).run P w = .ok (.tuple #[.bool true, kk.val x, v]) w' ∧
      RangeAt kk w' b r n f (done ++ [x]) cnt' ∧ cnt' < cnt ∧ w.grownBy w' (some r) ∧ w'.heap.size = w.heap.size ∧ (Instr.entry (.pointer (some ⟨r, 0, none⟩))).run P w' = .ok (.tuple #[kk.val x, v]) w' := by
  obtain ⟨D, left, h1, hrel, hnd, hdo, hl⟩ := h
  rcases h1.next kk.K ty with ⟨h0, hleft, hrun⟩ | ⟨key, v, kl, y, w', cnt', hkey, hlk, hv, hat, hrun, hrg, hlt, hgr, hsz, hen⟩
  · exact .inl ⟨h0, fun x hx => (hl x hx).2 (hleft _), hrun⟩
  · obtain ⟨x, rfl, rfl, hok⟩ := kk.inv hkey
    have hy : y.1 = .held v := by simp only [rawR, Option.some.injEq] at hv; rw [← hv]
    have hfx : f x = some v := by
      cases hf : f x with
      | none =>
        have a := Maps.atKey_of_not_has ((hrel.2 x hok).2 hf) .nil
        rw [hat, hy] at a
        cases a
      | some u =>
        have a := (hrel.2 x hok).1 u hf .nil
        rw [hat, hy] at a
        cases a
        rfl
    have hnot : x ∉ done := fun hx => by
      have := (hl x (by rw [hfx]; rfl)).1 hx
      rw [hlk] at this
      cases this
    refine .inr ⟨x, v, w', cnt', hnot, hfx, hok, hrun, ⟨D, _, hrg, hrel, ?_, ?_, ?_⟩, hlt, hgr, hsz, hen⟩
    · exact List.nodup_append.2 ⟨hnd, by simp, fun a ha b hb => by simp at hb; subst hb; exact fun e => hnot (e ▸ ha)⟩
    · intro y hy'
      rcases List.mem_append.1 hy' with h' | h'
      · exact hdo y h'
      · simp at h'; subst h'; rw [hfx]; rfl
    · intro y hy'
      rw [List.mem_append, hl y hy']
      by_cases e : y = x
      · subst e
        simp [WideAt.sameKey_self (kk.K.key (kk.key hok))]
      · have hne : kk.lit y ≠ kk.lit x := fun e1 => e (kk.inj e1)
        simp [e, Maps.sameKey_ne hne]
end

/-! the kinds of keys -/
def strKK {P : Program} {k : TypeId} (hk : P.underlying k = some .string) : KK P k ByteArray where
  K := string_keyed hk
  val := fun s => .string s
  lit := fun s => .string s.data.toList
  ok := fun s => s.size ≤ maxLen
  key := fun h => WideMaps.keyOf_string_mk hk h
  inj := fun {x y} h => by
    have h1 : x.data.toList = y.data.toList := by injection h
    cases x; cases y
    simpa [← Array.toList_inj] using h1
  inv := fun {v l} h => by
    obtain ⟨x, rfl, rfl, hx⟩ := Maps.keyOf_str hk h
    exact ⟨⟨x.toArray⟩, by simp [Go.Proofs.encStr], by simp, by simpa [ByteArray.size] using hx⟩
def intKK {P : Program} {k : TypeId} {q : IntKind} (hk : P.underlying k = some (.int q)) : KK P k Int where
  K := int_keyed hk
  val := fun n => .int q n
  lit := fun n => .int q n
  ok := fun n => (Lit.int q n).wf = true
  key := fun h => Maps.keyOf_int_mk hk h
  inj := fun {x y} h => by injection h
  inv := fun {v l} h => by
    obtain ⟨x, rfl, rfl, hx⟩ := Maps.keyOf_int_inv hk h
    exact ⟨x, rfl, rfl, hx⟩
end SM
end Go.Proofs.Ytnboigbknadpdaa
