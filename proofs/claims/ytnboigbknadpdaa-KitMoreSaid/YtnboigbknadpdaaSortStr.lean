/- slices.SortedFunc of a map's keys: the keys, rising. -/
import Derived.Test.YtnboigbknadpdaaItems
import Derived.Test.YtnboigbknadpdaaRows2
import Derived.Test.YtnboigbknadpdaaShelf
import Derived.Test.YtnboigbknadpdaaStr
import Derived.Shelf.SlIter.Keys
import Derived.Shelf.SlIter.Collect
import Derived.Shelf.SlSortCmp.Whole1
import Derived.Shelf.SlSortCmp.NoneTotal
import Derived.Sort.OwnSorted
import Derived.Sort.KeysCollected
import Derived.RangeFuncBound
set_option linter.unusedVariables false
set_option linter.unusedSimpArgs false
namespace Go.Proofs.Ytnboigbknadpdaa
set_option maxRecDepth 100000
open Go.RowKit SM Go.Maps
def toB (x : List UInt8) : ByteArray := ⟨x.toArray⟩
theorem toB_inj {x y : List UInt8} (h : toB x = toB y) : x = y := by
  unfold toB at h
  injection h with h
  simpa using h
theorem toB_list (s : ByteArray) : toB s.data.toList = s := by
  cases s; simp [toB]
theorem encStr_flat (ss : List (List UInt8)) : ss.map encStr = (ss.map toB).flatMap encS := by
  induction ss with
  | nil => rfl
  | cons x r ih => rw [List.map_cons, List.map_cons, List.flatMap_cons, ih]; rfl
/-- What stands in a map's list of keys. -/
theorem map_keys {w : World} {b n : Nat} {f : FI} (h : MapS w b n (asI f)) : ∃ D : DataW Value, w.ownsMap Try.prog 9 rawR b n D ∧ (strKeys D).Nodup ∧ (∀ x : List UInt8, x ∈ strKeys D ↔ f (toB x) ≠ none) ∧ Maps.size D ≤ n := by
  obtain ⟨D, hown, hrel⟩ := h
  have hsz : Maps.size D ≤ n := by
    obtain ⟨es, clock, _, _, hs, rfl⟩ := hown
    simp only [Maps.size, length_sorted]
    simpa using hs
  obtain ⟨es, hD, hpw, _⟩ := hown.entries (Maps.string_keyed Try.underlying9)
  obtain ⟨es', hD', hko⟩ := hown.keysOf
  obtain rfl : es = es' := by rw [hD] at hD'; simpa using hD'
  have hk : ∀ p ∈ es, ∃ x : List UInt8, p.1 = .string x ∧ x.length ≤ maxLen := fun p hp => by
    obtain ⟨v, hv⟩ := hko p hp
    obtain ⟨x, _, hx, hl⟩ := Maps.keyOf_str Try.underlying9 hv
    exact ⟨x, hx, hl⟩
  refine ⟨D, hown, ?_, fun x => ?_, hsz⟩
  · rw [hD]
    show (es.map fun p => strOf p.1).Nodup
    refine List.pairwise_map.2 (hpw.imp_of_mem fun {p q} hp' hq' hne e => hne ?_)
    obtain ⟨a, ha, _⟩ := hk p hp'
    obtain ⟨b, hb, _⟩ := hk q hq'
    rw [ha, hb] at e ⊢
    exact congrArg _ e
  · have hmem : x ∈ strKeys D ↔ Maps.has D (.string x) = true := by
      rw [hD, has_eq, List.any_eq_true]
      show x ∈ es.map (fun p => strOf p.1) ↔ _
      rw [List.mem_map]
      constructor
      · rintro ⟨p, hp', rfl⟩
        obtain ⟨a, ha, _⟩ := hk p hp'
        exact ⟨p, hp', by rw [ha]; simp [Lit.sameKey, strOf]⟩
      · rintro ⟨p, hp', hs⟩
        obtain ⟨a, ha, _⟩ := hk p hp'
        rw [ha] at hs
        exact ⟨p, hp', by rw [ha]; simpa [Lit.sameKey, strOf] using hs⟩
    rw [hmem]
    constructor
    · intro hh hn
      have hx : x ∈ strKeys D := hmem.2 hh
      rw [hD] at hx
      obtain ⟨p, hp, hpe⟩ := List.mem_map.1 hx
      obtain ⟨a, ha, hl⟩ := hk p hp
      have hax : a = x := by rw [← hpe, ha]; rfl
      have hok : (toB x).size ≤ maxLen := by unfold toB; rw [← hax]; simpa [ByteArray.size] using hl
      have := (hrel.2 (toB x) hok).2 (by unfold asI; rw [hn]; rfl)
      have e : (Lit.string (toB x).data.toList) = .string x := by simp [toB]
      rw [show (strKK (P := Try.prog) Try.underlying9).lit (toB x) = .string x from e] at this
      rw [hh] at this
      cases this
    · intro hn
      obtain ⟨v, hv⟩ := Option.ne_none_iff_exists'.1 hn
      have := hrel.has_of _ (x := toB x) (v := .int .i64 v) (by unfold asI; rw [hv]; rfl)
      have e : (Lit.string (toB x).data.toList) = .string x := by simp [toB]
      rw [show (strKK (P := Try.prog) Try.underlying9).lit (toB x) = .string x from e] at this
      exact this
def cmpL (x y : List UInt8) : Int := Lib.compareBytes x y
theorem cmpL_lt (x y : List UInt8) : ltOf cmpL x y = decide (x < y) := by
  unfold ltOf
  exact decide_eq_decide.2 (cmpB_lt _ _)
theorem strSwo : Sort.SWO (ltOf cmpL) where
  irrefl x := by rw [cmpL_lt]; simp
  trans x y z h1 h2 := by rw [cmpL_lt] at *; simp at *; exact List.lt_trans h1 h2
  ntrans x y z h1 h2 := by
    rw [cmpL_lt] at *
    simp only [decide_eq_false_iff_not] at *
    intro h3
    exact absurd (List.le_trans (List.not_lt.1 h2) (List.not_lt.1 h1)) (List.not_le.2 h3)
/-- The texts' sort. -/
theorem sort_strs {base : Nat} (v : Value) (ss : List (List UInt8)) (w : World) (hown : w.ownsRow base 9 1 v ss.length (ss.map encStr)) (hn : ss.length < 4611686018427387904) :
    Calls Try.prog 55 #[v, .func (.func 38) #[] #[]] w fun e w' =>
      e = .returned (.tuple #[]) ∧ ∃ ts : List (List UInt8), ts.Perm ss ∧ (ts.Pairwise fun a b => ¬ b < a) ∧ w'.ownsRow base 9 1 v ts.length (ts.map encStr) ∧ w.grownBy w' v.ownBlock := by
  rcases hown.2 with ⟨rfl, h0⟩ | ⟨g, cap, cur, rfl, hbase, hb, h1, h2, h3, h4⟩
  · have h0' : ss = [] := List.eq_nil_of_length_eq_zero h0
    subst h0'
    refine (AnyF.slices_SortFunc_none { Try.sortStr with } none 0 (.func (.func 38) #[] #[]) w).mono ?_
    rintro e w' ⟨rfl, rfl⟩
    exact ⟨rfl, [], List.Perm.refl _, List.Pairwise.nil, hown, ⟨rfl, rfl, rfl, Nat.le_refl _, fun _ _ _ => rfl⟩⟩
  · have hH : Sort.Holds encStr w g 0 ss.toArray := holds_of_block hb (by simpa using h4)
    have eg : ∀ args w, (callFunc 38 args).run Try.prog w = .ok (.enter 38 args) w := enters_of Try.func38 (by kernel_rfl) rfl
    have hcon := Any.slices_SortFunc Try.sortStr encStr (fun x => rfl) cmpL strSwo 38 #[] g 0 cap ss.toArray w eg
      (fun m os dk _ x y => (Try.strings_Compare (toB x) (toB y) _).mono fun e w' ⟨he, hw⟩ => ⟨by rw [he]; simp [toB, cmpL], 0, #[], by rw [hw]; simp [Sort.grow_empty]; rfl⟩) hH (Array.getElem?_eq_some_iff.1 hb).1 (by simpa using hn)
    have hcon' : Calls Try.prog 55 #[.slice (some ⟨g, 0, none⟩) ss.length cap, .func (.func 38) #[] #[]] w _ := hcon
    refine hcon'.mono ?_
    rintro e w' ⟨rfl, d', n, os, hp, hs, rfl⟩
    have hperm := perm_of_permIn hp
    have hd : d'.size = ss.toArray.size := hp.1
    have hl : d'.toList.length = ss.length := by rw [Array.length_toList, hd]; simp
    refine ⟨rfl, d'.toList, hperm, ?_, ?_, grownBy_sorted _⟩
    · rw [← hd] at hs
      refine (pairwise_of_sortedIn hs).imp fun {_ _} h => ?_
      rw [cmpL_lt] at h
      simpa using h
    · rw [hl]
      have := ownsRow_sorted (ss := ss) (ts := d'.toList) (n := n) (os := os) hl hbase hb h1 h2 h3
      rwa [Array.toArray_toList] at this
/-- Texts that rise. -/
def RiseT (ys : List ByteArray) : Prop := ys.Pairwise ltS
/-- What SortedFunc hands out of a map's keys. -/
def SortedR (f : FI) (W : World) (e : Ending) (w' : World) : Prop :=
  ∃ (v : Value) (ys : List ByteArray), e = .returned v ∧ RiseT ys ∧ (∀ s, s ∈ ys ↔ f s ≠ none) ∧ w'.ownsRow W.heap.size 9 1 v ys.length (ys.flatMap encS) ∧ Below W.heap.size W w'
theorem rise_toB {ts ks : List (List UInt8)} (hp : ts.Perm ks) (hn : ks.Nodup) (hs : ts.Pairwise fun a b => ¬ b < a) : RiseT (ts.map toB) := by
  unfold RiseT
  rw [List.pairwise_map]
  have hn2 := (hp.nodup_iff.2 hn)
  refine (hs.and (List.nodup_iff_pairwise_ne.1 hn2)).imp fun {a b} ⟨h1, h2⟩ => ?_
  show (toB a).data.toList < (toB b).data.toList
  simp only [toB]
  rcases Decidable.em (a < b) with h | h
  · exact h
  · exact absurd (List.le_antisymm (List.not_lt.1 h1) (List.not_lt.1 h)) h2
set_option maxHeartbeats 4000000 in
theorem sortedKeys_any (w : World) (b n : Nat) (f : FI) (hM : MapS w b n (asI f)) (hn : n ≤ 1000000) :
    Calls Try.prog 36 #[.func (.func 56) #[] #[.pointer (some ⟨w.heap.size, 0, none⟩)], .func (.func 38) #[] #[]] (w.alloc (.cells #[.map (some b)] 55)) (SortedR f (w.alloc (.cells #[.map (some b)] 55))) := by
  obtain ⟨D, hown, hnd, hmem, hsz⟩ := map_keys hM
  have hbl := hown.lt
  have hseq : SeqGives Fence.wide 4 Try.prog 56 #[.pointer (some ⟨w.heap.size, 0, none⟩)] encStr (fun ss => ss.Perm (strKeys D)) (Maps.size D) (w.alloc (.cells #[.map (some b)] 55)) :=
    AnyZ.keys_gives (ρ := Try.keysI_ren) { Try.keysI with } Fence.wide _ trivial rfl (by omega) w.heap.size b n D _ (by simp) (by simp) (hown.alloc _)
  have hcol := AnyZ.collect_in Try.collS Fence.wide 6 trivial trivial rfl (by omega) 56 #[.pointer (some ⟨w.heap.size, 0, none⟩)] trivial (enters_of Try.func56 (by kernel_rfl) rfl) (fun ss => ss.Perm (strKeys D) ∧ ss.length ≤ Maps.size D) (Maps.size D) (by unfold maxLen; omega) (by omega) _ hseq.bounded
  have hcol2 := callsIn_wide.1 hcol
  have hcol3 : Calls Try.prog 54 #[.func (.func 56) #[] #[.pointer (some ⟨w.heap.size, 0, none⟩)]] (w.alloc (.cells #[.map (some b)] 55)) (fun e w1 => ∃ v, e = .returned v ∧
      Hid (Calls Try.prog 55 #[v, .func (.func 38) #[] #[]] w1 (fun e w' => e = .returned (.tuple #[]) ∧ Hid (SortedR f (w.alloc (.cells #[.map (some b)] 55)) (.returned v) w')))) := by
    refine Calls.mono (R := _) hcol2 ?_
    rintro e w1 ⟨v, ss, rfl, ⟨hS, hlen⟩, hrow, hnil, hb⟩
    refine ⟨v, rfl, ?_⟩
    have hrow' : w1.ownsRow (w.alloc (.cells #[.map (some b)] 55)).heap.size 9 1 v ss.length (ss.map encStr) := hrow
    refine (sort_strs v ss w1 hrow' (by omega)).mono ?_
    rintro e w' ⟨rfl, ts, hp, hso, ho, hg⟩
    refine ⟨rfl, v, ts.map toB, rfl, rise_toB (hp.trans hS) hnd hso, fun s => ?_, ?_, ?_⟩
    · rw [List.mem_map]
      constructor
      · rintro ⟨x, hx, rfl⟩
        exact (hmem x).1 ((hp.trans hS).mem_iff.1 hx)
      · intro hs
        refine ⟨s.data.toList, (hp.trans hS).mem_iff.2 ((hmem _).2 (by rw [toB_list]; exact hs)), toB_list s⟩
    · rw [List.length_map, ← encStr_flat]
      exact ho
    · exact hb.grown hg hb.size (fun j hj => (hrow'.lt j hj).1)
  have HC := Lib.hid hcol3
  clear hcol hcol2 hcol3 hseq hmem hnd hown hsz hM hbl
  go_enter Try.func36, Try.ntmps36
  go_wp2_with (first | (go_at_call 54; (with_reducible refine HC.out.mono ?_); rintro e w1 ⟨v, rfl, HS⟩) | (go_at_call 55; (with_reducible refine HS.out.mono ?_); rintro e w2 ⟨rfl, HR⟩))
  go_ret
  exact HR.out
end Go.Proofs.Ytnboigbknadpdaa
