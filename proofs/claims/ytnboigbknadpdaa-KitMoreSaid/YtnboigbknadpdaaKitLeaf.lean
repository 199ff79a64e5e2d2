/- What is in an item in the end: plain words, no program. -/
import Derived.Test.YtnboigbknadpdaaKitDfs
import Derived.Test.YtnboigbknadpdaaJoinApp
set_option linter.unusedVariables false
set_option linter.unusedSimpArgs false
namespace Go.Proofs.Ytnboigbknadpdaa
set_option maxRecDepth 100000
open Go.RowKit SM
/-- What is in so many of some parts, one behind the other. -/
def lvs (f : ByteArray → Int → Option (List Prt)) (q : Int) : List Prt → Option (List Prt)
  | [] => some []
  | p :: r => if (mulI q p.2).2 = true then (f p.1 (mulI q p.2).1).bind fun a => (lvs f q r).map fun b => a ++ b else none
/-- .. of an item. -/
def lv (xs : List It) : Nat → ByteArray → Int → Option (List Prt)
  | 0, _, _ => none
  | n + 1, c, q => match findI xs c with
    | none => none
    | some x => if x.parts = [] then some [(c, q)] else lvs (lv xs n) q x.parts
/-- .. put together with what is there. -/
def putE (xs : List It) (n : Nat) (acc : List Prt) (c : ByteArray) (q : Int) : Option (List Prt) := (lv xs n c q).bind fun l => joinL (acc ++ l)
def putsE (xs : List It) (n : Nat) (acc : List Prt) (q : Int) (ps : List Prt) : Option (List Prt) := (lvs (lv xs n) q ps).bind fun l => joinL (acc ++ l)
def Jd (acc : List Prt) : Prop := ∃ a, joinL a = some acc
theorem Jd.nil : Jd [] := ⟨[], rfl⟩
theorem putE_leaf {xs : List It} {n : Nat} {acc : List Prt} {c : ByteArray} {q : Int} {x : It} (h : findI xs c = some x) (hp : x.parts = []) : putE xs (n + 1) acc c q = joinL (acc ++ [(c, q)]) := by
  unfold putE lv
  rw [h]
  simp only [hp, ↓reduceIte, Option.bind_some]
theorem putE_kit {xs : List It} {n : Nat} {acc : List Prt} {c : ByteArray} {q : Int} {x : It} (h : findI xs c = some x) (hp : x.parts ≠ []) : putE xs (n + 1) acc c q = putsE xs n acc q x.parts := by
  unfold putE putsE
  rw [lv, h]
  simp only [hp, ↓reduceIte]
theorem putsE_nil {xs : List It} {n : Nat} {acc : List Prt} {q : Int} (h : Jd acc) : putsE xs n acc q [] = some acc := by
  obtain ⟨a, ha⟩ := h
  unfold putsE lvs
  rw [Option.bind_some, List.append_nil, joinL_again ha]
theorem putsE_over {xs : List It} {n : Nat} {acc : List Prt} {q : Int} {p : Prt} {r : List Prt} (h : (mulI q p.2).2 = false) : putsE xs n acc q (p :: r) = none := by
  unfold putsE
  rw [lvs, if_neg (by rw [h]; decide)]; rfl
theorem putsE_cons {xs : List It} {n : Nat} {acc : List Prt} {q m : Int} {p : Prt} {r : List Prt} (h : mulI q p.2 = (m, true)) : putsE xs n acc q (p :: r) = (putE xs n acc p.1 m).bind fun b => putsE xs n b q r := by
  unfold putsE putE
  rw [lvs, h]
  simp only [↓reduceIte]
  cases hl : lv xs n p.1 m with
  | none => rfl
  | some a =>
    simp only [Option.bind_some]
    cases hr : lvs (lv xs n) q r with
    | none =>
      simp only [Option.map_none, Option.bind_none]
      cases joinL (acc ++ a) <;> rfl
    | some b =>
      simp only [Option.map_some, Option.bind_some]
      rw [← List.append_assoc]
      cases hj : joinL (acc ++ a) with
      | none => rw [joinL_app_none hj]; rfl
      | some d => rw [Option.bind_some, joinL_app hj]
theorem putE_jd {xs : List It} {n : Nat} {acc b : List Prt} {c : ByteArray} {q : Int} (h : putE xs n acc c q = some b) : Jd b := by
  unfold putE at h
  obtain ⟨l, _, h2⟩ := Option.bind_eq_some_iff.1 h
  exact ⟨_, h2⟩
/-- All codes are those of items. -/
def InC (xs : List It) (acc : List Prt) : Prop := ∀ p ∈ acc, ∃ x, findI xs p.1 = some x
theorem InC.nil (xs : List It) : InC xs [] := fun p hp => by cases hp
theorem lvs_in {xs : List It} {f : ByteArray → Int → Option (List Prt)} (hf : ∀ c q l, f c q = some l → InC xs l) {q : Int} : ∀ {ps l : List Prt}, lvs f q ps = some l → InC xs l
  | [], l, h => by unfold lvs at h; cases h; exact InC.nil xs
  | p :: r, l, h => by
    unfold lvs at h
    split at h
    · obtain ⟨a, h1, h2⟩ := Option.bind_eq_some_iff.1 h
      obtain ⟨b, h3, rfl⟩ := Option.map_eq_some_iff.1 h2
      intro s hs
      rcases List.mem_append.1 hs with hs | hs
      · exact hf _ _ _ h1 s hs
      · exact lvs_in hf h3 s hs
    · cases h
theorem lv_in {xs : List It} : ∀ {n : Nat} {c : ByteArray} {q : Int} {l : List Prt}, lv xs n c q = some l → InC xs l
  | 0, c, q, l, h => by unfold lv at h; cases h
  | n + 1, c, q, l, h => by
    unfold lv at h
    cases hx : findI xs c with
    | none => rw [hx] at h; cases h
    | some x =>
      rw [hx] at h
      simp only at h
      split at h
      · cases h
        intro p hp
        simp only [List.mem_singleton] at hp
        subst hp
        exact ⟨x, hx⟩
      · exact lvs_in (fun c q l h => lv_in h) h
theorem joinL_in {xs : List It} {a b : List Prt} (h : joinL a = some b) (ha : InC xs a) : InC xs b := fun p hp => by
  obtain ⟨q, hq, he⟩ := joinL_item h hp
  rw [← he]; exact ha q hq
theorem InC.app {xs : List It} {a b : List Prt} (ha : InC xs a) (hb : InC xs b) : InC xs (a ++ b) := fun p hp => by
  rcases List.mem_append.1 hp with hp | hp
  · exact ha p hp
  · exact hb p hp
theorem putE_in {xs : List It} {n : Nat} {acc b : List Prt} {c : ByteArray} {q : Int} (h : putE xs n acc c q = some b) (ha : InC xs acc) : InC xs b := by
  unfold putE at h
  obtain ⟨l, h1, h2⟩ := Option.bind_eq_some_iff.1 h
  exact joinL_in h2 (ha.app (lv_in h1))
/-- Joined parts of items are no more than the items. -/
theorem jd_len {xs : List It} {acc : List Prt} (h : Jd acc) (hi : InC xs acc) : acc.length ≤ xs.length := by
  obtain ⟨a, ha⟩ := h
  have hr := joinL_rise ha
  have hn : (acc.map fun p => placeI xs p.1).Nodup := by
    rw [List.nodup_iff_pairwise_ne, List.pairwise_map]
    unfold Rise at hr
    refine hr.imp_of_mem fun {p q} hp hq hlt he => ?_
    obtain ⟨x, hx⟩ := hi p hp
    obtain ⟨y, hy⟩ := hi q hq
    have h1 := (place_found hx).2
    have h2 := (place_found hy).2
    rw [he, h2] at h1
    cases h1
    rw [← findI_code hx, ← findI_code hy] at hlt
    exact ltS_irrefl _ hlt
  have := nodup_le xs.length _ hn (fun i hi2 => by
    obtain ⟨p, hp, rfl⟩ := List.mem_map.1 hi2
    obtain ⟨x, hx⟩ := hi p hp
    exact (place_found hx).1)
  simpa using this
end Go.Proofs.Ytnboigbknadpdaa
