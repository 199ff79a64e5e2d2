/- What is within an item, round by round: plain words, no program. -/
import Derived.Test.YtnboigbknadpdaaKitDfs
set_option linter.unusedVariables false
set_option linter.unusedSimpArgs false
namespace Go.Proofs.Ytnboigbknadpdaa
set_option maxRecDepth 100000
open Go.RowKit SM
/-- Reached in so many steps. -/
inductive ReachN (xs : List It) : ByteArray → ByteArray → Nat → Prop
  | refl (c) : ReachN xs c c 0
  | step {c d e m} : ReachN xs c d m → Edge xs d e → ReachN xs c e (m + 1)
theorem Reach.count {xs : List It} {c d : ByteArray} (h : Reach xs c d) : ∃ m, ReachN xs c d m := by
  induction h with
  | refl => exact ⟨0, .refl _⟩
  | step _ he ih =>
    obtain ⟨m, hm⟩ := ih
    exact ⟨m + 1, .step hm he⟩
theorem ReachN.short {xs : List It} {c d : ByteArray} {m : Nat} (h : ReachN xs c d m) : ∀ {n : Nat}, Dep xs c n → ∃ k, Dep xs d k ∧ m + k ≤ n := by
  induction h with
  | refl => exact fun hd => ⟨_, hd, by omega⟩
  | step _ he ih =>
    intro n hd
    obtain ⟨k, h1, h2⟩ := ih hd
    obtain ⟨j, h3, h4⟩ := h1.edge he
    exact ⟨j, h3, by omega⟩
def markW (xs : List It) (inn : List Bool) (ps : List Prt) : List Bool := ps.foldl (fun a p => a.set (placeI xs p.1) true) inn
def partsAt (xs : List It) (i : Nat) : List Prt := (xs[i]?.map (·.parts)).getD []
def stepW (xs : List It) (inn : List Bool) (i : Nat) : List Bool := if inn.getD i false = true then markW xs inn (partsAt xs i) else inn
def sweepW (xs : List It) (inn : List Bool) (i : Nat) : List Bool := (List.range i).foldl (stepW xs) inn
def roundsW (xs : List It) (c : ByteArray) : Nat → List Bool
  | 0 => (List.replicate xs.length false).set (placeI xs c) true
  | r + 1 => sweepW xs (roundsW xs c r) xs.length
def inV (xs : List It) (c : ByteArray) : List Bool := roundsW xs c xs.length
theorem sweepW_succ (xs : List It) (inn : List Bool) (i : Nat) : sweepW xs inn (i + 1) = stepW xs (sweepW xs inn i) i := by
  unfold sweepW; rw [List.range_succ, List.foldl_append]; rfl
theorem getD_setB {out : List Bool} {i j : Nat} : (out.set i true).getD j false = true ↔ (i = j ∧ j < out.length) ∨ out.getD j false = true := by
  rw [List.getD_eq_getElem?_getD, List.getD_eq_getElem?_getD, List.getElem?_set]
  by_cases h : i = j
  · subst h
    by_cases h2 : i < out.length
    · simp [h2]
    · simp [h2]
  · simp [h]
theorem markW_len (xs : List It) : ∀ (ps : List Prt) (inn : List Bool), (markW xs inn ps).length = inn.length
  | [], _ => rfl
  | p :: r, inn => by
    show (markW xs (inn.set (placeI xs p.1) true) r).length = _
    rw [markW_len xs r, List.length_set]
theorem stepW_len (xs : List It) (inn : List Bool) (i : Nat) : (stepW xs inn i).length = inn.length := by
  unfold stepW; split
  · exact markW_len _ _ _
  · rfl
theorem sweepW_len (xs : List It) (inn : List Bool) : ∀ i, (sweepW xs inn i).length = inn.length
  | 0 => rfl
  | i + 1 => by rw [sweepW_succ, stepW_len, sweepW_len xs inn i]
theorem roundsW_len (xs : List It) (c : ByteArray) : ∀ r, (roundsW xs c r).length = xs.length
  | 0 => by rw [roundsW, List.length_set, List.length_replicate]
  | r + 1 => by rw [roundsW, sweepW_len, roundsW_len xs c r]
theorem markW_get (xs : List It) {j : Nat} : ∀ (ps : List Prt) (inn : List Bool), j < inn.length → ((markW xs inn ps).getD j false = true ↔ inn.getD j false = true ∨ ∃ p ∈ ps, placeI xs p.1 = j)
  | [], inn, _ => by simp [markW]
  | p :: r, inn, hj => by
    show (markW xs (inn.set (placeI xs p.1) true) r).getD j false = true ↔ _
    rw [markW_get xs r _ (by rw [List.length_set]; exact hj), getD_setB]
    constructor
    · rintro ((⟨h, _⟩ | h) | ⟨q, hq, h⟩)
      · exact .inr ⟨p, List.mem_cons_self .., h⟩
      · exact .inl h
      · exact .inr ⟨q, List.mem_cons_of_mem _ hq, h⟩
    · rintro (h | ⟨q, hq, h⟩)
      · exact .inl (.inr h)
      · rcases List.mem_cons.1 hq with rfl | hq
        · exact .inl (.inl ⟨h, hj⟩)
        · exact .inr ⟨q, hq, h⟩
theorem stepW_keep (xs : List It) {inn : List Bool} {i j : Nat} (hj : j < inn.length) (h : inn.getD j false = true) : (stepW xs inn i).getD j false = true := by
  unfold stepW; split
  · exact (markW_get xs _ _ hj).2 (.inl h)
  · exact h
theorem place_eq {xs : List It} {c d : ByteArray} (h : placeI xs c = placeI xs d) (hl : placeI xs c < xs.length) : c = d := by
  obtain ⟨x, hx⟩ : ∃ x, xs[placeI xs c]? = some x := ⟨_, List.getElem?_eq_getElem hl⟩
  have h1 := placeI_code hx
  rw [h] at hx
  have h2 := placeI_code hx
  rw [← h1, h2]
/-- What stands there is true. -/
def TrueW (xs : List It) (c : ByteArray) (inn : List Bool) : Prop := inn.length = xs.length ∧ ∀ d, inn.getD (placeI xs d) false = true → Reach xs c d
/-- All that is reached in r steps stands there; ahead of i one step more. -/
def KnownW (xs : List It) (c : ByteArray) (inn : List Bool) (r i : Nat) : Prop := (∀ d m, ReachN xs c d m → m ≤ r → inn.getD (placeI xs d) false = true) ∧
  ∀ d e m, ReachN xs c d m → m ≤ r → Edge xs d e → placeI xs d < i → inn.getD (placeI xs e) false = true
theorem getD_lt {out : List Bool} {j : Nat} (h : out.getD j false = true) : j < out.length := by
  rcases Nat.lt_or_ge j out.length with h2 | h2
  · exact h2
  · rw [List.getD_eq_getElem?_getD, List.getElem?_eq_none h2] at h
    cases h
theorem edge_of {xs : List It} (hu : Uniq xs) {i : Nat} {x : It} (hx : xs[i]? = some x) {p : Prt} (hp : p ∈ x.parts) : Edge xs x.code p.1 := ⟨x, (hu i x hx).1, p.2, hp⟩
theorem TrueW.step {xs : List It} {c : ByteArray} {inn : List Bool} (hu : Uniq xs) (h : TrueW xs c inn) (i : Nat) : TrueW xs c (stepW xs inn i) := by
  refine ⟨by rw [stepW_len]; exact h.1, fun d hd => ?_⟩
  unfold stepW at hd
  split at hd
  · rename_i hi
    have hdl := getD_lt hd
    rw [markW_len] at hdl
    rcases (markW_get xs _ _ hdl).1 hd with hd | ⟨p, hp, he⟩
    · exact h.2 d hd
    · unfold partsAt at hp
      cases hx : xs[i]? with
      | none => rw [hx] at hp; cases hp
      | some x =>
        rw [hx] at hp
        simp only [Option.map_some, Option.getD_some] at hp
        have hpd : p.1 = d := place_eq he (by rw [he, ← h.1]; exact hdl)
        have hc : Reach xs c x.code := h.2 _ (by rw [(hu i x hx).2]; exact hi)
        rw [← hpd]
        exact .step hc (edge_of hu hx hp)
  · exact h.2 d hd
theorem KnownW.step {xs : List It} {c : ByteArray} {inn : List Bool} {r i : Nat} (hu : Uniq xs) (hk : ∀ x ∈ xs, ∀ p ∈ x.parts, ∃ y, findI xs p.1 = some y) (hl : inn.length = xs.length) (h : KnownW xs c inn r i) : KnownW xs c (stepW xs inn i) r (i + 1) := by
  refine ⟨fun d m hd hm => stepW_keep xs (getD_lt (h.1 d m hd hm)) (h.1 d m hd hm), fun d e m hd hm he hi => ?_⟩
  by_cases hlt : placeI xs d < i
  · exact stepW_keep xs (getD_lt (h.2 d e m hd hm he hlt)) (h.2 d e m hd hm he hlt)
  · have hid : placeI xs d = i := by omega
    obtain ⟨x, hx, q, hq⟩ := he
    have hp := (place_found hx).2
    rw [hid] at hp
    obtain ⟨y, hy⟩ := hk x (findI_mem hx) _ hq
    unfold stepW
    rw [if_pos (by rw [← hid]; exact h.1 d m hd hm)]
    refine (markW_get xs _ _ (by rw [hl]; exact (place_found hy).1)).2 (.inr ⟨(e, q), ?_, rfl⟩)
    unfold partsAt
    rw [hp]
    exact hq
theorem sweepW_inv {xs : List It} {c : ByteArray} (hu : Uniq xs) (hk : ∀ x ∈ xs, ∀ p ∈ x.parts, ∃ y, findI xs p.1 = some y) {inn : List Bool} {r : Nat} (h1 : TrueW xs c inn) (h2 : KnownW xs c inn r 0) : ∀ i, TrueW xs c (sweepW xs inn i) ∧ KnownW xs c (sweepW xs inn i) r i
  | 0 => ⟨h1, h2⟩
  | i + 1 => by
    rw [sweepW_succ]
    obtain ⟨h3, h4⟩ := sweepW_inv hu hk h1 h2 i
    exact ⟨h3.step hu i, h4.step hu hk h3.1⟩
theorem KnownW.next {xs : List It} {c : ByteArray} {inn : List Bool} {r : Nat} (h : KnownW xs c inn r xs.length) : KnownW xs c inn (r + 1) 0 := by
  refine ⟨fun d m hd hm => ?_, fun d e m _ _ _ hi => absurd hi (Nat.not_lt_zero _)⟩
  cases hd with
  | refl => exact h.1 c 0 (.refl _) (Nat.zero_le _)
  | step hd he =>
    obtain ⟨x, hx, q, hq⟩ := id he
    exact h.2 _ d _ hd (by omega) he (place_found hx).1
theorem roundsW_inv {xs : List It} {c : ByteArray} {x : It} (hx : findI xs c = some x) (hu : Uniq xs) (hk : ∀ x ∈ xs, ∀ p ∈ x.parts, ∃ y, findI xs p.1 = some y) : ∀ r, TrueW xs c (roundsW xs c r) ∧ KnownW xs c (roundsW xs c r) r 0
  | 0 => by
    refine ⟨⟨roundsW_len xs c 0, fun d hd => ?_⟩, ⟨fun d m hd hm => ?_, fun d e m _ _ _ hi => absurd hi (Nat.not_lt_zero _)⟩⟩
    · rcases getD_setB.1 hd with ⟨h1, h2⟩ | h1
      · rw [List.length_replicate] at h2
        rw [place_eq h1 (by rw [h1]; exact h2)]
        exact .refl _
      · have := getD_lt h1
        rw [List.getD_eq_getElem?_getD, List.getElem?_replicate] at h1
        split at h1 <;> cases h1
    · cases hd with
      | refl => exact getD_setB.2 (.inl ⟨rfl, by rw [List.length_replicate]; exact (place_found hx).1⟩)
      | step hd he => omega
  | r + 1 => by
    obtain ⟨h1, h2⟩ := roundsW_inv hx hu hk r
    obtain ⟨h3, h4⟩ := sweepW_inv hu hk h1 h2 xs.length
    exact ⟨h3, h4.next⟩
theorem inV_iff {xs : List It} (hs : Sound xs) {c : ByteArray} {x : It} (hx : findI xs c = some x) (d : ByteArray) : (inV xs c).getD (placeI xs d) false = true ↔ Reach xs c d := by
  obtain ⟨h1, h2⟩ := roundsW_inv hx hs.uniq hs.known xs.length
  refine ⟨h1.2 d, fun hr => ?_⟩
  obtain ⟨m, hm⟩ := hr.count
  have h3 := (hs.depth x (findI_mem hx)).1
  rw [findI_code hx] at h3
  have hd := dep_of hs.uniq (c := c) (by omega)
  obtain ⟨k, h4, h5⟩ := hm.short hd
  have := hd.le_len
  have := h4.pos
  exact h2.1 d m hm (by omega)
/-- What is within an item, by rising codes. -/
def withinL (xs : List It) (c : ByteArray) : List ByteArray :=
  if checkE xs = 0 ∧ (findI xs c).isSome = true then (xs.filter fun x => (inV xs c).getD (placeI xs x.code) false).map (·.code) else []
theorem Reach.known {xs : List It} (hk : ∀ x ∈ xs, ∀ p ∈ x.parts, ∃ y, findI xs p.1 = some y) {c d : ByteArray} (h : Reach xs c d) (hc : ∃ x, findI xs c = some x) : ∃ x, findI xs d = some x := by
  induction h with
  | refl => exact hc
  | step _ he ih =>
    obtain ⟨x, hx, q, hq⟩ := he
    exact hk x (findI_mem hx) _ hq
theorem withinL_mem {xs : List It} (h0 : checkE xs = 0) {c : ByteArray} {x : It} (hx : findI xs c = some x) (s : ByteArray) : s ∈ withinL xs c ↔ Reach xs c s := by
  have hs := check_sound h0
  unfold withinL
  rw [if_pos ⟨h0, by rw [hx]; rfl⟩, List.mem_map]
  constructor
  · rintro ⟨y, hy, rfl⟩
    exact (inV_iff hs hx _).1 (by simpa using (List.mem_filter.1 hy).2)
  · intro hr
    obtain ⟨y, hy⟩ := hr.known hs.known ⟨x, hx⟩
    refine ⟨y, List.mem_filter.2 ⟨findI_mem hy, ?_⟩, findI_code hy⟩
    rw [findI_code hy]
    exact (inV_iff hs hx s).2 hr
theorem withinL_rise {xs : List It} (h0 : checkE xs = 0) (c : ByteArray) : (withinL xs c).Pairwise ltS := by
  have hs := check_sound h0
  unfold withinL
  split
  · rw [List.pairwise_map]
    exact hs.rises.sublist List.filter_sublist
  · exact List.Pairwise.nil
theorem riseT_unique {a b : List ByteArray} (ha : a.Pairwise ltS) (hb : b.Pairwise ltS) (h : ∀ s, s ∈ a ↔ s ∈ b) : a = b := by
  have nd : ∀ {l : List ByteArray}, l.Pairwise ltS → l.Nodup := fun hl => List.nodup_iff_pairwise_ne.2 (hl.imp fun {x y} hxy => (by intro e; rw [e] at hxy; exact ltS_irrefl _ hxy))
  refine List.Perm.eq_of_pairwise (le := ltS) (fun _ _ _ _ h1 h2 => absurd h2 (ltS_asymm h1)) ha hb ?_
  exact (List.perm_ext_iff_of_nodup (nd ha) (nd hb)).2 h
end Go.Proofs.Ytnboigbknadpdaa
