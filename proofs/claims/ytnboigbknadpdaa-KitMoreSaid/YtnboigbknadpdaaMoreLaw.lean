/- Sound items stay sound with one more: plain words, no program. -/
import Derived.Test.YtnboigbknadpdaaKitDepth
set_option linter.unusedVariables false
set_option linter.unusedSimpArgs false
namespace Go.Proofs.Ytnboigbknadpdaa
set_option maxRecDepth 100000
open Go.RowKit SM
theorem shapes_of : ∀ {xs : List It} {o : Option ByteArray}, (∀ x ∈ xs, codeB x.code = true ∧ rightB x = true) → Rises xs → (∀ c, o = some c → ∀ x ∈ xs, ltS c x.code) → shapesB o xs = true
  | [], _, _, _, _ => rfl
  | x :: r, o, h1, h2, h3 => by
    obtain ⟨h4, h5⟩ := List.pairwise_cons.1 h2
    have hx := h1 x (List.mem_cons_self ..)
    unfold shapesB
    rw [hx.1, hx.2, shapes_of (fun y hy => h1 y (List.mem_cons_of_mem _ hy)) h5 (fun c hc y hy => by cases hc; exact h4 y hy)]
    cases o with
    | none => rfl
    | some c =>
      have h6 : decide (ltS c x.code) = true := decide_eq_true (h3 c rfl x (List.mem_cons_self ..))
      simp [aheadB, h6]
theorem known_of {xs : List It} (h : ∀ x ∈ xs, ∀ p ∈ x.parts, ∃ y, findI xs p.1 = some y) : knownB xs xs = true := by
  unfold knownB knownP
  rw [List.all_eq_true]
  intro x hx
  rw [List.all_eq_true]
  intro p hp
  exact Option.isSome_iff_exists.2 (h x hx p hp)
/-- What makes items sound. -/
theorem sound_check {xs : List It} (hl : xs.length ≤ 60) (he : ∀ x ∈ xs, codeB x.code = true ∧ rightB x = true) (hr : Rises xs) (hk : ∀ x ∈ xs, ∀ p ∈ x.parts, ∃ y, findI xs p.1 = some y) (hd : ∀ x ∈ xs, ∃ d, Dep xs x.code d ∧ d ≤ 8) : checkE xs = 0 := by
  have hu := hr.uniq
  have h2 : shapesB none xs = true := shapes_of he hr (fun c hc => by cases hc)
  have h3 := known_of hk
  have h6 : ¬ (depthsV xs).any (fun d => d == 0) = true := fun hh => by
    obtain ⟨x, hx, hq⟩ := (depths_any hu _).1 hh
    obtain ⟨d, h4, _⟩ := hd x hx
    rw [depI_of hu h4] at hq
    have := h4.pos
    simp only [beq_iff_eq] at hq
    omega
  have h7 : ¬ (depthsV xs).any (fun d => decide (8 < d)) = true := fun hh => by
    obtain ⟨x, hx, hq⟩ := (depths_any hu _).1 hh
    obtain ⟨d, h4, h5⟩ := hd x hx
    rw [depI_of hu h4] at hq
    simp only [decide_eq_true_eq] at hq
    omega
  unfold checkE; rw [if_neg (by omega), h2, if_neg (by decide), h3, if_neg (by decide), if_neg h6, if_neg h7]
theorem Sound.has {xs : List It} (h : Sound xs) {c : ByteArray} {x : It} (hx : findI xs c = some x) : Dep xs c (depI xs c) ∧ 1 ≤ depI xs c ∧ depI xs c ≤ 8 := by
  have h1 := h.depth x (findI_mem hx)
  rw [findI_code hx] at h1
  exact ⟨dep_of h.uniq (by omega), h1⟩
/-- One item more, of another code. -/
theorem findI_more {xs : List It} {x : It} {c : ByteArray} {y : It} (h : findI xs c = some y) : findI (xs ++ [x]) c = some y := by
  unfold findI at h ⊢
  rw [List.find?_append, h]; rfl
theorem findI_last {xs : List It} {x : It} (h : ∀ y ∈ xs, y.code ≠ x.code) : findI (xs ++ [x]) x.code = some x := by
  unfold findI
  rw [List.find?_append, List.find?_eq_none.2 (fun y hy => by simpa using h y hy)]
  simp
theorem findI_other {xs : List It} {x : It} {c : ByteArray} {y : It} (h : findI (xs ++ [x]) c = some y) (hc : c ≠ x.code) : findI xs c = some y := by
  unfold findI at h ⊢
  rw [List.find?_append] at h
  have : [x].find? (fun z => decide (z.code = c)) = none := by
    rw [List.find?_eq_none]
    intro z hz
    simp only [List.mem_singleton] at hz
    subst hz
    simpa using fun e => hc e.symm
  rw [this] at h
  simpa using h
theorem Dep.more {xs : List It} {x : It} {c : ByteArray} {n : Nat} (h : Dep xs c n) : Dep (xs ++ [x]) c n := by
  induction h with
  | mk y c m ds hy hl hp hm ih => exact .mk y c m ds (findI_more hy) hl (fun i p d h1 h2 => ih i p d h1 h2) hm
theorem rises_more {xs : List It} {x : It} (h : Rises xs) (hx : ∀ y ∈ xs, ltS y.code x.code) : Rises (xs ++ [x]) := by
  unfold Rises
  rw [List.pairwise_append]
  exact ⟨h, by simp, fun a ha b hb => by simp only [List.mem_singleton] at hb; subst hb; exact hx a ha⟩
/-- With one kept item more. -/
theorem more_kept {xs : List It} (h : checkE xs = 0) {x : It} (hl : xs.length ≤ 58) (hp : x.parts = []) (hc : codeB x.code = true) (hr : rightB x = true) (hx : ∀ y ∈ xs, ltS y.code x.code) : checkE (xs ++ [x]) = 0 := by
  have hs := check_sound h
  have hne : ∀ y ∈ xs, y.code ≠ x.code := fun y hy e => ltS_irrefl _ (e ▸ hx y hy)
  refine sound_check (by rw [List.length_append]; simp; omega) (fun y hy => ?_) (rises_more hs.rises hx) (fun y hy p hp2 => ?_) (fun y hy => ?_)
  · rcases List.mem_append.1 hy with hy | hy
    · exact hs.each y hy
    · simp only [List.mem_singleton] at hy; subst hy; exact ⟨hc, hr⟩
  · rcases List.mem_append.1 hy with hy | hy
    · obtain ⟨z, hz⟩ := hs.known y hy p hp2
      exact ⟨z, findI_more hz⟩
    · simp only [List.mem_singleton] at hy; subst hy; rw [hp] at hp2; cases hp2
  · rcases List.mem_append.1 hy with hy | hy
    · obtain ⟨i, hi, he⟩ := List.getElem_of_mem hy
      have hf := (hs.uniq i y (by rw [List.getElem?_eq_getElem hi, he])).1
      have := hs.has hf
      exact ⟨_, this.1.more, this.2.2⟩
    · simp only [List.mem_singleton] at hy
      subst hy
      exact ⟨1, .mk y y.code 1 [] (findI_last hne) (by rw [hp]; rfl) (fun i p d h1 h2 => by simp at h2) rfl, by omega⟩
theorem depI_more {xs : List It} (h : checkE xs = 0) {x : It} (h2 : checkE (xs ++ [x]) = 0) {c : ByteArray} {y : It} (hy : findI xs c = some y) : depI (xs ++ [x]) c = depI xs c :=
  depI_of (check_sound h2).uniq ((check_sound h).has hy).1.more
/-- Are these parts of some items, that may be a kit? -/
def fineP (ys : List It) (ps : List Prt) : Prop := 1 ≤ ps.length ∧ ps.length ≤ 8 ∧ (∀ p ∈ ps, 1 ≤ p.2 ∧ p.2 ≤ 1073741824 ∧ ∃ y, findI ys p.1 = some y) ∧ (ps.map (·.1)).Nodup
def deepP (ys : List It) (ps : List Prt) : Nat := (ps.map fun p => depI ys p.1).foldl (fun a d => max a (d + 1)) 0
theorem foldl_max_zero (ds : List Nat) (hne : ds ≠ []) : ds.foldl (fun a d => max a (d + 1)) 0 = ds.foldl (fun a d => max a (d + 1)) 1 := by
  cases ds with
  | nil => exact absurd rfl hne
  | cons d r =>
    simp only [List.foldl_cons]
    congr 1
theorem more_kit {ys : List It} (h : checkE ys = 0) {x : It} (hl : ys.length ≤ 59) (h0 : x.life = 0) (hc : codeB x.code = true) (hx : ∀ y ∈ ys, ltS y.code x.code) :
    checkE (ys ++ [x]) = 0 ↔ fineP ys x.parts ∧ deepP ys x.parts ≤ 8 := by
  have hs := check_sound h
  have hne : ∀ y ∈ ys, y.code ≠ x.code := fun y hy e => ltS_irrefl _ (e ▸ hx y hy)
  constructor
  · intro h2
    have hz := check_sound h2
    have hmx : x ∈ ys ++ [x] := List.mem_append_right _ (by simp)
    have hrt := (hz.each x hmx).2
    have hpn : x.parts ≠ [] := fun e => by
      unfold rightB at hrt
      rw [if_pos e, h0] at hrt
      revert hrt; decide
    unfold rightB at hrt
    rw [if_neg hpn] at hrt
    simp only [Bool.and_eq_true, decide_eq_true_eq] at hrt
    obtain ⟨⟨⟨a1, a2⟩, a3⟩, a4⟩ := hrt
    have hd := hz.has (findI_last hne)
    have hpk : ∀ p ∈ x.parts, ∃ y, findI ys p.1 = some y := fun p hp => by
      obtain ⟨y, hy⟩ := hz.known x hmx p hp
      have hpx : p.1 ≠ x.code := fun e => hd.1.acyclic (⟨x, findI_last hne, p.2, hp⟩ : Edge (ys ++ [x]) x.code p.1) (e ▸ .refl _)
      exact ⟨y, findI_other hy hpx⟩
    refine ⟨⟨?_, a4, fun p hp => ⟨(a1 p hp).1, (a1 p hp).2, hpk p hp⟩, a2⟩, ?_⟩
    · have : x.parts.length ≠ 0 := fun e => hpn (List.eq_nil_of_length_eq_zero e)
      omega
    · have hde : Dep (ys ++ [x]) x.code ((x.parts.map fun p => depI ys p.1).foldl (fun a d => max a (d + 1)) 1) := by
        refine .mk x x.code _ (x.parts.map fun p => depI ys p.1) (findI_last hne) (by simp) (fun i p d hp hdd => ?_) rfl
        rw [List.getElem?_map, hp] at hdd
        simp only [Option.map_some, Option.some.injEq] at hdd
        obtain ⟨y, hy⟩ := hpk p (List.mem_of_getElem? hp)
        rw [← hdd]
        exact (hs.has hy).1.more
      have := hd.1.unique hde
      unfold deepP
      rw [foldl_max_zero _ (by simpa using hpn), ← this]
      exact hd.2.2
  · rintro ⟨⟨a1, a2, a3, a4⟩, a5⟩
    have hpn : x.parts ≠ [] := fun e => by rw [e] at a1; simp at a1
    refine sound_check (by rw [List.length_append]; simp; omega) (fun y hy => ?_) (rises_more hs.rises hx) (fun y hy p hp2 => ?_) (fun y hy => ?_)
    · rcases List.mem_append.1 hy with hy | hy
      · exact hs.each y hy
      · simp only [List.mem_singleton] at hy
        subst hy
        refine ⟨hc, ?_⟩
        unfold rightB
        rw [if_neg hpn]
        simp only [Bool.and_eq_true, decide_eq_true_eq]
        exact ⟨⟨⟨fun p hp => ⟨(a3 p hp).1, (a3 p hp).2.1⟩, a4⟩, h0⟩, a2⟩
    · rcases List.mem_append.1 hy with hy | hy
      · obtain ⟨z, hz⟩ := hs.known y hy p hp2
        exact ⟨z, findI_more hz⟩
      · simp only [List.mem_singleton] at hy
        subst hy
        obtain ⟨z, hz⟩ := (a3 p hp2).2.2
        exact ⟨z, findI_more hz⟩
    · rcases List.mem_append.1 hy with hy | hy
      · obtain ⟨i, hi, he⟩ := List.getElem_of_mem hy
        have hf := (hs.uniq i y (by rw [List.getElem?_eq_getElem hi, he])).1
        have := hs.has hf
        exact ⟨_, this.1.more, this.2.2⟩
      · simp only [List.mem_singleton] at hy
        subst hy
        refine ⟨(y.parts.map fun p => depI ys p.1).foldl (fun a d => max a (d + 1)) 1, .mk y y.code _ (y.parts.map fun p => depI ys p.1) (findI_last hne) (by simp) (fun i p d hp hdd => ?_) rfl, ?_⟩
        · rw [List.getElem?_map, hp] at hdd
          simp only [Option.map_some, Option.some.injEq] at hdd
          obtain ⟨z, hz⟩ := (a3 p (List.mem_of_getElem? hp)).2.2
          rw [← hdd]
          exact (hs.has hz).1.more
        · rw [← foldl_max_zero _ (by simpa using hpn)]
          exact a5
end Go.Proofs.Ytnboigbknadpdaa
