/- Plain Lean, no program: texts in the order of their bytes, and lists of pairs that rise by their keys. -/
import Derived.Lib.Bytealg
import Derived.Sort.Statements
set_option linter.unusedVariables false
set_option linter.unusedSimpArgs false
namespace Go.Proofs.Ytnboigbknadpdaa
set_option maxRecDepth 100000
namespace SM

/-- Go's '<' on texts. -/
def ltS (a b : ByteArray) : Prop := a.data.toList < b.data.toList
instance (a b : ByteArray) : Decidable (ltS a b) := by unfold ltS; infer_instance
theorem ltS_irrefl (a : ByteArray) : ¬ ltS a a := List.lt_irrefl _
theorem ltS_trans {a b c : ByteArray} (h1 : ltS a b) (h2 : ltS b c) : ltS a c := List.lt_trans h1 h2
theorem bytes_ext {a b : ByteArray} (h : a.data.toList = b.data.toList) : a = b := by
  cases a; cases b
  simpa [← Array.toList_inj] using h
theorem ltS_tri (a b : ByteArray) : ltS a b ∨ a = b ∨ ltS b a := by
  by_cases h1 : ltS a b
  · exact .inl h1
  · by_cases h2 : ltS b a
    · exact .inr (.inr h2)
    · exact .inr (.inl (bytes_ext (List.le_antisymm (List.not_lt.1 h2) (List.not_lt.1 h1))))
theorem ltS_asymm {a b : ByteArray} (h : ltS a b) : ¬ ltS b a := fun h2 => ltS_irrefl a (ltS_trans h h2)

theorem cmpB_lt : ∀ a b : List UInt8, Lib.compareBytes a b < 0 ↔ a < b
  | [], [] => by simp [Lib.compareBytes]
  | [], b :: bs => by simp [Lib.compareBytes]
  | a :: as, [] => by simp [Lib.compareBytes]
  | a :: as, b :: bs => by
    unfold Lib.compareBytes
    rw [List.cons_lt_cons_iff]
    by_cases h1 : a < b
    · simp [h1]
    · by_cases h2 : b < a
      · have h3 : a ≠ b := by rintro rfl; exact h1 h2
        simp [h1, h2, h3]
      · have h3 : a = b := UInt8.le_antisymm (UInt8.not_lt.1 h2) (UInt8.not_lt.1 h1)
        subst h3
        simp [cmpB_lt as bs]
theorem cmpB_eq : ∀ a b : List UInt8, Lib.compareBytes a b = 0 ↔ a = b
  | [], [] => by simp [Lib.compareBytes]
  | [], b :: bs => by simp [Lib.compareBytes]
  | a :: as, [] => by simp [Lib.compareBytes]
  | a :: as, b :: bs => by
    unfold Lib.compareBytes
    by_cases h1 : a < b
    · have h3 : a ≠ b := by rintro rfl; exact UInt8.lt_irrefl _ h1
      simp [h1, h3]
    · by_cases h2 : b < a
      · have h3 : a ≠ b := by rintro rfl; exact h1 h2
        simp [h1, h2, h3]
      · have h3 : a = b := UInt8.le_antisymm (UInt8.not_lt.1 h2) (UInt8.not_lt.1 h1)
        subst h3
        simp [cmpB_eq as bs]
def cmpS (a b : ByteArray) : Int := Lib.compareBytes a.data.toList b.data.toList
theorem cmpS_lt (a b : ByteArray) : cmpS a b < 0 ↔ ltS a b := cmpB_lt _ _

/-! ### pairs that rise by their keys -/
section
variable {β : Type}
def Rise (l : List (ByteArray × β)) : Prop := l.Pairwise fun a b => ltS a.1 b.1
def findA (k : ByteArray) : List (ByteArray × β) → Option β
  | [] => none
  | p :: r => if p.1 = k then some p.2 else findA k r
def insA (k : ByteArray) (v : β) : List (ByteArray × β) → List (ByteArray × β)
  | [] => [(k, v)]
  | p :: r => if ltS k p.1 then (k, v) :: p :: r else if k = p.1 then (k, v) :: r else p :: insA k v r
theorem mem_of_findA {k : ByteArray} {v : β} : ∀ {l : List (ByteArray × β)}, findA k l = some v → (k, v) ∈ l
  | [], h => by simp [findA] at h
  | p :: r, h => by
    unfold findA at h
    split at h
    · rename_i e
      cases h
      subst e
      simp
    · exact List.mem_cons_of_mem _ (mem_of_findA h)
theorem findA_of_mem {k : ByteArray} {v : β} : ∀ {l : List (ByteArray × β)}, Rise l → (k, v) ∈ l → findA k l = some v
  | [], _, h => by simp at h
  | p :: r, hr, h => by
    obtain ⟨h1, h2⟩ := List.pairwise_cons.1 hr
    rcases List.mem_cons.1 h with e | h'
    · subst e; simp [findA]
    · have := h1 _ h'
      have hne : p.1 ≠ k := by rintro e; rw [e] at this; exact ltS_irrefl _ this
      rw [findA, if_neg hne]
      exact findA_of_mem h2 h'
theorem findA_none {k : ByteArray} : ∀ {l : List (ByteArray × β)}, (∀ p ∈ l, p.1 ≠ k) → findA k l = none
  | [], _ => rfl
  | p :: r, h => by rw [findA, if_neg (h p (by simp))]; exact findA_none fun q hq => h q (by simp [hq])
theorem mem_insA {k : ByteArray} {v : β} {q : ByteArray × β} : ∀ {l : List (ByteArray × β)}, q ∈ insA k v l → q = (k, v) ∨ q ∈ l
  | [], h => by simp [insA] at h; exact .inl h
  | p :: r, h => by
    unfold insA at h
    split at h
    · simpa using h
    · split at h
      · rcases List.mem_cons.1 h with e | h'
        · exact .inl e
        · exact .inr (by simp [h'])
      · rcases List.mem_cons.1 h with e | h'
        · exact .inr (by simp [e])
        · rcases mem_insA h' with e | h''
          · exact .inl e
          · exact .inr (by simp [h''])
theorem rise_insA (k : ByteArray) (v : β) : ∀ {l : List (ByteArray × β)}, Rise l → Rise (insA k v l)
  | [], _ => by simp [insA, Rise]
  | p :: r, hr => by
    obtain ⟨h1, h2⟩ := List.pairwise_cons.1 hr
    unfold insA
    split
    · rename_i hlt
      refine List.pairwise_cons.2 ⟨fun q hq => ?_, hr⟩
      rcases List.mem_cons.1 hq with e | h'
      · rw [e]; exact hlt
      · exact ltS_trans hlt (h1 q h')
    · split
      · rename_i e
        refine List.pairwise_cons.2 ⟨fun q hq => ?_, h2⟩
        show ltS k q.1
        rw [e]; exact h1 q hq
      · rename_i hn1 hn2
        have hlt : ltS p.1 k := by rcases ltS_tri p.1 k with h | h | h; · exact h
                                   · exact absurd h.symm hn2
                                   · exact absurd h hn1
        refine List.pairwise_cons.2 ⟨fun q hq => ?_, rise_insA k v h2⟩
        rcases mem_insA hq with e | h'
        · rw [e]; exact hlt
        · exact h1 q h'
theorem findA_insA (k : ByteArray) (v : β) (k' : ByteArray) : ∀ {l : List (ByteArray × β)}, Rise l → findA k' (insA k v l) = if k' = k then some v else findA k' l
  | [], _ => by
    simp only [insA, findA]
    by_cases e : k = k'
    · simp [e]
    · rw [if_neg e, if_neg (fun h => e h.symm)]
  | p :: r, hr => by
    obtain ⟨h1, h2⟩ := List.pairwise_cons.1 hr
    unfold insA
    split
    · rw [findA]
      by_cases e : k = k'
      · simp [e]
      · rw [if_neg e, if_neg (fun h => e h.symm)]
    · split
      · rename_i e0
        rw [findA]
        by_cases e : k = k'
        · simp [e]
        · rw [if_neg e, if_neg (fun h => e h.symm), findA, if_neg (by rw [← e0]; exact e)]
      · rename_i hn1 hn2
        rw [findA, findA, findA_insA k v k' h2]
        by_cases e : k' = k
        · subst e
          rw [if_neg (fun h => hn2 h.symm)]; simp
        · simp [if_neg e]
theorem length_insA_le (k : ByteArray) (v : β) : ∀ l : List (ByteArray × β), (insA k v l).length ≤ l.length + 1
  | [] => by simp [insA]
  | p :: r => by
    unfold insA
    split
    · simp
    · split
      · simp
      · have := length_insA_le k v r; simp; omega
/-- Two lists that rise and hold the same are one. -/
theorem rise_unique {l l' : List (ByteArray × β)} (h : Rise l) (h' : Rise l') (hp : l.Perm l') : l = l' :=
  List.Perm.eq_of_pairwise (le := fun a b : ByteArray × β => ltS a.1 b.1) (fun _ _ _ _ h1 h2 => absurd h2 (ltS_asymm h1)) h h' hp
theorem rise_nodup {l : List (ByteArray × β)} (h : Rise l) : l.Nodup := by
  unfold Rise at h
  refine List.Pairwise.imp ?_ h
  intro a b h1 e
  rw [e] at h1
  exact ltS_irrefl _ h1
theorem rise_of_sorted {l : List (ByteArray × β)} (hs : l.Pairwise fun a b => ¬ ltS b.1 a.1) (hn : (l.map (·.1)).Nodup) : Rise l := by
  have hn' : l.Pairwise fun a b => a.1 ≠ b.1 := List.pairwise_map.1 hn
  refine (hs.and hn').imp fun {_ _} ⟨h1, h2⟩ => ?_
  rcases ltS_tri _ _ with h | h | h
  · exact h
  · exact absurd h h2
  · exact absurd h h1
end
/-- What an array holds that is sorted. -/
theorem pairwise_of_sortedIn {α : Type} [Inhabited α] {lt : α → α → Bool} {d : Array α} (h : Sort.SortedIn lt 0 d.size d) : d.toList.Pairwise fun a b => lt b a = false := by
  rw [List.pairwise_iff_getElem]
  intro i j hi hj hij
  have hj' : j < d.size := by simpa using hj
  have := h i j (Nat.zero_le _) hij hj'
  rw [getElem!_pos d j hj', getElem!_pos d i (by omega)] at this
  simpa using this
theorem perm_of_permIn {α : Type} [Inhabited α] {d d' : Array α} (h : Sort.PermIn 0 d.size d d') : d'.toList.Perm d.toList := by
  obtain ⟨h1, _, h3⟩ := h
  have e1 : d'.extract 0 d.size = d' := by rw [← h1]; simp
  have e2 : d.extract 0 d.size = d := by simp
  rw [e1, e2] at h3
  exact h3
end SM
end Go.Proofs.Ytnboigbknadpdaa
