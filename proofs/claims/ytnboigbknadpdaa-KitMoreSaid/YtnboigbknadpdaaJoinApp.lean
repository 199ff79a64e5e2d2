/- What is joined level by level is joined in a row: plain words, no program. -/
import Derived.Test.YtnboigbknadpdaaJoinLaw
set_option linter.unusedVariables false
set_option linter.unusedSimpArgs false
namespace Go.Proofs.Ytnboigbknadpdaa
set_option maxRecDepth 100000
open Go.RowKit SM
theorem joinL_tot {ps out : List Prt} (h : joinL ps = some out) (s : ByteArray) : totP s out = totP s ps := by
  obtain ⟨o, e, hr, ha, hf⟩ := joinL_some (joinL_joins h)
  rw [h] at e
  injection e with e
  subst e
  by_cases hm : ∃ p ∈ out, p.1 = s
  · obtain ⟨p, hp, rfl⟩ := hm
    rw [totP_rise hr p hp]
    have := findA_of_mem hr (show (p.1, p.2) ∈ out from hp)
    rw [hf] at this
    split at this
    · injection this with this
      exact this.symm
    · cases this
  · rw [totP_zero s (fun p hp e => hm ⟨p, hp, e⟩)]
    have h2 : ¬ ∃ p ∈ ps, p.1 = s := fun ⟨p, hp, e⟩ => by
      obtain ⟨n, hn, _⟩ := joinL_found h hp
      exact hm ⟨_, hn, e⟩
    rw [totP_zero s (fun p hp e => h2 ⟨p, hp, e⟩)]
theorem joinL_amts {ps out : List Prt} (h : joinL ps = some out) : Amts out := by
  obtain ⟨o, e, hr, ha, hf⟩ := joinL_some (joinL_joins h)
  rw [h] at e
  injection e with e
  subst e
  exact ha
theorem joinL_app {a da b : List Prt} (h : joinL a = some da) : joinL (da ++ b) = joinL (a ++ b) := by
  have hja := joinL_joins h
  have ht : ∀ s, totP s (da ++ b) = totP s (a ++ b) := fun s => by rw [totP_append, totP_append, joinL_tot h]
  have hmem : ∀ s, (∃ p ∈ da ++ b, p.1 = s) ↔ (∃ p ∈ a ++ b, p.1 = s) := fun s => by
    constructor
    · rintro ⟨p, hp, rfl⟩
      rcases List.mem_append.1 hp with hp | hp
      · obtain ⟨q, hq, he⟩ := joinL_item h hp
        exact ⟨q, List.mem_append_left _ hq, he⟩
      · exact ⟨p, List.mem_append_right _ hp, rfl⟩
    · rintro ⟨p, hp, rfl⟩
      rcases List.mem_append.1 hp with hp | hp
      · obtain ⟨n, hn, _⟩ := joinL_found h hp
        exact ⟨_, List.mem_append_left _ hn, rfl⟩
      · exact ⟨p, List.mem_append_right _ hp, rfl⟩
  have hj : Joins (da ++ b) ↔ Joins (a ++ b) := by
    constructor
    · rintro ⟨h1, h2⟩
      refine ⟨fun p hp => ?_, fun p hp => ?_⟩
      · rcases List.mem_append.1 hp with hp | hp
        · exact hja.1 p hp
        · exact h1 p (List.mem_append_right _ hp)
      · obtain ⟨q, hq, he⟩ := (hmem p.1).2 ⟨p, hp, rfl⟩
        rw [← ht, ← he]; exact h2 q hq
    · rintro ⟨h1, h2⟩
      refine ⟨fun p hp => ?_, fun p hp => ?_⟩
      · rcases List.mem_append.1 hp with hp | hp
        · exact joinL_amts h p hp
        · exact h1 p (List.mem_append_right _ hp)
      · obtain ⟨q, hq, he⟩ := (hmem p.1).1 ⟨p, hp, rfl⟩
        rw [ht, ← he]; exact h2 q hq
  by_cases hq : Joins (a ++ b)
  · obtain ⟨o1, e1, r1, _, f1⟩ := joinL_some hq
    obtain ⟨o2, e2, r2, _, f2⟩ := joinL_some (hj.2 hq)
    rw [e1, e2, rise_ext r2 r1 fun s => ?_]
    rw [f1, f2, ht]
    simp only [hmem]
  · rw [joinL_none hq, joinL_none fun h => hq (hj.1 h)]
theorem joinL_app_none {a b : List Prt} (h : joinL a = none) : joinL (a ++ b) = none := joinL_none fun hj => by
  obtain ⟨o, e, _⟩ := joinL_some (joins_left hj)
  rw [h] at e; cases e
/-- .. of two that are joined each. -/
theorem joinL_app2 {a da b db : List Prt} (h : joinL a = some da) (h2 : joinL b = some db) : joinL (da ++ db) = joinL (a ++ b) := by
  rw [joinL_app h, joinL_perm List.perm_append_comm, joinL_app h2, joinL_perm List.perm_append_comm]
theorem joinL_app_none2 {a b : List Prt} (h : joinL b = none) : joinL (a ++ b) = none := by
  rw [joinL_perm List.perm_append_comm]; exact joinL_app_none h
end Go.Proofs.Ytnboigbknadpdaa
