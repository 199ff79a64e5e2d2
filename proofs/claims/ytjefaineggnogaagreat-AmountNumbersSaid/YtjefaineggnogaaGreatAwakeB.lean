/- The examples of the chapter: they hold. -/
import Derived.Test.YtjefaineggnogaaGreatJoin
import Derived.Test.YtjefaineggnogaaGreatSame
set_option linter.unusedVariables false
set_option linter.unusedSimpArgs false
namespace Go.Proofs.YtjefaineggnogaaGreat
set_option maxRecDepth 100000
open Go.RowKit SM

theorem joinEx : joinL [((⟨#[66]⟩ : ByteArray), (2 : Int)), (⟨#[65]⟩, 1), (⟨#[66]⟩, 3)] = some [(⟨#[65]⟩, 1), (⟨#[66]⟩, 5)] := by decide +kernel

def exB : List Prt := [(⟨#[66]⟩, 2), (⟨#[65]⟩, 1)]
def exC : List Prt := [(⟨#[66]⟩, 3)]
def exW : List Prt := [(⟨#[65]⟩, 1), (⟨#[66]⟩, 5)]
theorem awake_join (W0 : World) (n : Nat) (hn : W0.heap.size = n) :
    Calls Tryz.prog 8 #[.slice (some ⟨n + 1 + 1, 0, none⟩) 2 2]
      (((W0.alloc (.cells #[.string ⟨#[66]⟩, .int .i64 2, .string ⟨#[65]⟩, .int .i64 1] 38)).alloc (.cells #[.string ⟨#[66]⟩, .int .i64 3] 38)).alloc (.cells #[.slice (some ⟨n, 0, none⟩) 2 2, .slice (some ⟨n + 1, 0, none⟩) 1 1] 22)) fun e w' =>
      ∃ A c, e = .returned (.tuple #[.slice A 2 c, .bool true]) ∧ 2 ≤ c ∧ c ≤ maxLen ∧ Rd w' A (exW.flatMap encP) ∧ Below W0.heap.size W0 w' := by
  subst hn
  have hA : PartsAt (((W0.alloc (.cells #[.string ⟨#[66]⟩, .int .i64 2, .string ⟨#[65]⟩, .int .i64 1] 38)).alloc (.cells #[.string ⟨#[66]⟩, .int .i64 3] 38)).alloc (.cells #[.slice (some ⟨W0.heap.size, 0, none⟩) 2 2, .slice (some ⟨W0.heap.size + 1, 0, none⟩) 1 1] 22))
      (some ⟨W0.heap.size + 1 + 1, 0, none⟩) [(.slice (some ⟨W0.heap.size, 0, none⟩) 2 2, exB), (.slice (some ⟨W0.heap.size + 1, 0, none⟩) 1 1, exC)] := by
    refine ⟨?_, fun x hx => ?_⟩
    · have := cells_rd ((W0.alloc (.cells #[.string ⟨#[66]⟩, .int .i64 2, .string ⟨#[65]⟩, .int .i64 1] 38)).alloc (.cells #[.string ⟨#[66]⟩, .int .i64 3] 38)) #[.slice (some ⟨W0.heap.size, 0, none⟩) 2 2, .slice (some ⟨W0.heap.size + 1, 0, none⟩) 1 1] 22
      simpa using this
    · simp only [List.mem_cons, List.not_mem_nil, or_false] at hx
      rcases hx with rfl | rfl
      · exact ⟨rfl, _, 2, rfl, Nat.le_refl 2, by decide, ((cells_rd W0 #[.string ⟨#[66]⟩, .int .i64 2, .string ⟨#[65]⟩, .int .i64 1] 38).alloc _).alloc _⟩
      · refine ⟨rfl, _, 1, rfl, Nat.le_refl 1, by decide, ?_⟩
        have := (cells_rd (W0.alloc (.cells #[.string ⟨#[66]⟩, .int .i64 2, .string ⟨#[65]⟩, .int .i64 1] 38)) #[.string ⟨#[66]⟩, .int .i64 3] 38).alloc (.cells #[.slice (some ⟨W0.heap.size, 0, none⟩) 2 2, .slice (some ⟨W0.heap.size + 1, 0, none⟩) 1 1] 22)
        rw [World.size_alloc] at this
        exact this
  have hj := join_any _ (exB ++ exC) rfl _ 2 _ (by simp) (by decide) hA (by decide) (by decide)
  have e1 : joinL (exB ++ exC) = some exW := joinEx
  have e2 : joinD (exB ++ exC) = exW := by unfold joinD; rw [e1]; rfl
  rw [e1, e2] at hj
  refine Calls.mono (R := _) hj ?_
  rintro e w' ⟨v, rfl, hown, hb⟩
  obtain ⟨A, c, rfl, h1, h2, h3⟩ := own_rd hown
  exact ⟨A, c, rfl, h1, h2, h3, ((((Below.refl _ W0).alloc (Nat.le_refl _) _).alloc (by simp) _).alloc (by simp; omega) _).trans (hb.mono (by simp; omega))⟩

set_option maxHeartbeats 4000000 in
theorem awake_any (w : World) : Calls Tryz.prog 6 #[] w fun e w' => e = .returned (.bool true) ∧ Below w.heap.size w w' := by
  have ha1 := fun w => add_any 1125899906842624 0 w
  have ha2 := fun w => add_any 1125899906842624 1 w
  have ht := fun w => times_any 33554432 33554432 w
  have e1 : addI 1125899906842624 0 = (1125899906842624, true) := by decide
  have e2 : addI 1125899906842624 1 = (0, false) := by decide
  have e3 : mulI 33554432 33554432 = (1125899906842624, true) := by decide
  rw [e1] at ha1
  rw [e2] at ha2
  rw [e3] at ht
  have hr := fun w => right_no (-1) w (by decide)
  have HA1 := Lib.hid ha1
  have HA2 := Lib.hid ha2
  have HT := Lib.hid ht
  have HR := Lib.hid hr
  clear ha1 ha2 ht hr e1 e2 e3
  go_enter Tryz.func6, Tryz.ntmps6
  go_wp2_with (first | (go_at_call 18; first | ((with_reducible refine (HA1.out _).mono ?_); rintro e w' ⟨rfl, rfl⟩) | ((with_reducible refine (HA2.out _).mono ?_); rintro e w' ⟨rfl, rfl⟩)) | (go_at_call 16; (with_reducible refine (HT.out _).mono ?_); rintro e w' ⟨rfl, rfl⟩))
  have hj := awake_join ((w.alloc (.cells #[.int .i64 1125899906842624, .int .i64 0] 2)).alloc (.cells #[.int .i64 1125899906842624, .int .i64 1] 2)) (w.heap.size + 1 + 1) (by simp)
  have hb0 : Below w.heap.size w ((w.alloc (.cells #[.int .i64 1125899906842624, .int .i64 0] 2)).alloc (.cells #[.int .i64 1125899906842624, .int .i64 1] 2)) := ((Below.refl _ w).alloc (Nat.le_refl _) _).alloc (by simp) _
  refine Calls.mono (R := _) hj ?_
  rintro e w2 ⟨A, c, rfl, hc, hcm, hr, hb1⟩
  have hb2 : Below w.heap.size w w2 := hb0.trans (hb1.mono (by simp; omega))
  have hs := same_parts exW exW A (some ⟨w2.heap.size, 0, none⟩) c 2 (w2.alloc (.cells #[.string ⟨#[65]⟩, .int .i64 1, .string ⟨#[66]⟩, .int .i64 5] 38)) hc (by decide) hcm (by decide) (hr.alloc _) (cells_rd w2 #[.string ⟨#[65]⟩, .int .i64 1, .string ⟨#[66]⟩, .int .i64 5] 38)
  have HS : Hid (Calls Tryz.prog 12 #[.slice A 2 c, .slice (some ⟨w2.heap.size, 0, none⟩) 2 2] (w2.alloc (.cells #[.string ⟨#[65]⟩, .int .i64 1, .string ⟨#[66]⟩, .int .i64 5] 38)) fun e w' => e = .returned (.bool true) ∧ Below w.heap.size w w') := hs.mono (by
    rintro e w' ⟨he, m, rfl⟩
    exact ⟨by rw [he]; simp, below_drewN (hb2.alloc hb2.size _) m⟩)
  clear hs hr hb0 hb1 hb2 hj
  go_wp2_with (first | (go_at_call 12; (with_reducible refine HS.out.mono ?_); rintro e w' ⟨rfl, hb⟩; have HB := Lib.hid hb; clear hb) | (go_at_call 19; (with_reducible refine (HR.out _).mono ?_); rintro e w' ⟨rfl, rfl⟩))
  go_ret
  exact ⟨rfl, HB.out⟩
end Go.Proofs.YtjefaineggnogaaGreat
