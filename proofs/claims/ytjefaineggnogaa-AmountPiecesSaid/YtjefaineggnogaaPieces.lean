/- AmountPieces returns true. -/
import Derived.Test.YtjefaineggnogaaGreat
import Derived.Test.YtjefaineggnogaaJoinLaw
import Derived.Test.YtjefaineggnogaaSame
import Derived.Test.YtjefaineggnogaaSlices
import Derived.Test.YtjefaineggnogaaAwakeB
import Derived.Deep.RegionWith
import Derived.Laws.Cover1
import Derived.Sort.Walk0
import Derived.Deep.QuietTactic
import Derived.BigQuiet
set_option linter.unusedVariables false
set_option linter.unusedSimpArgs false
namespace Go.Proofs.Ytjefaineggnogaa
open Go.RowKit SM

theorem bytes_less (a b : ByteArray) : Op.bytesLess a.toList b.toList = decide (ltS a b) := by
  rw [bytesLess_eq, ByteArray.toList_eq, ByteArray.toList_eq]; rfl
theorem run_geqS (t : TypeId) (a b : ByteArray) (w : World) : (binOp .geq t (.string a) (.string b)).run Try.prog w = .ok (.bool (!decide (ltS a b))) w := by
  rw [binOp_string_geq, bytes_less]; rfl
/-- A place below n. -/
def PickR (n : Nat) (w : World) (e : Ending) (w' : World) : Prop := ∃ k : Nat, e = .returned (.int .i64 k) ∧ k < n ∧ w' = w
set_option maxHeartbeats 2000000 in
theorem pick_any (x : Int) (n : Nat) (w : World) (h1 : 0 < n) (h2 : n ≤ 4611686018427387904) (hx0 : -9223372036854775808 ≤ x) (hx1 : x ≤ 9223372036854775807) :
    Calls Try.prog 19 #[.int .i64 x, .int .i64 n] w (PickR n w) := by
  have hn : ¬ ((n : Int) < 1) := by omega
  have hnz : ¬ ((n : Int) = 0) := by omega
  have hr0 : -(n : Int) < x.tmod n := by
    have := Int.lt_tmod_of_pos x (b := (n : Int)) (by omega)
    omega
  have hr1 : x.tmod n < n := Int.tmod_lt_of_pos x (by omega)
  by_cases hneg : x.tmod n < 0
  · have HE : Hid (Value.int .i64 (x.tmod n + n) = .int .i64 (((x.tmod n + n).toNat : Nat) : Int)) := by
      rw [Int.toNat_of_nonneg (by omega)]; exact rfl
    go_enter Try.func19, Try.ntmps19
    go_wp2
    go_ret
    exact ⟨(x.tmod n + n).toNat, congrArg Ending.returned HE.out, by omega, rfl⟩
  · have HE : Hid (Value.int .i64 (x.tmod n) = .int .i64 (((x.tmod n).toNat : Nat) : Int)) := by
      rw [Int.toNat_of_nonneg (by omega)]; exact rfl
    go_enter Try.func19, Try.ntmps19
    go_wp2
    go_ret
    exact ⟨(x.tmod n).toNat, congrArg Ending.returned HE.out, by omega, rfl⟩

/-- What stands over a call's start. -/
def Bel (w w' : World) : Prop := Below w.heap.size w w'
theorem Bel.refl (w : World) : Bel w w := Below.refl _ _
theorem Bel.trans {a b c : World} (h : Bel a b) (h2 : Bel b c) : Bel a c := Below.trans h (Below.mono h2 h.size)
theorem Bel.alloc {a b : World} (h : Bel a b) (o : Obj) : Bel a (b.alloc o) := Below.alloc h h.size o
theorem Bel.drewN {a b : World} (h : Bel a b) (n : Nat) : Bel a (b.drewN n) := below_drewN h n
theorem Bel.drew {a b : World} (h : Bel a b) : Bel a b.drew := Below.drew h

/-- amount.Join at lists that a walk has put together. -/
def JoinR (ps : List Prt) (W : World) (e : Ending) (w' : World) : Prop := ∃ v, e = .returned (.tuple #[v, .bool (joinL ps).isSome]) ∧ Sl w' 2 v (joinD ps).length ((joinD ps).flatMap encP) ∧ Bel W w'
theorem JoinR_perm {ps qs : List Prt} (h : ps.Perm qs) : JoinR ps = JoinR qs := by
  unfold JoinR joinD; rw [joinL_perm h]
theorem join_lists (xss : List PL) (ps : List Prt) (vs : List Value) (n : Nat) (hn : xss.length = n) (hps : allP xss = ps) (hvs : xss.map (·.1) = vs) (W : World) (N : Nat) (hN : N = W.heap.size) (h : ∀ x ∈ xss, Sl W 2 x.1 x.2.length (x.2.flatMap encP)) (hm : n ≤ 300)
    (hlen : ps.length ≤ 1000) (hsz : ∀ p ∈ ps, p.1.size ≤ 1000000) :
    Calls Try.prog 20 #[.slice (some ⟨N, 0, none⟩) n n] (W.alloc (.cells vs.toArray 34)) (JoinR ps W) := by
  subst hn hvs hN
  refine (join_any xss ps hps (some ⟨W.heap.size, 0, none⟩) xss.length (W.alloc (.cells (xss.map (·.1)).toArray 34)) (Nat.le_refl _) (by unfold maxLen; omega) ⟨?_, fun x hx => (h x hx).below ((Below.refl _ W).alloc (Nat.le_refl _) _)⟩ (by omega) (fun p hp => by have := hsz p hp; unfold maxLen; omega)).mono ?_
  · have := cells_rd W (xss.map (·.1)).toArray 34
    simpa using this
  · rintro e w' ⟨v, rfl, hown, hb⟩
    exact ⟨v, rfl, own_sl hown, ((Bel.refl W).alloc _).trans hb⟩

theorem awakeR (w W : World) (h : Bel w W) : Calls Try.prog 13 #[] W fun e w' => e = .returned (.bool true) ∧ Bel w w' := (awake_any W).mono (by
  rintro e w' ⟨rfl, hb⟩
  exact ⟨rfl, h.trans hb⟩)

set_option maxHeartbeats 8000000 in
set_option maxRecDepth 100000 in
theorem pieces_any (l : List Prt) (A : Option Addr) (c : Nat) (x : Int) (w : World) (hc : l.length ≤ c) (hm : c ≤ maxLen) (hA : Rd w A (l.flatMap encP)) (hl : l.length * 24 ≤ 140737488355328) (hs : ∀ p ∈ l, p.1.size ≤ 140737488355328) (hx0 : -9223372036854775808 ≤ x) (hx1 : x ≤ 9223372036854775807) :
    Calls Try.prog 6 #[.slice A l.length c, .int .i64 x] w fun e w' => e = .returned (.bool true) ∧ Below w.heap.size w w' := by
  have hS : ∀ W, Bel w W → ∀ y ∈ [((.slice A l.length c : Value), l)], Sl W 2 y.1 y.2.length (y.2.flatMap encP) := fun W hb y hy => by
    simp only [List.mem_singleton] at hy
    subst hy
    exact ⟨flat_length encP_len l, A, c, rfl, hc, hm, hA.below hb⟩
  have hall : allP [((.slice A l.length c : Value), l)] = l := by simp [allP]
  have hG : ∀ W, Bel w W → Calls Try.prog 18 #[.slice (some ⟨W.heap.size, 0, none⟩) 1 1] (W.alloc (.cells #[.slice A l.length c] 34)) (GreatR [((.slice A l.length c : Value), l)] (W.alloc (.cells #[.slice A l.length c] 34))) := fun W hb => by
    refine great_any [((.slice A l.length c : Value), l)] (some ⟨W.heap.size, 0, none⟩) 1 _ (Nat.le_refl _) (by decide) ⟨?_, fun y hy => (hS W hb y hy).below ((Below.refl _ W).alloc (Nat.le_refl _) _)⟩ ?_ ?_
    · exact cells_rd W #[.slice A l.length c] 34
    · intro y hy; simp only [List.mem_singleton] at hy; subst hy; show l.length ≤ _; omega
    · rw [hall]; intro p hp; have := hs p hp; omega
  have hm' := hm
  unfold maxLen at hm'
  have HG := Lib.hid hG
  have HAw := Lib.hid (awakeR w)
  have HB0 := Lib.hid (Bel.refl w)
  by_cases hsmall : l.length ≤ 300 ∧ ∀ p ∈ l, p.1.size ≤ 6100
  · have hP : ∀ W, Calls Try.prog 19 #[.int .i64 x, .int .i64 ((l.length : Int) + 1)] W (PickR (l.length + 1) W) := fun W => pick_any x (l.length + 1) W (by omega) (by omega) hx0 hx1
    have hJ1 := fun W N (hb : Bel w W) (hN : N = W.heap.size) => join_lists [((.slice A l.length c : Value), l)] l [.slice A l.length c] 1 rfl hall rfl W N hN (hS W hb) (by omega) (by omega) (fun p hp => by have := hsmall.2 p hp; omega)
    have HP := Lib.hid hP
    have HJ1 := Lib.hid hJ1
    have hl3 := hsmall.1
    have HSZ := Lib.hid hsmall.2
    have HA := Lib.hid hA
    clear hG hP hJ1 hS hall hs hsmall hA
    go_enter Try.func6, Try.ntmps6
    go_wp2_with (first | (go_at_call 13; (with_reducible refine (HAw.out _ HB0.out).mono ?_); rintro e w' ⟨rfl, hb⟩; have HB1 := Lib.hid hb; clear hb) | (go_at_call 18; (with_reducible refine (HG.out _ HB1.out).mono ?_); rintro e w' ⟨b, m, rfl, rfl, hb⟩; have HGR := Lib.hid hb; clear hb)       | (go_at_call 19; (with_reducible refine (HP.out _).mono ?_); rintro e w' ⟨k, rfl, hk, rfl⟩) | (go_at_call 20; (with_reducible refine (HJ1.out _ _ ((HB1.out.alloc _).drewN _) (by simp)).mono ?_); rintro e w' ⟨va, rfl, hsa, hb⟩; have HB2 := Lib.hid (((HB1.out.alloc _).drewN _).trans hb); have HSA := Lib.hid hsa; have HB3 := Lib.hid hb; clear hb hsa))
    · go_ret
      exact ⟨rfl, (HB1.out.alloc _).drewN _⟩
    · obtain ⟨_, Aa, ca, rfl, ha1, ha2, hRa⟩ := HSA.out
      obtain ⟨A2, hs2, hS2⟩ := slice_from l A c k w (by omega) hc hm HA.out
      obtain ⟨A3, hs3, hS3⟩ := slice_upto l A c k w (by omega) hc hm HA.out
      have hJ2 : ∀ W N, Bel w W → N = W.heap.size → Calls Try.prog 20 #[.slice (some ⟨N, 0, none⟩) 3 3] (W.alloc (.cells #[.slice A2 (l.length - k) (c - k), .slice none 0 0, .slice A3 k c] 34)) (JoinR l W) := fun W N hb hN => by
        have hperm : l.Perm (l.drop k ++ l.take k) := by
          have := @List.perm_append_comm _ (l.take k) (l.drop k)
          rwa [List.take_append_drop] at this
        rw [JoinR_perm hperm]
        refine join_lists [(.slice A2 (l.length - k) (c - k), l.drop k), (.slice none 0 0, []), (.slice A3 k c, l.take k)] _ _ 3 rfl (by simp [allP]) rfl W N hN ?_ (by omega) (by simp; omega) ?_
        · intro y hy
          simp only [List.mem_cons, List.not_mem_nil, or_false] at hy
          rcases hy with rfl | rfl | rfl
          · exact hS2.below hb
          · exact Sl.nil _ _
          · exact hS3.below hb
        · intro p hp
          have := HSZ.out p ((List.mem_append.1 hp).elim List.mem_of_mem_drop List.mem_of_mem_take)
          omega
      have hJ3 : Calls Try.prog 20 #[.slice (some ⟨w'.heap.size, 0, none⟩) 3 3] (w'.alloc (.cells #[.slice A2 (l.length - k) (c - k), .slice none 0 0, .slice A3 k c] 34)).drew (JoinR l w'.drew) := hJ2 w'.drew _ HB2.out.drew rfl
      have HJ2 := Lib.hid hJ3
      have hkl : (k : Int) ≤ (l.length : Int) := by omega
      have hkc : (k : Int) ≤ (c : Int) := by omega
      have hk0 : (0 : Int) ≤ (k : Int) := by omega
      have HS2 := Lib.hid hS2
      have HS3 := Lib.hid hS3
      have HSL2 := Lib.hid hs2
      have HSL3 := Lib.hid hs3
      clear HJ1 HG HP HAw hJ2 hJ3 hS2 hS3
      go_region_with (go_at_call 20; (with_reducible refine HJ2.out.mono ?_); rintro e w4 ⟨vb, rfl, hsb, hb⟩; have HB4 := Lib.hid hb; have HSB := Lib.hid hsb; clear hb hsb)
      obtain ⟨_, Ab, cb, rfl, hb1, hb2, hRb⟩ := HSB.out
      have HN4 : Hid (Bel w w4) := HB2.out.drew.trans HB4.out
      have hsame : ∀ W, Bel w4 W → Calls Try.prog 21 #[.slice Aa (joinD l).length ca, .slice Ab (joinD l).length cb] W fun e w' => e = .returned (.bool true) ∧ ∃ n, w' = W.drewN n := fun W hb => by
        have h := same_parts (joinD l) (joinD l) Aa Ab ca cb W ha1 hb1 ha2 hb2 ((hRa.below ((Bel.refl w').drew.trans HB4.out)).below hb) (hRb.below hb)
        rwa [decide_eq_true rfl] at h
      have HSAME := Lib.hid hsame
      clear hsame HSB HJ2 hRb hs2 hs3
      by_cases hok : Joins l
      · obtain ⟨out, hj, hr, hamt, hf⟩ := joinL_some hok
        have hs0 : (joinL l).isSome = true := by rw [hj]; rfl
        have hd : joinD l = out := by unfold joinD; rw [hj]; rfl
        have hsame2 := HSAME.out
        simp only [hd] at hsame2 hRa ha1 hb1
        rw [hd]
        have HSAME2 := Lib.hid hsame2
        have HR := Lib.hid hr
        have HJ := Lib.hid hj
        have HFD := Lib.hid hf
        have HOK := Lib.hid hok
        have hRa4 : Rd w4 Aa (out.flatMap encP) := hRa.below ((Bel.refl w').drew.trans HB4.out)
        have hRa5 := Lib.hid hRa4
        unfold maxLen at ha2
        clear hj hr hamt hf hok hsame2 HSAME hd hRa hRa4
        go_wp2_with (first | (go_at_call 21; (with_reducible refine (HSAME2.out _ (Bel.refl w4)).mono ?_); rintro e w' ⟨rfl, q, rfl⟩))
        go_loopw [14] (fun i wr => ∃ (j m : Nat), j ≤ out.length ∧ i = .int .i64 ((j : Int) + 1) ∧ wr = w4.drewN m) (fun i _ => out.length - (intOf i).toNat)
        case atStart => exact ⟨0, q, Nat.zero_le _, rfl, rfl⟩
        case round =>
          obtain ⟨j, m, hj1, rfl, rfl⟩ := hrel
          by_cases hlt : j + 1 < out.length
          · have hki : ((j : Int) + 1) < (out.length : Int) := by omega
            have hkj : (j : Int) < (out.length : Int) := by omega
            have hj0 : (0 : Int) ≤ (j : Int) := by omega
            have hj01 : (0 : Int) ≤ (j : Int) + 1 := by omega
            obtain ⟨b, o, rfl, hcell⟩ := Rd.elem (enc := encP) (k := 2) encP_len (by omega) hRa5.out (List.getElem?_eq_getElem (show j < out.length by omega))
            obtain ⟨b', o', he, hcell'⟩ := Rd.elem (enc := encP) (k := 2) encP_len (by omega) hRa5.out (List.getElem?_eq_getElem hlt)
            cases he
            have h0 := hcell 0 (.string out[j].1) rfl
            have h1 := hcell' 0 (.string out[j + 1].1) rfl
            simp only [Nat.add_zero] at h0 h1
            have hless : ltS out[j].1 out[j + 1].1 := List.pairwise_iff_getElem.1 HR.out j (j + 1) (by omega) hlt (by omega)
            generalize out[j].1 = s at h0 hless
            generalize out[j + 1].1 = t at h1 hless
            clear hcell hcell'
            go_wp2
            have hwr : IntKind.i64.wrap (j : Int) = (j : Int) := by rw [IntKind.wrap_i64]; omega
            have hgeq : Op.bytesLess s.toList t.toList = true := by rw [bytes_less, decide_eq_true hless]
            (refine wp_region_quiet_lit (by kernel_rfl) (by kernel_rfl) ?_; (repeat (refine @wpQuiet_step _ _ _ _ _ _ _ ?_; intro K hK; go_simp; first | (refine @hK _ ?_; clear hK K) | (apply Exists.intro; refine ⟨fun _ => ?_, @hK _ ?_⟩; (fail); clear hK K))); refine @wpQuiet_nil _ _ _ _ _ ?_; intro _ hw'; obtain ⟨nq, hw''⟩ := hw'; subst hw'')
            clear hgeq hless hwr
            go_wp2
            go_roundw
            case rel => exact ⟨j + 1, _, by omega, by go_num, rfl⟩
            case measure => simp [intOf]; omega
          · have hge : (out.length : Int) ≤ (j : Int) + 1 := by omega
            have hki : ¬ ((j : Int) + 1 < (out.length : Int)) := by omega
            go_wp2
            go_loopw [15] (fun i wr => ∃ (z r : Nat), z ≤ l.length ∧ i = .int .i64 z ∧ wr = w4.drewN r) (fun i _ => l.length - (intOf i).toNat)
            case atStart => exact ⟨0, m, Nat.zero_le _, rfl, rfl⟩
            case round =>
              clear hki hge hlt
              obtain ⟨z, r, hz, rfl, rfl⟩ := hrel
              have hz0 : (0 : Int) ≤ (z : Int) := by omega
              by_cases hzl : z < l.length
              · have hzi : (z : Int) < (l.length : Int) := by omega
                obtain ⟨b1, o1, rfl, hcell⟩ := Rd.elem (enc := encP) (k := 2) encP_len (by omega) (HA.out.below HN4.out) (List.getElem?_eq_getElem hzl)
                have h0 := hcell 0 (.string l[z].1) rfl
                have h1 := hcell 1 (.int .i64 l[z].2) rfl
                simp only [Nat.add_zero] at h0
                have hfd : ∃ n, (l[z].1, n) ∈ out ∧ l[z].2 ≤ n := joinL_found HJ.out (List.getElem_mem hzl)
                generalize l[z].1 = s at h0 hfd
                generalize l[z].2 = v at h1 hfd
                have HFND := Lib.hid hfd
                clear hcell hfd
                go_wp2
                go_loopw [16, 17] (fun f i wr => ∃ (y r : Nat) (b : Bool), y ≤ out.length ∧ f = .bool b ∧ i = .int .i64 y ∧ Hid (b = (out.take y).any fun p => decide (p.1 = s) && decide (v ≤ p.2)) ∧ wr = w4.drewN r) (fun _ i _ => out.length - (intOf i).toNat)
                case atStart => exact ⟨0, r, false, Nat.zero_le _, rfl, rfl, (by simp : false = (out.take 0).any fun p => decide (p.1 = s) && decide (v ≤ p.2)), rfl⟩
                case round =>
                  obtain ⟨y, r2, f, hy, rfl, rfl, HBL, rfl⟩ := hrel
                  have hy0 : (0 : Int) ≤ (y : Int) := by omega
                  by_cases hyl : y < out.length
                  · have hyi : (y : Int) < (out.length : Int) := by omega
                    obtain ⟨b2, o2, rfl, hcell⟩ := Rd.elem (enc := encP) (k := 2) encP_len (by omega) hRa5.out (List.getElem?_eq_getElem hyl)
                    have h2 := hcell 0 (.string out[y].1) rfl
                    have h3 := hcell 1 (.int .i64 out[y].2) rfl
                    simp only [Nat.add_zero] at h2
                    have hnext : ∀ g, (f || (decide (out[y].1 = s) && decide (v ≤ out[y].2))) = g → Hid (g = (out.take (y + 1)).any fun p => decide (p.1 = s) && decide (v ≤ p.2)) := fun g hg => by
                      show g = _
                      rw [List.take_succ_eq_append_getElem hyl, List.any_append, ← HBL.out, ← hg]
                      simp
                    generalize out[y].1 = s2 at h2 hnext
                    generalize out[y].2 = v2 at h3 hnext
                    clear hcell HBL
                    cases f
                    · by_cases e1 : s2 = s
                      · subst e1
                        by_cases e2 : v ≤ v2
                        · have HN := hnext true (by simp [e2])
                          have hd1 : decide (v2 ≥ v) = true := decide_eq_true e2
                          have hd2 : decide (v ≤ v2) = true := decide_eq_true e2
                          clear hnext
                          go_wp2
                          (refine wp_region_quiet_lit (by kernel_rfl) (by kernel_rfl) ?_; (repeat (refine @wpQuiet_step _ _ _ _ _ _ _ ?_; intro K hK; go_simp; first | (refine @hK _ ?_; clear hK K) | (apply Exists.intro; refine ⟨fun _ => ?_, @hK _ ?_⟩; (fail); clear hK K))); refine @wpQuiet_nil _ _ _ _ _ ?_; intro _ hw'; obtain ⟨nq, hw''⟩ := hw'; subst hw'')
                          go_wp2
                          go_roundw
                          case rel => exact ⟨y + 1, _, true, by omega, rfl, by go_num, HN, rfl⟩
                          case measure => simp [intOf]; omega
                        · have HN := hnext false (by simp [e2])
                          have hd1 : decide (v2 ≥ v) = false := decide_eq_false e2
                          have hd2 : decide (v ≤ v2) = false := decide_eq_false e2
                          clear hnext
                          go_wp2
                          (refine wp_region_quiet_lit (by kernel_rfl) (by kernel_rfl) ?_; (repeat (refine @wpQuiet_step _ _ _ _ _ _ _ ?_; intro K hK; go_simp; first | (refine @hK _ ?_; clear hK K) | (apply Exists.intro; refine ⟨fun _ => ?_, @hK _ ?_⟩; (fail); clear hK K))); refine @wpQuiet_nil _ _ _ _ _ ?_; intro _ hw'; obtain ⟨nq, hw''⟩ := hw'; subst hw'')
                          go_wp2
                          go_roundw
                          case rel => exact ⟨y + 1, _, false, by omega, rfl, by go_num, HN, rfl⟩
                          case measure => simp [intOf]; omega
                      · have HN := hnext false (by simp [e1])
                        have hd1 : (s2.toList == s.toList) = false := by rw [str_eq_iff]; exact decide_eq_false e1
                        clear hnext
                        go_wp2
                        (refine wp_region_quiet_lit (by kernel_rfl) (by kernel_rfl) ?_; (repeat (refine @wpQuiet_step _ _ _ _ _ _ _ ?_; intro K hK; go_simp; first | (refine @hK _ ?_; clear hK K) | (apply Exists.intro; refine ⟨fun _ => ?_, @hK _ ?_⟩; (fail); clear hK K))); refine @wpQuiet_nil _ _ _ _ _ ?_; intro _ hw'; obtain ⟨nq, hw''⟩ := hw'; subst hw'')
                        go_wp2
                        go_roundw
                        case rel => exact ⟨y + 1, _, false, by omega, rfl, by go_num, HN, rfl⟩
                        case measure => simp [intOf]; omega
                    · have HN := hnext true (by simp)
                      clear hnext
                      go_wp2
                      (refine wp_region_quiet_lit (by kernel_rfl) (by kernel_rfl) ?_; (repeat (refine @wpQuiet_step _ _ _ _ _ _ _ ?_; intro K hK; go_simp; first | (refine @hK _ ?_; clear hK K) | (apply Exists.intro; refine ⟨fun _ => ?_, @hK _ ?_⟩; (fail); clear hK K))); refine @wpQuiet_nil _ _ _ _ _ ?_; intro _ hw'; obtain ⟨nq, hw''⟩ := hw'; subst hw'')
                      go_wp2
                      go_roundw
                      case rel => exact ⟨y + 1, _, true, by omega, rfl, by go_num, HN, rfl⟩
                      case measure => simp [intOf]; omega
                  · obtain rfl : y = out.length := by omega
                    have hft : f = true := by
                      rw [HBL.out, List.take_length]
                      obtain ⟨n, h1, h2⟩ := HFND.out
                      exact List.any_eq_true.2 ⟨(s, n), h1, by simp [h2]⟩
                    subst hft
                    clear HBL
                    go_wp2
                    go_roundw
                    case rel => exact ⟨z + 1, _, by omega, by go_num, rfl⟩
                    case measure => simp [intOf]; omega
              · obtain rfl : z = l.length := by omega
                have hlen := joinL_length HJ.out
                have hsz : ∀ p ∈ out, p.1.size ≤ 1000000 := fun p hp => by
                  obtain ⟨q, hq, he⟩ := joinL_item HJ.out hp
                  have := HSZ.out q hq
                  rw [← he]; omega
                have hca : ca ≤ maxLen := by unfold maxLen; omega
                have hRW : ∀ W, Bel w4 W → Rd W Aa (out.flatMap encP) := fun W hb => hRa5.out.below hb
                have hJa : ∀ W N, Bel w4 W → N = W.heap.size → Calls Try.prog 20 #[.slice (some ⟨N, 0, none⟩) 1 1] (W.alloc (.cells #[.slice Aa out.length ca] 34)) (fun e w8 => ∃ A8 c8, e = .returned (.tuple #[.slice A8 out.length c8, .bool true]) ∧ out.length ≤ c8 ∧ c8 ≤ maxLen ∧ Rd w8 A8 (out.flatMap encP) ∧ Bel w4 w8) := fun W N hb hN => by
                  refine (join_lists [(.slice Aa out.length ca, out)] out _ 1 rfl (by simp [allP]) rfl W N hN ?_ (by omega) (by omega) hsz).mono ?_
                  · intro y hy
                    simp only [List.mem_singleton] at hy
                    subst hy
                    exact ⟨flat_length encP_len _, _, _, rfl, ha1, hca, hRW W hb⟩
                  · rintro e w8 ⟨v, rfl, ⟨_, A8, c8, rfl, h1, h2, h3⟩, hb8⟩
                    have e1 := joinL_again HJ.out
                    have e2 : joinD out = out := by unfold joinD; rw [e1]; rfl
                    rw [e2] at h1 h3
                    rw [e1, e2]
                    exact ⟨A8, c8, rfl, h1, h2, h3, hb.trans hb8⟩
                have hSm : ∀ W A8 c8, Bel w4 W → out.length ≤ c8 → c8 ≤ maxLen → Rd W A8 (out.flatMap encP) → Calls Try.prog 21 #[.slice Aa out.length ca, .slice A8 out.length c8] W fun e w' => e = .returned (.bool true) ∧ ∃ n, w' = W.drewN n := fun W A8 c8 hb h1 h2 h3 => by
                  have h := same_parts out out Aa A8 ca c8 W ha1 h1 hca h2 (hRW W hb) h3
                  rwa [decide_eq_true rfl] at h
                have HJA := Lib.hid hJa
                have HSM := Lib.hid hSm
                clear hJa hSm hRW hca hsz hlen HJ HFD HOK HR HSZ
                go_wp2_with (first | (go_at_call 20; (with_reducible refine (HJA.out _ _ ((Bel.refl w4).drewN _) (by simp)).mono ?_); rintro e w' ⟨A8, c8, rfl, h8a, h8b, h8c, h8d⟩; have HSM2 := Lib.hid (HSM.out _ A8 c8 h8d h8a h8b h8c); have HB8 := Lib.hid h8d; unfold maxLen at h8b; clear h8c h8d) | (go_at_call 21; (with_reducible refine HSM2.out.mono ?_); rintro e w' ⟨rfl, q8, rfl⟩))
                go_ret
                exact ⟨rfl, (HN4.out.trans HB8.out).drewN _⟩
      · have hn : joinL l = none := joinL_none hok
        have hs0 : (joinL l).isSome = false := by rw [hn]; rfl
        have hd0 : (joinD l).length = 0 := by unfold joinD; rw [hn]; rfl
        have hJ5 : ∀ W N, Bel w W → N = W.heap.size → Calls Try.prog 20 #[.slice (some ⟨N, 0, none⟩) 1 1] (W.alloc (.cells #[.slice A3 k c] 34)) (JoinR (l.take k) W) := fun W N hb hN => by
          refine join_lists [(.slice A3 k c, l.take k)] _ _ 1 rfl (by simp [allP]) rfl W N hN ?_ (by omega) (by simp; omega) (fun p hp => by have := HSZ.out p (List.mem_of_mem_take hp); omega)
          intro y hy
          simp only [List.mem_singleton] at hy
          subst hy
          exact HS3.out.below hb
        have hfirst : k = 0 → (joinL (l.take k)).isSome = true := fun h => by subst h; rfl
        have HJ5 := Lib.hid hJ5
        have HF := Lib.hid hfirst
        have HOK := Lib.hid hok
        have hs3 := HSL3.out
        have hsame2 := HSAME.out
        simp only [hd0] at hsame2
        have HSAME2 := Lib.hid hsame2
        clear hJ5 hfirst hn hok hsame2
        go_wp2_with (first | (go_at_call 21; (with_reducible refine (HSAME2.out _ (Bel.refl w4)).mono ?_); rintro e w' ⟨rfl, q, rfl⟩) | (go_at_call 20; (with_reducible refine (HJ5.out _ _ (HN4.out.drewN _) (by simp)).mono ?_); rintro e w' ⟨vf, rfl, _, hb⟩; have HB6 := Lib.hid hb; clear hb))
        have HN6 : Hid (Bel w w') := (HN4.out.drewN q).trans HB6.out
        have hJ7 : Calls Try.prog 20 #[.slice (some ⟨w'.heap.size + 1, 0, none⟩) 3 3] ((w'.alloc (.cells #[.string ⟨#[65]⟩, .int .i64 0] 41)).alloc (.cells #[.slice A2 (l.length - k) (c - k), .slice A3 k c, .slice (some ⟨w'.heap.size, 0, none⟩) 1 1] 34)).drew
            (fun e w8 => ∃ v, e = .returned (.tuple #[v, .bool false]) ∧ Bel w w8) := by
          have hB : Bel w (w'.alloc (.cells #[.string ⟨#[65]⟩, .int .i64 0] 41)).drew := (HN6.out.alloc _).drew
          have hnone : joinL (l.drop k ++ (l.take k ++ [((⟨#[65]⟩ : ByteArray), (0 : Int))])) = none := by
            refine joinL_none fun hj => HOK.out ?_
            rw [← List.append_assoc] at hj
            refine joins_perm ?_ (joins_left hj)
            have := @List.perm_append_comm _ (l.drop k) (l.take k)
            rwa [List.take_append_drop] at this
          have h := join_lists [(.slice A2 (l.length - k) (c - k), l.drop k), (.slice A3 k c, l.take k), (.slice (some ⟨w'.heap.size, 0, none⟩) 1 1, [((⟨#[65]⟩ : ByteArray), (0 : Int))])] (l.drop k ++ (l.take k ++ [((⟨#[65]⟩ : ByteArray), (0 : Int))])) _ 3 rfl (by simp [allP]) rfl (w'.alloc (.cells #[.string ⟨#[65]⟩, .int .i64 0] 41)).drew (w'.heap.size + 1) (by simp) ?_ (by omega) (by simp; omega) ?_
          · refine Calls.mono h ?_
            rintro e w8 ⟨v, rfl, _, hb⟩
            exact ⟨v, by rw [hnone]; rfl, hB.trans hb⟩
          · intro y hy
            simp only [List.mem_cons, List.not_mem_nil, or_false] at hy
            rcases hy with rfl | rfl | rfl
            · exact HS2.out.below hB
            · exact HS3.out.below hB
            · exact ⟨rfl, _, _, rfl, Nat.le_refl _, by unfold maxLen; omega, (cells_two w' _ _ _).below ((Bel.refl _).drew)⟩
          · intro p hp
            simp only [List.mem_append, List.mem_singleton] at hp
            rcases hp with hp | hp | rfl
            · have := HSZ.out p (List.mem_of_mem_drop hp); omega
            · have := HSZ.out p (List.mem_of_mem_take hp); omega
            · decide
        have HJ7 := Lib.hid hJ7
        have hs2 := HSL2.out
        clear hJ7 HJ5
        go_region_with (go_at_call 20; (with_reducible refine HJ7.out.mono ?_); rintro e w8 ⟨vb, rfl, hb⟩; have HB8 := Lib.hid hb; clear hb)
        clear HJ7 hs2 hs3
        have hf := HF.out
        generalize (joinL (l.take k)).isSome = f at hf ⊢
        cases f
        · have hkp : 0 < k := Nat.pos_of_ne_zero fun h => Bool.noConfusion (hf h)
          have hkp2 : (0 : Int) < (k : Int) := by omega
          have hkd : decide (0 < k) = true := decide_eq_true hkp
          clear hf
          go_wp2
          go_ret
          exact ⟨by simp [hkp], HB8.out⟩
        · clear hf
          go_wp2
          go_ret
          exact ⟨by simp, HB8.out⟩
  · have hG' : ∀ W, Bel w W → Calls Try.prog 18 #[.slice (some ⟨W.heap.size, 0, none⟩) 1 1] (W.alloc (.cells #[.slice A l.length c] 34)) fun e w' => e = .returned (.bool true) ∧ Bel W w' := fun W hb => (hG W hb).mono (by
      rintro e w' ⟨b, m, rfl, rfl, hb⟩
      rw [hall] at hb
      cases b
      · exact absurd (hb rfl) hsmall
      · exact ⟨rfl, ((Bel.refl W).alloc _).drewN m⟩)
    have HG2 := Lib.hid hG'
    clear hG hG' hS hall hs hsmall hA HG
    go_enter Try.func6, Try.ntmps6
    go_wp2_with (first | (go_at_call 13; (with_reducible refine (HAw.out _ HB0.out).mono ?_); rintro e w' ⟨rfl, hb⟩; have HB1 := Lib.hid hb; clear hb) | (go_at_call 18; (with_reducible refine (HG2.out _ HB1.out).mono ?_); rintro e w' ⟨rfl, hb⟩; have HB2 := Lib.hid (HB1.out.trans hb); clear hb))
    go_ret
    exact ⟨rfl, HB2.out⟩
end Go.Proofs.Ytjefaineggnogaa
