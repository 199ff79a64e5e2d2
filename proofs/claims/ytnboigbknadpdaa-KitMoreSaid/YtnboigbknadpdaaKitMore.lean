/- KitMore returns true. -/
import Derived.Test.YtnboigbknadpdaaMoreAt
import Derived.Deep.Cut
import Derived.Deep.CutRange
import Derived.Deep.DeepCutAuto
import Derived.Deep.QuietTactic
import Derived.BigQuiet
import Derived.WalkLawsBesides
import Derived.Laws.Cover1
set_option linter.unusedVariables false
set_option linter.unusedSimpArgs false
namespace Go.Proofs.Ytnboigbknadpdaa
set_option maxRecDepth 100000
open Go.RowKit SM
section
variable (l : List Iv) (A : Option Addr) (c : Nat) (ps : List Prt) (pA : Option Addr) (pc : Nat) (w : World)
/-- What is asked of the arguments. -/
structure ArgsOk : Prop where
  lc : l.length ≤ c
  lm : c ≤ maxLen
  la : ItemsAt w A l
  ls : ∀ x ∈ l, x.it.code.size ≤ 281474976710656 ∧ x.it.parts.length ≤ 281474976710656 ∧ x.it.others.length ≤ 281474976710656 ∧ ∀ p ∈ x.it.parts, p.1.size ≤ 281474976710656
  pn : ps.length ≤ pc
  pm : pc ≤ maxLen
  pr : Rd w pA (ps.flatMap encP)
  pz : ∀ p ∈ ps, p.1.size ≤ 140737488355328 ∧ -9223372036854775808 ≤ p.2 ∧ p.2 ≤ 9223372036854775807
/-- What great and Check answer. -/
def GreatR (d : Int) (w : World) (e : Ending) (w' : World) : Prop :=
  (e = .returned (.bool true) ∧ KB w w') ∨ (e = .returned (.bool false) ∧ KB w w' ∧ Hid (Small7 l) ∧
    Hid (∀ W, KB w W → Calls Try.prog 9 #[.slice A l.length c] W fun e w' => e = .returned (.int .i64 d) ∧ KB w w'))
theorem great_check (h : ArgsOk l A c ps pA pc w) {d : Int} (hd : (checkE (itsOf l) : Int) = d) (W : World) (hW : KB w W) :
    Calls Try.prog 6 #[.slice A l.length c] W (GreatR l A c d w) := by
  subst hd
  refine (great07_any l A c W h.lc h.lm (h.la.below hW) h.ls).mono ?_
  rintro e w' ⟨b, m, rfl, rfl, hb⟩
  cases b with
  | true => exact .inl ⟨rfl, hW.drewN m⟩
  | false =>
    have hs := hb rfl
    have hz := small_sizes hs
    exact .inr ⟨rfl, hW.drewN m, hs, fun W hW => (kitCheck_any l A c W h.lc h.lm (h.la.below hW) hz.1 hz.2.1).mono fun e w' ⟨he, hB⟩ => ⟨he, hW.trans hB⟩⟩
set_option maxHeartbeats 4000000 in
theorem kitMore_bad (h : ArgsOk l A c ps pA pc w) (h0 : checkE (itsOf l) ≠ 0) :
    Calls Try.prog 5 #[.slice A l.length c, .slice pA ps.length pc] w fun e w' => e = .returned (.bool true) ∧ KB w w' := by
  obtain ⟨d, hd⟩ : ∃ d : Int, (checkE (itsOf l) : Int) = d := ⟨_, rfl⟩
  have HG := Lib.hid (great_check l A c ps pA pc w h hd)
  have HAW := Lib.hid (law_awake w)
  have hd0 : (d != 0) = true := by rw [bne_iff_ne]; omega
  clear h h0 hd
  go_enter Try.func5, Try.ntmps5
  go_wp2_with (first | (go_at_call 6; (with_reducible refine (HG.out _ (by assumption)).mono ?_); rintro e w1 (⟨rfl, hK⟩ | ⟨rfl, hK, HS, HC⟩)) | (go_at_call 9; (with_reducible refine (HC.out _ (by assumption)).mono ?_); rintro e w3 ⟨rfl, hK3⟩) | (go_at_call 7; (with_reducible refine (HAW.out _ (KB.refl w)).mono ?_); rintro e w6 ⟨rfl, hK6⟩))
  all_goals (go_ret; exact ⟨rfl, by assumption⟩)
set_option maxHeartbeats 4000000 in
theorem kitMore_long (h : ArgsOk l A c ps pA pc w) (h0 : checkE (itsOf l) = 0) (hl : 58 < l.length) :
    Calls Try.prog 5 #[.slice A l.length c, .slice pA ps.length pc] w fun e w' => e = .returned (.bool true) ∧ KB w w' := by
  have HG := Lib.hid (great_check l A c ps pA pc w h (d := 0) (by rw [h0]; rfl))
  have HAW := Lib.hid (law_awake w)
  clear h h0
  go_enter Try.func5, Try.ntmps5
  go_wp2_with (first | (go_at_call 6; (with_reducible refine (HG.out _ (by assumption)).mono ?_); rintro e w1 (⟨rfl, hK⟩ | ⟨rfl, hK, HS, HC⟩)) | (go_at_call 9; (with_reducible refine (HC.out _ (by assumption)).mono ?_); rintro e w3 ⟨rfl, hK3⟩) | (go_at_call 7; (with_reducible refine (HAW.out _ (KB.refl w)).mono ?_); rintro e w6 ⟨rfl, hK6⟩))
  all_goals (go_ret; exact ⟨rfl, by assumption⟩)
theorem lit8 : (⟨#[90, 56]⟩ : ByteArray).toList = [90, 56] := by rw [ByteArray.toList_eq]
theorem ltS_lit (a : ByteArray) (h : ¬ ltS a ⟨#[90, 56]⟩) : Op.bytesLess a.toList [90, 56] = false := by
  rw [← lit8, bytesLess_lt]; exact decide_eq_false h
theorem ltS_lit2 (a : ByteArray) (h : ltS a ⟨#[90, 56]⟩) : Op.bytesLess a.toList [90, 56] = true := by
  rw [← lit8, bytesLess_lt]; exact decide_eq_true h
set_option maxHeartbeats 4000000 in
theorem kitMore_high (h : ArgsOk l A c ps pA pc w) (h0 : checkE (itsOf l) = 0) (hl : l.length ≤ 58) (n : Nat) (hn : l.length = n + 1) (hx : ¬ ltS l[n].it.code ⟨#[90, 56]⟩) :
    Calls Try.prog 5 #[.slice A l.length c, .slice pA ps.length pc] w fun e w' => e = .returned (.bool true) ∧ KB w w' := by
  have HG := Lib.hid (great_check l A c ps pA pc w h (d := 0) (by rw [h0]; rfl))
  have HAW := Lib.hid (law_awake w)
  have hce : ∀ W, KB w W → ∃ b o, A = some ⟨b, o, none⟩ ∧ W.cell? ⟨b, o + n * 4, none⟩ = some (.string l[n].it.code) := fun W hW => by
    obtain ⟨b, o, e, h0, _⟩ := (h.la.below hW).get (i := n) (by omega)
    exact ⟨b, o, e, h0⟩
  obtain ⟨b, o, rfl, _⟩ := hce w (KB.refl w)
  have hc2 : ∀ W, KB w W → W.cell? ⟨b, o + n * 4, none⟩ = some (.string l[n].it.code) := fun W hW => by
    obtain ⟨b', o', e, h0⟩ := hce W hW
    cases e
    exact h0
  have HCE := Lib.hid hc2
  have hlt := ltS_lit _ hx
  generalize l[n].it.code = cd at *
  have hg : ∀ W, KB w W → Calls Try.prog 6 #[.slice (some ⟨b, o, none⟩) (n + 1) c] W (fun e w' => (e = .returned (.bool true) ∧ KB w w') ∨ (e = .returned (.bool false) ∧ KB w w' ∧
    Hid (∀ W, KB w W → Calls Try.prog 9 #[.slice (some ⟨b, o, none⟩) (n + 1) c] W fun e w' => e = .returned (.int .i64 0) ∧ KB w w' ∧ w'.cell? ⟨b, o + n * 4, none⟩ = some (.string cd)))) := fun W hW => by
    have h1 := HG.out W hW
    rw [hn] at h1
    refine h1.mono ?_
    rintro e w1 (⟨rfl, hK⟩ | ⟨rfl, hK, HS, HC⟩)
    · exact .inl ⟨rfl, hK⟩
    · refine .inr ⟨rfl, hK, fun W2 hW2 => ?_⟩
      have h2 := HC.out W2 hW2
      rw [hn] at h2
      exact h2.mono fun e w3 ⟨he, hB⟩ => ⟨he, hB, HCE.out _ hB⟩
  have HG2 := Lib.hid hg
  rw [hn]
  have hl2 : n + 1 ≤ 58 := by omega
  clear h h0 hg hc2 hce hx HCE HG hl
  clear hn
  go_enter Try.func5, Try.ntmps5
  go_wp2_with (first | (go_at_call 6; (with_reducible refine (HG2.out _ (by assumption)).mono ?_); rintro e w1 (⟨rfl, hK⟩ | ⟨rfl, hK, HC⟩)) | (go_at_call 9; (with_reducible refine (HC.out _ (by assumption)).mono ?_); rintro e w3 ⟨rfl, hK3, hcell⟩) | (go_at_call 7; (with_reducible refine (HAW.out _ (KB.refl w)).mono ?_); rintro e w6 ⟨rfl, hK6⟩))
  all_goals (go_ret; exact ⟨rfl, by assumption⟩)
/-- What is known of the parts ahead of place k. -/
def FineK (ys : List It) (ps : List Prt) (k : Nat) (f : Bool) (D : Nat) : Prop :=
  (f = true → 1 ≤ ps.length ∧ ps.length ≤ 8 ∧ (∀ p ∈ ps.take k, 1 ≤ p.2 ∧ p.2 ≤ 1073741824 ∧ ∃ y, findI ys p.1 = some y) ∧ ((ps.take k).map (·.1)).Nodup ∧ D = deepP ys (ps.take k)) ∧ (f = false → ¬ fineP ys ps)
theorem fineK_start (ys : List It) (ps : List Prt) {b : Bool} (hb : b = decide (1 ≤ ps.length ∧ ps.length ≤ 8)) : FineK ys ps 0 b 0 := by
  subst hb
  refine ⟨fun h => ?_, fun h hf => ?_⟩
  · have := of_decide_eq_true h
    exact ⟨this.1, this.2, fun p hp => by simp at hp, by simp, rfl⟩
  · exact of_decide_eq_false h ⟨hf.1, hf.2.1⟩
theorem fineK_good {ys : List It} {ps : List Prt} {k D : Nat} (h : FineK ys ps k true D) (hk : k < ps.length) (hd : ∃ y, findI ys ps[k].1 = some y) (hq : 1 ≤ ps[k].2 ∧ ps[k].2 ≤ 1073741824) {b : Bool} (hb : b = decide (∀ q ∈ ps.take k, q.1 ≠ ps[k].1)) :
    FineK ys ps (k + 1) b (max D (depI ys ps[k].1 + 1)) := by
  obtain ⟨h1, h2, h3, h4, h5⟩ := h.1 rfl
  have htk : ps.take (k + 1) = ps.take k ++ [ps[k]] := List.take_succ_eq_append_getElem hk
  subst hb
  refine ⟨fun h => ?_, fun h hf => ?_⟩
  · have hn := of_decide_eq_true h
    refine ⟨h1, h2, ?_, ?_, ?_⟩
    · rw [htk]
      intro p hp
      rcases List.mem_append.1 hp with hp | hp
      · exact h3 p hp
      · simp only [List.mem_singleton] at hp; subst hp; exact ⟨hq.1, hq.2, hd⟩
    · rw [htk, List.map_append, List.nodup_append]
      refine ⟨h4, by simp, fun a ha b hb => ?_⟩
      obtain ⟨q, hq, rfl⟩ := List.mem_map.1 ha
      simp only [List.map_cons, List.map_nil, List.mem_singleton] at hb
      subst hb
      exact hn q hq
    · unfold deepP at h5 ⊢
      rw [htk, List.map_append, List.foldl_append, ← h5]; rfl
  · refine of_decide_eq_false h fun q hq => ?_
    have := hf.2.2.2
    have h6 : (ps.take (k + 1)).map (·.1) |>.Nodup := List.Nodup.sublist ((List.take_sublist _ _).map _) this
    rw [htk, List.map_append, List.nodup_append] at h6
    exact h6.2.2 _ (List.mem_map.2 ⟨q, hq, rfl⟩) _ (by simp)
theorem fineK_bad {ys : List It} {ps : List Prt} {k E : Nat} (hk : k < ps.length) (hd : ¬ ((∃ y, findI ys ps[k].1 = some y) ∧ 1 ≤ ps[k].2 ∧ ps[k].2 ≤ 1073741824)) : FineK ys ps (k + 1) false E :=
  ⟨fun h => (by cases h), fun _ hf => hd ⟨(hf.2.2.1 _ (List.getElem_mem hk)).2.2, (hf.2.2.1 _ (List.getElem_mem hk)).1, (hf.2.2.1 _ (List.getElem_mem hk)).2.1⟩⟩
theorem fineK_end {ys : List It} {ps : List Prt} {f : Bool} {D : Nat} (h : FineK ys ps ps.length f D) : fineP ys ps ∧ deepP ys ps ≤ 8 ↔ f = true ∧ D ≤ 8 := by
  cases f with
  | false => exact ⟨fun h2 => absurd h2.1 (h.2 rfl), fun h2 => (by cases h2.1)⟩
  | true =>
    obtain ⟨h1, h2, h3, h4, h5⟩ := h.1 rfl
    rw [List.take_length] at h3 h4 h5
    subst h5
    exact ⟨fun h => ⟨rfl, h.2⟩, fun h => ⟨⟨h1, h2, h3, h4⟩, h.2⟩⟩
theorem fineK_out {ys : List It} {ps : List Prt} {k D : Nat} (h : FineK ys ps k false D) : ¬ (fineP ys ps ∧ deepP ys ps ≤ 8) := fun h2 => h.2 rfl h2.1
/-- Whether s is none of the first j. -/
def NewQ (ps : List Prt) (s : ByteArray) (j : Nat) (f : Bool) : Prop := f = decide (∀ q ∈ ps.take j, q.1 ≠ s)
theorem NewQ.still {ps : List Prt} {s : ByteArray} {j : Nat} (h : NewQ ps s j false) : NewQ ps s (j + 1) false := by
  unfold NewQ at h ⊢
  have h1 := of_decide_eq_false h.symm
  have h2 : ¬ ∀ q ∈ ps.take (j + 1), q.1 ≠ s := fun hh => h1 fun q hq => hh q (List.mem_of_mem_take (i := j) (by rw [List.take_take]; simpa using hq))
  rw [decide_eq_false h2]
theorem NewQ.hit {ps : List Prt} {s : ByteArray} {j : Nat} (_ : NewQ ps s j true) (hj : j < ps.length) (he : ps[j].1 = s) : NewQ ps s (j + 1) false := by
  unfold NewQ
  have h2 : ¬ ∀ q ∈ ps.take (j + 1), q.1 ≠ s := fun hh => hh ps[j] (by rw [List.take_succ_eq_append_getElem hj]; exact List.mem_append_right _ (by simp)) he
  rw [decide_eq_false h2]
theorem NewQ.miss {ps : List Prt} {s : ByteArray} {j : Nat} (h : NewQ ps s j true) (hj : j < ps.length) (he : ps[j].1 ≠ s) : NewQ ps s (j + 1) true := by
  unfold NewQ at h ⊢
  have h1 := of_decide_eq_true h.symm
  have h2 : ∀ q ∈ ps.take (j + 1), q.1 ≠ s := fun q hq => by
    rw [List.take_succ_eq_append_getElem hj] at hq
    rcases List.mem_append.1 hq with hq | hq
    · exact h1 q hq
    · simp only [List.mem_singleton] at hq; subst hq; exact he
  rw [decide_eq_true h2]
set_option maxHeartbeats 8000000 in
theorem kitMore_good (h : ArgsOk l A c ps pA pc w) (hr : Room (itsOf l)) :
    Calls Try.prog 5 #[.slice A l.length c, .slice pA ps.length pc] w fun e w' => e = .returned (.bool true) ∧ KB w w' := by
  obtain ⟨L, hL⟩ : ∃ L, l.length = L := ⟨_, rfl⟩
  have hlc := h.lc
  have hlm := h.lm
  have hpn := h.pn
  have hpm := h.pm
  have hl58 := hr.len
  rw [itsOf_len] at hl58
  unfold maxLen at hlm hpm
  have HAW := Lib.hid (law_awake w)
  have hlast : ∀ W, KB w W → ∀ n, L = n + 1 → ∃ b o cd, A = some ⟨b, o, none⟩ ∧ W.cell? ⟨b, o + n * 4, none⟩ = some (.string cd) ∧ Op.bytesLess cd.toList [90, 56] = true := fun W hW n hn => by
    have hnl : n < l.length := by omega
    obtain ⟨b, o, e, h0, _⟩ := (h.la.below hW).get hnl
    exact ⟨b, o, _, e, h0, ltS_lit2 _ (hr.low _ (List.mem_map.2 ⟨_, List.getElem_mem hnl, rfl⟩))⟩
  have HG := Lib.hid (great_check l A c ps pA pc w h (d := 0) (by rw [hr.ok]; rfl))
  have HL := Lib.hid hlast
  have H := Lib.hid h
  have HR := Lib.hid hr
  have HLE := Lib.hid hL
  rw [hL] at hlc hl58 ⊢
  unfold GreatR at HG
  rw [hL] at HG
  clear hL h hr hlast
  go_enter Try.func5, Try.ntmps5
  go_upto_region 3 with (first | (go_at_call 7; (with_reducible refine (HAW.out _ (KB.refl w)).mono ?_); rintro e w6 ⟨rfl, hK6⟩))
  go_cut [45] from 14 to 45 (fun b wx => (b = .bool true ∧ KB w wx) ∨ (b = .bool false ∧ KB w wx ∧ Hid (Small7 l) ∧ ps.length ≤ 100))
  case first =>
    cases L with
    | zero =>
      by_cases hp : ps.length ≤ 100
      · go_wp2_with (first | (go_at_call 6; (with_reducible refine (HG.out _ (by assumption)).mono ?_); rintro e w1 (⟨rfl, hK⟩ | ⟨rfl, hK, HS, HC⟩)) | (go_at_call 9; (with_reducible refine (HC.out _ (by assumption)).mono ?_); rintro e w3 ⟨rfl, hK3⟩))
        · go_meet
          exact .inl ⟨rfl, hK⟩
        · go_meet
          exact .inr ⟨congrArg Value.bool (by simp; omega), hK3, HS, hp⟩
      · go_wp2_with (first | (go_at_call 6; (with_reducible refine (HG.out _ (by assumption)).mono ?_); rintro e w1 (⟨rfl, hK⟩ | ⟨rfl, hK, HS, HC⟩)) | (go_at_call 9; (with_reducible refine (HC.out _ (by assumption)).mono ?_); rintro e w3 ⟨rfl, hK3⟩))
        · go_meet
          exact .inl ⟨rfl, hK⟩
        · go_meet
          exact .inl ⟨congrArg Value.bool (by simp; omega), hK3⟩
    | succ n =>
      obtain ⟨b, o, cd, rfl, hc0, hlt⟩ := HL.out w6 (by assumption) n rfl
      have hcc : ∀ W, KB w W → W.cell? ⟨b, o + n * 4, none⟩ = some (.string cd) := fun W hW => by
        obtain ⟨b', o', cd', e, h1, h2⟩ := HL.out W hW n rfl
        obtain ⟨b2, o2, e2, h3, _⟩ := (H.out.la).get (i := n) (by have := HLE.out; omega)
        obtain ⟨b3, o3, e3, h4, _⟩ := (H.out.la.below hW).get (i := n) (by have := HLE.out; omega)
        obtain ⟨b4, o4, e4, h5, _⟩ := (H.out.la.below hK6).get (i := n) (by have := HLE.out; omega)
        cases e3
        cases e4
        rw [h4, ← h5, hc0]
      have hchk : ∀ W, KB w W → Calls Try.prog 6 #[.slice (some ⟨b, o, none⟩) (n + 1) c] W (fun e w' => (e = .returned (.bool true) ∧ KB w w') ∨ (e = .returned (.bool false) ∧ KB w w' ∧ Hid (Small7 l) ∧
          Hid (∀ W, KB w W → Calls Try.prog 9 #[.slice (some ⟨b, o, none⟩) (n + 1) c] W fun e w' => e = .returned (.int .i64 0) ∧ KB w w' ∧ w'.cell? ⟨b, o + n * 4, none⟩ = some (.string cd)))) := fun W hW => by
        refine (HG.out W hW).mono ?_
        rintro e w1 (⟨rfl, hK⟩ | ⟨rfl, hK, HS, HC⟩)
        · exact .inl ⟨rfl, hK⟩
        · exact .inr ⟨rfl, hK, HS, fun W2 hW2 => (HC.out W2 hW2).mono fun e w3 ⟨he, hB⟩ => ⟨he, hB, hcc _ hB⟩⟩
      have HG2 := Lib.hid hchk
      clear hchk hcc hc0 HG
      by_cases hp : ps.length ≤ 100
      · go_wp2_with (first | (go_at_call 6; (with_reducible refine (HG2.out _ (by assumption)).mono ?_); rintro e w1 (⟨rfl, hK⟩ | ⟨rfl, hK, HS, HC⟩)) | (go_at_call 9; (with_reducible refine (HC.out _ (by assumption)).mono ?_); rintro e w3 ⟨rfl, hK3, hcell⟩))
        · go_meet
          exact .inl ⟨rfl, hK⟩
        · go_meet
          exact .inr ⟨congrArg Value.bool (by simp; omega), hK3, HS, hp⟩
      · go_wp2_with (first | (go_at_call 6; (with_reducible refine (HG2.out _ (by assumption)).mono ?_); rintro e w1 (⟨rfl, hK⟩ | ⟨rfl, hK, HS, HC⟩)) | (go_at_call 9; (with_reducible refine (HC.out _ (by assumption)).mono ?_); rintro e w3 ⟨rfl, hK3, hcell⟩))
        · go_meet
          exact .inl ⟨rfl, hK⟩
        · go_meet
          exact .inl ⟨congrArg Value.bool (by simp; omega), hK3⟩
  case rest =>
    rcases hcut with ⟨rfl, hK⟩ | ⟨rfl, hK, HS, hp⟩
    · go_wp2
      go_ret
      exact ⟨rfl, hK⟩
    · clear HG HL
      have hSZ : SzOk l ps := ⟨HS.out, fun p hp => (H.out.pz p hp).1, hp⟩
      have hcopy : Calls Try.prog 21 #[.slice A L c] wc (fun e w' => ∃ (A2 : Option Addr) (c2 g c3 : Nat) (w5 : World), e = .returned (.slice A2 L c2) ∧
          Hid ((Builtin.append_ #[22, 22] 22 #[.slice A2 L c2, .slice (some ⟨w'.heap.size, 0, none⟩) 1 1]).run Try.prog (w'.alloc (.cells #[.string ⟨#[90, 56]⟩, .int .i64 7, .slice none 0 0, .slice none 0 0] 32)) = .ok (.slice (some ⟨g, 0, none⟩) (L + 1) c3) w5) ∧ M8 l w w5 g c3 ∧ L + 1 ≤ c3 ∧ c3 ≤ 9223372036854775807) := by
        have hz := small_sizes HS.out
        have h1 := copyItems_any l A c wc H.out.lc H.out.lm (H.out.la.below hK) (by have := hz.2.2.2; omega) hz.2.2.1
        rw [HLE.out] at h1
        refine h1.mono ?_
        rintro e w' ⟨v, ys, rfl, hI, hB⟩
        have hKw := hK.trans hB
        have hI2 : CopyIs w' w.heap.size v (itsOf l) ys := ⟨hI.1, fun y hy => (hI.2.1 y hy).lower hK.size, own_lower hI.2.2 hK.size⟩
        obtain ⟨A2, c2, rfl, _⟩ := own_rd hI.2.2
        rw [itsOf_len] at hI2 ⊢
        obtain ⟨g, c3, w5, hap, hM⟩ := append8 (by have := hz.2.2.2; have := HLE.out; omega) hKw hI2
        have hcp := hM.cap
        unfold maxLen at hcp
        rw [HLE.out] at hap hcp ⊢
        exact ⟨A2, c2, g, c3, w5, rfl, hap, hM, hcp.1, hcp.2⟩
      have HCP := Lib.hid hcopy
      have hc8 : ∀ W g c3, M8 l w W g c3 → Calls Try.prog 9 #[.slice (some ⟨g, 0, none⟩) (L + 1) c3] W fun e w' => e = .returned (.int .i64 0) ∧ M8 l w w' g c3 := fun W g c3 hM => by
        have h1 := hM.check hSZ
        rw [HLE.out, HR.out.eight] at h1
        exact h1.mono fun e w' ⟨he, hB⟩ => ⟨he, hM.below hB⟩
      have hf8 : ∀ W g c3, M8 l w W g c3 → Calls Try.prog 9 #[.slice (some ⟨g, 0, none⟩) L c3] W fun e w' => e = .returned (.int .i64 0) ∧ M8 l w w' g c3 := fun W g c3 hM => by
        have h1 := hM.front hSZ
        rw [HLE.out, HR.out.ok] at h1
        exact h1.mono fun e w' ⟨he, hB⟩ => ⟨he, hM.below hB⟩
      have HC8 := Lib.hid hc8
      have HF8 := Lib.hid hf8
      have HSZ := Lib.hid hSZ
      clear hcopy hc8 hf8 hSZ
      go_upto_region 9 with (first | (go_at_call 21; (with_reducible refine HCP.out.mono ?_); rintro e w2 ⟨A2, c2, g, c3, w5, rfl, HAP, hM, hg1, hg2⟩) | (go_at_call 9; (first | (with_reducible refine (HC8.out _ _ _ (by assumption)).mono ?_) | (with_reducible refine (HF8.out _ _ _ (by assumption)).mono ?_)); rintro e w3 ⟨rfl, hM8⟩) | (at_builtin; refine Lib.wpList_append_run _ rfl _ _ _ _ rfl _ _ rfl rfl _ _ HAP.out ?_))
      have hdeep : ∀ (W : World) (s : ByteArray), s.size ≤ 140737488355328 → M8 l w W g c3 → Calls Try.prog 18 #[.slice (some ⟨g, 0, none⟩) (L + 1) c3, .string s] W fun e w' => ∃ d : Nat, e = .returned (.int .i64 (d : Nat)) ∧ d ≤ 8 ∧ Hid (d = depI (itsOf l ++ [x8]) s) ∧ M8 l w w' g c3 := fun W s hs hM => by
        have h1 := hM.deep HSZ.out s hs
        rw [HLE.out] at h1
        refine h1.mono fun e w' ⟨he, hB⟩ => ⟨_, he, ?_, ?_, hM.below hB⟩
        · unfold deepE; rw [if_pos HR.out.eight]; exact depI_le HR.out.eight s
        · show _ = _; unfold deepE; rw [if_pos HR.out.eight]
      have HD8 := Lib.hid hdeep
      clear hdeep hM HCP HAP
      go_cut [7] from 62 to 69 (fun f wx => f = .bool (decide (1 ≤ ps.length ∧ ps.length ≤ 8)) ∧ wx = w3)
      case first =>
        by_cases h1 : 1 ≤ ps.length
        · by_cases h2 : ps.length ≤ 8
          · go_wp2
            go_meet
            exact ⟨congrArg Value.bool (by first | (exact decide_eq_decide.2 (by omega)) | (exact (decide_eq_false (by omega)).symm) | (exact (decide_eq_true (by omega)).symm) | (simp; omega)), rfl⟩
          · go_wp2
            go_meet
            exact ⟨congrArg Value.bool (by first | (exact decide_eq_decide.2 (by omega)) | (exact (decide_eq_false (by omega)).symm) | (exact (decide_eq_true (by omega)).symm) | (simp; omega)), rfl⟩
        · go_wp2
          go_meet
          exact ⟨congrArg Value.bool (by first | (exact decide_eq_decide.2 (by omega)) | (exact (decide_eq_false (by omega)).symm) | (exact (decide_eq_true (by omega)).symm) | (simp; omega)), rfl⟩
      case rest =>
        obtain ⟨rfl, rfl⟩ := hcut
        obtain ⟨b0, hb0⟩ : ∃ b0, decide (1 ≤ ps.length ∧ ps.length ≤ 8) = b0 := ⟨_, rfl⟩
        have HFK := Lib.hid (fineK_start (itsOf l ++ [x8]) ps hb0.symm)
        rw [hb0]
        clear hb0
        go_wp2
        go_loopw [6, 7, 8] (fun deep fine i wr => ∃ (D k : Nat) (f : Bool), k ≤ ps.length ∧ deep = .int .i64 D ∧ fine = .bool f ∧ i = .int .i64 k ∧ D ≤ 9 ∧ Hid (FineK (itsOf l ++ [x8]) ps k f D) ∧ M8 l w wr g c3) (fun _ _ i _ => ps.length - (intOf i).toNat)
        case atStart => exact ⟨0, 0, b0, Nat.zero_le _, rfl, rfl, rfl, by omega, HFK, by assumption⟩
        case round =>
          clear HFK
          obtain ⟨D, k, f, hk, rfl, rfl, rfl, hD, HF, hM⟩ := hrel
          have hk0 : (0 : Int) ≤ (k : Int) := by omega
          by_cases hlt : k < ps.length
          · have hd1 : decide (k < ps.length) = true := decide_eq_true hlt
            have hki : (k : Int) < (ps.length : Int) := by omega
            cases f with
            | false =>
              have HN := Lib.hid (fineK_out HF.out)
              clear HF
              obtain ⟨g2, c4, w9, hap9, hM9⟩ := append9 (by have := HLE.out; omega) hM H.out.pn H.out.pm H.out.pr
              have hcm9 := hM9.2.2.1
              have hcn9 := hM9.2.1
              unfold maxLen at hcm9
              rw [HLE.out] at hap9 hcn9
              have HAP9 := Lib.hid hap9
              clear hap9
              obtain ⟨z, hz⟩ : ∃ z : Int, z = ((checkE (itsOf l ++ [x8] ++ [x9 ps]) : Nat) : Int) := ⟨_, rfl⟩
              have hz0 : (z == 0) = false := by
                rw [beq_eq_false_iff_ne, hz]
                intro hh
                exact HN.out ((HR.out.nine ps).1 (by omega))
              have hc9 : ∀ W, M9 l ps w W g2 c4 → Calls Try.prog 9 #[.slice (some ⟨g2, 0, none⟩) (L + 2) c4] W fun e w' => e = .returned (.int .i64 z) ∧ M9 l ps w w' g2 c4 := fun W hW => by
                have h1 := hW.check HSZ.out
                rw [HLE.out, ← hz] at h1
                exact h1.mono fun e w' ⟨he, hB⟩ => ⟨he, hW.below hB⟩
              have HC9 := Lib.hid hc9
              have hc9b : ∀ wr, M9 l ps w wr g2 c4 → ∀ W : BelT wr, Calls Try.prog 9 #[.slice (some ⟨g2, 0, none⟩) (L + 2) c4] W.val fun e w' => e = .returned (.int .i64 z) ∧ Below W.val.heap.size W.val w' := fun wr hr W => by
                have h1 := (hr.below W.prop).check HSZ.out
                rw [HLE.out, ← hz] at h1
                exact h1
              have HCB := Lib.hid hc9b
              clear hc9 hc9b hz HN
              go_wp2_with (first | (go_at_call 9; (with_reducible refine (HC9.out _ (by assumption)).mono ?_); rintro e w10 ⟨rfl, hM10⟩) | (at_builtin; refine Lib.wpList_append_run _ rfl _ _ _ _ rfl _ _ rfl rfl _ _ HAP9.out ?_))
              go_loopw [11] (fun i wr => ∃ k : Nat, k ≤ L ∧ i = .int .i64 k ∧ M9 l ps w wr g2 c4) (fun i _ => L - (intOf i).toNat)
              case atStart => exact ⟨0, Nat.zero_le _, rfl, by assumption⟩
              case round =>
                obtain ⟨k3, hk3, rfl, hM11⟩ := hrel
                have hk30 : (0 : Int) ≤ (k3 : Int) := by omega
                by_cases hlt3 : k3 < L
                · have HCR := Lib.hid (HCB.out _ hM11)
                  go_wp2
                  (refine SM.wp_region_bel_lit (by kernel_rfl) (by kernel_rfl) ?_; (repeat (go_big_quiet_step (((with_reducible exact call_bel (HCR.out _)))))); refine @wpQuiet_nil _ _ _ _ _ ?_; intro wq hbq)
                  have HB2 := Lib.hid hbq
                  clear hbq
                  go_wp2
                  go_roundw
                  case rel => exact ⟨k3 + 1, by omega, by go_num, hM11.below HB2.out⟩
                  case measure => simp [intOf]; omega
                · obtain rfl : k3 = L := by omega
                  go_wp2
                  go_ret
                  exact ⟨rfl, hM11.1⟩
            | true =>
              have hrd := fun W (hW : KB w W) => H.out.pr.below hW
              obtain ⟨b, o, rfl, _⟩ := Rd.elem (enc := encP) (k := 2) encP_len (by omega) (hrd w (KB.refl w)) (List.getElem?_eq_getElem hlt)
              have hcell : ∀ W, KB w W → ∀ j (hj : j < ps.length), W.cell? ⟨b, o + j * 2, none⟩ = some (.string ps[j].1) ∧ W.cell? ⟨b, o + j * 2 + 1, none⟩ = some (.int .i64 ps[j].2) := fun W hW j hj => by
                obtain ⟨b', o', he, hc⟩ := Rd.elem (enc := encP) (k := 2) encP_len (by omega) (hrd W hW) (List.getElem?_eq_getElem hj)
                cases he
                exact ⟨hc 0 _ rfl, hc 1 _ rfl⟩
              have HCL := Lib.hid hcell
              have h5 := (hcell wr hM.1 k hlt).1
              have hsz := (H.out.pz _ (List.getElem_mem hlt)).1
              have hqz := (H.out.pz _ (List.getElem_mem hlt)).2
              have hdp : Calls Try.prog 18 #[.slice (some ⟨g, 0, none⟩) (L + 1) c3, .string ps[k].1] wr fun e w' => ∃ d : Nat, e = .returned (.int .i64 (d : Nat)) ∧ d ≤ 8 ∧ Hid (d = depI (itsOf l ++ [x8]) ps[k].1) ∧ M8 l w w' g c3 ∧
                  w'.cell? ⟨b, o + k * 2 + 1, none⟩ = some (.int .i64 ps[k].2) ∧ w'.cell? ⟨b, o + k * 2, none⟩ = some (.string ps[k].1) := by
                refine (HD8.out wr _ hsz hM).mono ?_
                rintro e w' ⟨d, rfl, h1, h2, h3⟩
                exact ⟨d, rfl, h1, h2, h3, (hcell w' h3.1 k hlt).2, (hcell w' h3.1 k hlt).1⟩
              have HDP := Lib.hid hdp
              have hgd : ∀ (d : Nat) (b : Bool), d = depI (itsOf l ++ [x8]) ps[k].1 → 1 ≤ d → 1 ≤ ps[k].2 → ps[k].2 ≤ 1073741824 → b = decide (∀ q ∈ ps.take k, q.1 ≠ ps[k].1) → FineK (itsOf l ++ [x8]) ps (k + 1) b (max D (d + 1)) := fun d b h1 h2 h3 h4 h5 => by
                rw [h1]
                exact fineK_good HF.out hlt (depI_has HR.out.eight (by omega)) ⟨h3, h4⟩ h5
              have hbd : ∀ (d : Nat), d = depI (itsOf l ++ [x8]) ps[k].1 → ¬ (1 ≤ d ∧ 1 ≤ ps[k].2 ∧ ps[k].2 ≤ 1073741824) → FineK (itsOf l ++ [x8]) ps (k + 1) false (max D (d + 1)) := fun d h1 h2 => by
                refine fineK_bad hlt ?_
                rintro ⟨⟨y, hy⟩, h3, h4⟩
                exact h2 ⟨by rw [h1]; exact depI_pos HR.out.eight hy, h3, h4⟩
              have HGD := Lib.hid hgd
              have HBD := Lib.hid hbd
              have HNE := fun (j : Nat) (hj : j < ps.length) => str_eq_iff ps[j].1 ps[k].1
              have HNE2 := Lib.hid HNE
              clear hdp hgd hbd HF hrd hcell HNE
              obtain ⟨s, hs⟩ : ∃ s, s = ps[k].1 := ⟨_, rfl⟩
              obtain ⟨q, hq⟩ : ∃ q, q = ps[k].2 := ⟨_, rfl⟩
              rw [← hs] at HDP HGD HBD HNE2 h5
              rw [← hq] at HDP HGD HBD hqz
              clear hs hq
              go_upto_region 14 with (go_at_call 18; (with_reducible refine HDP.out.mono ?_); rintro e w4 ⟨d, rfl, hd8, HDQ, hM4, h6, h7⟩)
              by_cases hd0 : ¬ ((0 : Int) < (d : Int))
              · have HK2 := Lib.hid (HBD.out d HDQ.out (by omega))
                go_wp2
                go_loopw [7, 10] (fun f k2 wr => ∃ j m : Nat, j ≤ k ∧ f = .bool false ∧ k2 = .int .i64 j ∧ wr = w4.drewN m) (fun _ k2 _ => k - (intOf k2).toNat)
                case atStart => exact ⟨0, 0, Nat.zero_le _, congrArg Value.bool (by first | rfl | (exact decide_eq_false (by omega)) | (simp; omega)), rfl, rfl⟩
                case round =>
                  obtain ⟨j, m, hj, rfl, rfl, rfl⟩ := hrel
                  have hj0 : (0 : Int) ≤ (j : Int) := by omega
                  by_cases hjl : j < k
                  · go_wp2
                    (refine wp_region_quiet_lit (by kernel_rfl) (by kernel_rfl) ?_; (repeat (refine @wpQuiet_step _ _ _ _ _ _ _ ?_; intro K hK; go_simp; first | (refine @hK _ ?_; clear hK K) | (apply Exists.intro; refine ⟨fun _ => ?_, @hK _ ?_⟩; (fail); clear hK K))); refine @wpQuiet_nil _ _ _ _ _ ?_; intro _ hw'; obtain ⟨nq, hw''⟩ := hw'; subst hw'')
                    go_wp2
                    go_roundw
                    case rel => (first | exact ⟨j + 1, _, by omega, rfl, by go_num, rfl⟩ | ((repeat apply Exists.intro); refine ⟨?_, rfl⟩; exact ⟨j + 1, _, by omega, rfl, by go_num, rfl⟩))
                    case measure => simp [intOf]; omega
                  · obtain rfl : j = k := by omega
                    go_wp2
                    go_roundw
                    case rel => exact ⟨max D (d + 1), j + 1, false, by omega, congrArg (Value.int .i64) (by first | omega | (simp only [IntKind.wrap_i64]; omega) | go_num), rfl, by go_num, by omega, HK2, hM4.below (below_drewN (Below.refl _ _) m)⟩
                    case measure => simp [intOf]; omega
              · by_cases hq1 : q < 1
                · have HK2 := Lib.hid (HBD.out d HDQ.out (by omega))
                  go_wp2
                  go_loopw [7, 10] (fun f k2 wr => ∃ j m : Nat, j ≤ k ∧ f = .bool false ∧ k2 = .int .i64 j ∧ wr = w4.drewN m) (fun _ k2 _ => k - (intOf k2).toNat)
                  case atStart => exact ⟨0, 0, Nat.zero_le _, congrArg Value.bool (by first | rfl | (exact decide_eq_false (by omega)) | (simp; omega)), rfl, rfl⟩
                  case round =>
                    obtain ⟨j, m, hj, rfl, rfl, rfl⟩ := hrel
                    have hj0 : (0 : Int) ≤ (j : Int) := by omega
                    by_cases hjl : j < k
                    · go_wp2
                      (refine wp_region_quiet_lit (by kernel_rfl) (by kernel_rfl) ?_; (repeat (refine @wpQuiet_step _ _ _ _ _ _ _ ?_; intro K hK; go_simp; first | (refine @hK _ ?_; clear hK K) | (apply Exists.intro; refine ⟨fun _ => ?_, @hK _ ?_⟩; (fail); clear hK K))); refine @wpQuiet_nil _ _ _ _ _ ?_; intro _ hw'; obtain ⟨nq, hw''⟩ := hw'; subst hw'')
                      go_wp2
                      go_roundw
                      case rel => (first | exact ⟨j + 1, _, by omega, rfl, by go_num, rfl⟩ | ((repeat apply Exists.intro); refine ⟨?_, rfl⟩; exact ⟨j + 1, _, by omega, rfl, by go_num, rfl⟩))
                      case measure => simp [intOf]; omega
                    · obtain rfl : j = k := by omega
                      go_wp2
                      go_roundw
                      case rel => exact ⟨max D (d + 1), j + 1, false, by omega, congrArg (Value.int .i64) (by first | omega | (simp only [IntKind.wrap_i64]; omega) | go_num), rfl, by go_num, by omega, HK2, hM4.below (below_drewN (Below.refl _ _) m)⟩
                      case measure => simp [intOf]; omega
                · by_cases hq2 : 1073741824 < q
                  · have HK2 := Lib.hid (HBD.out d HDQ.out (by omega))
                    go_wp2
                    go_loopw [7, 10] (fun f k2 wr => ∃ j m : Nat, j ≤ k ∧ f = .bool false ∧ k2 = .int .i64 j ∧ wr = w4.drewN m) (fun _ k2 _ => k - (intOf k2).toNat)
                    case atStart => exact ⟨0, 0, Nat.zero_le _, congrArg Value.bool (by first | rfl | (exact decide_eq_false (by omega)) | (simp; omega)), rfl, rfl⟩
                    case round =>
                      obtain ⟨j, m, hj, rfl, rfl, rfl⟩ := hrel
                      have hj0 : (0 : Int) ≤ (j : Int) := by omega
                      by_cases hjl : j < k
                      · go_wp2
                        (refine wp_region_quiet_lit (by kernel_rfl) (by kernel_rfl) ?_; (repeat (refine @wpQuiet_step _ _ _ _ _ _ _ ?_; intro K hK; go_simp; first | (refine @hK _ ?_; clear hK K) | (apply Exists.intro; refine ⟨fun _ => ?_, @hK _ ?_⟩; (fail); clear hK K))); refine @wpQuiet_nil _ _ _ _ _ ?_; intro _ hw'; obtain ⟨nq, hw''⟩ := hw'; subst hw'')
                        go_wp2
                        go_roundw
                        case rel => (first | exact ⟨j + 1, _, by omega, rfl, by go_num, rfl⟩ | ((repeat apply Exists.intro); refine ⟨?_, rfl⟩; exact ⟨j + 1, _, by omega, rfl, by go_num, rfl⟩))
                        case measure => simp [intOf]; omega
                      · obtain rfl : j = k := by omega
                        go_wp2
                        go_roundw
                        case rel => exact ⟨max D (d + 1), j + 1, false, by omega, congrArg (Value.int .i64) (by first | omega | (simp only [IntKind.wrap_i64]; omega) | go_num), rfl, by go_num, by omega, HK2, hM4.below (below_drewN (Below.refl _ _) m)⟩
                        case measure => simp [intOf]; omega
                  · skip
                    go_wp2
                    go_loopw [7, 10] (fun f k2 wr => ∃ (j m : Nat) (f2 : Bool), j ≤ k ∧ f = .bool f2 ∧ k2 = .int .i64 j ∧ Hid (NewQ ps s j f2) ∧ wr = w4.drewN m) (fun _ k2 _ => k - (intOf k2).toNat)
                    case atStart => exact ⟨0, 0, _, Nat.zero_le _, rfl, rfl, (show NewQ ps s 0 _ by unfold NewQ; simp; try omega), rfl⟩
                    case round =>
                      obtain ⟨j, m, f2, hj, rfl, rfl, HX, rfl⟩ := hrel
                      by_cases hjl : j < k
                      · skip
                        have hj0 : (0 : Int) ≤ (j : Int) := by omega
                        have hjp : j < ps.length := by omega
                        have hjp2 : (j : Int) < (ps.length : Int) := by omega
                        have hkp2 : (k : Int) < (ps.length : Int) := by omega
                        cases f2 with
                        | false =>
                          have HX2 := Lib.hid HX.out.still
                          clear HX
                          go_wp2
                          (refine wp_region_quiet_lit (by kernel_rfl) (by kernel_rfl) ?_; (repeat (refine @wpQuiet_step _ _ _ _ _ _ _ ?_; intro K hK; go_simp; first | (refine @hK _ ?_; clear hK K) | (apply Exists.intro; refine ⟨fun _ => ?_, @hK _ ?_⟩; (fail); clear hK K))); refine @wpQuiet_nil _ _ _ _ _ ?_; intro _ hw'; obtain ⟨nq, hw''⟩ := hw'; subst hw'')
                          go_wp2
                          go_roundw
                          case rel => (first | exact ⟨j + 1, _, _, by omega, rfl, by go_num, HX2, rfl⟩ | ((repeat apply Exists.intro); refine ⟨?_, rfl⟩; exact ⟨j + 1, _, _, by omega, rfl, by go_num, HX2, rfl⟩))
                          case measure => simp [intOf]; omega
                        | true =>
                          have h8 := (HCL.out w4 hM4.1 j hjp).1
                          have hbl : b < w4.heap.size := World.block_lt_of_cell? w4 _ h8
                          have hst := HNE2.out j hjp
                          by_cases he : ps[j].1 = s
                          · have HX2 := Lib.hid (HX.out.hit hjp he)
                            rw [decide_eq_true he] at hst
                            clear HX he
                            generalize ps[j].1 = s2 at h8 hst
                            go_wp2
                            (refine wp_region_quiet_lit (by kernel_rfl) (by kernel_rfl) ?_; (repeat (refine @wpQuiet_step _ _ _ _ _ _ _ ?_; intro K hK; go_simp; first | (refine @hK _ ?_; clear hK K) | (apply Exists.intro; refine ⟨fun _ => ?_, @hK _ ?_⟩; (fail); clear hK K))); refine @wpQuiet_nil _ _ _ _ _ ?_; intro _ hw'; obtain ⟨nq, hw''⟩ := hw'; subst hw'')
                            go_wp2
                            go_roundw
                            case rel => (first | exact ⟨j + 1, _, _, by omega, rfl, by go_num, HX2, rfl⟩ | ((repeat apply Exists.intro); refine ⟨?_, rfl⟩; exact ⟨j + 1, _, _, by omega, rfl, by go_num, HX2, rfl⟩))
                            case measure => simp [intOf]; omega
                          · have HX2 := Lib.hid (HX.out.miss hjp he)
                            rw [decide_eq_false he] at hst
                            clear HX he
                            generalize ps[j].1 = s2 at h8 hst
                            go_wp2
                            (refine wp_region_quiet_lit (by kernel_rfl) (by kernel_rfl) ?_; (repeat (refine @wpQuiet_step _ _ _ _ _ _ _ ?_; intro K hK; go_simp; first | (refine @hK _ ?_; clear hK K) | (apply Exists.intro; refine ⟨fun _ => ?_, @hK _ ?_⟩; (fail); clear hK K))); refine @wpQuiet_nil _ _ _ _ _ ?_; intro _ hw'; obtain ⟨nq, hw''⟩ := hw'; subst hw'')
                            go_wp2
                            go_roundw
                            case rel => (first | exact ⟨j + 1, _, _, by omega, rfl, by go_num, HX2, rfl⟩ | ((repeat apply Exists.intro); refine ⟨?_, rfl⟩; exact ⟨j + 1, _, _, by omega, rfl, by go_num, HX2, rfl⟩))
                            case measure => simp [intOf]; omega
                      · obtain rfl : j = k := by omega
                        have HK2 := Lib.hid (HGD.out d f2 HDQ.out (by omega) (by omega) (by omega) HX.out)
                        clear HX
                        go_wp2
                        go_roundw
                        case rel => exact ⟨max D (d + 1), j + 1, f2, by omega, congrArg (Value.int .i64) (by first | omega | (simp only [IntKind.wrap_i64]; omega) | go_num), rfl, by go_num, by omega, HK2, hM4.below (below_drewN (Below.refl _ _) m)⟩
                        case measure => simp [intOf]; omega
          · obtain rfl : k = ps.length := by omega
            by_cases hgood : f = true ∧ D ≤ 8
            · have HN : Hid (fineP (itsOf l ++ [x8]) ps ∧ deepP (itsOf l ++ [x8]) ps ≤ 8) := (fineK_end HF.out).2 hgood
              obtain ⟨rfl, hD8⟩ := hgood
              have hd8b : decide ((D : Int) ≤ 8) = true := decide_eq_true (by omega)
              have hd8c : decide (D ≤ 8) = true := decide_eq_true hD8
              clear HF
              obtain ⟨g2, c4, w9, hap9, hM9⟩ := append9 (by have := HLE.out; omega) hM H.out.pn H.out.pm H.out.pr
              have hcm9 := hM9.2.2.1
              have hcn9 := hM9.2.1
              unfold maxLen at hcm9
              rw [HLE.out] at hap9 hcn9
              have HAP9 := Lib.hid hap9
              clear hap9
              have h9 : checkE (itsOf l ++ [x8] ++ [x9 ps]) = 0 := (HR.out.nine ps).2 HN.out
              have hc9 : ∀ W, M9 l ps w W g2 c4 → Calls Try.prog 9 #[.slice (some ⟨g2, 0, none⟩) (L + 2) c4] W fun e w' => e = .returned (.int .i64 0) ∧ M9 l ps w w' g2 c4 := fun W hW => by
                have h1 := hW.check HSZ.out
                rw [HLE.out, h9] at h1
                exact h1.mono fun e w' ⟨he, hB⟩ => ⟨he, hW.below hB⟩
              have HC9 := Lib.hid hc9
              have hc9b : ∀ wr, M9 l ps w wr g2 c4 → ∀ W : BelT wr, Calls Try.prog 9 #[.slice (some ⟨g2, 0, none⟩) (L + 2) c4] W.val fun e w' => e = .returned (.int .i64 0) ∧ Below W.val.heap.size W.val w' := fun wr hr W => by
                have h1 := (hr.below W.prop).check HSZ.out
                rw [HLE.out, h9] at h1
                exact h1
              have HCB := Lib.hid hc9b
              have hd9b : ∀ wr, M9 l ps w wr g2 c4 → ∀ (k : Nat) (hk : k < l.length), ∃ (b o d : Nat), A = some ⟨b, o, none⟩ ∧ wr.cell? ⟨b, o + k * 4, none⟩ = some (.string l[k].it.code) ∧
                  (∀ W : BelT wr, Calls Try.prog 18 #[.slice (some ⟨g2, 0, none⟩) (L + 2) c4, .string l[k].it.code] W.val fun e w' => e = .returned (.int .i64 (d : Nat)) ∧ Below W.val.heap.size W.val w') ∧
                  (∀ W : BelT wr, Calls Try.prog 18 #[.slice A L c, .string l[k].it.code] W.val fun e w' => e = .returned (.int .i64 (d : Nat)) ∧ Below W.val.heap.size W.val w') := fun wr hr k hk => by
                obtain ⟨b, o, e, h0, _⟩ := (H.out.la.below hr.1).get hk
                have hs := small_sizes HS.out
                have hsz := (hs.1 _ (List.getElem_mem hk)).1
                obtain ⟨i, hi, hie⟩ : ∃ i, ∃ hi : i < (itsOf l).length, (itsOf l)[i] = l[k].it := ⟨k, by rw [itsOf_len]; exact hk, by simp [itsOf]⟩
                have hf := ((check_sound HR.out.ok).uniq i l[k].it (by rw [List.getElem?_eq_getElem hi, hie])).1
                refine ⟨b, o, deepE (itsOf l) l[k].it.code, e, h0, fun W => ?_, fun W => ?_⟩
                · have h1 := (hr.below W.prop).deep HSZ.out l[k].it.code hsz
                  rw [HLE.out, HR.out.same h9 hf] at h1
                  exact h1
                · have h1 := kitDeep_any l A c l[k].it.code W.val H.out.lc H.out.lm (H.out.la.below (hr.1.trans W.prop)) hs.1 hs.2.1 hsz
                  rw [HLE.out] at h1
                  exact h1
              have HDB := Lib.hid hd9b
              clear hc9 hc9b hd9b HN
              go_wp2_with (first | (go_at_call 9; (with_reducible refine (HC9.out _ (by assumption)).mono ?_); rintro e w10 ⟨rfl, hM10⟩) | (at_builtin; refine Lib.wpList_append_run _ rfl _ _ _ _ rfl _ _ rfl rfl _ _ HAP9.out ?_))
              go_loopw [11] (fun i wr => ∃ k : Nat, k ≤ L ∧ i = .int .i64 k ∧ M9 l ps w wr g2 c4) (fun i _ => L - (intOf i).toNat)
              case atStart => exact ⟨0, Nat.zero_le _, rfl, by assumption⟩
              case round =>
                obtain ⟨k3, hk3, rfl, hM11⟩ := hrel
                have hk30 : (0 : Int) ≤ (k3 : Int) := by omega
                by_cases hlt3 : k3 < L
                · have HCR := Lib.hid (HCB.out _ hM11)
                  obtain ⟨b, o, d, rfl, h0, hdm, hdl⟩ := HDB.out _ hM11 k3 (by have := HLE.out; omega)
                  have HDM := Lib.hid hdm
                  have HDL := Lib.hid hdl
                  clear hdm hdl
                  generalize (l[k3]'(by have := HLE.out; omega)).it.code = cd at h0 HDM HDL
                  have hk3l : (k3 : Int) < (L : Int) := by omega
                  have hx0 := BelT.cell h0
                  go_wp2
                  (refine SM.wp_region_bel_lit (by kernel_rfl) (by kernel_rfl) ?_; (repeat (go_big_quiet_step (((first | (with_reducible exact call_bel (HCR.out _)) | (with_reducible exact call_bel (HDM.out _)) | (with_reducible exact call_bel (HDL.out _))))))); refine @wpQuiet_nil _ _ _ _ _ ?_; intro wq hbq)
                  clear hx0
                  have HB2 := Lib.hid hbq
                  clear hbq
                  go_wp2
                  go_roundw
                  case rel => exact ⟨k3 + 1, by omega, by go_num, hM11.below HB2.out⟩
                  case measure => simp [intOf]; omega
                · obtain rfl : k3 = L := by omega
                  go_wp2
                  go_ret
                  exact ⟨rfl, hM11.1⟩
            · have HN : Hid (¬ (fineP (itsOf l ++ [x8]) ps ∧ deepP (itsOf l ++ [x8]) ps ≤ 8)) := fun hh => hgood ((fineK_end HF.out).1 hh)
              clear HF
              cases f with
              | false =>
                clear hgood
                obtain ⟨g2, c4, w9, hap9, hM9⟩ := append9 (by have := HLE.out; omega) hM H.out.pn H.out.pm H.out.pr
                have hcm9 := hM9.2.2.1
                have hcn9 := hM9.2.1
                unfold maxLen at hcm9
                rw [HLE.out] at hap9 hcn9
                have HAP9 := Lib.hid hap9
                clear hap9
                obtain ⟨z, hz⟩ : ∃ z : Int, z = ((checkE (itsOf l ++ [x8] ++ [x9 ps]) : Nat) : Int) := ⟨_, rfl⟩
                have hz0 : (z == 0) = false := by
                  rw [beq_eq_false_iff_ne, hz]
                  intro hh
                  exact HN.out ((HR.out.nine ps).1 (by omega))
                have hc9 : ∀ W, M9 l ps w W g2 c4 → Calls Try.prog 9 #[.slice (some ⟨g2, 0, none⟩) (L + 2) c4] W fun e w' => e = .returned (.int .i64 z) ∧ M9 l ps w w' g2 c4 := fun W hW => by
                  have h1 := hW.check HSZ.out
                  rw [HLE.out, ← hz] at h1
                  exact h1.mono fun e w' ⟨he, hB⟩ => ⟨he, hW.below hB⟩
                have HC9 := Lib.hid hc9
                have hc9b : ∀ wr, M9 l ps w wr g2 c4 → ∀ W : BelT wr, Calls Try.prog 9 #[.slice (some ⟨g2, 0, none⟩) (L + 2) c4] W.val fun e w' => e = .returned (.int .i64 z) ∧ Below W.val.heap.size W.val w' := fun wr hr W => by
                  have h1 := (hr.below W.prop).check HSZ.out
                  rw [HLE.out, ← hz] at h1
                  exact h1
                have HCB := Lib.hid hc9b
                clear hc9 hc9b hz HN
                go_wp2_with (first | (go_at_call 9; (with_reducible refine (HC9.out _ (by assumption)).mono ?_); rintro e w10 ⟨rfl, hM10⟩) | (at_builtin; refine Lib.wpList_append_run _ rfl _ _ _ _ rfl _ _ rfl rfl _ _ HAP9.out ?_))
                go_loopw [11] (fun i wr => ∃ k : Nat, k ≤ L ∧ i = .int .i64 k ∧ M9 l ps w wr g2 c4) (fun i _ => L - (intOf i).toNat)
                case atStart => exact ⟨0, Nat.zero_le _, rfl, by assumption⟩
                case round =>
                  obtain ⟨k3, hk3, rfl, hM11⟩ := hrel
                  have hk30 : (0 : Int) ≤ (k3 : Int) := by omega
                  by_cases hlt3 : k3 < L
                  · have HCR := Lib.hid (HCB.out _ hM11)
                    go_wp2
                    (refine SM.wp_region_bel_lit (by kernel_rfl) (by kernel_rfl) ?_; (repeat (go_big_quiet_step (((with_reducible exact call_bel (HCR.out _)))))); refine @wpQuiet_nil _ _ _ _ _ ?_; intro wq hbq)
                    have HB2 := Lib.hid hbq
                    clear hbq
                    go_wp2
                    go_roundw
                    case rel => exact ⟨k3 + 1, by omega, by go_num, hM11.below HB2.out⟩
                    case measure => simp [intOf]; omega
                  · obtain rfl : k3 = L := by omega
                    go_wp2
                    go_ret
                    exact ⟨rfl, hM11.1⟩
              | true =>
                have hD8 : 8 < D := by
                  have : ¬ D ≤ 8 := fun hh => hgood ⟨rfl, hh⟩
                  omega
                clear hgood
                obtain ⟨g2, c4, w9, hap9, hM9⟩ := append9 (by have := HLE.out; omega) hM H.out.pn H.out.pm H.out.pr
                have hcm9 := hM9.2.2.1
                have hcn9 := hM9.2.1
                unfold maxLen at hcm9
                rw [HLE.out] at hap9 hcn9
                have HAP9 := Lib.hid hap9
                clear hap9
                obtain ⟨z, hz⟩ : ∃ z : Int, z = ((checkE (itsOf l ++ [x8] ++ [x9 ps]) : Nat) : Int) := ⟨_, rfl⟩
                have hz0 : (z == 0) = false := by
                  rw [beq_eq_false_iff_ne, hz]
                  intro hh
                  exact HN.out ((HR.out.nine ps).1 (by omega))
                have hc9 : ∀ W, M9 l ps w W g2 c4 → Calls Try.prog 9 #[.slice (some ⟨g2, 0, none⟩) (L + 2) c4] W fun e w' => e = .returned (.int .i64 z) ∧ M9 l ps w w' g2 c4 := fun W hW => by
                  have h1 := hW.check HSZ.out
                  rw [HLE.out, ← hz] at h1
                  exact h1.mono fun e w' ⟨he, hB⟩ => ⟨he, hW.below hB⟩
                have HC9 := Lib.hid hc9
                have hc9b : ∀ wr, M9 l ps w wr g2 c4 → ∀ W : BelT wr, Calls Try.prog 9 #[.slice (some ⟨g2, 0, none⟩) (L + 2) c4] W.val fun e w' => e = .returned (.int .i64 z) ∧ Below W.val.heap.size W.val w' := fun wr hr W => by
                  have h1 := (hr.below W.prop).check HSZ.out
                  rw [HLE.out, ← hz] at h1
                  exact h1
                have HCB := Lib.hid hc9b
                clear hc9 hc9b hz HN
                go_wp2_with (first | (go_at_call 9; (with_reducible refine (HC9.out _ (by assumption)).mono ?_); rintro e w10 ⟨rfl, hM10⟩) | (at_builtin; refine Lib.wpList_append_run _ rfl _ _ _ _ rfl _ _ rfl rfl _ _ HAP9.out ?_))
                go_loopw [11] (fun i wr => ∃ k : Nat, k ≤ L ∧ i = .int .i64 k ∧ M9 l ps w wr g2 c4) (fun i _ => L - (intOf i).toNat)
                case atStart => exact ⟨0, Nat.zero_le _, rfl, by assumption⟩
                case round =>
                  obtain ⟨k3, hk3, rfl, hM11⟩ := hrel
                  have hk30 : (0 : Int) ≤ (k3 : Int) := by omega
                  by_cases hlt3 : k3 < L
                  · have HCR := Lib.hid (HCB.out _ hM11)
                    go_wp2
                    (refine SM.wp_region_bel_lit (by kernel_rfl) (by kernel_rfl) ?_; (repeat (go_big_quiet_step (((with_reducible exact call_bel (HCR.out _)))))); refine @wpQuiet_nil _ _ _ _ _ ?_; intro wq hbq)
                    have HB2 := Lib.hid hbq
                    clear hbq
                    go_wp2
                    go_roundw
                    case rel => exact ⟨k3 + 1, by omega, by go_num, hM11.below HB2.out⟩
                    case measure => simp [intOf]; omega
                  · obtain rfl : k3 = L := by omega
                    go_wp2
                    go_ret
                    exact ⟨rfl, hM11.1⟩
end
end Go.Proofs.Ytnboigbknadpdaa
