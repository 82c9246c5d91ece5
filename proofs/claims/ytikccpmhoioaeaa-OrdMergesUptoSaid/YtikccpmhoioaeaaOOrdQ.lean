/- Numbers in order, also twice: the laws 'OrdBetween' and 'OrdTells'. -/
import Derived.Test.YtikccpmhoioaeaaOLaw
import Derived.Test.YtikccpmhoioaeaaOOrdP
namespace Go.Proofs.Ytikccpmhoioaeaa.Or
open Go Go.RowKit Go.Tw Go.Many Go.Ord
set_option linter.unusedVariables false
abbrev Any : Nat → Prop := fun _ => True
theorem any {h : Heap} : ∀ b, h.size ≤ b → Any b := fun _ _ => trivial
section
variable {r : World} {h : Heap} {l : List Int}
theorem ovar_ok {q : Option Addr} {K : Addr → Heap → Prop} (H : ∀ h', Fw h h' → Blk h' h.size [.pointer q] → K (ad h.size 0) h') : New h (.cells #[.pointer none] 28) fun p h3 => St h3 p 1 [.pointer q] fun h4 => K p h4 :=
  New.cells fun h3 E3 z3 B3 => St.whole B3 rfl rfl fun h4 B4 o4 z4 => H h4 (E3.over (Nat.le_refl _) o4 z4) B4
theorem ordered_ok {R : Bool → Heap → Prop} (H : ∀ h', Fw h h' → R true h') : law3_ordered r h R := by
  apply law3_ordered_of
  refine New.cells (cs := [iV 5, iV 3, iV 5]) fun h1 E1 z1 B1 => ?_
  have hr : RI h1.size h1 ⟨some (ad h.size 0), 3, 3⟩ [5, 3, 5] := RI.of_blk (l := [5, 3, 5]) (c := 3) B1 (by omega) (List.prefix_refl _) (by decide)
  refine oof_ok (A := Any) hr (Nat.le_refl _) (by decide) any fun u q h2 E2 hu hp T => ?_
  refine ovar_ok fun h4 E4 B4 => ?_
  have hul := hp.length_eq
  have hul : u.length = 3 := hul
  intro J HJ
  refine ⟨_, B4.ld 0 rfl, ocount_ok (T.fw E4) hu (by omega) fun h6 E6 => ?_⟩
  rw [hp.count_eq]
  refine ⟨fun _ => ⟨_, (E6.blk B4).ld 0 rfl, ocount_ok (T.fw (E4.trans E6)) hu (by omega) fun h7 E7 => ?_⟩, fun c => absurd c (by decide)⟩
  rw [hp.count_eq]
  exact HJ _ _ (H h7 ((((E1.trans E2).trans E4).trans E6).trans E7))

theorem btw_join {l : List Int} (hu : Up l) {a b c b' : Int} (hab : a ≤ b) (hbc : b < c) (hb' : b' = b + 1) : btw a b l ++ btw b' c l = btw a c l := by
  subst hb'
  refine up_eq ?_ (up_append.2 ⟨up_filter _ hu, up_filter _ hu, fun x hx y hy => ?_⟩) (up_filter _ hu)
  · have := up_split l (fun y => decide (a ≤ y) && decide (y ≤ b)) (fun y => decide (a ≤ y) && decide (y ≤ c)) (fun y hy => by simp at hy ⊢; omega)
    have e : (l.filter fun y => (decide (a ≤ y) && decide (y ≤ c)) && !(decide (a ≤ y) && decide (y ≤ b))) = btw (b + 1) c l := by
      unfold btw
      apply List.filter_congr
      intro y _
      apply Bool.eq_iff_iff.2
      simp; omega
    rw [e] at this
    exact this.symm
  · have hx := (List.mem_filter.1 hx).2
    have hy := (List.mem_filter.1 hy).2
    simp at hx hy; omega
theorem btw_one (l : List Int) (a : Int) : (btw a a l).length = l.count a := by
  rw [List.count_eq_length_filter]
  unfold btw
  congr 1
  apply List.filter_congr
  intro y _
  apply Bool.eq_iff_iff.2
  simp; omega
theorem btw_perm {l m : List Int} (h : l.Perm m) (a b : Int) : (btw a b l).Perm (btw a b m) := h.filter _

theorem between_law {l1 : Sl} {a b c : Int} (hl1 : RI h.size h l1 l) (hz : l.length ≤ 17592186044415) (ha : -9223372036854775808 ≤ a) (hc : c < 9223372036854775808) : law3_OrdBetween r l1 a b c h fun y h' => y = true ∧ Ext h.size h h' := by
  apply law3_OrdBetween_of
  refine ordered_ok fun h1 E1 => ⟨fun c => (by cases c), fun _ => ⟨fun _ => ⟨rfl, E1⟩, fun q => ?_⟩⟩
  have q : a ≤ b ∧ b < c := by simp at q; omega
  obtain ⟨q1, q2⟩ := q
  refine oof_ok (A := Any) (hl1.ext E1 (Nat.le_refl _)) E1.1 (by omega) any fun u q h2 E2 hu hp T => ?_
  have hul := hp.length_eq
  refine ovar_ok fun h4 E4 B4 => ⟨_, B4.ld 0 rfl, _, B4.ld 0 rfl, _, B4.ld 0 rfl, ?_⟩
  have T4 := T.fw E4
  refine obetween_ok T4 hu (by omega) any fun s5 h5 E5 O5 => ⟨(E5.blk B4).ld 0 rfl, (E5.blk B4).ld 0 rfl, ?_⟩
  refine obetween_ok (T4.fw E5) hu (by omega) any fun s6 h6 E6 O6 => ⟨(E6.blk (E5.blk B4)).ld 0 rfl, ?_⟩
  have R5 : RI h6.size h6 s5 (btw a b u) := (Rs.ext O5.rs E6 (Nat.le_refl _)).mono E6.1
  have ej := btw_join hu q1 q2 (b' := w64 (b + 1)) (w64_of (by omega) (by omega))
  have hlj : (btw a c u).length ≤ u.length := List.length_filter_le ..
  refine cat_ok R5 O6.rs (Nat.le_refl _) (by have := congrArg List.length ej; simp only [List.length_append] at this; omega) fun s7 h7 E7 O7 => ⟨(E7.blk (E6.blk (E5.blk B4))).ld 0 rfl, ?_⟩
  rw [ej] at O7
  have E47 := (E5.trans E6).trans E7
  refine obetween_ok (T4.fw E47) hu (by omega) any fun s8 h8 E8 O8 => ?_
  have R7 : RI h8.size h8 s7 (btw a c u) := (Rs.ext O7.rs E8 (Nat.le_refl _)).mono E8.1
  have R8 : RI h8.size h8 s8 (btw a c u) := O8.rs
  refine same_Ints_ok R7 R8 (by omega) ?_
  rw [decide_eq_true rfl]
  intro J HJ
  have E48 := E47.trans E8
  have B8 := E48.blk B4
  refine ⟨fun _ => ⟨_, B8.ld 0 rfl, _, B8.ld 0 rfl, obetween_ok (T4.fw E48) hu (by omega) any fun s9 h9 E9 O9 => ⟨(E9.blk B8).ld 0 rfl, ocount_ok ((T4.fw E48).fw E9) hu (by omega) fun h10 E10 => HJ _ _ ⟨?_, ?_⟩⟩⟩, fun c => by cases c⟩
  · have := O9.rs.len
    rw [List.length_map] at this
    have e := btw_one u a
    rw [decide_eq_true]
    omega
  · exact ((((E1.trans E2).trans E4).trans E48).trans E9).trans E10

theorem tells_law {l1 : Sl} {x lo hi : Int} (hl1 : RI h.size h l1 l) (hz : l.length ≤ 17592186044414) : law3_OrdTells r l1 x lo hi h fun y h' => y = true ∧ Ext h.size h h' := by
  apply law3_OrdTells_of
  have hlen := hl1.len
  refine ordered_ok fun h1 E1 => ⟨fun c => (by cases c), fun _ => ?_⟩
  refine oof_ok (A := Any) (hl1.ext E1 (Nat.le_refl _)) E1.1 (by omega) any fun u q h2 E2 hu hp T => ?_
  have hul := hp.length_eq
  refine ovar_ok fun h4 E4 B4 => ⟨_, B4.ld 0 rfl, ?_⟩
  have T4 := T.fw E4
  have E04 := (E1.trans E2).trans E4
  refine oints_ok T4 (by omega) fun s5 h5 E5 O5 => ?_
  have E05 := E04.trans E5
  refine sorted_ok (hl1.ext E05 (Nat.le_refl _)) E05.1 (by omega) fun v s6 h6 E6 hv hvp S6 => ?_
  have e1 : v = u := up_eq (hvp.trans hp.symm) hv hu
  subst e1
  have R5 : RI h6.size h6 s5 v := (Rs.ext O5.rs E6 (Nat.le_refl _)).mono E6.1
  refine same_Ints_ok R5 S6 (by omega) ?_
  rw [decide_eq_true rfl]
  have E46 := E5.trans E6
  have E06 := E05.trans E6
  refine ⟨_, (E46.blk B4).ld 0 rfl, ?_⟩
  refine oinsert_ok (T4.fw E46) hu (by omega) any fun q8 h8 E8 T8 => ?_
  have hil := (ins_perm x v).length_eq
  rw [List.length_cons] at hil
  refine oints_ok T8 (by omega) fun s9 h9 E9 O9 => ?_
  have E09 := (E06.trans E8).trans E9
  refine cat_ok (hl1.ext E09 (Nat.le_refl _) |>.mono E09.1) (RI.nil _ _) (Nat.le_refl _) (by simp; omega) fun s10 h10 E10 O10 => ?_
  rw [List.append_nil] at O10
  have hl10 := O10.rs.len
  rw [List.length_map] at hl10
  refine App.push (cs := [iV x]) O10 rfl rfl (by simp [one]) E10.1 (by omega) fun s12 h12 G12 => ?_
  have E12 : Fw h9 h12 := E10.trans' G12.ext
  have O12 : Own h9.size 1 h12 s12 ((l ++ [x]).map iV) := by rw [List.map_append]; exact G12.own
  refine sorted_ok (n := h12.size) (m := l ++ [x]) O12.rs (Nat.le_refl _) (by simp; omega) fun w s13 h13 E13 hw hwp S13 => ?_
  have e2 : w = ins x v := up_eq (hwp.trans ((List.perm_append_singleton _ _).trans ((hp.symm.cons x).trans (ins_perm x v).symm))) hw (ins_up hu)
  subst e2
  have R9 : RI h13.size h13 s9 (ins x v) := (Rs.ext O9.rs (E12.trans E13) (Nat.le_refl _)).mono (E12.trans E13).1
  refine same_Ints_ok R9 S13 (by omega) ?_
  rw [decide_eq_true rfl]
  have E413 := (((E46.trans E8).trans E9).trans E12).trans E13
  refine ⟨_, (E413.blk B4).ld 0 rfl, ?_⟩
  refine odrop_ok (T4.fw E413) hu (by omega) any fun q15 h15 E15 T15 => ?_
  have hgl := (gone_perm x v).length_eq
  have hgl2 : (v.filter fun y => !decide (y = x)).length ≤ v.length := List.length_filter_le ..
  refine oints_ok T15 (by omega) fun s16 h16 E16 O16 => ?_
  have E416 := (E413.trans E15).trans E16
  have E016 := E04.trans E416
  refine New.cells (cs := [iV x]) fun h17 E17 z17 B17 => ?_
  have E017 := E016.trans E17
  have rx : RI h17.size h17 ⟨some (ad h16.size 0), 1, 1⟩ [x] := RI.of_blk (l := [x]) (c := 1) B17 (by omega) (List.prefix_refl _) (Nat.le_refl _)
  refine sifted_ok (hl1.ext E017 (Nat.le_refl _)) E017.1 rx (Nat.le_refl _) (by omega) fun s18 h18 E18 O18 => ?_
  have hfl : (l.filter fun y => !decide (y = x)).length ≤ l.length := List.length_filter_le ..
  refine sorted_ok (n := h18.size) O18.rs (Nat.le_refl _) (by omega) fun w3 s19 h19 E19 hw3 hwp3 S19 => ?_
  have e3 : w3 = gone x v := up_eq (hwp3.trans ((hp.symm.filter _).trans (gone_perm x v).symm)) hw3 (gone_up hu)
  subst e3
  have E1619 := (E17.trans E18).trans E19
  have R16 : RI h19.size h19 s16 (gone x v) := (Rs.ext O16.rs E1619 (Nat.le_refl _)).mono E1619.1
  refine same_Ints_ok R16 S19 (by omega) ?_
  rw [decide_eq_true rfl]
  have E419 := E416.trans E1619
  have E019 := E04.trans E419
  intro X HX
  have key : ∀ (d i : Nat) (s' : Sl) (h21 : Heap), i + d = l.length → Fw h19 h21 → Own h19.size 1 h21 s' ((btw lo hi (l.take i)).map iV) → X s' (i : Int) h21 := by
    intro d
    induction d with
    | zero =>
      intro i s' h21 hi' E21 O
      rw [List.take_of_length_le (by omega)] at O
      have E421 := E419.trans E21
      have hbl : (btw lo hi l).length ≤ l.length := List.length_filter_le ..
      have hbl2 : (btw lo hi v).length ≤ v.length := List.length_filter_le ..
      refine HX _ _ _ ⟨fun c => absurd (of_decide_eq_true c) (by omega), fun _ => ⟨_, (E421.blk B4).ld 0 rfl, ?_⟩⟩
      refine obetween_ok (T4.fw E421) hu (by omega) any fun s25 h25 E25 O25 => ?_
      have RO : RI h25.size h25 s' (btw lo hi l) := (Rs.ext O.rs E25 (Nat.le_refl _)).mono E25.1
      refine sorted_ok RO (Nat.le_refl _) (by omega) fun w4 s26 h26 E26 hw4 hwp4 S26 => ?_
      have e4 : w4 = btw lo hi v := up_eq (hwp4.trans (btw_perm hp.symm lo hi)) hw4 (up_filter _ hu)
      subst e4
      have R25 : RI h26.size h26 s25 (btw lo hi v) := (Rs.ext O25.rs E26 (Nat.le_refl _)).mono E26.1
      refine same_Ints_ok R25 S26 (by omega) ?_
      rw [decide_eq_true rfl]
      intro J HJ
      have E426 := (E421.trans E25).trans E26
      have E026 := E04.trans E426
      refine ⟨fun _ => ⟨fun _ => ⟨fun _ => ⟨fun _ => ⟨_, (E426.blk B4).ld 0 rfl, ocount_ok (T4.fw E426) hu (by omega) fun h29 E29 => ?_⟩, fun c => by cases c⟩, fun c => by cases c⟩, fun c => by cases c⟩, fun c => by cases c⟩
      refine often_ok (hl1.ext (E026.trans E29) (Nat.le_refl _)) (by omega) (HJ _ _ ⟨?_, E026.trans E29⟩)
      rw [hp.count_eq, decide_eq_true rfl]
    | succ d ih =>
      intro i s' h21 hi' E21 O
      have hil : i < l.length := by omega
      have E021 := E019.trans E21
      refine HX _ _ _ ⟨fun _ => ?_, fun c => absurd (of_decide_eq_false c) (by omega)⟩
      have ex : l[(i : Int).toNat]! = l[i] := by rw [Int.toNat_natCast, getElem!_pos l i hil]
      have e1 : w64 ((i : Int) + 1) = ((i + 1 : Nat) : Int) := by rw [w64_of] <;> omega
      have e : l.take (i + 1) = l.take i ++ [l[i]] := by rw [List.take_add_one, List.getElem?_eq_getElem hil]; rfl
      have ih := ih (i + 1)
      rw [e, show btw lo hi (l.take i ++ [l[i]]) = btw lo hi (l.take i) ++ btw lo hi [l[i]] from List.filter_append .., show btw lo hi [l[i]] = if (decide (lo ≤ l[i]) && decide (l[i] ≤ hi)) = true then [l[i]] else [] by simp only [btw, List.filter_cons, List.filter_nil]] at ih
      intro J HJ J45 HJ45
      have hix : ∀ {K : Addr → Prop}, (∀ p, hcell h21 p = some (iV l[i]) → K p) → Ix l1 (i : Int) 1 K := fun hK => RI.ix (hl1.ext E021 (Nat.le_refl _)) (by omega) (by omega) fun p _ hp => hK p (by rw [ex] at hp; exact hp)
      have yes : (decide (lo ≤ l[i]) && decide (l[i] ≤ hi)) = true → J45 true := fun c => HJ45 _ ⟨fun _ => hix fun p hp => ⟨_, hp, by
        rw [if_pos c] at ih
        refine App.push (cs := [iV l[i]]) O rfl rfl (by simp [one]) E21.1 ?_ fun s2 h5 G => HJ _ _ ?_
        · have hl := O.rs.len
          have hc : (btw lo hi (l.take i)).length ≤ i := Nat.le_trans (List.length_filter_le ..) (by rw [List.length_take]; omega)
          rw [List.length_map] at hl
          omega
        · rw [e1]
          refine ih s2 h5 (by omega) (E21.trans' G.ext) ?_
          rw [List.map_append]; exact G.own⟩, fun c => by cases c⟩
      have no : ¬ (decide (lo ≤ l[i]) && decide (l[i] ≤ hi)) = true → J45 false := fun c => HJ45 _ ⟨fun c => (by cases c), fun _ => HJ _ _ (by
        rw [if_neg c, List.append_nil] at ih
        rw [e1]; exact ih s' h21 (by omega) E21 O)⟩
      refine hix fun p hp => ⟨_, hp, fun c => hix fun p' hp' => ⟨_, hp', ?_⟩, fun c => no (by rw [c, Bool.false_and]; decide)⟩
      by_cases c2 : l[i] ≤ hi
      · have := yes (by rw [c, decide_eq_true c2]; rfl)
        dsimp only
        rw [decide_eq_true c2]; exact this
      · have := no (by rw [decide_eq_false c2, Bool.and_false]; decide)
        dsimp only
        rw [decide_eq_false c2]; exact this
  exact key l.length 0 Sl.nil h19 (by omega) (Fw.refl _) (Own.nil _ _ _)
end
end Go.Proofs.Ytikccpmhoioaeaa.Or
