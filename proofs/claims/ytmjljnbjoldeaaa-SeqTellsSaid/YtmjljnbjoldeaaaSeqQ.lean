/- Numbers in places: the laws 'SeqMeasures', 'SeqEdits' and 'SeqSlices'. -/
import Derived.Test.YtmjljnbjoldeaaaSeqX
import Derived.Test.YtmjljnbjoldeaaaSeqP
namespace Go.Proofs.Ytmjljnbjoldeaaa
open Go Go.RowKit Go.Tw Go.Mono Go.Fing
set_option linter.unusedVariables false

abbrev Any : Nat → Prop := fun _ => True
abbrev TA (h : Heap) (q : Option Addr) (l : List Int) : Prop := Tr Any h q l
theorem any {h : Heap} : ∀ b, h.size ≤ b → Any b := fun _ _ => trivial

section
variable {r : World} {h : Heap} {l : List Int}

theorem placed_ok {R : Bool → Heap → Prop} (H : ∀ h', Fw h h' → R true h') : law3_placed r h R := by
  apply law3_placed_of
  refine New.cells (cs := [iV 5, iV 3]) fun h1 E1 z1 B1 => ?_
  have hr : RI h1.size h1 ⟨some (ad h.size 0), 2, 2⟩ [5, 3] := RI.of_blk (l := [5, 3]) (c := 2) B1 (by omega) (List.prefix_refl _) (by decide)
  refine sof_ok (A := Any) hr (Nat.le_refl _) (by decide) (by decide) any fun q h2 E2 T2 => ?_
  refine var1 fun h4 E4 B4 => ⟨_, B4.ld 0 rfl, ?_⟩
  refine sat_ok (T2.fw E4) (by decide) any (fun hn => absurd ⟨by decide, by decide⟩ hn) fun n x h5 en ex E5 => ⟨_, (E5.blk B4).ld 0 rfl, ?_⟩
  obtain rfl : n = 1 := by omega
  obtain rfl : 3 = x := by simpa using ex
  refine slen_ok (T2.fw (E4.trans E5)) fun h6 E6 => fun y hy => ?_
  have : y = true := by rw [hy]; decide
  subst this
  exact H h6 ((((E1.trans E2).trans E4).trans E5).trans E6)

/-- a measure's own place -/
theorem mvar {a1 a2 a3 a4 a5 : Int} {K : Addr → Heap → Prop} (H : ∀ c h', Fw h h' → Blk h' c [iV a1, iV a2, iV a3, iV a4, iV a5] → K (ad c 0) h') : New h (.cells #[(.int .i64 0), (.int .i64 0), (.int .i64 0), (.int .i64 0), (.int .i64 0)] 34) fun p h6 => St h6 p 5 [(.int .i64 a1), (.int .i64 a2), (.int .i64 a3), (.int .i64 a4), (.int .i64 a5)] fun h7 => K p h7 :=
  New.cells fun h3 E3 z3 B3 => St.whole B3 rfl rfl fun h4 B4 o4 z4 => H _ h4 (E3.over (Nat.le_refl _) o4 z4) B4

/-- the measure of a piece -/
structure Ms (l : List Int) (i j : Int) (n s a b c : Int) (e : Bool) : Prop where
  yes : e = true → ∃ x y : Nat, i = x ∧ j = y ∧ x ≤ y ∧ y ≤ l.length ∧ n = (meas ((l.take y).drop x)).n ∧ s = (meas ((l.take y).drop x)).sum ∧ a = (meas ((l.take y).drop x)).least ∧ b = (meas ((l.take y).drop x)).most ∧ c = (meas ((l.take y).drop x)).hash
  no : e = false → ¬ (0 ≤ i ∧ i ≤ j ∧ j ≤ l.length) ∧ n = 0 ∧ s = 0 ∧ a = 0 ∧ b = 0 ∧ c = 0
theorem smeasure_any {A : Nat → Prop} {q : Option Addr} {i j : Int} {R : Int → Int → Int → Int → Int → Bool → Heap → Prop} (T : Tr A h q l) (hz : l.length < 4611686018427387904) (hA : ∀ b, h.size ≤ b → A b)
    (H : ∀ n s a b c e h', Fw h h' → Ms l i j n s a b c e → R n s a b c e h') : seq_Seq_Measure r q i j h R :=
  smeasure_ok T hz hA (fun hn h' E => H _ _ _ _ _ _ h' E ⟨fun c => (by cases c), fun _ => ⟨hn, rfl, rfl, rfl, rfl, rfl⟩⟩) fun x y h' ex ey hxy hy E => H _ _ _ _ _ _ h' E ⟨fun _ => ⟨x, y, ex, ey, hxy, hy, rfl, rfl, rfl, rfl, rfl⟩, fun c => (by cases c)⟩

theorem piece_join {l : List Int} {x y z : Nat} (h1 : x ≤ y) (h2 : y ≤ z) (h3 : z ≤ l.length) : (l.take z).drop x = (l.take y).drop x ++ (l.take z).drop y := by
  have e : l.take z = l.take y ++ (l.take z).drop y := by
    have := (List.take_append_drop y (l.take z)).symm
    rwa [List.take_take, Nat.min_eq_left h2] at this
  conv => lhs; rw [e]
  rw [List.drop_append_of_le_length (by simp; omega)]

theorem measures_law {l1 m5 : Sl} {m : List Int} {i j k : Int} (hl1 : RI h.size h l1 l) (hm5 : RI h.size h m5 m) (hlin : ∀ x ∈ l, In x) (hmin : ∀ x ∈ m, In x) (hzl : l.length ≤ 281474976710656) (hzm : m.length ≤ 281474976710656) : law3_SeqMeasures r l1 i j k m5 h fun y h' => y = true ∧ Ext h.size h h' := by
  apply law3_SeqMeasures_of
  refine placed_ok fun h1 E1 => ⟨fun c => (by cases c), fun _ => ?_⟩
  have hll := hl1.len
  have hml := hm5.len
  refine sof_ok (A := Any) (hl1.ext E1 (Nat.le_refl _)) E1.1 hlin (by omega) any fun q h2 E2 T2 => ?_
  refine var1 fun h4 E4 B4 => ⟨_, B4.ld 0 rfl, ?_⟩
  have E04 := (E1.trans E2).trans E4
  have T4 : TA h4 q l := T2.fw E4
  generalize h2.size = c8 at *
  refine smeasure_any T4 (by omega) any fun n1 s1 a1 b1 g1 e1 h5 E5 M1 => mvar fun c21 h7 E7 B7 => ?_
  have E47 := E5.trans E7
  refine ⟨_, (E47.blk B4).ld 0 rfl, smeasure_any (T4.fw E47) (by omega) any fun n2 s2 a2 b2 g2 e2 h8 E8 M2 => mvar fun c34 h10 E10 B10 => ?_⟩
  have E710 := E8.trans E10
  have E410 := E47.trans E710
  refine ⟨_, (E410.blk B4).ld 0 rfl, smeasure_any (T4.fw E410) (by omega) any fun n3 s3 a3 b3 g3 e3 h11 E11 M3 => mvar fun c47 h13 E13 B13 => ?_⟩
  have E1013 := E11.trans E13
  have E413 := E410.trans E1013
  intro J53 HJ53
  have good : ∀ h14, Fw h13 h14 → J53 false h14 := by
    intro h14 E14
    have E414 := E413.trans E14
    have E014 := E04.trans E414
    refine HJ53 _ _ ⟨fun c => (by cases c), fun _ => ?_⟩
    refine sof_ok (A := Any) (hm5.ext E014 (Nat.le_refl _)) E014.1 hmin (by omega) any fun q2 h15 E15 U15 => ?_
    refine var1 fun h17 E17 B17 => ?_
    have E417 := (E414.trans E15).trans E17
    have U17 : TA h17 q2 m := U15.fw E17
    refine ⟨_, (E417.blk B4).ld 0 rfl, smeasure_any (T4.fw E417) (by omega) any fun n4 s4 a4 b4 g4 e4 h18 E18 M4 => mvar fun c69 h20 E20 B20 => ?_⟩
    have E1720 := E18.trans E20
    refine ⟨_, (E1720.blk B17).ld 0 rfl, smeasure_any (U17.fw E1720) (by omega) any fun n5 s5 a5 b5 g5 e5 h21 E21 M5 => mvar fun c82 h23 E23 B23 => ?_⟩
    have E2023 := E21.trans E23
    have E1723 := E1720.trans E2023
    refine ⟨_, ((E417.trans E1723).blk B4).ld 0 rfl, _, (E1723.blk B17).ld 0 rfl, ?_⟩
    refine sjoin_ok (T4.fw (E417.trans E1723)) (U17.fw E1723) (by omega) any fun q3 h24 E24 V24 => ?_
    rw [hll, hml, show w64 ((l.length : Int) + (m.length : Int)) = ((l.length + m.length : Nat) : Int) by rw [w64_of] <;> omega]
    refine smeasure_any V24 (by simp; omega) any fun n6 s6 a6 b6 g6 e6 h25 E25 M6 => mvar fun c98 h27 E27 B27 => ?_
    have E2327 := (E24.trans E25).trans E27
    intro J104 HJ104
    rw [hll] at M4
    rw [hml] at M5
    have f4 : e4 = true := by
      cases e4 with
      | true => rfl
      | false => exact absurd ⟨Int.le_refl _, by omega, Int.le_refl _⟩ (M4.no rfl).1
    have f5 : e5 = true := by
      cases e5 with
      | true => rfl
      | false => exact absurd ⟨Int.le_refl _, by omega, Int.le_refl _⟩ (M5.no rfl).1
    have f6 : e6 = true := by
      cases e6 with
      | true => rfl
      | false => exact absurd ⟨Int.le_refl _, by omega, by simp⟩ (M6.no rfl).1
    obtain ⟨x4, y4, p4, r4, _, _, u4⟩ := M4.yes f4
    obtain ⟨x5, y5, p5, r5, _, _, u5⟩ := M5.yes f5
    obtain ⟨x6, y6, p6, r6, _, _, u6⟩ := M6.yes f6
    obtain rfl : x4 = 0 := by omega
    obtain rfl : x5 = 0 := by omega
    obtain rfl : x6 = 0 := by omega
    rw [List.drop_zero, List.take_of_length_le (by omega)] at u4 u5
    rw [List.drop_zero, List.take_of_length_le (by simp; omega)] at u6
    obtain ⟨rfl, rfl, rfl, rfl, rfl⟩ := u4
    obtain ⟨rfl, rfl, rfl, rfl, rfl⟩ := u5
    obtain ⟨rfl, rfl, rfl, rfl, rfl⟩ := u6
    have B20 := (E2023.trans E2327).blk B20
    have B23 := E2327.blk B23
    refine ⟨fun _ => ⟨fun _ => ⟨fun _ => ⟨_, B27.ld 0 rfl, _, B27.ld 1 rfl, _, B27.ld 2 rfl, _, B27.ld 3 rfl, _, B27.ld 4 rfl, _, B20.ld 0 rfl, _, B20.ld 1 rfl, _, B20.ld 2 rfl, _, B20.ld 3 rfl, _, B20.ld 4 rfl, _, B23.ld 0 rfl, _, B23.ld 1 rfl, _, B23.ld 2 rfl, _, B23.ld 3 rfl, _, B23.ld 4 rfl, ?_⟩, fun c => absurd c (by rw [f6]; decide)⟩, fun c => absurd c (by rw [f5]; decide)⟩, fun c => absurd c (by rw [f4]; decide)⟩
    refine join_ok (by omega) fun h29 E29 => ?_
    have B29 := E29.blk B27
    refine ⟨B29.ld 0 rfl, B29.ld 1 rfl, B29.ld 2 rfl, B29.ld 3 rfl, B29.ld 4 rfl, fun x hx => HJ104 _ _ ⟨by rw [hx]; simp, ?_⟩⟩
    exact ((((E04.trans E417).trans E1723).trans E2327).trans E29)
  refine ⟨fun f1 => ⟨fun f2 => ?_, fun _ => good h13 (Fw.refl _)⟩, fun _ => good h13 (Fw.refl _)⟩
  obtain ⟨x1, y1, p1, r1, o1, w1, u1⟩ := M1.yes f1
  obtain ⟨x2, y2, p2, r2, o2, w2, u2⟩ := M2.yes f2
  obtain rfl : y1 = x2 := by omega
  have f3 : e3 = true := by
    cases e3 with
    | true => rfl
    | false => exact absurd ⟨by omega, by omega, by omega⟩ (M3.no rfl).1
  obtain ⟨x3, y3, p3, r3, o3, w3, u3⟩ := M3.yes f3
  obtain rfl : x1 = x3 := by omega
  obtain rfl : y2 = y3 := by omega
  rw [piece_join o1 o2 w2] at u3
  obtain ⟨rfl, rfl, rfl, rfl, rfl⟩ := u1
  obtain ⟨rfl, rfl, rfl, rfl, rfl⟩ := u2
  obtain ⟨rfl, rfl, rfl, rfl, rfl⟩ := u3
  have B7 := (E710.trans E1013).blk B7
  have B10 := E1013.blk B10
  refine ⟨fun c => absurd c (by rw [f3]; decide), fun _ => ⟨_, B13.ld 0 rfl, _, B13.ld 1 rfl, _, B13.ld 2 rfl, _, B13.ld 3 rfl, _, B13.ld 4 rfl, _, B7.ld 0 rfl, _, B7.ld 1 rfl, _, B7.ld 2 rfl, _, B7.ld 3 rfl, _, B7.ld 4 rfl, _, B10.ld 0 rfl, _, B10.ld 1 rfl, _, B10.ld 2 rfl, _, B10.ld 3 rfl, _, B10.ld 4 rfl, ?_⟩⟩
  refine join_ok (by simp; omega) fun h30 E30 => ?_
  have B30 := E30.blk B13
  refine ⟨B30.ld 0 rfl, B30.ld 1 rfl, B30.ld 2 rfl, B30.ld 3 rfl, B30.ld 4 rfl, ?_⟩
  have e : (!(decide ((meas ((l.take y1).drop x1 ++ (l.take y2).drop y1)).n = (meas ((l.take y1).drop x1 ++ (l.take y2).drop y1)).n ∧ (meas ((l.take y1).drop x1 ++ (l.take y2).drop y1)).sum = (meas ((l.take y1).drop x1 ++ (l.take y2).drop y1)).sum ∧ (meas ((l.take y1).drop x1 ++ (l.take y2).drop y1)).least = (meas ((l.take y1).drop x1 ++ (l.take y2).drop y1)).least ∧ (meas ((l.take y1).drop x1 ++ (l.take y2).drop y1)).most = (meas ((l.take y1).drop x1 ++ (l.take y2).drop y1)).most ∧ (meas ((l.take y1).drop x1 ++ (l.take y2).drop y1)).hash = (meas ((l.take y1).drop x1 ++ (l.take y2).drop y1)).hash))) = false := by simp
  rw [e]
  exact good h30 E30

/-! ### Put in and taken out again -/
theorem sat_any {A : Nat → Prop} {q : Option Addr} {i : Int} {R : Int → Bool → Heap → Prop} (T : Tr A h q l) (hz : l.length < 4611686018427387904) (hA : ∀ b, h.size ≤ b → A b) (H : ∀ x e h', Fw h h' → ((e = true ∧ ∃ n : Nat, i = n ∧ l[n]? = some x) ∨ (e = false ∧ x = 0 ∧ ¬ (0 ≤ i ∧ i < l.length))) → R x e h') : seq_Seq_At r q i h R :=
  sat_ok T hz hA (fun hn h' E => H 0 false h' E (.inr ⟨rfl, rfl, hn⟩)) fun n x h' en ex E => H x true h' E (.inl ⟨rfl, n, en, ex⟩)

theorem edits_law {l1 : Sl} {i x k : Int} (hl1 : RI h.size h l1 l) (hlin : ∀ x ∈ l, In x) (hx : In x) (hk : In k) (hz : l.length ≤ 17592186044416) : law3_SeqEdits r l1 i x k h fun y h' => y = true ∧ Ext h.size h h' := by
  apply law3_SeqEdits_of
  refine placed_ok fun h1 E1 => ⟨fun c => (by cases c), fun _ => ?_⟩
  have hll := hl1.len
  refine sof_ok (A := Any) (hl1.ext E1 (Nat.le_refl _)) E1.1 hlin (by omega) any fun q h2 E2 T2 => ?_
  refine var1 fun h4 E4 B4 => ⟨_, B4.ld 0 rfl, ?_⟩
  have E04 := (E1.trans E2).trans E4
  have T4 : TA h4 q l := T2.fw E4
  generalize h2.size = c7 at *
  refine sinsert_ok T4 hx (by omega) any (fun hn h5 E5 => ?_) fun n q2 h5 en hnl E5 T5 => ?_
  · refine var1 fun h7 E7 B7 => ⟨fun _ y hy => ⟨?_, (E04.trans E5).trans E7⟩, fun c => (by cases c)⟩
    rw [hy, hll]
    by_cases h0 : i < 0
    · rw [decide_eq_true h0]; rfl
    · rw [decide_eq_true (show (l.length : Int) < i by omega), Bool.or_true]
  · refine var1 fun h7 E7 B7 => ⟨fun c => (by cases c), fun _ => ⟨_, B7.ld 0 rfl, ?_⟩⟩
    have hTl : (l.take n ++ x :: l.drop n).length = l.length + 1 := by simp; omega
    have E07 := (E04.trans E5).trans E7
    have T7 : TA h7 q2 (l.take n ++ x :: l.drop n) := T5.fw E7
    have gat : (l.take n ++ x :: l.drop n)[n]? = some x := by rw [List.getElem?_append_right (by simp; omega)]; simp [Nat.min_eq_left hnl]
    refine sdelete_ok T7 (by omega) any (fun hno => absurd ⟨by omega, by omega⟩ hno) fun n' q3 h8 en' hn' E8 T8 => ?_
    obtain rfl : n = n' := by omega
    have eback : (l.take n ++ x :: l.drop n).take n ++ (l.take n ++ x :: l.drop n).drop (n + 1) = l := by
      rw [List.take_left' (by simp; omega), List.drop_append, List.drop_of_length_le (by simp; omega)]
      simp only [List.length_take, Nat.min_eq_left hnl, List.nil_append, Nat.add_sub_cancel_left]
      exact List.take_append_drop n l
    rw [eback] at T8
    refine var1 fun h10 E10 B10 => ⟨_, B10.ld 0 rfl, ?_⟩
    have E710 := E8.trans E10
    refine sints_ok (T8.fw E10) hz fun s h11 E11 O11 => ?_
    have R11 : RI h11.size h11 s l := O11.rs
    refine same_Ints_ok R11 (hl1.ext ((E07.trans E710).trans E11) (Nat.le_refl _)) (by omega) ?_
    rw [decide_eq_true rfl]
    have E711 := E710.trans E11
    have E411 := (E5.trans E7).trans E711
    refine ⟨_, (E411.blk B4).ld 0 rfl, sat_any (T4.fw E411) (by omega) any fun y there h13 E13 Hy => ?_⟩
    have E713 := E711.trans E13
    intro J45 HJ45
    have main : ∀ k' : Int, (there = true → k' = k + (if n ≤ k.toNat then 1 else 0)) → J45 k' := by
      intro k' hk'
      refine HJ45 _ ⟨_, (E713.blk B7).ld 0 rfl, sat_any (T7.fw E713) (by omega) any fun z still h14 E14 Hz => ?_⟩
      have E714 := E713.trans E14
      refine ⟨_, (E714.blk B7).ld 0 rfl, sat_any (T7.fw E714) (by omega) any fun own mine h15 E15 Ho => ?_⟩
      have E715 := E714.trans E15
      have ho : mine = true ∧ own = x := by
        rcases Ho with ⟨a, n', en2, ex⟩ | ⟨_, _, hno⟩
        · obtain rfl : n = n' := by omega
          rw [gat] at ex
          exact ⟨a, (Option.some.inj ex).symm⟩
        · exact absurd ⟨by omega, by omega⟩ hno
      obtain ⟨rfl, rfl⟩ := ho
      intro J56 HJ56
      have len : ∀ {K : Bool → Heap → Prop}, (∀ h', Fw h h' → K true h') → seq_Seq_Len r q2 h15 fun y65 h17 => K (decide (y65 = (w64 (((l1.len : Int)) + 1)))) h17 := fun hK => slen_ok (T7.fw E715) fun h17 E17 => by
        have e : decide (((l.take n ++ own :: l.drop n).length : Int) = w64 ((l1.len : Int) + 1)) = true := by
          rw [decide_eq_true_eq, hTl, hll, w64_of (by omega) (by omega)]; omega
        rw [e]
        exact hK h17 ((E07.trans E715).trans E17)
      refine ⟨fun _ => ⟨fun _ => ⟨fun _ => ⟨fun _ => ⟨fun _ => ?_, fun ht => ?_⟩, fun c => absurd c (by simp)⟩, fun c => (by cases c)⟩, fun c => (by cases c)⟩, fun c => (by cases c)⟩
      · exact ⟨_, (E715.blk B7).ld 0 rfl, len fun h' E => HJ56 _ _ ⟨rfl, E⟩⟩
      · have ht : there = true := by simpa using ht
        have hk' := hk' ht
        rcases Hy with ⟨_, m, em, ey⟩ | ⟨e, _⟩
        case inr => rw [e] at ht; cases ht
        have hm : m < l.length := (List.getElem?_eq_some_iff.1 ey).1
        have hzz : still = true ∧ z = y := by
          have gk : (l.take n ++ own :: l.drop n)[m + (if n ≤ m then 1 else 0)]? = some y := by
            by_cases hnm : n ≤ m
            · rw [if_pos hnm, List.getElem?_append_right (by simp; omega)]
              simp only [List.length_take, Nat.min_eq_left hnl]
              rw [show m + 1 - n = (m - n) + 1 by omega, List.getElem?_cons_succ, List.getElem?_drop, show n + (m - n) = m by omega]
              exact ey
            · rw [if_neg hnm, Nat.add_zero, List.getElem?_append_left (by simp; omega), List.getElem?_take, if_pos (by omega)]
              exact ey
          have ek : k' = ((m + (if n ≤ m then 1 else 0) : Nat) : Int) := by
            rw [hk', em, Int.toNat_natCast]
            split <;> simp
          rcases Hz with ⟨a, m', em', ez⟩ | ⟨_, _, hno⟩
          · obtain rfl : m' = m + (if n ≤ m then 1 else 0) := by omega
            rw [gk] at ez
            exact ⟨a, (Option.some.inj ez).symm⟩
          · have := (List.getElem?_eq_some_iff.1 gk).1
            exact absurd ⟨by omega, by omega⟩ hno
        obtain ⟨rfl, rfl⟩ := hzz
        exact ⟨fun _ => ⟨fun _ => ⟨_, (E715.blk B7).ld 0 rfl, len fun h' E => HJ56 _ _ ⟨rfl, E⟩⟩, fun c => absurd c (by simp)⟩, fun c => (by cases c)⟩
    have hthere : there = true → 0 ≤ k ∧ k < l.length := by
      intro ht
      rcases Hy with ⟨_, m, em, ey⟩ | ⟨e, _⟩
      · have hm : m < l.length := (List.getElem?_eq_some_iff.1 ey).1
        omega
      · rw [e] at ht; cases ht
    refine ⟨fun c => main _ fun ht => ?_, fun c => main _ fun ht => ?_⟩
    · have c := of_decide_eq_true c
      have := hthere ht
      rw [if_pos (by omega), w64_of (by omega) (by omega)]
    · have c := of_decide_eq_false c
      have := hthere ht
      rw [if_neg (by omega), Int.add_zero]
end
end Go.Proofs.Ytmjljnbjoldeaaa
