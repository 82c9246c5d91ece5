/- Typed words of functions, and that they hold: printed by gen.py (an own tool of this claim) off the model's own form of each function. -/
import Derived.Test.YtmjljnbjoldeaaaProg
import Derived.Test.YtmjljnbjoldeaaaTree
import Derived.Test.YtmjljnbjoldeaaaEqM
namespace Go.Proofs.Ytmjljnbjoldeaaa
open Go Go.RowKit Go.Tw
set_option linter.unusedVariables false

theorem slFTreeX_22 : SlF Try.prog 22 3 1 8 (.int .i64 0) := ⟨Try.underlying22, ⟨Try.t3, by kernel_rfl, rfl, rfl, rfl⟩, rfl, Try.sizeOf3, Try.zeroValue3⟩

/-! ### the calls -/

abbrev law3_fingered (r : World)  (h : Heap) (R : Bool → Heap → Prop) : Prop :=
  CallsH Try.prog r 12 [] h fun v h' => ∃ (y1 : Bool), v = (.bool y1) ∧ R y1 h'

theorem law3_fingered.mono {r : World}  {h : Heap} {R R' : Bool → Heap → Prop} (H : law3_fingered r  h R) (hr : ∀ y1 h, R y1 h → R' y1 h) : law3_fingered r  h R' :=
  CallsH.mono H fun _ _ hx => by
    obtain ⟨y1, hv, hR⟩ := hx
    exact ⟨y1, hv, hr _ _ hR⟩

abbrev law3_FingerTells (r : World) (l1 : Sl) (acts2 : Sl) (h : Heap) (R : Bool → Heap → Prop) : Prop :=
  CallsH Try.prog r 3 [(Sl.v l1), (Sl.v acts2)] h fun v h' => ∃ (y3 : Bool), v = (.bool y3) ∧ R y3 h'

theorem law3_FingerTells.mono {r : World} {l1 : Sl} {acts2 : Sl} {h : Heap} {R R' : Bool → Heap → Prop} (H : law3_FingerTells r l1 acts2 h R) (hr : ∀ y3 h, R y3 h → R' y3 h) : law3_FingerTells r l1 acts2 h R' :=
  CallsH.mono H fun _ _ hx => by
    obtain ⟨y3, hv, hR⟩ := hx
    exact ⟨y3, hv, hr _ _ hR⟩

abbrev law3_FingerEnds (r : World) (l1 : Sl) (m2 : Sl) (h : Heap) (R : Bool → Heap → Prop) : Prop :=
  CallsH Try.prog r 4 [(Sl.v l1), (Sl.v m2)] h fun v h' => ∃ (y3 : Bool), v = (.bool y3) ∧ R y3 h'

theorem law3_FingerEnds.mono {r : World} {l1 : Sl} {m2 : Sl} {h : Heap} {R R' : Bool → Heap → Prop} (H : law3_FingerEnds r l1 m2 h R) (hr : ∀ y3 h, R y3 h → R' y3 h) : law3_FingerEnds r l1 m2 h R' :=
  CallsH.mono H fun _ _ hx => by
    obtain ⟨y3, hv, hR⟩ := hx
    exact ⟨y3, hv, hr _ _ hR⟩

abbrev law3_FingerSplits (r : World) (l1 : Sl) (n2 : Int) (most3 : Bool) (h : Heap) (R : Bool → Heap → Prop) : Prop :=
  CallsH Try.prog r 5 [(Sl.v l1), (.int .i64 n2), (.bool most3)] h fun v h' => ∃ (y4 : Bool), v = (.bool y4) ∧ R y4 h'

theorem law3_FingerSplits.mono {r : World} {l1 : Sl} {n2 : Int} {most3 : Bool} {h : Heap} {R R' : Bool → Heap → Prop} (H : law3_FingerSplits r l1 n2 most3 h R) (hr : ∀ y4 h, R y4 h → R' y4 h) : law3_FingerSplits r l1 n2 most3 h R' :=
  CallsH.mono H fun _ _ hx => by
    obtain ⟨y4, hv, hR⟩ := hx
    exact ⟨y4, hv, hr _ _ hR⟩

abbrev law3_FingerSplits_1 (r : World) (m1 : Int) (m2 : Int) (m3 : Int) (m4 : Int) (m5 : Int) (c6 : Addr) (c7 : Addr) (h : Heap) (R : Bool → Heap → Prop) : Prop :=
  CallsH Try.prog r 24 [(.agg #[(.int .i64 m1), (.int .i64 m2), (.int .i64 m3), (.int .i64 m4), (.int .i64 m5)]), (.pointer (some c6)), (.pointer (some c7))] h fun v h' => ∃ (y8 : Bool), v = (.bool y8) ∧ R y8 h'

theorem law3_FingerSplits_1.mono {r : World} {m1 : Int} {m2 : Int} {m3 : Int} {m4 : Int} {m5 : Int} {c6 : Addr} {c7 : Addr} {h : Heap} {R R' : Bool → Heap → Prop} (H : law3_FingerSplits_1 r m1 m2 m3 m4 m5 c6 c7 h R) (hr : ∀ y8 h, R y8 h → R' y8 h) : law3_FingerSplits_1 r m1 m2 m3 m4 m5 c6 c7 h R' :=
  CallsH.mono H fun _ _ hx => by
    obtain ⟨y8, hv, hR⟩ := hx
    exact ⟨y8, hv, hr _ _ hR⟩

abbrev law3_FingerJoins (r : World) (a1 : Sl) (vb2 : Sl) (c3 : Sl) (h : Heap) (R : Bool → Heap → Prop) : Prop :=
  CallsH Try.prog r 6 [(Sl.v a1), (Sl.v vb2), (Sl.v c3)] h fun v h' => ∃ (y4 : Bool), v = (.bool y4) ∧ R y4 h'

theorem law3_FingerJoins.mono {r : World} {a1 : Sl} {vb2 : Sl} {c3 : Sl} {h : Heap} {R R' : Bool → Heap → Prop} (H : law3_FingerJoins r a1 vb2 c3 h R) (hr : ∀ y4 h, R y4 h → R' y4 h) : law3_FingerJoins r a1 vb2 c3 h R' :=
  CallsH.mono H fun _ _ hx => by
    obtain ⟨y4, hv, hR⟩ := hx
    exact ⟨y4, hv, hr _ _ hR⟩

/-! ### law3_fingered -/

def law3_fingered_F (r : World)  (h : Heap) (R : Bool → Heap → Prop) : Prop :=
  New h (.cells #[(.int .i64 5), (.int .i64 3)] 3) fun p1 h1 =>
  finger_Of r ((⟨some p1, 2, 2⟩ : Sl)) h1 fun y4 h2 =>
  New h2 (.cells #[(.pointer none)] 26) fun p5 h3 =>
  St h3 p5 1 [(.pointer y4)] fun h4 =>
  LdP h4 (Addr.add p5 0) fun x10 =>
  finger_Tree_PopRight r x10 h4 fun y12 y13 y14 h5 =>
  New h5 (.cells #[(.pointer none)] 26) fun p15 h6 =>
  St h6 p15 1 [(.pointer y13)] fun h7 =>
  ∀ J21 : Bool → Heap → Prop, (∀ (x20 : Bool) (h8 : Heap),
    (R x20 h8) →
    J21 x20 h8) →
  Br (decide (y12 = 3)) (
    Br y14 (
      LdP h7 (Addr.add p15 0) fun x25 =>
      finger_Tree_Measure r x25 h7 fun y27 y28 y29 y30 y31 h9 =>
      J21 (decide (y27 = 1)) h9) (
      J21 false h7)) (
    J21 false h7)

set_option maxRecDepth 100000 in
theorem law3_fingered_of {r : World}  {h : Heap} {R : Bool → Heap → Prop} (H : law3_fingered_F r  h R) : law3_fingered r  h R := by
  unfold law3_fingered_F at H
  refine calls_of 24 [.tmp 0] Try.func12 rfl rfl rfl rfl rfl ?_
  refine W_seq ?_
  refine W_region (.pu 0 .fin) rfl rfl ?_
  refine s_pu (d := some 0) (v := (.bool false)) rfl rfl rfl (r_assign rfl) ?_
  refine s_fin ?_
  show W _ _ _ _ _ _ _ _
  refine W_seq ?_
  refine W_region (.ef 0 [] (.ef 1 [] (.ef 2 [] (.ef 3 [] .fin .no) .no) .no) .no) rfl rfl ?_
  obtain ⟨p1, e2⟩ : ∃ p : Addr, p = ⟨h.size, 0, none⟩ := ⟨_, rfl⟩
  obtain ⟨h1, e3⟩ : ∃ hh : Heap, hh = h.push (.cells #[(.int .i64 5), (.int .i64 3)] 3) := ⟨_, rfl⟩
  have H := H p1 h1 e2 e3
  refine s_ef1 (d := some 5) (v := (Sl.v ((⟨some p1, 2, 2⟩ : Sl)))) (h' := h1) rfl rfl rfl (fun dr => (slFTreeX_22.build (cells := #[(.int .i64 5), (.int .i64 3)]) (by decide) rfl (by kernel_rfl)).trans (by rw [e2, e3]; rfl)) trivial ?_ trivial
  refine s_ef (d := some 6) rfl rfl rfl (fun dr => r_call Try.call22 rfl rfl H) ?_ trivial
  rintro _ h2 ⟨y4, rfl, H⟩
  refine ⟨trivial, ?_⟩
  obtain ⟨p5, e6⟩ : ∃ p : Addr, p = ⟨h2.size, 0, none⟩ := ⟨_, rfl⟩
  obtain ⟨h3, e7⟩ : ∃ hh : Heap, hh = h2.push (.cells #[(.pointer none)] 26) := ⟨_, rfl⟩
  have H := H p5 h3 e6 e7
  refine s_ef1 (d := some 1) (v := (.pointer (some p5))) (h' := h3) rfl rfl rfl (fun dr => (r_alloc Try.zeroValue26).trans (by rw [e6, e7]; rfl)) trivial ?_ trivial
  obtain ⟨e9, H⟩ := H
  obtain ⟨h4, e8⟩ : ∃ hh : Heap, hh = hsets h3 p5 0 [(.pointer y4)] := ⟨_, rfl⟩
  have H := H h4 e8
  refine s_st (d := none) (h' := h4) rfl rfl rfl (fun dr => (r_store (v := (.agg #[(.pointer y4)])) Try.sizeOf26 rfl rfl rfl (one_all rfl) e9).trans (by rw [e8]; rfl)) trivial ?_ trivial
  refine s_fin ?_
  show W _ _ _ _ _ _ _ _
  refine W_seq ?_
  refine W_region (.rl 0 (.ef 1 [] (.pu 2 (.pu 3 (.pu 4 (.pu 5 (.ef 6 [] (.pu 7 (.ef 8 [] (.pu 9 .fin) .no)) .no))))) .no)) rfl rfl ?_
  obtain ⟨x10, e11, H⟩ := H
  refine s_rl (d := some 8) (v := (.agg #[(.pointer x10)])) rfl rfl rfl (fun dr => r_loadN Try.isAgg26 Try.sizeOf26 (vs := [(.pointer x10)]) rfl rfl ⟨e11, trivial⟩) ?_
  refine s_ef (d := some 9) rfl rfl rfl (fun dr => r_call Try.call17 rfl rfl H) ?_ trivial
  rintro _ h5 ⟨y12, y13, y14, rfl, H⟩
  refine ⟨trivial, ?_⟩
  refine s_pu (d := some 7) (v := (.tuple #[(.int .i64 y12), (.agg #[(.pointer y13)]), (.bool y14)])) rfl rfl rfl (r_move rfl) ?_
  refine s_pu (d := some 10) (v := (.int .i64 y12)) rfl rfl rfl (r_extract rfl rfl) ?_
  refine s_pu (d := some 11) (v := (.agg #[(.pointer y13)])) rfl rfl rfl (r_extract rfl rfl) ?_
  refine s_pu (d := some 12) (v := (.bool y14)) rfl rfl rfl (r_extract rfl rfl) ?_
  obtain ⟨p15, e16⟩ : ∃ p : Addr, p = ⟨h5.size, 0, none⟩ := ⟨_, rfl⟩
  obtain ⟨h6, e17⟩ : ∃ hh : Heap, hh = h5.push (.cells #[(.pointer none)] 26) := ⟨_, rfl⟩
  have H := H p15 h6 e16 e17
  refine s_ef1 (d := some 3) (v := (.pointer (some p15))) (h' := h6) rfl rfl rfl (fun dr => (r_alloc Try.zeroValue26).trans (by rw [e16, e17]; rfl)) trivial ?_ trivial
  refine s_pu (d := some 2) (v := (.int .i64 y12)) rfl rfl rfl (r_assign rfl) ?_
  obtain ⟨e19, H⟩ := H
  obtain ⟨h7, e18⟩ : ∃ hh : Heap, hh = hsets h6 p15 0 [(.pointer y13)] := ⟨_, rfl⟩
  have H := H h7 e18
  refine s_st (d := none) (h' := h7) rfl rfl rfl (fun dr => (r_store (v := (.agg #[(.pointer y13)])) Try.sizeOf26 rfl rfl rfl (one_all rfl) e19).trans (by rw [e18]; rfl)) trivial ?_ trivial
  refine s_pu (d := some 4) (v := (.bool y14)) rfl rfl rfl (r_assign rfl) ?_
  refine s_fin ?_
  show W _ _ _ _ _ _ _ _
  refine W_seq ?_
  refine W_set ?_
  intro N22 eN22
  have H := H (fun (x20 : Bool) (h8 : Heap) => ∀ b, N22 [] (mkE [(0, (.bool x20))] b) h8) (by
    intro x20 h8 H b
    rw [eN22]
    show W _ _ _ _ _ _ _ _
    refine W_ret ?_
    exact ⟨[(.bool x20)], ⟨_, _, rfl, rfl, rfl⟩, x20, rfl, H⟩)
  clear eN22
  refine W_region (.pu 0 (.pu 1 (.pu 2 (.pu 3 (.pu 4 (.pu 5 (.rl 6 (.ef 7 [] (.pu 8 (.pu 9 (.pu 10 (.pu 11 .fin)))) .no)))))))) rfl rfl ?_
  refine s_pu (d := some 13) (v := (.int .i64 y12)) rfl rfl rfl (r_move rfl) ?_
  refine s_pu (d := some 14) (v := (.bool (decide (y12 = 3)))) rfl rfl rfl (r_eql rfl rfl) ?_
  refine s_pu (d := some 15) (v := (.bool (decide (y12 = 3)))) rfl rfl rfl (r_move rfl) ?_
  rcases Bool.eq_false_or_eq_true (decide (y12 = 3)) with g23 | g23
  · have H := H.1 g23
    refine s_pu (d := some 16) (v := (.bool y14)) rfl rfl (wants_yes rfl rfl rfl rfl g23) (r_move rfl) ?_
    refine s_pu (d := some 17) (v := (.bool y14)) rfl rfl rfl (r_pick1 rfl g23 rfl) ?_
    refine s_pu (d := some 18) (v := (.bool y14)) rfl rfl rfl (r_move rfl) ?_
    rcases Bool.eq_false_or_eq_true y14 with g24 | g24
    · have H := H.1 g24
      obtain ⟨x25, e26, H⟩ := H
      refine s_rl (d := some 19) (v := (.agg #[(.pointer x25)])) rfl rfl (wants_yes rfl rfl rfl rfl g24) (fun dr => r_loadN Try.isAgg26 Try.sizeOf26 (vs := [(.pointer x25)]) rfl rfl ⟨e26, trivial⟩) ?_
      refine s_ef (d := some 20) rfl rfl (wants_yes rfl rfl rfl rfl g24) (fun dr => r_call Try.call20 rfl rfl H) ?_ trivial
      rintro _ h9 ⟨y27, y28, y29, y30, y31, rfl, H⟩
      refine ⟨trivial, ?_⟩
      refine s_pu (d := some 21) (v := (.int .i64 y27)) rfl rfl (wants_yes rfl rfl rfl rfl g24) (fun w => by kernel_rfl) ?_
      refine s_pu (d := some 22) (v := (.bool (decide (y27 = 1)))) rfl rfl (wants_yes rfl rfl rfl rfl g24) (r_eql rfl rfl) ?_
      refine s_pu (d := some 23) (v := (.bool (decide (y27 = 1)))) rfl rfl rfl (r_pick1 rfl g24 rfl) ?_
      refine s_pu (d := some 0) (v := (.bool (decide (y27 = 1)))) rfl rfl rfl (r_assign rfl) ?_
      refine s_fin ?_
      exact N_mk (l := [(0, (.bool (decide (y27 = 1))))]) H ⟨rfl, trivial⟩
    · have H := H.2 g24
      refine s_skl (d := some 19) rfl rfl (wants_no rfl rfl rfl rfl g24) ?_
      refine s_skf (d := some 20) rfl rfl (wants_no rfl rfl rfl rfl g24) trivial ?_ trivial
      refine s_sk (d := some 21) rfl rfl (wants_no rfl rfl rfl rfl g24) ?_
      refine s_sk (d := some 22) rfl rfl (wants_no rfl rfl rfl rfl g24) ?_
      refine s_pu (d := some 23) (v := (.bool false)) rfl rfl rfl (r_pick0 rfl g24 rfl) ?_
      refine s_pu (d := some 0) (v := (.bool false)) rfl rfl rfl (r_assign rfl) ?_
      refine s_fin ?_
      exact N_mk (l := [(0, (.bool false))]) H ⟨rfl, trivial⟩
  · have H := H.2 g23
    refine s_sk (d := some 16) rfl rfl (wants_no rfl rfl rfl rfl g23) ?_
    refine s_pu (d := some 17) (v := (.bool false)) rfl rfl rfl (r_pick0 rfl g23 rfl) ?_
    refine s_pu (d := some 18) (v := (.bool false)) rfl rfl rfl (r_move rfl) ?_
    refine s_skl (d := some 19) rfl rfl (wants_no rfl rfl rfl rfl rfl) ?_
    refine s_skf (d := some 20) rfl rfl (wants_no rfl rfl rfl rfl rfl) trivial ?_ trivial
    refine s_sk (d := some 21) rfl rfl (wants_no rfl rfl rfl rfl rfl) ?_
    refine s_sk (d := some 22) rfl rfl (wants_no rfl rfl rfl rfl rfl) ?_
    refine s_pu (d := some 23) (v := (.bool false)) rfl rfl rfl (r_pick0 rfl rfl rfl) ?_
    refine s_pu (d := some 0) (v := (.bool false)) rfl rfl rfl (r_assign rfl) ?_
    refine s_fin ?_
    exact N_mk (l := [(0, (.bool false))]) H ⟨rfl, trivial⟩

/-! ### law3_FingerTells -/

def law3_FingerTells_F (r : World) (l1 : Sl) (acts2 : Sl) (h : Heap) (R : Bool → Heap → Prop) : Prop :=
  law3_fingered r h fun y3 h1 =>
  Br (!y3) (
    R false h1) (
    New h1 (.cells #[(.pointer none)] 26) fun p4 h2 =>
    ∀ X9 : Sl → Int → Heap → Prop, (∀ (all7 : Sl) (i8 : Int) (h3 : Heap),
      (Br ((decide (i8 < ((l1.len : Int)))) && (decide (i8 < ((acts2.len : Int))))) (
        LdP h3 (Addr.add p4 0) fun x13 =>
        New h3 (.cells #[(.pointer none)] 26) fun p15 h4 =>
        St h4 p15 1 [(.pointer x13)] fun h5 =>
        Ix acts2 i8 1 fun q24 =>
        LdI h5 q24 fun x26 =>
        ∀ J32 : Sl → Int → Bool → Int → Heap → Prop, (∀ (all28 : Sl) (x29 : Int) (has30 : Bool) (want31 : Int) (h6 : Heap),
          (LdP h6 (Addr.add p15 0) fun x34 =>
          St h6 p4 1 [(.pointer x34)] fun h7 =>
          LdP h7 (Addr.add p4 0) fun x38 =>
          finger_Tree_Ints r x38 h7 fun y40 h8 =>
          same_Ints r y40 all28 h8 fun y41 h9 =>
          ∀ J43 : Bool → Heap → Prop, (∀ (x42 : Bool) (h10 : Heap),
            (Br x42 (
              R false h10) (
              X9 all28 (w64 (i8 + 1)) h10)) →
            J43 x42 h10) →
          Br (!y41) (
            J43 true h9) (
            Br (!has30) (
              J43 true h9) (
              Br (!decide (x29 = want31)) (
                J43 true h9) (
                LdP h9 (Addr.add p4 0) fun x49 =>
                finger_Tree_Measure r x49 h9 fun y51 y52 y53 y54 y55 h11 =>
                ref1_MeasureOf r all28 h11 fun y56 y57 y58 y59 y60 h12 =>
                J43 (!(decide (y51 = y56 ∧ y52 = y57 ∧ y53 = y58 ∧ y54 = y59 ∧ y55 = y60))) h12)))) →
          J32 all28 x29 has30 want31 h6) →
        Br (decide (x26 = 0)) (
          LdP h5 (Addr.add p4 0) fun x61 =>
          Ix l1 i8 1 fun q67 =>
          LdI h5 q67 fun x69 =>
          finger_Tree_PushLeft r x61 x69 h5 fun y71 h13 =>
          St h13 p15 1 [(.pointer y71)] fun h14 =>
          Ix l1 i8 1 fun q78 =>
          LdI h14 q78 fun x80 =>
          New h14 (.cells #[(.int .i64 x80)] 3) fun p82 h15 =>
          App 3 1 8 (.int .i64 0) ((⟨some p82, 1, 1⟩ : Sl)) all7 h15 fun s85 h16 =>
          J32 s85 0 true 0 h16) (
          Ix acts2 i8 1 fun q90 =>
          LdI h5 q90 fun x92 =>
          Br (decide (x92 = 1)) (
            LdP h5 (Addr.add p4 0) fun x94 =>
            Ix l1 i8 1 fun q100 =>
            LdI h5 q100 fun x102 =>
            finger_Tree_PushRight r x94 x102 h5 fun y104 h17 =>
            St h17 p15 1 [(.pointer y104)] fun h18 =>
            Ix l1 i8 1 fun q111 =>
            LdI h18 q111 fun x113 =>
            (ref1_Cat r all7 Sl.nil h18 fun y115 h19 =>
            (hcell h19 q111 = some (.int .i64 x113)) ∧
            New h19 (.cells #[(.int .i64 x113)] 3) fun p117 h20 =>
            App 3 1 8 (.int .i64 0) y115 ((⟨some p117, 1, 1⟩ : Sl)) h20 fun s120 h21 =>
            J32 s120 0 true 0 h21) ∧
            (New h18 (.cells #[(.int .i64 x113)] 3) fun p121 h22 =>
            ref1_Cat r all7 Sl.nil h22 fun y124 h23 =>
            (hcell h23 q111 = some (.int .i64 x113)) ∧
            App 3 1 8 (.int .i64 0) y124 ((⟨some p121, 1, 1⟩ : Sl)) h23 fun s126 h24 =>
            J32 s126 0 true 0 h24)) (
            Br (decide (((all7.len : Int)) = 0)) (
              LdP h5 (Addr.add p4 0) fun x127 =>
              finger_Tree_PopLeft r x127 h5 fun y129 y130 y131 h25 =>
              New h25 (.cells #[(.pointer none)] 26) fun p132 h26 =>
              St h26 p132 1 [(.pointer y130)] fun h27 =>
              LdP h27 (Addr.add p4 0) fun x137 =>
              finger_Tree_PopRight r x137 h27 fun y139 y140 y141 h28 =>
              New h28 (.cells #[(.pointer none)] 26) fun p142 h29 =>
              St h29 p142 1 [(.pointer y140)] fun h30 =>
              Br (y131 || y141) (
                R false h30) (
                J32 all7 0 true 0 h30)) (
              Ix acts2 i8 1 fun q156 =>
              LdI h5 q156 fun x158 =>
              Br (decide (x158 = 2)) (
                LdP h5 (Addr.add p4 0) fun x160 =>
                finger_Tree_PopLeft r x160 h5 fun y162 y163 y164 h31 =>
                St h31 p15 1 [(.pointer y163)] fun h32 =>
                Ix all7 0 1 fun q171 =>
                LdI h32 q171 fun x173 =>
                Sub all7 1 ((all7.len : Int)) ((all7.cap : Int)) 1 fun s175 =>
                J32 s175 y162 y164 x173 h32) (
                LdP h5 (Addr.add p4 0) fun x181 =>
                finger_Tree_PopRight r x181 h5 fun y183 y184 y185 h33 =>
                St h33 p15 1 [(.pointer y184)] fun h34 =>
                Ix all7 (w64 (((all7.len : Int)) - 1)) 1 fun q192 =>
                LdI h34 q192 fun x194 =>
                Sub all7 0 (w64 (((all7.len : Int)) - 1)) ((all7.cap : Int)) 1 fun s196 =>
                J32 s196 y183 y185 x194 h34))))) (
        finger_Of r l1 h3 fun y206 h35 =>
        finger_Tree_Ints r y206 h35 fun y207 h36 =>
        same_Ints r y207 l1 h36 fun y208 h37 =>
        R y208 h37)) →
      X9 all7 i8 h3) →
    X9 Sl.nil 0 h2)

set_option maxRecDepth 100000 in
theorem law3_FingerTells_of {r : World} {l1 : Sl} {acts2 : Sl} {h : Heap} {R : Bool → Heap → Prop} (H : law3_FingerTells_F r l1 acts2 h R) : law3_FingerTells r l1 acts2 h R := by
  unfold law3_FingerTells_F at H
  refine calls_of 155 [.tmp 4] Try.func3 rfl rfl rfl rfl rfl ?_
  refine W_seq ?_
  refine W_region (.pu 0 .fin) rfl rfl ?_
  refine s_pu (d := some 4) (v := (.bool false)) rfl rfl rfl (r_assign rfl) ?_
  refine s_fin ?_
  show W _ _ _ _ _ _ _ _
  refine W_seq ?_
  refine W_region (.ef 0 [] (.pu 1 .fin) .no) rfl rfl ?_
  refine s_ef (d := some 21) rfl rfl rfl (fun dr => r_call Try.call12 rfl rfl H) ?_ trivial
  rintro _ h1 ⟨y3, rfl, H⟩
  refine ⟨trivial, ?_⟩
  refine s_pu (d := some 5) (v := (.bool y3)) rfl rfl rfl (r_assign rfl) ?_
  refine s_fin ?_
  show W _ _ _ _ _ _ _ _
  refine W_seq ?_
  refine W_seq ?_
  refine W_region (.pu 0 (.pu 1 .fin)) rfl rfl ?_
  refine s_pu (d := some 22) (v := (.bool y3)) rfl rfl rfl (r_move rfl) ?_
  refine s_pu (d := some 23) (v := (.bool (!y3))) rfl rfl rfl (r_not rfl) ?_
  refine s_fin ?_
  show W _ _ _ _ _ _ _ _
  refine W_if (!y3) rfl (fun g211 => ?_) (fun g211 => ?_)
  · have H := H.1 g211
    refine W_seq ?_
    refine W_region (.pu 0 .fin) rfl rfl ?_
    refine s_pu (d := some 4) (v := (.bool false)) rfl rfl rfl (r_assign rfl) ?_
    refine s_fin ?_
    show W _ _ _ _ _ _ _ _
    refine W_ret ?_
    exact ⟨[(.bool false)], ⟨_, _, rfl, rfl, rfl⟩, false, rfl, H⟩
  · have H := H.2 g211
    refine W_skip ?_
    show W _ _ _ _ _ _ _ _
    refine W_seq ?_
    refine W_region (.ef 0 [] .fin .no) rfl rfl ?_
    obtain ⟨p4, e5⟩ : ∃ p : Addr, p = ⟨h1.size, 0, none⟩ := ⟨_, rfl⟩
    obtain ⟨h2, e6⟩ : ∃ hh : Heap, hh = h1.push (.cells #[(.pointer none)] 26) := ⟨_, rfl⟩
    have H := H p4 h2 e5 e6
    refine s_ef1 (d := some 6) (v := (.pointer (some p4))) (h' := h2) rfl rfl rfl (fun dr => (r_alloc Try.zeroValue26).trans (by rw [e5, e6]; rfl)) trivial ?_ trivial
    refine s_fin ?_
    show W _ _ _ _ _ _ _ _
    refine W_seq ?_
    refine W_region (.pu 0 .fin) rfl rfl ?_
    refine s_pu (d := some 7) (v := (Sl.v Sl.nil)) rfl rfl rfl (r_assign rfl) ?_
    refine s_fin ?_
    show W _ _ _ _ _ _ _ _
    refine W_seq ?_
    refine W_seq ?_
    refine W_region (.pu 0 .fin) rfl rfl ?_
    refine s_pu (d := some 8) (v := (.int .i64 0)) rfl rfl rfl (r_assign rfl) ?_
    refine s_fin ?_
    show W _ _ _ _ _ _ _ _
    refine W_block ?_
    refine W_loop (WL_mk (l := [(0, (Sl.v l1)), (1, (Sl.v acts2)), (6, (.pointer (some p4))), (7, (Sl.v Sl.nil)), (8, (.int .i64 0))]) ?_ ⟨rfl, rfl, rfl, rfl, rfl, trivial⟩)
    refine H (fun (all7 : Sl) (i8 : Int) (h3 : Heap) => ∀ b, WL _ _ _ _ _ _ (mkE [(0, (Sl.v l1)), (1, (Sl.v acts2)), (6, (.pointer (some p4))), (7, (Sl.v all7)), (8, (.int .i64 i8))] b) h3) ?_
    intro all7 i8 h3 H b
    refine WL_round ?_
    refine W_seq ?_
    refine W_seq ?_
    refine W_region (.pu 0 (.pu 1 (.pu 2 (.pu 3 (.pu 4 (.pu 5 (.pu 6 (.pu 7 (.pu 8 (.pu 9 .fin)))))))))) rfl rfl ?_
    refine s_pu (d := some 24) (v := (.int .i64 i8)) rfl rfl rfl (r_move rfl) ?_
    refine s_pu (d := some 25) (v := (Sl.v l1)) rfl rfl rfl (r_move rfl) ?_
    refine s_pu (d := some 26) (v := (.int .i64 ((l1.len : Int)))) rfl rfl rfl (r_len Try.underlying22 rfl) ?_
    refine s_pu (d := some 27) (v := (.bool (decide (i8 < ((l1.len : Int)))))) rfl rfl rfl (r_lss rfl rfl) ?_
    refine s_pu (d := some 28) (v := (.bool (decide (i8 < ((l1.len : Int)))))) rfl rfl rfl (r_move rfl) ?_
    refine S_meet (l := [(0, (Sl.v l1)), (1, (Sl.v acts2)), (6, (.pointer (some p4))), (7, (Sl.v all7)), (8, (.int .i64 i8)), (33, (.bool ((decide (i8 < ((l1.len : Int)))) && (decide (i8 < ((acts2.len : Int)))))))]) (i := 5) ?_ (fun HJ => ?_)
    · intro b
      show S _ _ _ _ _ _
      refine s_fin ?_
      show W _ _ _ _ _ _ _ _
      refine W_if ((decide (i8 < ((l1.len : Int)))) && (decide (i8 < ((acts2.len : Int))))) rfl (fun g209 => ?_) (fun g209 => ?_)
      · have H := H.1 g209
        refine W_skip ?_
        show W _ _ _ _ _ _ _ _
        refine W_seq ?_
        refine W_block ?_
        refine W_seq ?_
        refine W_region (.pu 0 .fin) rfl rfl ?_
        refine s_pu (d := some 9) (v := (.int .i64 0)) rfl rfl rfl (r_assign rfl) ?_
        refine s_fin ?_
        show W _ _ _ _ _ _ _ _
        refine W_seq ?_
        refine W_region (.pu 0 .fin) rfl rfl ?_
        refine s_pu (d := some 10) (v := (.bool true)) rfl rfl rfl (r_assign rfl) ?_
        refine s_fin ?_
        show W _ _ _ _ _ _ _ _
        refine W_seq ?_
        refine W_region (.pu 0 .fin) rfl rfl ?_
        refine s_pu (d := some 11) (v := (.int .i64 0)) rfl rfl rfl (r_assign rfl) ?_
        refine s_fin ?_
        show W _ _ _ _ _ _ _ _
        refine W_seq ?_
        refine W_region (.rl 0 (.ef 1 [] (.ef 2 [] .fin .no) .no)) rfl rfl ?_
        obtain ⟨x13, e14, H⟩ := H
        refine s_rl (d := some 36) (v := (.agg #[(.pointer x13)])) rfl rfl rfl (fun dr => r_loadN Try.isAgg26 Try.sizeOf26 (vs := [(.pointer x13)]) rfl rfl ⟨e14, trivial⟩) ?_
        obtain ⟨p15, e16⟩ : ∃ p : Addr, p = ⟨h3.size, 0, none⟩ := ⟨_, rfl⟩
        obtain ⟨h4, e17⟩ : ∃ hh : Heap, hh = h3.push (.cells #[(.pointer none)] 26) := ⟨_, rfl⟩
        have H := H p15 h4 e16 e17
        refine s_ef1 (d := some 12) (v := (.pointer (some p15))) (h' := h4) rfl rfl rfl (fun dr => (r_alloc Try.zeroValue26).trans (by rw [e16, e17]; rfl)) trivial ?_ trivial
        obtain ⟨e19, H⟩ := H
        obtain ⟨h5, e18⟩ : ∃ hh : Heap, hh = hsets h4 p15 0 [(.pointer x13)] := ⟨_, rfl⟩
        have H := H h5 e18
        refine s_st (d := none) (h' := h5) rfl rfl rfl (fun dr => (r_store (v := (.agg #[(.pointer x13)])) Try.sizeOf26 rfl rfl rfl (one_all rfl) e19).trans (by rw [e18]; rfl)) trivial ?_ trivial
        refine s_fin ?_
        show W _ _ _ _ _ _ _ _
        refine W_seq ?_
        refine W_seq ?_
        refine W_region (.pu 0 (.pu 1 (.pu 2 (.rl 3 (.pu 4 .fin))))) rfl rfl ?_
        refine s_pu (d := some 37) (v := (Sl.v acts2)) rfl rfl rfl (r_move rfl) ?_
        refine s_pu (d := some 38) (v := (.int .i64 i8)) rfl rfl rfl (r_move rfl) ?_
        obtain ⟨p20, e21, e22, e23, H⟩ := H
        obtain ⟨q24, e25⟩ : ∃ q : Addr, q = Addr.add p20 (Int.toNat i8 * 1) := ⟨_, rfl⟩
        rw [← e25] at H
        refine s_pu (d := some 39) (v := (.pointer (some q24))) rfl rfl rfl (fun w => (r_indexAddr Try.underlying22 Try.sizeOf3 rfl rfl e21 e22 e23 w).trans (by rw [e25])) ?_
        obtain ⟨x26, e27, H⟩ := H
        refine s_rl (d := some 40) (v := (.int .i64 x26)) rfl rfl rfl (fun dr => r_load1 Try.isAgg3 rfl e27) ?_
        refine s_pu (d := some 41) (v := (.bool (decide (x26 = 0)))) rfl rfl rfl (r_eql rfl rfl) ?_
        refine s_fin ?_
        show W _ _ _ _ _ _ _ _
        refine W_set ?_
        intro N33 eN33
        have H := H (fun (all28 : Sl) (x29 : Int) (has30 : Bool) (want31 : Int) (h6 : Heap) => ∀ b, N33 [] (mkE [(0, (Sl.v l1)), (1, (Sl.v acts2)), (6, (.pointer (some p4))), (7, (Sl.v all28)), (8, (.int .i64 i8)), (9, (.int .i64 x29)), (10, (.bool has30)), (11, (.int .i64 want31)), (12, (.pointer (some p15)))] b) h6) (by
          intro all28 x29 has30 want31 h6 H b
          rw [eN33]
          show W _ _ _ _ _ _ _ _
          refine W_seq ?_
          refine W_region (.rl 0 (.ef 1 [] .fin .no)) rfl rfl ?_
          obtain ⟨x34, e35, H⟩ := H
          refine s_rl (d := some 126) (v := (.agg #[(.pointer x34)])) rfl rfl rfl (fun dr => r_loadN Try.isAgg26 Try.sizeOf26 (vs := [(.pointer x34)]) rfl rfl ⟨e35, trivial⟩) ?_
          obtain ⟨e37, H⟩ := H
          obtain ⟨h7, e36⟩ : ∃ hh : Heap, hh = hsets h6 p4 0 [(.pointer x34)] := ⟨_, rfl⟩
          have H := H h7 e36
          refine s_st (d := none) (h' := h7) rfl rfl rfl (fun dr => (r_store (v := (.agg #[(.pointer x34)])) Try.sizeOf26 rfl rfl rfl (one_all rfl) e37).trans (by rw [e36]; rfl)) trivial ?_ trivial
          refine s_fin ?_
          show W _ _ _ _ _ _ _ _
          refine W_seq ?_
          refine W_region (.rl 0 (.ef 1 [] (.pu 2 (.ef 3 [] (.pu 4 .fin) .no)) .no)) rfl rfl ?_
          obtain ⟨x38, e39, H⟩ := H
          refine s_rl (d := some 127) (v := (.agg #[(.pointer x38)])) rfl rfl rfl (fun dr => r_loadN Try.isAgg26 Try.sizeOf26 (vs := [(.pointer x38)]) rfl rfl ⟨e39, trivial⟩) ?_
          refine s_ef (d := some 128) rfl rfl rfl (fun dr => r_call Try.call19 rfl rfl H) ?_ trivial
          rintro _ h8 ⟨y40, rfl, H⟩
          refine ⟨trivial, ?_⟩
          refine s_pu (d := some 129) (v := (Sl.v all28)) rfl rfl rfl (r_move rfl) ?_
          refine s_ef (d := some 130) rfl rfl rfl (fun dr => r_call Try.call18 rfl rfl H) ?_ trivial
          rintro _ h9 ⟨y41, rfl, H⟩
          refine ⟨trivial, ?_⟩
          refine s_pu (d := some 19) (v := (.bool y41)) rfl rfl rfl (r_assign rfl) ?_
          refine s_fin ?_
          show W _ _ _ _ _ _ _ _
          refine W_seq ?_
          refine W_set ?_
          intro N44 eN44
          have H := H (fun (x42 : Bool) (h10 : Heap) => ∀ b, N44 [] (mkE [(0, (Sl.v l1)), (1, (Sl.v acts2)), (6, (.pointer (some p4))), (7, (Sl.v all28)), (8, (.int .i64 i8)), (148, (.bool x42))] b) h10) (by
            intro x42 h10 H b
            rw [eN44]
            show W _ _ _ _ _ _ _ _
            refine W_if x42 rfl (fun g45 => ?_) (fun g45 => ?_)
            · have H := H.1 g45
              refine W_seq ?_
              refine W_region (.pu 0 .fin) rfl rfl ?_
              refine s_pu (d := some 4) (v := (.bool false)) rfl rfl rfl (r_assign rfl) ?_
              refine s_fin ?_
              show W _ _ _ _ _ _ _ _
              refine W_ret ?_
              exact ⟨[(.bool false)], ⟨_, _, rfl, rfl, rfl⟩, false, rfl, H⟩
            · have H := H.2 g45
              refine W_skip ?_
              show W _ _ _ _ _ _ _ _
              refine W_region (.pu 0 (.pu 1 (.pu 2 .fin))) rfl rfl ?_
              refine s_pu (d := some 34) (v := (.int .i64 i8)) rfl rfl rfl (r_move rfl) ?_
              refine s_pu (d := some 35) (v := (.int .i64 (w64 (i8 + 1)))) rfl rfl rfl (r_add rfl rfl) ?_
              refine s_pu (d := some 8) (v := (.int .i64 (w64 (i8 + 1)))) rfl rfl rfl (r_assign rfl) ?_
              refine s_fin ?_
              exact WL_mk (l := [(0, (Sl.v l1)), (1, (Sl.v acts2)), (6, (.pointer (some p4))), (7, (Sl.v all28)), (8, (.int .i64 (w64 (i8 + 1))))]) H ⟨rfl, rfl, rfl, rfl, rfl, trivial⟩)
          clear eN44
          refine W_region (.pu 0 (.pu 1 (.pu 2 (.pu 3 (.pu 4 (.pu 5 (.pu 6 (.pu 7 (.pu 8 (.pu 9 (.pu 10 (.pu 11 (.rl 12 (.ef 13 [] (.pu 14 (.ef 15 [] (.pu 16 (.pu 17 .fin)) .no)) .no)))))))))))))) rfl rfl ?_
          refine s_pu (d := some 131) (v := (.bool y41)) rfl rfl rfl (r_move rfl) ?_
          refine s_pu (d := some 132) (v := (.bool (!y41))) rfl rfl rfl (r_not rfl) ?_
          refine s_pu (d := some 133) (v := (.bool (!y41))) rfl rfl rfl (r_move rfl) ?_
          rcases Bool.eq_false_or_eq_true (!y41) with g46 | g46
          · have H := H.1 g46
            refine s_sk (d := some 134) rfl rfl (wants_no rfl rfl rfl rfl g46) ?_
            refine s_sk (d := some 135) rfl rfl (wants_no rfl rfl rfl rfl g46) ?_
            refine s_pu (d := some 136) (v := (.bool true)) rfl rfl rfl (r_pick1 rfl g46 rfl) ?_
            refine s_pu (d := some 137) (v := (.bool true)) rfl rfl rfl (r_move rfl) ?_
            refine s_sk (d := some 138) rfl rfl (wants_no rfl rfl rfl rfl rfl) ?_
            refine s_sk (d := some 139) rfl rfl (wants_no rfl rfl rfl rfl rfl) ?_
            refine s_sk (d := some 140) rfl rfl (wants_no rfl rfl rfl rfl rfl) ?_
            refine s_pu (d := some 141) (v := (.bool true)) rfl rfl rfl (r_pick1 rfl rfl rfl) ?_
            refine s_pu (d := some 142) (v := (.bool true)) rfl rfl rfl (r_move rfl) ?_
            refine s_skl (d := some 143) rfl rfl (wants_no rfl rfl rfl rfl rfl) ?_
            refine s_skf (d := some 144) rfl rfl (wants_no rfl rfl rfl rfl rfl) trivial ?_ trivial
            refine s_sk (d := some 145) rfl rfl (wants_no rfl rfl rfl rfl rfl) ?_
            refine s_skf (d := some 146) rfl rfl (wants_no rfl rfl rfl rfl rfl) trivial ?_ trivial
            refine s_sk (d := some 147) rfl rfl (wants_no rfl rfl rfl rfl rfl) ?_
            refine s_pu (d := some 148) (v := (.bool true)) rfl rfl rfl (r_pick1 rfl rfl rfl) ?_
            refine s_fin ?_
            exact N_mk (l := [(0, (Sl.v l1)), (1, (Sl.v acts2)), (6, (.pointer (some p4))), (7, (Sl.v all28)), (8, (.int .i64 i8)), (148, (.bool true))]) H ⟨rfl, rfl, rfl, rfl, rfl, rfl, trivial⟩
          · have H := H.2 g46
            refine s_pu (d := some 134) (v := (.bool has30)) rfl rfl (wants_yes rfl rfl rfl rfl g46) (r_move rfl) ?_
            refine s_pu (d := some 135) (v := (.bool (!has30))) rfl rfl (wants_yes rfl rfl rfl rfl g46) (r_not rfl) ?_
            refine s_pu (d := some 136) (v := (.bool (!has30))) rfl rfl rfl (r_pick0 rfl g46 rfl) ?_
            refine s_pu (d := some 137) (v := (.bool (!has30))) rfl rfl rfl (r_move rfl) ?_
            rcases Bool.eq_false_or_eq_true (!has30) with g47 | g47
            · have H := H.1 g47
              refine s_sk (d := some 138) rfl rfl (wants_no rfl rfl rfl rfl g47) ?_
              refine s_sk (d := some 139) rfl rfl (wants_no rfl rfl rfl rfl g47) ?_
              refine s_sk (d := some 140) rfl rfl (wants_no rfl rfl rfl rfl g47) ?_
              refine s_pu (d := some 141) (v := (.bool true)) rfl rfl rfl (r_pick1 rfl g47 rfl) ?_
              refine s_pu (d := some 142) (v := (.bool true)) rfl rfl rfl (r_move rfl) ?_
              refine s_skl (d := some 143) rfl rfl (wants_no rfl rfl rfl rfl rfl) ?_
              refine s_skf (d := some 144) rfl rfl (wants_no rfl rfl rfl rfl rfl) trivial ?_ trivial
              refine s_sk (d := some 145) rfl rfl (wants_no rfl rfl rfl rfl rfl) ?_
              refine s_skf (d := some 146) rfl rfl (wants_no rfl rfl rfl rfl rfl) trivial ?_ trivial
              refine s_sk (d := some 147) rfl rfl (wants_no rfl rfl rfl rfl rfl) ?_
              refine s_pu (d := some 148) (v := (.bool true)) rfl rfl rfl (r_pick1 rfl rfl rfl) ?_
              refine s_fin ?_
              exact N_mk (l := [(0, (Sl.v l1)), (1, (Sl.v acts2)), (6, (.pointer (some p4))), (7, (Sl.v all28)), (8, (.int .i64 i8)), (148, (.bool true))]) H ⟨rfl, rfl, rfl, rfl, rfl, rfl, trivial⟩
            · have H := H.2 g47
              refine s_pu (d := some 138) (v := (.int .i64 x29)) rfl rfl (wants_yes rfl rfl rfl rfl g47) (r_move rfl) ?_
              refine s_pu (d := some 139) (v := (.int .i64 want31)) rfl rfl (wants_yes rfl rfl rfl rfl g47) (r_move rfl) ?_
              refine s_pu (d := some 140) (v := (.bool (!decide (x29 = want31)))) rfl rfl (wants_yes rfl rfl rfl rfl g47) (r_neq rfl rfl) ?_
              refine s_pu (d := some 141) (v := (.bool (!decide (x29 = want31)))) rfl rfl rfl (r_pick0 rfl g47 rfl) ?_
              refine s_pu (d := some 142) (v := (.bool (!decide (x29 = want31)))) rfl rfl rfl (r_move rfl) ?_
              rcases Bool.eq_false_or_eq_true (!decide (x29 = want31)) with g48 | g48
              · have H := H.1 g48
                refine s_skl (d := some 143) rfl rfl (wants_no rfl rfl rfl rfl g48) ?_
                refine s_skf (d := some 144) rfl rfl (wants_no rfl rfl rfl rfl g48) trivial ?_ trivial
                refine s_sk (d := some 145) rfl rfl (wants_no rfl rfl rfl rfl g48) ?_
                refine s_skf (d := some 146) rfl rfl (wants_no rfl rfl rfl rfl g48) trivial ?_ trivial
                refine s_sk (d := some 147) rfl rfl (wants_no rfl rfl rfl rfl g48) ?_
                refine s_pu (d := some 148) (v := (.bool true)) rfl rfl rfl (r_pick1 rfl g48 rfl) ?_
                refine s_fin ?_
                exact N_mk (l := [(0, (Sl.v l1)), (1, (Sl.v acts2)), (6, (.pointer (some p4))), (7, (Sl.v all28)), (8, (.int .i64 i8)), (148, (.bool true))]) H ⟨rfl, rfl, rfl, rfl, rfl, rfl, trivial⟩
              · have H := H.2 g48
                obtain ⟨x49, e50, H⟩ := H
                refine s_rl (d := some 143) (v := (.agg #[(.pointer x49)])) rfl rfl (wants_yes rfl rfl rfl rfl g48) (fun dr => r_loadN Try.isAgg26 Try.sizeOf26 (vs := [(.pointer x49)]) rfl rfl ⟨e50, trivial⟩) ?_
                refine s_ef (d := some 144) rfl rfl (wants_yes rfl rfl rfl rfl g48) (fun dr => r_call Try.call20 rfl rfl H) ?_ trivial
                rintro _ h11 ⟨y51, y52, y53, y54, y55, rfl, H⟩
                refine ⟨trivial, ?_⟩
                refine s_pu (d := some 145) (v := (Sl.v all28)) rfl rfl (wants_yes rfl rfl rfl rfl g48) (r_move rfl) ?_
                refine s_ef (d := some 146) rfl rfl (wants_yes rfl rfl rfl rfl g48) (fun dr => r_call Try.call21 rfl rfl H) ?_ trivial
                rintro _ h12 ⟨y56, y57, y58, y59, y60, rfl, H⟩
                refine ⟨trivial, ?_⟩
                refine s_pu (d := some 147) (v := (.bool (!(decide (y51 = y56 ∧ y52 = y57 ∧ y53 = y58 ∧ y54 = y59 ∧ y55 = y60))))) rfl rfl (wants_yes rfl rfl rfl rfl g48) (r_neqAgg_Try34 rfl rfl) ?_
                refine s_pu (d := some 148) (v := (.bool (!(decide (y51 = y56 ∧ y52 = y57 ∧ y53 = y58 ∧ y54 = y59 ∧ y55 = y60))))) rfl rfl rfl (r_pick0 rfl g48 rfl) ?_
                refine s_fin ?_
                exact N_mk (l := [(0, (Sl.v l1)), (1, (Sl.v acts2)), (6, (.pointer (some p4))), (7, (Sl.v all28)), (8, (.int .i64 i8)), (148, (.bool (!(decide (y51 = y56 ∧ y52 = y57 ∧ y53 = y58 ∧ y54 = y59 ∧ y55 = y60)))))]) H ⟨rfl, rfl, rfl, rfl, rfl, rfl, trivial⟩)
        clear eN33
        refine W_if (decide (x26 = 0)) rfl (fun g205 => ?_) (fun g205 => ?_)
        · have H := H.1 g205
          refine W_seq ?_
          refine W_draw [0, 0, 0, 6, 14, 31, 63] (.rd 0 (.pu 1 (.pu 2 (.pu 3 (.rd 4 (.ef 5 [0, 4] (.ef 6 [0, 4] .fin .no) .no)))))) (by kernel_rfl) (by kernel_rfl) ?_
          obtain ⟨x61, e62, H⟩ := H
          refine s_rd (d := some 42) (v := (.agg #[(.pointer x61)])) rfl rfl rfl (fun dr => r_loadN Try.isAgg26 Try.sizeOf26 (vs := [(.pointer x61)]) rfl rfl ⟨e62, trivial⟩) ?_
          refine s_pu (d := some 43) (v := (Sl.v l1)) rfl rfl rfl (r_move rfl) ?_
          refine s_pu (d := some 44) (v := (.int .i64 i8)) rfl rfl rfl (r_move rfl) ?_
          obtain ⟨p63, e64, e65, e66, H⟩ := H
          obtain ⟨q67, e68⟩ : ∃ q : Addr, q = Addr.add p63 (Int.toNat i8 * 1) := ⟨_, rfl⟩
          rw [← e68] at H
          refine s_pu (d := some 45) (v := (.pointer (some q67))) rfl rfl rfl (fun w => (r_indexAddr Try.underlying22 Try.sizeOf3 rfl rfl e64 e65 e66 w).trans (by rw [e68])) ?_
          obtain ⟨x69, e70, H⟩ := H
          refine s_rd (d := some 46) (v := (.int .i64 x69)) rfl rfl rfl (fun dr => r_load1 Try.isAgg3 rfl e70) ?_
          refine s_ef (d := some 47) rfl rfl rfl (fun dr => r_call Try.call13 rfl rfl H) ?_ trivial
          rintro _ h13 ⟨y71, rfl, H⟩
          refine ⟨⟨trivial, trivial, trivial⟩, ?_⟩
          obtain ⟨e73, H⟩ := H
          obtain ⟨h14, e72⟩ : ∃ hh : Heap, hh = hsets h13 p15 0 [(.pointer y71)] := ⟨_, rfl⟩
          have H := H h14 e72
          refine s_st (d := none) (h' := h14) rfl rfl rfl (fun dr => (r_store (v := (.agg #[(.pointer y71)])) Try.sizeOf26 rfl rfl rfl (one_all rfl) e73).trans (by rw [e72]; rfl)) ⟨trivial, trivial, trivial⟩ ?_ trivial
          refine s_fin ?_
          show W _ _ _ _ _ _ _ _
          refine W_region (.pu 0 (.pu 1 (.pu 2 (.rl 3 (.ef 4 [] (.pu 5 (.ef 6 [] (.pu 7 .fin) .no)) .no))))) rfl rfl ?_
          refine s_pu (d := some 48) (v := (Sl.v l1)) rfl rfl rfl (r_move rfl) ?_
          refine s_pu (d := some 49) (v := (.int .i64 i8)) rfl rfl rfl (r_move rfl) ?_
          obtain ⟨p74, e75, e76, e77, H⟩ := H
          obtain ⟨q78, e79⟩ : ∃ q : Addr, q = Addr.add p74 (Int.toNat i8 * 1) := ⟨_, rfl⟩
          rw [← e79] at H
          refine s_pu (d := some 50) (v := (.pointer (some q78))) rfl rfl rfl (fun w => (r_indexAddr Try.underlying22 Try.sizeOf3 rfl rfl e75 e76 e77 w).trans (by rw [e79])) ?_
          obtain ⟨x80, e81, H⟩ := H
          refine s_rl (d := some 51) (v := (.int .i64 x80)) rfl rfl rfl (fun dr => r_load1 Try.isAgg3 rfl e81) ?_
          obtain ⟨p82, e83⟩ : ∃ p : Addr, p = ⟨h14.size, 0, none⟩ := ⟨_, rfl⟩
          obtain ⟨h15, e84⟩ : ∃ hh : Heap, hh = h14.push (.cells #[(.int .i64 x80)] 3) := ⟨_, rfl⟩
          have H := H p82 h15 e83 e84
          refine s_ef1 (d := some 52) (v := (Sl.v ((⟨some p82, 1, 1⟩ : Sl)))) (h' := h15) rfl rfl rfl (fun dr => (slFTreeX_22.build (cells := #[(.int .i64 x80)]) (by decide) rfl (by kernel_rfl)).trans (by rw [e83, e84]; rfl)) trivial ?_ trivial
          refine s_pu (d := some 53) (v := (Sl.v all7)) rfl rfl rfl (r_move rfl) ?_
          refine s_ef (d := some 54) rfl rfl rfl (fun dr => slFTreeX_22.append rfl rfl H) ?_ trivial
          rintro _ h16 ⟨s85, rfl, H⟩
          refine ⟨trivial, ?_⟩
          refine s_pu (d := some 7) (v := (Sl.v s85)) rfl rfl rfl (r_assign rfl) ?_
          refine s_fin ?_
          exact N_mk (l := [(0, (Sl.v l1)), (1, (Sl.v acts2)), (6, (.pointer (some p4))), (7, (Sl.v s85)), (8, (.int .i64 i8)), (9, (.int .i64 0)), (10, (.bool true)), (11, (.int .i64 0)), (12, (.pointer (some p15)))]) H ⟨rfl, rfl, rfl, rfl, rfl, rfl, rfl, rfl, rfl, trivial⟩
        · have H := H.2 g205
          refine W_seq ?_
          refine W_region (.pu 0 (.pu 1 (.pu 2 (.rl 3 (.pu 4 .fin))))) rfl rfl ?_
          refine s_pu (d := some 55) (v := (Sl.v acts2)) rfl rfl rfl (r_move rfl) ?_
          refine s_pu (d := some 56) (v := (.int .i64 i8)) rfl rfl rfl (r_move rfl) ?_
          obtain ⟨p86, e87, e88, e89, H⟩ := H
          obtain ⟨q90, e91⟩ : ∃ q : Addr, q = Addr.add p86 (Int.toNat i8 * 1) := ⟨_, rfl⟩
          rw [← e91] at H
          refine s_pu (d := some 57) (v := (.pointer (some q90))) rfl rfl rfl (fun w => (r_indexAddr Try.underlying22 Try.sizeOf3 rfl rfl e87 e88 e89 w).trans (by rw [e91])) ?_
          obtain ⟨x92, e93, H⟩ := H
          refine s_rl (d := some 58) (v := (.int .i64 x92)) rfl rfl rfl (fun dr => r_load1 Try.isAgg3 rfl e93) ?_
          refine s_pu (d := some 59) (v := (.bool (decide (x92 = 1)))) rfl rfl rfl (r_eql rfl rfl) ?_
          refine s_fin ?_
          show W _ _ _ _ _ _ _ _
          refine W_if (decide (x92 = 1)) rfl (fun g204 => ?_) (fun g204 => ?_)
          · have H := H.1 g204
            refine W_seq ?_
            refine W_draw [0, 0, 0, 6, 14, 31, 63] (.rd 0 (.pu 1 (.pu 2 (.pu 3 (.rd 4 (.ef 5 [0, 4] (.ef 6 [0, 4] .fin .no) .no)))))) (by kernel_rfl) (by kernel_rfl) ?_
            obtain ⟨x94, e95, H⟩ := H
            refine s_rd (d := some 60) (v := (.agg #[(.pointer x94)])) rfl rfl rfl (fun dr => r_loadN Try.isAgg26 Try.sizeOf26 (vs := [(.pointer x94)]) rfl rfl ⟨e95, trivial⟩) ?_
            refine s_pu (d := some 61) (v := (Sl.v l1)) rfl rfl rfl (r_move rfl) ?_
            refine s_pu (d := some 62) (v := (.int .i64 i8)) rfl rfl rfl (r_move rfl) ?_
            obtain ⟨p96, e97, e98, e99, H⟩ := H
            obtain ⟨q100, e101⟩ : ∃ q : Addr, q = Addr.add p96 (Int.toNat i8 * 1) := ⟨_, rfl⟩
            rw [← e101] at H
            refine s_pu (d := some 63) (v := (.pointer (some q100))) rfl rfl rfl (fun w => (r_indexAddr Try.underlying22 Try.sizeOf3 rfl rfl e97 e98 e99 w).trans (by rw [e101])) ?_
            obtain ⟨x102, e103, H⟩ := H
            refine s_rd (d := some 64) (v := (.int .i64 x102)) rfl rfl rfl (fun dr => r_load1 Try.isAgg3 rfl e103) ?_
            refine s_ef (d := some 65) rfl rfl rfl (fun dr => r_call Try.call14 rfl rfl H) ?_ trivial
            rintro _ h17 ⟨y104, rfl, H⟩
            refine ⟨⟨trivial, trivial, trivial⟩, ?_⟩
            obtain ⟨e106, H⟩ := H
            obtain ⟨h18, e105⟩ : ∃ hh : Heap, hh = hsets h17 p15 0 [(.pointer y104)] := ⟨_, rfl⟩
            have H := H h18 e105
            refine s_st (d := none) (h' := h18) rfl rfl rfl (fun dr => (r_store (v := (.agg #[(.pointer y104)])) Try.sizeOf26 rfl rfl rfl (one_all rfl) e106).trans (by rw [e105]; rfl)) ⟨trivial, trivial, trivial⟩ ?_ trivial
            refine s_fin ?_
            show W _ _ _ _ _ _ _ _
            refine W_draw [0, 1, 0, 0, 12, 28, 60, 127, 255] (.pu 0 (.pu 2 (.pu 3 (.pu 4 (.rd 5 (.ef 1 [] (.ef 6 [5] (.ef 7 [5] (.pu 8 .fin) .no) .no) (.ef 6 [5] (.ef 1 [] (.ef 7 [5] (.pu 8 .fin) .no) .no) .no))))))) (by kernel_rfl) (by kernel_rfl) ?_
            refine s_pu (d := some 66) (v := (Sl.v all7)) rfl rfl rfl (r_move rfl) ?_
            refine s_pu (d := some 68) (v := (Sl.v l1)) rfl rfl rfl (r_move rfl) ?_
            refine s_pu (d := some 69) (v := (.int .i64 i8)) rfl rfl rfl (r_move rfl) ?_
            obtain ⟨p107, e108, e109, e110, H⟩ := H
            obtain ⟨q111, e112⟩ : ∃ q : Addr, q = Addr.add p107 (Int.toNat i8 * 1) := ⟨_, rfl⟩
            rw [← e112] at H
            refine s_pu (d := some 70) (v := (.pointer (some q111))) rfl rfl rfl (fun w => (r_indexAddr Try.underlying22 Try.sizeOf3 rfl rfl e108 e109 e110 w).trans (by rw [e112])) ?_
            obtain ⟨x113, e114, H⟩ := H
            refine s_rd (d := some 71) (v := (.int .i64 x113)) rfl rfl rfl (fun dr => r_load1 Try.isAgg3 rfl e114) ?_
            refine s_or ?_ ?_
            · have H := H.1
              refine s_ef (d := some 67) rfl rfl rfl (fun dr => r_call Try.call15 rfl rfl H) ?_ trivial
              rintro _ h19 ⟨y115, rfl, H⟩
              obtain ⟨e116, H⟩ := H
              refine ⟨⟨(.inl ⟨rfl, fun dr => r_load1 Try.isAgg3 rfl e116⟩), trivial⟩, ?_⟩
              obtain ⟨p117, e118⟩ : ∃ p : Addr, p = ⟨h19.size, 0, none⟩ := ⟨_, rfl⟩
              obtain ⟨h20, e119⟩ : ∃ hh : Heap, hh = h19.push (.cells #[(.int .i64 x113)] 3) := ⟨_, rfl⟩
              have H := H p117 h20 e118 e119
              refine s_ef1 (d := some 72) (v := (Sl.v ((⟨some p117, 1, 1⟩ : Sl)))) (h' := h20) rfl rfl rfl (fun dr => (slFTreeX_22.build (cells := #[(.int .i64 x113)]) (by decide) rfl (by kernel_rfl)).trans (by rw [e118, e119]; rfl)) ⟨trivial, trivial⟩ ?_ trivial
              refine s_ef (d := some 73) rfl rfl rfl (fun dr => slFTreeX_22.append rfl rfl H) ?_ trivial
              rintro _ h21 ⟨s120, rfl, H⟩
              refine ⟨⟨trivial, trivial⟩, ?_⟩
              refine s_pu (d := some 7) (v := (Sl.v s120)) rfl rfl rfl (r_assign rfl) ?_
              refine s_fin ?_
              exact N_mk (l := [(0, (Sl.v l1)), (1, (Sl.v acts2)), (6, (.pointer (some p4))), (7, (Sl.v s120)), (8, (.int .i64 i8)), (9, (.int .i64 0)), (10, (.bool true)), (11, (.int .i64 0)), (12, (.pointer (some p15)))]) H ⟨rfl, rfl, rfl, rfl, rfl, rfl, rfl, rfl, rfl, trivial⟩
            · have H := H.2
              obtain ⟨p121, e122⟩ : ∃ p : Addr, p = ⟨h18.size, 0, none⟩ := ⟨_, rfl⟩
              obtain ⟨h22, e123⟩ : ∃ hh : Heap, hh = h18.push (.cells #[(.int .i64 x113)] 3) := ⟨_, rfl⟩
              have H := H p121 h22 e122 e123
              refine s_ef1 (d := some 72) (v := (Sl.v ((⟨some p121, 1, 1⟩ : Sl)))) (h' := h22) rfl rfl rfl (fun dr => (slFTreeX_22.build (cells := #[(.int .i64 x113)]) (by decide) rfl (by kernel_rfl)).trans (by rw [e122, e123]; rfl)) ⟨trivial, trivial⟩ ?_ trivial
              refine s_ef (d := some 67) rfl rfl rfl (fun dr => r_call Try.call15 rfl rfl H) ?_ trivial
              rintro _ h23 ⟨y124, rfl, H⟩
              obtain ⟨e125, H⟩ := H
              refine ⟨⟨(.inl ⟨rfl, fun dr => r_load1 Try.isAgg3 rfl e125⟩), trivial⟩, ?_⟩
              refine s_ef (d := some 73) rfl rfl rfl (fun dr => slFTreeX_22.append rfl rfl H) ?_ trivial
              rintro _ h24 ⟨s126, rfl, H⟩
              refine ⟨⟨trivial, trivial⟩, ?_⟩
              refine s_pu (d := some 7) (v := (Sl.v s126)) rfl rfl rfl (r_assign rfl) ?_
              refine s_fin ?_
              exact N_mk (l := [(0, (Sl.v l1)), (1, (Sl.v acts2)), (6, (.pointer (some p4))), (7, (Sl.v s126)), (8, (.int .i64 i8)), (9, (.int .i64 0)), (10, (.bool true)), (11, (.int .i64 0)), (12, (.pointer (some p15)))]) H ⟨rfl, rfl, rfl, rfl, rfl, rfl, rfl, rfl, rfl, trivial⟩
          · have H := H.2 g204
            refine W_seq ?_
            refine W_region (.pu 0 (.pu 1 (.pu 2 .fin))) rfl rfl ?_
            refine s_pu (d := some 74) (v := (Sl.v all7)) rfl rfl rfl (r_move rfl) ?_
            refine s_pu (d := some 75) (v := (.int .i64 ((all7.len : Int)))) rfl rfl rfl (r_len Try.underlying22 rfl) ?_
            refine s_pu (d := some 76) (v := (.bool (decide (((all7.len : Int)) = 0)))) rfl rfl rfl (r_eql rfl rfl) ?_
            refine s_fin ?_
            show W _ _ _ _ _ _ _ _
            refine W_if (decide (((all7.len : Int)) = 0)) rfl (fun g203 => ?_) (fun g203 => ?_)
            · have H := H.1 g203
              refine W_seq ?_
              refine W_region (.rl 0 (.ef 1 [] (.pu 2 (.pu 3 (.pu 4 (.pu 5 (.ef 6 [] (.pu 7 (.ef 8 [] (.pu 9 .fin) .no)) .no))))) .no)) rfl rfl ?_
              obtain ⟨x127, e128, H⟩ := H
              refine s_rl (d := some 78) (v := (.agg #[(.pointer x127)])) rfl rfl rfl (fun dr => r_loadN Try.isAgg26 Try.sizeOf26 (vs := [(.pointer x127)]) rfl rfl ⟨e128, trivial⟩) ?_
              refine s_ef (d := some 79) rfl rfl rfl (fun dr => r_call Try.call16 rfl rfl H) ?_ trivial
              rintro _ h25 ⟨y129, y130, y131, rfl, H⟩
              refine ⟨trivial, ?_⟩
              refine s_pu (d := some 77) (v := (.tuple #[(.int .i64 y129), (.agg #[(.pointer y130)]), (.bool y131)])) rfl rfl rfl (r_move rfl) ?_
              refine s_pu (d := some 80) (v := (.int .i64 y129)) rfl rfl rfl (r_extract rfl rfl) ?_
              refine s_pu (d := some 81) (v := (.agg #[(.pointer y130)])) rfl rfl rfl (r_extract rfl rfl) ?_
              refine s_pu (d := some 82) (v := (.bool y131)) rfl rfl rfl (r_extract rfl rfl) ?_
              obtain ⟨p132, e133⟩ : ∃ p : Addr, p = ⟨h25.size, 0, none⟩ := ⟨_, rfl⟩
              obtain ⟨h26, e134⟩ : ∃ hh : Heap, hh = h25.push (.cells #[(.pointer none)] 26) := ⟨_, rfl⟩
              have H := H p132 h26 e133 e134
              refine s_ef1 (d := some 14) (v := (.pointer (some p132))) (h' := h26) rfl rfl rfl (fun dr => (r_alloc Try.zeroValue26).trans (by rw [e133, e134]; rfl)) trivial ?_ trivial
              refine s_pu (d := some 13) (v := (.int .i64 y129)) rfl rfl rfl (r_assign rfl) ?_
              obtain ⟨e136, H⟩ := H
              obtain ⟨h27, e135⟩ : ∃ hh : Heap, hh = hsets h26 p132 0 [(.pointer y130)] := ⟨_, rfl⟩
              have H := H h27 e135
              refine s_st (d := none) (h' := h27) rfl rfl rfl (fun dr => (r_store (v := (.agg #[(.pointer y130)])) Try.sizeOf26 rfl rfl rfl (one_all rfl) e136).trans (by rw [e135]; rfl)) trivial ?_ trivial
              refine s_pu (d := some 15) (v := (.bool y131)) rfl rfl rfl (r_assign rfl) ?_
              refine s_fin ?_
              show W _ _ _ _ _ _ _ _
              refine W_seq ?_
              refine W_region (.rl 0 (.ef 1 [] (.pu 2 (.pu 3 (.pu 4 (.pu 5 (.ef 6 [] (.pu 7 (.ef 8 [] (.pu 9 .fin) .no)) .no))))) .no)) rfl rfl ?_
              obtain ⟨x137, e138, H⟩ := H
              refine s_rl (d := some 84) (v := (.agg #[(.pointer x137)])) rfl rfl rfl (fun dr => r_loadN Try.isAgg26 Try.sizeOf26 (vs := [(.pointer x137)]) rfl rfl ⟨e138, trivial⟩) ?_
              refine s_ef (d := some 85) rfl rfl rfl (fun dr => r_call Try.call17 rfl rfl H) ?_ trivial
              rintro _ h28 ⟨y139, y140, y141, rfl, H⟩
              refine ⟨trivial, ?_⟩
              refine s_pu (d := some 83) (v := (.tuple #[(.int .i64 y139), (.agg #[(.pointer y140)]), (.bool y141)])) rfl rfl rfl (r_move rfl) ?_
              refine s_pu (d := some 86) (v := (.int .i64 y139)) rfl rfl rfl (r_extract rfl rfl) ?_
              refine s_pu (d := some 87) (v := (.agg #[(.pointer y140)])) rfl rfl rfl (r_extract rfl rfl) ?_
              refine s_pu (d := some 88) (v := (.bool y141)) rfl rfl rfl (r_extract rfl rfl) ?_
              obtain ⟨p142, e143⟩ : ∃ p : Addr, p = ⟨h28.size, 0, none⟩ := ⟨_, rfl⟩
              obtain ⟨h29, e144⟩ : ∃ hh : Heap, hh = h28.push (.cells #[(.pointer none)] 26) := ⟨_, rfl⟩
              have H := H p142 h29 e143 e144
              refine s_ef1 (d := some 17) (v := (.pointer (some p142))) (h' := h29) rfl rfl rfl (fun dr => (r_alloc Try.zeroValue26).trans (by rw [e143, e144]; rfl)) trivial ?_ trivial
              refine s_pu (d := some 16) (v := (.int .i64 y139)) rfl rfl rfl (r_assign rfl) ?_
              obtain ⟨e146, H⟩ := H
              obtain ⟨h30, e145⟩ : ∃ hh : Heap, hh = hsets h29 p142 0 [(.pointer y140)] := ⟨_, rfl⟩
              have H := H h30 e145
              refine s_st (d := none) (h' := h30) rfl rfl rfl (fun dr => (r_store (v := (.agg #[(.pointer y140)])) Try.sizeOf26 rfl rfl rfl (one_all rfl) e146).trans (by rw [e145]; rfl)) trivial ?_ trivial
              refine s_pu (d := some 18) (v := (.bool y141)) rfl rfl rfl (r_assign rfl) ?_
              refine s_fin ?_
              show W _ _ _ _ _ _ _ _
              refine W_seq ?_
              refine W_region (.pu 0 (.pu 1 (.pu 2 (.pu 3 .fin)))) rfl rfl ?_
              refine s_pu (d := some 89) (v := (.bool y131)) rfl rfl rfl (r_move rfl) ?_
              refine s_pu (d := some 90) (v := (.bool y131)) rfl rfl rfl (r_move rfl) ?_
              refine S_meet (l := [(0, (Sl.v l1)), (1, (Sl.v acts2)), (6, (.pointer (some p4))), (7, (Sl.v all7)), (8, (.int .i64 i8)), (9, (.int .i64 0)), (10, (.bool true)), (11, (.int .i64 0)), (12, (.pointer (some p15))), (92, (.bool (y131 || y141)))]) (i := 2) ?_ (fun HJ => ?_)
              · intro b
                show S _ _ _ _ _ _
                refine s_fin ?_
                show W _ _ _ _ _ _ _ _
                refine W_if (y131 || y141) rfl (fun g150 => ?_) (fun g150 => ?_)
                · have H := H.1 g150
                  refine W_seq ?_
                  refine W_region (.pu 0 .fin) rfl rfl ?_
                  refine s_pu (d := some 4) (v := (.bool false)) rfl rfl rfl (r_assign rfl) ?_
                  refine s_fin ?_
                  show W _ _ _ _ _ _ _ _
                  refine W_ret ?_
                  exact ⟨[(.bool false)], ⟨_, _, rfl, rfl, rfl⟩, false, rfl, H⟩
                · have H := H.2 g150
                  refine W_skip ?_
                  exact N_mk (l := [(0, (Sl.v l1)), (1, (Sl.v acts2)), (6, (.pointer (some p4))), (7, (Sl.v all7)), (8, (.int .i64 i8)), (9, (.int .i64 0)), (10, (.bool true)), (11, (.int .i64 0)), (12, (.pointer (some p15)))]) H ⟨rfl, rfl, rfl, rfl, rfl, rfl, rfl, rfl, rfl, trivial⟩
              · rcases Bool.eq_false_or_eq_true y131 with g147 | g147
                · refine s_sk (d := some 91) rfl rfl (wants_no rfl rfl rfl rfl g147) ?_
                  refine s_pu (d := some 92) (v := (.bool true)) rfl rfl rfl (r_pick1 rfl g147 rfl) ?_
                  exact S_mk (l := [(0, (Sl.v l1)), (1, (Sl.v acts2)), (6, (.pointer (some p4))), (7, (Sl.v all7)), (8, (.int .i64 i8)), (9, (.int .i64 0)), (10, (.bool true)), (11, (.int .i64 0)), (12, (.pointer (some p15))), (92, (.bool (y131 || y141)))]) HJ ⟨rfl, rfl, rfl, rfl, rfl, rfl, rfl, rfl, rfl, (by rw [g147]; rfl), trivial⟩
                · refine s_pu (d := some 91) (v := (.bool y141)) rfl rfl (wants_yes rfl rfl rfl rfl g147) (r_move rfl) ?_
                  refine s_pu (d := some 92) (v := (.bool y141)) rfl rfl rfl (r_pick0 rfl g147 rfl) ?_
                  exact S_mk (l := [(0, (Sl.v l1)), (1, (Sl.v acts2)), (6, (.pointer (some p4))), (7, (Sl.v all7)), (8, (.int .i64 i8)), (9, (.int .i64 0)), (10, (.bool true)), (11, (.int .i64 0)), (12, (.pointer (some p15))), (92, (.bool (y131 || y141)))]) HJ ⟨rfl, rfl, rfl, rfl, rfl, rfl, rfl, rfl, rfl, (by rw [g147]; rfl), trivial⟩
            · have H := H.2 g203
              refine W_seq ?_
              refine W_region (.pu 0 (.pu 1 (.pu 2 (.rl 3 (.pu 4 .fin))))) rfl rfl ?_
              refine s_pu (d := some 93) (v := (Sl.v acts2)) rfl rfl rfl (r_move rfl) ?_
              refine s_pu (d := some 94) (v := (.int .i64 i8)) rfl rfl rfl (r_move rfl) ?_
              obtain ⟨p152, e153, e154, e155, H⟩ := H
              obtain ⟨q156, e157⟩ : ∃ q : Addr, q = Addr.add p152 (Int.toNat i8 * 1) := ⟨_, rfl⟩
              rw [← e157] at H
              refine s_pu (d := some 95) (v := (.pointer (some q156))) rfl rfl rfl (fun w => (r_indexAddr Try.underlying22 Try.sizeOf3 rfl rfl e153 e154 e155 w).trans (by rw [e157])) ?_
              obtain ⟨x158, e159, H⟩ := H
              refine s_rl (d := some 96) (v := (.int .i64 x158)) rfl rfl rfl (fun dr => r_load1 Try.isAgg3 rfl e159) ?_
              refine s_pu (d := some 97) (v := (.bool (decide (x158 = 2)))) rfl rfl rfl (r_eql rfl rfl) ?_
              refine s_fin ?_
              show W _ _ _ _ _ _ _ _
              refine W_if (decide (x158 = 2)) rfl (fun g202 => ?_) (fun g202 => ?_)
              · have H := H.1 g202
                refine W_seq ?_
                refine W_region (.rl 0 (.ef 1 [] (.pu 2 (.pu 3 (.pu 4 (.pu 5 (.pu 6 (.ef 7 [] (.pu 8 .fin) .no)))))) .no)) rfl rfl ?_
                obtain ⟨x160, e161, H⟩ := H
                refine s_rl (d := some 99) (v := (.agg #[(.pointer x160)])) rfl rfl rfl (fun dr => r_loadN Try.isAgg26 Try.sizeOf26 (vs := [(.pointer x160)]) rfl rfl ⟨e161, trivial⟩) ?_
                refine s_ef (d := some 100) rfl rfl rfl (fun dr => r_call Try.call16 rfl rfl H) ?_ trivial
                rintro _ h31 ⟨y162, y163, y164, rfl, H⟩
                refine ⟨trivial, ?_⟩
                refine s_pu (d := some 98) (v := (.tuple #[(.int .i64 y162), (.agg #[(.pointer y163)]), (.bool y164)])) rfl rfl rfl (r_move rfl) ?_
                refine s_pu (d := some 101) (v := (.int .i64 y162)) rfl rfl rfl (r_extract rfl rfl) ?_
                refine s_pu (d := some 102) (v := (.agg #[(.pointer y163)])) rfl rfl rfl (r_extract rfl rfl) ?_
                refine s_pu (d := some 103) (v := (.bool y164)) rfl rfl rfl (r_extract rfl rfl) ?_
                refine s_pu (d := some 9) (v := (.int .i64 y162)) rfl rfl rfl (r_assign rfl) ?_
                obtain ⟨e166, H⟩ := H
                obtain ⟨h32, e165⟩ : ∃ hh : Heap, hh = hsets h31 p15 0 [(.pointer y163)] := ⟨_, rfl⟩
                have H := H h32 e165
                refine s_st (d := none) (h' := h32) rfl rfl rfl (fun dr => (r_store (v := (.agg #[(.pointer y163)])) Try.sizeOf26 rfl rfl rfl (one_all rfl) e166).trans (by rw [e165]; rfl)) trivial ?_ trivial
                refine s_pu (d := some 10) (v := (.bool y164)) rfl rfl rfl (r_assign rfl) ?_
                refine s_fin ?_
                show W _ _ _ _ _ _ _ _
                refine W_seq ?_
                refine W_region (.pu 0 (.pu 1 (.rl 2 (.pu 3 .fin)))) rfl rfl ?_
                refine s_pu (d := some 104) (v := (Sl.v all7)) rfl rfl rfl (r_move rfl) ?_
                obtain ⟨p167, e168, e169, e170, H⟩ := H
                obtain ⟨q171, e172⟩ : ∃ q : Addr, q = Addr.add p167 (Int.toNat 0 * 1) := ⟨_, rfl⟩
                rw [← e172] at H
                refine s_pu (d := some 105) (v := (.pointer (some q171))) rfl rfl rfl (fun w => (r_indexAddr Try.underlying22 Try.sizeOf3 rfl rfl e168 e169 e170 w).trans (by rw [e172])) ?_
                obtain ⟨x173, e174, H⟩ := H
                refine s_rl (d := some 106) (v := (.int .i64 x173)) rfl rfl rfl (fun dr => r_load1 Try.isAgg3 rfl e174) ?_
                refine s_pu (d := some 11) (v := (.int .i64 x173)) rfl rfl rfl (r_assign rfl) ?_
                refine s_fin ?_
                show W _ _ _ _ _ _ _ _
                refine W_region (.pu 0 (.pu 1 (.pu 2 .fin))) rfl rfl ?_
                refine s_pu (d := some 107) (v := (Sl.v all7)) rfl rfl rfl (r_move rfl) ?_
                obtain ⟨e176, e177, e178, e179, H⟩ := H
                obtain ⟨s175, e180⟩ : ∃ t : Sl, t = ⟨sliceA all7.a (Int.toNat ((all7.cap : Int))) (Int.toNat 1) 1, Int.toNat ((all7.len : Int)) - Int.toNat 1, Int.toNat ((all7.cap : Int)) - Int.toNat 1⟩ := ⟨_, rfl⟩
                have H := H s175 e180
                refine s_pu (d := some 108) (v := (Sl.v s175)) rfl rfl rfl (fun w => (r_slice (lo := (.some (.const (.int .i64 1)))) (hi := .none) (mx := .none) Try.underlying22 Try.sizeOf3 rfl ((all7.cap : Int)) ((all7.len : Int)) 1 rfl ⟨rfl, rfl⟩ ⟨_, rfl⟩ e176 e177 (.inl rfl) e179 w).trans (by rw [e180]; rfl)) ?_
                refine s_pu (d := some 7) (v := (Sl.v s175)) rfl rfl rfl (r_assign rfl) ?_
                refine s_fin ?_
                exact N_mk (l := [(0, (Sl.v l1)), (1, (Sl.v acts2)), (6, (.pointer (some p4))), (7, (Sl.v s175)), (8, (.int .i64 i8)), (9, (.int .i64 y162)), (10, (.bool y164)), (11, (.int .i64 x173)), (12, (.pointer (some p15)))]) H ⟨rfl, rfl, rfl, rfl, rfl, rfl, rfl, rfl, rfl, trivial⟩
              · have H := H.2 g202
                refine W_seq ?_
                refine W_region (.rl 0 (.ef 1 [] (.pu 2 (.pu 3 (.pu 4 (.pu 5 (.pu 6 (.ef 7 [] (.pu 8 .fin) .no)))))) .no)) rfl rfl ?_
                obtain ⟨x181, e182, H⟩ := H
                refine s_rl (d := some 110) (v := (.agg #[(.pointer x181)])) rfl rfl rfl (fun dr => r_loadN Try.isAgg26 Try.sizeOf26 (vs := [(.pointer x181)]) rfl rfl ⟨e182, trivial⟩) ?_
                refine s_ef (d := some 111) rfl rfl rfl (fun dr => r_call Try.call17 rfl rfl H) ?_ trivial
                rintro _ h33 ⟨y183, y184, y185, rfl, H⟩
                refine ⟨trivial, ?_⟩
                refine s_pu (d := some 109) (v := (.tuple #[(.int .i64 y183), (.agg #[(.pointer y184)]), (.bool y185)])) rfl rfl rfl (r_move rfl) ?_
                refine s_pu (d := some 112) (v := (.int .i64 y183)) rfl rfl rfl (r_extract rfl rfl) ?_
                refine s_pu (d := some 113) (v := (.agg #[(.pointer y184)])) rfl rfl rfl (r_extract rfl rfl) ?_
                refine s_pu (d := some 114) (v := (.bool y185)) rfl rfl rfl (r_extract rfl rfl) ?_
                refine s_pu (d := some 9) (v := (.int .i64 y183)) rfl rfl rfl (r_assign rfl) ?_
                obtain ⟨e187, H⟩ := H
                obtain ⟨h34, e186⟩ : ∃ hh : Heap, hh = hsets h33 p15 0 [(.pointer y184)] := ⟨_, rfl⟩
                have H := H h34 e186
                refine s_st (d := none) (h' := h34) rfl rfl rfl (fun dr => (r_store (v := (.agg #[(.pointer y184)])) Try.sizeOf26 rfl rfl rfl (one_all rfl) e187).trans (by rw [e186]; rfl)) trivial ?_ trivial
                refine s_pu (d := some 10) (v := (.bool y185)) rfl rfl rfl (r_assign rfl) ?_
                refine s_fin ?_
                show W _ _ _ _ _ _ _ _
                refine W_seq ?_
                refine W_region (.pu 0 (.pu 1 (.pu 2 (.pu 3 (.pu 4 (.rl 5 (.pu 6 .fin))))))) rfl rfl ?_
                refine s_pu (d := some 115) (v := (Sl.v all7)) rfl rfl rfl (r_move rfl) ?_
                refine s_pu (d := some 116) (v := (Sl.v all7)) rfl rfl rfl (r_move rfl) ?_
                refine s_pu (d := some 117) (v := (.int .i64 ((all7.len : Int)))) rfl rfl rfl (r_len Try.underlying22 rfl) ?_
                refine s_pu (d := some 118) (v := (.int .i64 (w64 (((all7.len : Int)) - 1)))) rfl rfl rfl (r_sub rfl rfl) ?_
                obtain ⟨p188, e189, e190, e191, H⟩ := H
                obtain ⟨q192, e193⟩ : ∃ q : Addr, q = Addr.add p188 (Int.toNat (w64 (((all7.len : Int)) - 1)) * 1) := ⟨_, rfl⟩
                rw [← e193] at H
                refine s_pu (d := some 119) (v := (.pointer (some q192))) rfl rfl rfl (fun w => (r_indexAddr Try.underlying22 Try.sizeOf3 rfl rfl e189 e190 e191 w).trans (by rw [e193])) ?_
                obtain ⟨x194, e195, H⟩ := H
                refine s_rl (d := some 120) (v := (.int .i64 x194)) rfl rfl rfl (fun dr => r_load1 Try.isAgg3 rfl e195) ?_
                refine s_pu (d := some 11) (v := (.int .i64 x194)) rfl rfl rfl (r_assign rfl) ?_
                refine s_fin ?_
                show W _ _ _ _ _ _ _ _
                refine W_region (.pu 0 (.pu 1 (.pu 2 (.pu 3 (.pu 4 (.pu 5 .fin)))))) rfl rfl ?_
                refine s_pu (d := some 121) (v := (Sl.v all7)) rfl rfl rfl (r_move rfl) ?_
                refine s_pu (d := some 122) (v := (Sl.v all7)) rfl rfl rfl (r_move rfl) ?_
                refine s_pu (d := some 123) (v := (.int .i64 ((all7.len : Int)))) rfl rfl rfl (r_len Try.underlying22 rfl) ?_
                refine s_pu (d := some 124) (v := (.int .i64 (w64 (((all7.len : Int)) - 1)))) rfl rfl rfl (r_sub rfl rfl) ?_
                obtain ⟨e197, e198, e199, e200, H⟩ := H
                obtain ⟨s196, e201⟩ : ∃ t : Sl, t = ⟨sliceA all7.a (Int.toNat ((all7.cap : Int))) (Int.toNat 0) 1, Int.toNat (w64 (((all7.len : Int)) - 1)) - Int.toNat 0, Int.toNat ((all7.cap : Int)) - Int.toNat 0⟩ := ⟨_, rfl⟩
                have H := H s196 e201
                refine s_pu (d := some 125) (v := (Sl.v s196)) rfl rfl rfl (fun w => (r_slice (lo := .none) (hi := (.some (.tmp 124))) (mx := .none) Try.underlying22 Try.sizeOf3 rfl ((all7.cap : Int)) (w64 (((all7.len : Int)) - 1)) 0 rfl ⟨_, rfl⟩ rfl e197 e198 (.inr e199) e200 w).trans (by rw [e201]; rfl)) ?_
                refine s_pu (d := some 7) (v := (Sl.v s196)) rfl rfl rfl (r_assign rfl) ?_
                refine s_fin ?_
                exact N_mk (l := [(0, (Sl.v l1)), (1, (Sl.v acts2)), (6, (.pointer (some p4))), (7, (Sl.v s196)), (8, (.int .i64 i8)), (9, (.int .i64 y183)), (10, (.bool y185)), (11, (.int .i64 x194)), (12, (.pointer (some p15)))]) H ⟨rfl, rfl, rfl, rfl, rfl, rfl, rfl, rfl, rfl, trivial⟩
      · have H := H.2 g209
        refine W_exit (inX_here ?_)
        show W _ _ _ _ _ _ _ _
        refine W_seq ?_
        refine W_region (.pu 0 (.ef 1 [] (.ef 2 [] (.pu 3 (.ef 4 [] (.pu 5 .fin) .no)) .no) .no)) rfl rfl ?_
        refine s_pu (d := some 149) (v := (Sl.v l1)) rfl rfl rfl (r_move rfl) ?_
        refine s_ef (d := some 150) rfl rfl rfl (fun dr => r_call Try.call22 rfl rfl H) ?_ trivial
        rintro _ h35 ⟨y206, rfl, H⟩
        refine ⟨trivial, ?_⟩
        refine s_ef (d := some 151) rfl rfl rfl (fun dr => r_call Try.call19 rfl rfl H) ?_ trivial
        rintro _ h36 ⟨y207, rfl, H⟩
        refine ⟨trivial, ?_⟩
        refine s_pu (d := some 152) (v := (Sl.v l1)) rfl rfl rfl (r_move rfl) ?_
        refine s_ef (d := some 153) rfl rfl rfl (fun dr => r_call Try.call18 rfl rfl H) ?_ trivial
        rintro _ h37 ⟨y208, rfl, H⟩
        refine ⟨trivial, ?_⟩
        refine s_pu (d := some 20) (v := (.bool y208)) rfl rfl rfl (r_assign rfl) ?_
        refine s_fin ?_
        show W _ _ _ _ _ _ _ _
        refine W_seq ?_
        refine W_region (.pu 0 (.pu 1 .fin)) rfl rfl ?_
        refine s_pu (d := some 154) (v := (.bool y208)) rfl rfl rfl (r_move rfl) ?_
        refine s_pu (d := some 4) (v := (.bool y208)) rfl rfl rfl (r_assign rfl) ?_
        refine s_fin ?_
        show W _ _ _ _ _ _ _ _
        refine W_ret ?_
        exact ⟨[(.bool y208)], ⟨_, _, rfl, rfl, rfl⟩, y208, rfl, H⟩
    · rcases Bool.eq_false_or_eq_true (decide (i8 < ((l1.len : Int)))) with g10 | g10
      · refine s_pu (d := some 29) (v := (.int .i64 i8)) rfl rfl (wants_yes rfl rfl rfl rfl g10) (r_move rfl) ?_
        refine s_pu (d := some 30) (v := (Sl.v acts2)) rfl rfl (wants_yes rfl rfl rfl rfl g10) (r_move rfl) ?_
        refine s_pu (d := some 31) (v := (.int .i64 ((acts2.len : Int)))) rfl rfl (wants_yes rfl rfl rfl rfl g10) (r_len Try.underlying22 rfl) ?_
        refine s_pu (d := some 32) (v := (.bool (decide (i8 < ((acts2.len : Int)))))) rfl rfl (wants_yes rfl rfl rfl rfl g10) (r_lss rfl rfl) ?_
        refine s_pu (d := some 33) (v := (.bool (decide (i8 < ((acts2.len : Int)))))) rfl rfl rfl (r_pick1 rfl g10 rfl) ?_
        exact S_mk (l := [(0, (Sl.v l1)), (1, (Sl.v acts2)), (6, (.pointer (some p4))), (7, (Sl.v all7)), (8, (.int .i64 i8)), (33, (.bool ((decide (i8 < ((l1.len : Int)))) && (decide (i8 < ((acts2.len : Int)))))))]) HJ ⟨rfl, rfl, rfl, rfl, rfl, (by rw [g10]; rfl), trivial⟩
      · refine s_sk (d := some 29) rfl rfl (wants_no rfl rfl rfl rfl g10) ?_
        refine s_sk (d := some 30) rfl rfl (wants_no rfl rfl rfl rfl g10) ?_
        refine s_sk (d := some 31) rfl rfl (wants_no rfl rfl rfl rfl g10) ?_
        refine s_sk (d := some 32) rfl rfl (wants_no rfl rfl rfl rfl g10) ?_
        refine s_pu (d := some 33) (v := (.bool false)) rfl rfl rfl (r_pick0 rfl g10 rfl) ?_
        exact S_mk (l := [(0, (Sl.v l1)), (1, (Sl.v acts2)), (6, (.pointer (some p4))), (7, (Sl.v all7)), (8, (.int .i64 i8)), (33, (.bool ((decide (i8 < ((l1.len : Int)))) && (decide (i8 < ((acts2.len : Int)))))))]) HJ ⟨rfl, rfl, rfl, rfl, rfl, (by rw [g10]; rfl), trivial⟩

/-! ### law3_FingerEnds -/

def law3_FingerEnds_F (r : World) (l1 : Sl) (m2 : Sl) (h : Heap) (R : Bool → Heap → Prop) : Prop :=
  law3_fingered r h fun y3 h1 =>
  Br (!y3) (
    R false h1) (
    finger_Of r l1 h1 fun y4 h2 =>
    New h2 (.cells #[(.pointer none)] 26) fun p5 h3 =>
    St h3 p5 1 [(.pointer y4)] fun h4 =>
    ref1_Rev r l1 h4 fun y10 h5 =>
    finger_Of r y10 h5 fun y11 h6 =>
    New h6 (.cells #[(.pointer none)] 26) fun p12 h7 =>
    St h7 p12 1 [(.pointer y11)] fun h8 =>
    ∀ X18 : Int → Heap → Prop, (∀ (i17 : Int) (h9 : Heap),
      (Br (decide (i17 < ((m2.len : Int)))) (
        LdP h9 (Addr.add p5 0) fun x19 =>
        Ix m2 i17 1 fun q25 =>
        LdI h9 q25 fun x27 =>
        finger_Tree_PushRight r x19 x27 h9 fun y29 h10 =>
        St h10 p5 1 [(.pointer y29)] fun h11 =>
        LdP h11 (Addr.add p12 0) fun x32 =>
        Ix m2 i17 1 fun q38 =>
        LdI h11 q38 fun x40 =>
        finger_Tree_PushLeft r x32 x40 h11 fun y42 h12 =>
        St h12 p12 1 [(.pointer y42)] fun h13 =>
        X18 (w64 (i17 + 1)) h13) (
        LdP h9 (Addr.add p5 0) fun x45 =>
        LdP h9 (Addr.add p12 0) fun x47 =>
        finger_Tree_Ints r x45 h9 fun y49 h14 =>
        (hcell h14 (Addr.add p12 0) = some (.pointer x47)) ∧
        finger_Tree_Ints r x47 h14 fun y51 h15 =>
        ref1_Rev r y51 h15 fun y52 h16 =>
        same_Ints r y49 y52 h16 fun y53 h17 =>
        LdP h17 (Addr.add p5 0) fun x54 =>
        finger_Tree_PopRight r x54 h17 fun y56 y57 y58 h18 =>
        New h18 (.cells #[(.pointer none)] 26) fun p59 h19 =>
        St h19 p59 1 [(.pointer y57)] fun h20 =>
        LdP h20 (Addr.add p12 0) fun x64 =>
        finger_Tree_PopLeft r x64 h20 fun y66 y67 y68 h21 =>
        New h21 (.cells #[(.pointer none)] 26) fun p69 h22 =>
        St h22 p69 1 [(.pointer y67)] fun h23 =>
        LdP h23 (Addr.add p59 0) fun x74 =>
        LdP h23 (Addr.add p69 0) fun x76 =>
        finger_Tree_Ints r x74 h23 fun y78 h24 =>
        (hcell h24 (Addr.add p69 0) = some (.pointer x76)) ∧
        finger_Tree_Ints r x76 h24 fun y80 h25 =>
        ref1_Rev r y80 h25 fun y81 h26 =>
        same_Ints r y78 y81 h26 fun y82 h27 =>
        ∀ x95 : Bool, x95 = ((((y53 && y82) && (decide (y56 = y66))) && (y58 == y68)) && (y58 == (decide (0 < (w64 (((l1.len : Int)) + ((m2.len : Int)))))))) →
        R x95 h27)) →
      X18 i17 h9) →
    X18 0 h8)

set_option maxRecDepth 100000 in
theorem law3_FingerEnds_of {r : World} {l1 : Sl} {m2 : Sl} {h : Heap} {R : Bool → Heap → Prop} (H : law3_FingerEnds_F r l1 m2 h R) : law3_FingerEnds r l1 m2 h R := by
  unfold law3_FingerEnds_F at H
  refine calls_of 91 [.tmp 4] Try.func4 rfl rfl rfl rfl rfl ?_
  refine W_seq ?_
  refine W_region (.pu 0 .fin) rfl rfl ?_
  refine s_pu (d := some 4) (v := (.bool false)) rfl rfl rfl (r_assign rfl) ?_
  refine s_fin ?_
  show W _ _ _ _ _ _ _ _
  refine W_seq ?_
  refine W_region (.ef 0 [] (.pu 1 .fin) .no) rfl rfl ?_
  refine s_ef (d := some 17) rfl rfl rfl (fun dr => r_call Try.call12 rfl rfl H) ?_ trivial
  rintro _ h1 ⟨y3, rfl, H⟩
  refine ⟨trivial, ?_⟩
  refine s_pu (d := some 5) (v := (.bool y3)) rfl rfl rfl (r_assign rfl) ?_
  refine s_fin ?_
  show W _ _ _ _ _ _ _ _
  refine W_seq ?_
  refine W_seq ?_
  refine W_region (.pu 0 (.pu 1 .fin)) rfl rfl ?_
  refine s_pu (d := some 18) (v := (.bool y3)) rfl rfl rfl (r_move rfl) ?_
  refine s_pu (d := some 19) (v := (.bool (!y3))) rfl rfl rfl (r_not rfl) ?_
  refine s_fin ?_
  show W _ _ _ _ _ _ _ _
  refine W_if (!y3) rfl (fun g102 => ?_) (fun g102 => ?_)
  · have H := H.1 g102
    refine W_seq ?_
    refine W_region (.pu 0 .fin) rfl rfl ?_
    refine s_pu (d := some 4) (v := (.bool false)) rfl rfl rfl (r_assign rfl) ?_
    refine s_fin ?_
    show W _ _ _ _ _ _ _ _
    refine W_ret ?_
    exact ⟨[(.bool false)], ⟨_, _, rfl, rfl, rfl⟩, false, rfl, H⟩
  · have H := H.2 g102
    refine W_skip ?_
    show W _ _ _ _ _ _ _ _
    refine W_seq ?_
    refine W_region (.pu 0 (.ef 1 [] (.ef 2 [] (.ef 3 [] .fin .no) .no) .no)) rfl rfl ?_
    refine s_pu (d := some 20) (v := (Sl.v l1)) rfl rfl rfl (r_move rfl) ?_
    refine s_ef (d := some 21) rfl rfl rfl (fun dr => r_call Try.call22 rfl rfl H) ?_ trivial
    rintro _ h2 ⟨y4, rfl, H⟩
    refine ⟨trivial, ?_⟩
    obtain ⟨p5, e6⟩ : ∃ p : Addr, p = ⟨h2.size, 0, none⟩ := ⟨_, rfl⟩
    obtain ⟨h3, e7⟩ : ∃ hh : Heap, hh = h2.push (.cells #[(.pointer none)] 26) := ⟨_, rfl⟩
    have H := H p5 h3 e6 e7
    refine s_ef1 (d := some 6) (v := (.pointer (some p5))) (h' := h3) rfl rfl rfl (fun dr => (r_alloc Try.zeroValue26).trans (by rw [e6, e7]; rfl)) trivial ?_ trivial
    obtain ⟨e9, H⟩ := H
    obtain ⟨h4, e8⟩ : ∃ hh : Heap, hh = hsets h3 p5 0 [(.pointer y4)] := ⟨_, rfl⟩
    have H := H h4 e8
    refine s_st (d := none) (h' := h4) rfl rfl rfl (fun dr => (r_store (v := (.agg #[(.pointer y4)])) Try.sizeOf26 rfl rfl rfl (one_all rfl) e9).trans (by rw [e8]; rfl)) trivial ?_ trivial
    refine s_fin ?_
    show W _ _ _ _ _ _ _ _
    refine W_seq ?_
    refine W_region (.pu 0 (.ef 1 [] (.ef 2 [] (.ef 3 [] (.ef 4 [] .fin .no) .no) .no) .no)) rfl rfl ?_
    refine s_pu (d := some 22) (v := (Sl.v l1)) rfl rfl rfl (r_move rfl) ?_
    refine s_ef (d := some 23) rfl rfl rfl (fun dr => r_call Try.call23 rfl rfl H) ?_ trivial
    rintro _ h5 ⟨y10, rfl, H⟩
    refine ⟨trivial, ?_⟩
    refine s_ef (d := some 24) rfl rfl rfl (fun dr => r_call Try.call22 rfl rfl H) ?_ trivial
    rintro _ h6 ⟨y11, rfl, H⟩
    refine ⟨trivial, ?_⟩
    obtain ⟨p12, e13⟩ : ∃ p : Addr, p = ⟨h6.size, 0, none⟩ := ⟨_, rfl⟩
    obtain ⟨h7, e14⟩ : ∃ hh : Heap, hh = h6.push (.cells #[(.pointer none)] 26) := ⟨_, rfl⟩
    have H := H p12 h7 e13 e14
    refine s_ef1 (d := some 7) (v := (.pointer (some p12))) (h' := h7) rfl rfl rfl (fun dr => (r_alloc Try.zeroValue26).trans (by rw [e13, e14]; rfl)) trivial ?_ trivial
    obtain ⟨e16, H⟩ := H
    obtain ⟨h8, e15⟩ : ∃ hh : Heap, hh = hsets h7 p12 0 [(.pointer y11)] := ⟨_, rfl⟩
    have H := H h8 e15
    refine s_st (d := none) (h' := h8) rfl rfl rfl (fun dr => (r_store (v := (.agg #[(.pointer y11)])) Try.sizeOf26 rfl rfl rfl (one_all rfl) e16).trans (by rw [e15]; rfl)) trivial ?_ trivial
    refine s_fin ?_
    show W _ _ _ _ _ _ _ _
    refine W_seq ?_
    refine W_seq ?_
    refine W_region (.pu 0 .fin) rfl rfl ?_
    refine s_pu (d := some 8) (v := (.int .i64 0)) rfl rfl rfl (r_assign rfl) ?_
    refine s_fin ?_
    show W _ _ _ _ _ _ _ _
    refine W_block ?_
    refine W_loop (WL_mk (l := [(0, (Sl.v l1)), (1, (Sl.v m2)), (6, (.pointer (some p5))), (7, (.pointer (some p12))), (8, (.int .i64 0))]) ?_ ⟨rfl, rfl, rfl, rfl, rfl, trivial⟩)
    refine H (fun (i17 : Int) (h9 : Heap) => ∀ b, WL _ _ _ _ _ _ (mkE [(0, (Sl.v l1)), (1, (Sl.v m2)), (6, (.pointer (some p5))), (7, (.pointer (some p12))), (8, (.int .i64 i17))] b) h9) ?_
    intro i17 h9 H b
    refine WL_round ?_
    refine W_seq ?_
    refine W_seq ?_
    refine W_region (.pu 0 (.pu 1 (.pu 2 (.pu 3 .fin)))) rfl rfl ?_
    refine s_pu (d := some 25) (v := (.int .i64 i17)) rfl rfl rfl (r_move rfl) ?_
    refine s_pu (d := some 26) (v := (Sl.v m2)) rfl rfl rfl (r_move rfl) ?_
    refine s_pu (d := some 27) (v := (.int .i64 ((m2.len : Int)))) rfl rfl rfl (r_len Try.underlying22 rfl) ?_
    refine s_pu (d := some 28) (v := (.bool (decide (i17 < ((m2.len : Int)))))) rfl rfl rfl (r_lss rfl rfl) ?_
    refine s_fin ?_
    show W _ _ _ _ _ _ _ _
    refine W_if (decide (i17 < ((m2.len : Int)))) rfl (fun g101 => ?_) (fun g101 => ?_)
    · have H := H.1 g101
      refine W_skip ?_
      show W _ _ _ _ _ _ _ _
      refine W_seq ?_
      refine W_block ?_
      refine W_seq ?_
      refine W_draw [0, 0, 0, 6, 14, 31, 63] (.rd 0 (.pu 1 (.pu 2 (.pu 3 (.rd 4 (.ef 5 [0, 4] (.ef 6 [0, 4] .fin .no) .no)))))) (by kernel_rfl) (by kernel_rfl) ?_
      obtain ⟨x19, e20, H⟩ := H
      refine s_rd (d := some 31) (v := (.agg #[(.pointer x19)])) rfl rfl rfl (fun dr => r_loadN Try.isAgg26 Try.sizeOf26 (vs := [(.pointer x19)]) rfl rfl ⟨e20, trivial⟩) ?_
      refine s_pu (d := some 32) (v := (Sl.v m2)) rfl rfl rfl (r_move rfl) ?_
      refine s_pu (d := some 33) (v := (.int .i64 i17)) rfl rfl rfl (r_move rfl) ?_
      obtain ⟨p21, e22, e23, e24, H⟩ := H
      obtain ⟨q25, e26⟩ : ∃ q : Addr, q = Addr.add p21 (Int.toNat i17 * 1) := ⟨_, rfl⟩
      rw [← e26] at H
      refine s_pu (d := some 34) (v := (.pointer (some q25))) rfl rfl rfl (fun w => (r_indexAddr Try.underlying22 Try.sizeOf3 rfl rfl e22 e23 e24 w).trans (by rw [e26])) ?_
      obtain ⟨x27, e28, H⟩ := H
      refine s_rd (d := some 35) (v := (.int .i64 x27)) rfl rfl rfl (fun dr => r_load1 Try.isAgg3 rfl e28) ?_
      refine s_ef (d := some 36) rfl rfl rfl (fun dr => r_call Try.call14 rfl rfl H) ?_ trivial
      rintro _ h10 ⟨y29, rfl, H⟩
      refine ⟨⟨trivial, trivial, trivial⟩, ?_⟩
      obtain ⟨e31, H⟩ := H
      obtain ⟨h11, e30⟩ : ∃ hh : Heap, hh = hsets h10 p5 0 [(.pointer y29)] := ⟨_, rfl⟩
      have H := H h11 e30
      refine s_st (d := none) (h' := h11) rfl rfl rfl (fun dr => (r_store (v := (.agg #[(.pointer y29)])) Try.sizeOf26 rfl rfl rfl (one_all rfl) e31).trans (by rw [e30]; rfl)) ⟨trivial, trivial, trivial⟩ ?_ trivial
      refine s_fin ?_
      show W _ _ _ _ _ _ _ _
      refine W_draw [0, 0, 0, 6, 14, 31, 63] (.rd 0 (.pu 1 (.pu 2 (.pu 3 (.rd 4 (.ef 5 [0, 4] (.ef 6 [0, 4] .fin .no) .no)))))) (by kernel_rfl) (by kernel_rfl) ?_
      obtain ⟨x32, e33, H⟩ := H
      refine s_rd (d := some 37) (v := (.agg #[(.pointer x32)])) rfl rfl rfl (fun dr => r_loadN Try.isAgg26 Try.sizeOf26 (vs := [(.pointer x32)]) rfl rfl ⟨e33, trivial⟩) ?_
      refine s_pu (d := some 38) (v := (Sl.v m2)) rfl rfl rfl (r_move rfl) ?_
      refine s_pu (d := some 39) (v := (.int .i64 i17)) rfl rfl rfl (r_move rfl) ?_
      obtain ⟨p34, e35, e36, e37, H⟩ := H
      obtain ⟨q38, e39⟩ : ∃ q : Addr, q = Addr.add p34 (Int.toNat i17 * 1) := ⟨_, rfl⟩
      rw [← e39] at H
      refine s_pu (d := some 40) (v := (.pointer (some q38))) rfl rfl rfl (fun w => (r_indexAddr Try.underlying22 Try.sizeOf3 rfl rfl e35 e36 e37 w).trans (by rw [e39])) ?_
      obtain ⟨x40, e41, H⟩ := H
      refine s_rd (d := some 41) (v := (.int .i64 x40)) rfl rfl rfl (fun dr => r_load1 Try.isAgg3 rfl e41) ?_
      refine s_ef (d := some 42) rfl rfl rfl (fun dr => r_call Try.call13 rfl rfl H) ?_ trivial
      rintro _ h12 ⟨y42, rfl, H⟩
      refine ⟨⟨trivial, trivial, trivial⟩, ?_⟩
      obtain ⟨e44, H⟩ := H
      obtain ⟨h13, e43⟩ : ∃ hh : Heap, hh = hsets h12 p12 0 [(.pointer y42)] := ⟨_, rfl⟩
      have H := H h13 e43
      refine s_st (d := none) (h' := h13) rfl rfl rfl (fun dr => (r_store (v := (.agg #[(.pointer y42)])) Try.sizeOf26 rfl rfl rfl (one_all rfl) e44).trans (by rw [e43]; rfl)) ⟨trivial, trivial, trivial⟩ ?_ trivial
      refine s_fin ?_
      show W _ _ _ _ _ _ _ _
      refine W_region (.pu 0 (.pu 1 (.pu 2 .fin))) rfl rfl ?_
      refine s_pu (d := some 29) (v := (.int .i64 i17)) rfl rfl rfl (r_move rfl) ?_
      refine s_pu (d := some 30) (v := (.int .i64 (w64 (i17 + 1)))) rfl rfl rfl (r_add rfl rfl) ?_
      refine s_pu (d := some 8) (v := (.int .i64 (w64 (i17 + 1)))) rfl rfl rfl (r_assign rfl) ?_
      refine s_fin ?_
      exact WL_mk (l := [(0, (Sl.v l1)), (1, (Sl.v m2)), (6, (.pointer (some p5))), (7, (.pointer (some p12))), (8, (.int .i64 (w64 (i17 + 1))))]) H ⟨rfl, rfl, rfl, rfl, rfl, trivial⟩
    · have H := H.2 g101
      refine W_exit (inX_here ?_)
      show W _ _ _ _ _ _ _ _
      refine W_seq ?_
      refine W_draw [0, 1, 0, 7, 15, 31, 63] (.rd 0 (.rd 2 (.ef 1 [0] (.ef 3 [0, 2] (.ef 4 [0, 2] (.ef 5 [0, 2] (.pu 6 .fin) .no) .no) .no) .no))) (by kernel_rfl) (by kernel_rfl) ?_
      obtain ⟨x45, e46, H⟩ := H
      refine s_rd (d := some 43) (v := (.agg #[(.pointer x45)])) rfl rfl rfl (fun dr => r_loadN Try.isAgg26 Try.sizeOf26 (vs := [(.pointer x45)]) rfl rfl ⟨e46, trivial⟩) ?_
      obtain ⟨x47, e48, H⟩ := H
      refine s_rd (d := some 45) (v := (.agg #[(.pointer x47)])) rfl rfl rfl (fun dr => r_loadN Try.isAgg26 Try.sizeOf26 (vs := [(.pointer x47)]) rfl rfl ⟨e48, trivial⟩) ?_
      refine s_ef (d := some 44) rfl rfl rfl (fun dr => r_call Try.call19 rfl rfl H) ?_ trivial
      rintro _ h14 ⟨y49, rfl, H⟩
      obtain ⟨e50, H⟩ := H
      refine ⟨⟨(.inl ⟨rfl, fun dr => r_loadN Try.isAgg26 Try.sizeOf26 (vs := [(.pointer x47)]) rfl rfl ⟨e50, trivial⟩⟩), trivial, trivial⟩, ?_⟩
      refine s_ef (d := some 46) rfl rfl rfl (fun dr => r_call Try.call19 rfl rfl H) ?_ trivial
      rintro _ h15 ⟨y51, rfl, H⟩
      refine ⟨⟨trivial, trivial, trivial⟩, ?_⟩
      refine s_ef (d := some 47) rfl rfl rfl (fun dr => r_call Try.call23 rfl rfl H) ?_ trivial
      rintro _ h16 ⟨y52, rfl, H⟩
      refine ⟨⟨trivial, trivial, trivial⟩, ?_⟩
      refine s_ef (d := some 48) rfl rfl rfl (fun dr => r_call Try.call18 rfl rfl H) ?_ trivial
      rintro _ h17 ⟨y53, rfl, H⟩
      refine ⟨⟨trivial, trivial, trivial⟩, ?_⟩
      refine s_pu (d := some 9) (v := (.bool y53)) rfl rfl rfl (r_assign rfl) ?_
      refine s_fin ?_
      show W _ _ _ _ _ _ _ _
      refine W_seq ?_
      refine W_region (.rl 0 (.ef 1 [] (.pu 2 (.pu 3 (.pu 4 (.pu 5 (.ef 6 [] (.pu 7 (.ef 8 [] (.pu 9 .fin) .no)) .no))))) .no)) rfl rfl ?_
      obtain ⟨x54, e55, H⟩ := H
      refine s_rl (d := some 50) (v := (.agg #[(.pointer x54)])) rfl rfl rfl (fun dr => r_loadN Try.isAgg26 Try.sizeOf26 (vs := [(.pointer x54)]) rfl rfl ⟨e55, trivial⟩) ?_
      refine s_ef (d := some 51) rfl rfl rfl (fun dr => r_call Try.call17 rfl rfl H) ?_ trivial
      rintro _ h18 ⟨y56, y57, y58, rfl, H⟩
      refine ⟨trivial, ?_⟩
      refine s_pu (d := some 49) (v := (.tuple #[(.int .i64 y56), (.agg #[(.pointer y57)]), (.bool y58)])) rfl rfl rfl (r_move rfl) ?_
      refine s_pu (d := some 52) (v := (.int .i64 y56)) rfl rfl rfl (r_extract rfl rfl) ?_
      refine s_pu (d := some 53) (v := (.agg #[(.pointer y57)])) rfl rfl rfl (r_extract rfl rfl) ?_
      refine s_pu (d := some 54) (v := (.bool y58)) rfl rfl rfl (r_extract rfl rfl) ?_
      obtain ⟨p59, e60⟩ : ∃ p : Addr, p = ⟨h18.size, 0, none⟩ := ⟨_, rfl⟩
      obtain ⟨h19, e61⟩ : ∃ hh : Heap, hh = h18.push (.cells #[(.pointer none)] 26) := ⟨_, rfl⟩
      have H := H p59 h19 e60 e61
      refine s_ef1 (d := some 11) (v := (.pointer (some p59))) (h' := h19) rfl rfl rfl (fun dr => (r_alloc Try.zeroValue26).trans (by rw [e60, e61]; rfl)) trivial ?_ trivial
      refine s_pu (d := some 10) (v := (.int .i64 y56)) rfl rfl rfl (r_assign rfl) ?_
      obtain ⟨e63, H⟩ := H
      obtain ⟨h20, e62⟩ : ∃ hh : Heap, hh = hsets h19 p59 0 [(.pointer y57)] := ⟨_, rfl⟩
      have H := H h20 e62
      refine s_st (d := none) (h' := h20) rfl rfl rfl (fun dr => (r_store (v := (.agg #[(.pointer y57)])) Try.sizeOf26 rfl rfl rfl (one_all rfl) e63).trans (by rw [e62]; rfl)) trivial ?_ trivial
      refine s_pu (d := some 12) (v := (.bool y58)) rfl rfl rfl (r_assign rfl) ?_
      refine s_fin ?_
      show W _ _ _ _ _ _ _ _
      refine W_seq ?_
      refine W_region (.rl 0 (.ef 1 [] (.pu 2 (.pu 3 (.pu 4 (.pu 5 (.ef 6 [] (.pu 7 (.ef 8 [] (.pu 9 .fin) .no)) .no))))) .no)) rfl rfl ?_
      obtain ⟨x64, e65, H⟩ := H
      refine s_rl (d := some 56) (v := (.agg #[(.pointer x64)])) rfl rfl rfl (fun dr => r_loadN Try.isAgg26 Try.sizeOf26 (vs := [(.pointer x64)]) rfl rfl ⟨e65, trivial⟩) ?_
      refine s_ef (d := some 57) rfl rfl rfl (fun dr => r_call Try.call16 rfl rfl H) ?_ trivial
      rintro _ h21 ⟨y66, y67, y68, rfl, H⟩
      refine ⟨trivial, ?_⟩
      refine s_pu (d := some 55) (v := (.tuple #[(.int .i64 y66), (.agg #[(.pointer y67)]), (.bool y68)])) rfl rfl rfl (r_move rfl) ?_
      refine s_pu (d := some 58) (v := (.int .i64 y66)) rfl rfl rfl (r_extract rfl rfl) ?_
      refine s_pu (d := some 59) (v := (.agg #[(.pointer y67)])) rfl rfl rfl (r_extract rfl rfl) ?_
      refine s_pu (d := some 60) (v := (.bool y68)) rfl rfl rfl (r_extract rfl rfl) ?_
      obtain ⟨p69, e70⟩ : ∃ p : Addr, p = ⟨h21.size, 0, none⟩ := ⟨_, rfl⟩
      obtain ⟨h22, e71⟩ : ∃ hh : Heap, hh = h21.push (.cells #[(.pointer none)] 26) := ⟨_, rfl⟩
      have H := H p69 h22 e70 e71
      refine s_ef1 (d := some 14) (v := (.pointer (some p69))) (h' := h22) rfl rfl rfl (fun dr => (r_alloc Try.zeroValue26).trans (by rw [e70, e71]; rfl)) trivial ?_ trivial
      refine s_pu (d := some 13) (v := (.int .i64 y66)) rfl rfl rfl (r_assign rfl) ?_
      obtain ⟨e73, H⟩ := H
      obtain ⟨h23, e72⟩ : ∃ hh : Heap, hh = hsets h22 p69 0 [(.pointer y67)] := ⟨_, rfl⟩
      have H := H h23 e72
      refine s_st (d := none) (h' := h23) rfl rfl rfl (fun dr => (r_store (v := (.agg #[(.pointer y67)])) Try.sizeOf26 rfl rfl rfl (one_all rfl) e73).trans (by rw [e72]; rfl)) trivial ?_ trivial
      refine s_pu (d := some 15) (v := (.bool y68)) rfl rfl rfl (r_assign rfl) ?_
      refine s_fin ?_
      show W _ _ _ _ _ _ _ _
      refine W_seq ?_
      refine W_draw [0, 1, 0, 7, 15, 31, 63] (.rd 0 (.rd 2 (.ef 1 [0] (.ef 3 [0, 2] (.ef 4 [0, 2] (.ef 5 [0, 2] (.pu 6 .fin) .no) .no) .no) .no))) (by kernel_rfl) (by kernel_rfl) ?_
      obtain ⟨x74, e75, H⟩ := H
      refine s_rd (d := some 61) (v := (.agg #[(.pointer x74)])) rfl rfl rfl (fun dr => r_loadN Try.isAgg26 Try.sizeOf26 (vs := [(.pointer x74)]) rfl rfl ⟨e75, trivial⟩) ?_
      obtain ⟨x76, e77, H⟩ := H
      refine s_rd (d := some 63) (v := (.agg #[(.pointer x76)])) rfl rfl rfl (fun dr => r_loadN Try.isAgg26 Try.sizeOf26 (vs := [(.pointer x76)]) rfl rfl ⟨e77, trivial⟩) ?_
      refine s_ef (d := some 62) rfl rfl rfl (fun dr => r_call Try.call19 rfl rfl H) ?_ trivial
      rintro _ h24 ⟨y78, rfl, H⟩
      obtain ⟨e79, H⟩ := H
      refine ⟨⟨(.inl ⟨rfl, fun dr => r_loadN Try.isAgg26 Try.sizeOf26 (vs := [(.pointer x76)]) rfl rfl ⟨e79, trivial⟩⟩), trivial, trivial⟩, ?_⟩
      refine s_ef (d := some 64) rfl rfl rfl (fun dr => r_call Try.call19 rfl rfl H) ?_ trivial
      rintro _ h25 ⟨y80, rfl, H⟩
      refine ⟨⟨trivial, trivial, trivial⟩, ?_⟩
      refine s_ef (d := some 65) rfl rfl rfl (fun dr => r_call Try.call23 rfl rfl H) ?_ trivial
      rintro _ h26 ⟨y81, rfl, H⟩
      refine ⟨⟨trivial, trivial, trivial⟩, ?_⟩
      refine s_ef (d := some 66) rfl rfl rfl (fun dr => r_call Try.call18 rfl rfl H) ?_ trivial
      rintro _ h27 ⟨y82, rfl, H⟩
      refine ⟨⟨trivial, trivial, trivial⟩, ?_⟩
      refine s_pu (d := some 16) (v := (.bool y82)) rfl rfl rfl (r_assign rfl) ?_
      refine s_fin ?_
      show W _ _ _ _ _ _ _ _
      refine W_seq ?_
      refine W_region (.pu 0 (.pu 1 (.pu 2 (.pu 3 (.pu 4 (.pu 5 (.pu 6 (.pu 7 (.pu 8 (.pu 9 (.pu 10 (.pu 11 (.pu 12 (.pu 13 (.pu 14 (.pu 15 (.pu 16 (.pu 17 (.pu 18 (.pu 19 (.pu 20 (.pu 21 (.pu 22 (.pu 23 (.pu 24 .fin))))))))))))))))))))))))) rfl rfl ?_
      refine s_pu (d := some 67) (v := (.bool y53)) rfl rfl rfl (r_move rfl) ?_
      refine s_pu (d := some 68) (v := (.bool y53)) rfl rfl rfl (r_move rfl) ?_
      refine S_meet (l := [(0, (Sl.v l1)), (1, (Sl.v m2)), (10, (.int .i64 y56)), (12, (.bool y58)), (13, (.int .i64 y66)), (15, (.bool y68)), (70, (.bool (y53 && y82)))]) (i := 2) ?_ (fun HJ => ?_)
      · intro b
        show S _ _ _ _ _ _
        refine s_pu (d := some 71) (v := (.bool (y53 && y82))) rfl rfl rfl (r_move rfl) ?_
        refine S_meet (l := [(0, (Sl.v l1)), (1, (Sl.v m2)), (12, (.bool y58)), (15, (.bool y68)), (75, (.bool ((y53 && y82) && (decide (y56 = y66)))))]) (i := 4) ?_ (fun HJ => ?_)
        · intro b
          show S _ _ _ _ _ _
          refine s_pu (d := some 76) (v := (.bool ((y53 && y82) && (decide (y56 = y66))))) rfl rfl rfl (r_move rfl) ?_
          refine S_meet (l := [(0, (Sl.v l1)), (1, (Sl.v m2)), (12, (.bool y58)), (80, (.bool (((y53 && y82) && (decide (y56 = y66))) && (y58 == y68))))]) (i := 4) ?_ (fun HJ => ?_)
          · intro b
            show S _ _ _ _ _ _
            refine s_pu (d := some 81) (v := (.bool (((y53 && y82) && (decide (y56 = y66))) && (y58 == y68)))) rfl rfl rfl (r_move rfl) ?_
            refine S_meet (l := [(90, (.bool ((((y53 && y82) && (decide (y56 = y66))) && (y58 == y68)) && (y58 == (decide (0 < (w64 (((l1.len : Int)) + ((m2.len : Int))))))))))]) (i := 9) ?_ (fun HJ => ?_)
            · intro b
              show S _ _ _ _ _ _
              obtain ⟨x95, e96⟩ : ∃ x : Bool, x = ((((y53 && y82) && (decide (y56 = y66))) && (y58 == y68)) && (y58 == (decide (0 < (w64 (((l1.len : Int)) + ((m2.len : Int)))))))) := ⟨_, rfl⟩
              have H := H x95 e96
              refine s_pu (d := some 4) (v := (.bool x95)) rfl rfl rfl (r_assign (congrArg Value.bool e96.symm)) ?_
              refine s_fin ?_
              show W _ _ _ _ _ _ _ _
              refine W_ret ?_
              exact ⟨[(.bool x95)], ⟨_, _, rfl, rfl, rfl⟩, x95, rfl, H⟩
            · rcases Bool.eq_false_or_eq_true (((y53 && y82) && (decide (y56 = y66))) && (y58 == y68)) with g92 | g92
              · refine s_pu (d := some 82) (v := (.bool y58)) rfl rfl (wants_yes rfl rfl rfl rfl g92) (r_move rfl) ?_
                refine s_pu (d := some 83) (v := (Sl.v l1)) rfl rfl (wants_yes rfl rfl rfl rfl g92) (r_move rfl) ?_
                refine s_pu (d := some 84) (v := (.int .i64 ((l1.len : Int)))) rfl rfl (wants_yes rfl rfl rfl rfl g92) (r_len Try.underlying22 rfl) ?_
                refine s_pu (d := some 85) (v := (Sl.v m2)) rfl rfl (wants_yes rfl rfl rfl rfl g92) (r_move rfl) ?_
                refine s_pu (d := some 86) (v := (.int .i64 ((m2.len : Int)))) rfl rfl (wants_yes rfl rfl rfl rfl g92) (r_len Try.underlying22 rfl) ?_
                refine s_pu (d := some 87) (v := (.int .i64 (w64 (((l1.len : Int)) + ((m2.len : Int)))))) rfl rfl (wants_yes rfl rfl rfl rfl g92) (r_add rfl rfl) ?_
                refine s_pu (d := some 88) (v := (.bool (decide (0 < (w64 (((l1.len : Int)) + ((m2.len : Int)))))))) rfl rfl (wants_yes rfl rfl rfl rfl g92) (r_gtr rfl rfl) ?_
                refine s_pu (d := some 89) (v := (.bool (y58 == (decide (0 < (w64 (((l1.len : Int)) + ((m2.len : Int))))))))) rfl rfl (wants_yes rfl rfl rfl rfl g92) (r_eqlB Try.underlying4 rfl rfl) ?_
                refine s_pu (d := some 90) (v := (.bool (y58 == (decide (0 < (w64 (((l1.len : Int)) + ((m2.len : Int))))))))) rfl rfl rfl (r_pick1 rfl g92 rfl) ?_
                exact S_mk (l := [(90, (.bool ((((y53 && y82) && (decide (y56 = y66))) && (y58 == y68)) && (y58 == (decide (0 < (w64 (((l1.len : Int)) + ((m2.len : Int))))))))))]) HJ ⟨(by rw [g92]; rfl), trivial⟩
              · refine s_sk (d := some 82) rfl rfl (wants_no rfl rfl rfl rfl g92) ?_
                refine s_sk (d := some 83) rfl rfl (wants_no rfl rfl rfl rfl g92) ?_
                refine s_sk (d := some 84) rfl rfl (wants_no rfl rfl rfl rfl g92) ?_
                refine s_sk (d := some 85) rfl rfl (wants_no rfl rfl rfl rfl g92) ?_
                refine s_sk (d := some 86) rfl rfl (wants_no rfl rfl rfl rfl g92) ?_
                refine s_sk (d := some 87) rfl rfl (wants_no rfl rfl rfl rfl g92) ?_
                refine s_sk (d := some 88) rfl rfl (wants_no rfl rfl rfl rfl g92) ?_
                refine s_sk (d := some 89) rfl rfl (wants_no rfl rfl rfl rfl g92) ?_
                refine s_pu (d := some 90) (v := (.bool false)) rfl rfl rfl (r_pick0 rfl g92 rfl) ?_
                exact S_mk (l := [(90, (.bool ((((y53 && y82) && (decide (y56 = y66))) && (y58 == y68)) && (y58 == (decide (0 < (w64 (((l1.len : Int)) + ((m2.len : Int))))))))))]) HJ ⟨(by rw [g92]; rfl), trivial⟩
          · rcases Bool.eq_false_or_eq_true ((y53 && y82) && (decide (y56 = y66))) with g89 | g89
            · refine s_pu (d := some 77) (v := (.bool y58)) rfl rfl (wants_yes rfl rfl rfl rfl g89) (r_move rfl) ?_
              refine s_pu (d := some 78) (v := (.bool y68)) rfl rfl (wants_yes rfl rfl rfl rfl g89) (r_move rfl) ?_
              refine s_pu (d := some 79) (v := (.bool (y58 == y68))) rfl rfl (wants_yes rfl rfl rfl rfl g89) (r_eqlB Try.underlying4 rfl rfl) ?_
              refine s_pu (d := some 80) (v := (.bool (y58 == y68))) rfl rfl rfl (r_pick1 rfl g89 rfl) ?_
              exact S_mk (l := [(0, (Sl.v l1)), (1, (Sl.v m2)), (12, (.bool y58)), (80, (.bool (((y53 && y82) && (decide (y56 = y66))) && (y58 == y68))))]) HJ ⟨rfl, rfl, rfl, (by rw [g89]; rfl), trivial⟩
            · refine s_sk (d := some 77) rfl rfl (wants_no rfl rfl rfl rfl g89) ?_
              refine s_sk (d := some 78) rfl rfl (wants_no rfl rfl rfl rfl g89) ?_
              refine s_sk (d := some 79) rfl rfl (wants_no rfl rfl rfl rfl g89) ?_
              refine s_pu (d := some 80) (v := (.bool false)) rfl rfl rfl (r_pick0 rfl g89 rfl) ?_
              exact S_mk (l := [(0, (Sl.v l1)), (1, (Sl.v m2)), (12, (.bool y58)), (80, (.bool (((y53 && y82) && (decide (y56 = y66))) && (y58 == y68))))]) HJ ⟨rfl, rfl, rfl, (by rw [g89]; rfl), trivial⟩
        · rcases Bool.eq_false_or_eq_true (y53 && y82) with g86 | g86
          · refine s_pu (d := some 72) (v := (.int .i64 y56)) rfl rfl (wants_yes rfl rfl rfl rfl g86) (r_move rfl) ?_
            refine s_pu (d := some 73) (v := (.int .i64 y66)) rfl rfl (wants_yes rfl rfl rfl rfl g86) (r_move rfl) ?_
            refine s_pu (d := some 74) (v := (.bool (decide (y56 = y66)))) rfl rfl (wants_yes rfl rfl rfl rfl g86) (r_eql rfl rfl) ?_
            refine s_pu (d := some 75) (v := (.bool (decide (y56 = y66)))) rfl rfl rfl (r_pick1 rfl g86 rfl) ?_
            exact S_mk (l := [(0, (Sl.v l1)), (1, (Sl.v m2)), (12, (.bool y58)), (15, (.bool y68)), (75, (.bool ((y53 && y82) && (decide (y56 = y66)))))]) HJ ⟨rfl, rfl, rfl, rfl, (by rw [g86]; rfl), trivial⟩
          · refine s_sk (d := some 72) rfl rfl (wants_no rfl rfl rfl rfl g86) ?_
            refine s_sk (d := some 73) rfl rfl (wants_no rfl rfl rfl rfl g86) ?_
            refine s_sk (d := some 74) rfl rfl (wants_no rfl rfl rfl rfl g86) ?_
            refine s_pu (d := some 75) (v := (.bool false)) rfl rfl rfl (r_pick0 rfl g86 rfl) ?_
            exact S_mk (l := [(0, (Sl.v l1)), (1, (Sl.v m2)), (12, (.bool y58)), (15, (.bool y68)), (75, (.bool ((y53 && y82) && (decide (y56 = y66)))))]) HJ ⟨rfl, rfl, rfl, rfl, (by rw [g86]; rfl), trivial⟩
      · rcases Bool.eq_false_or_eq_true y53 with g83 | g83
        · refine s_pu (d := some 69) (v := (.bool y82)) rfl rfl (wants_yes rfl rfl rfl rfl g83) (r_move rfl) ?_
          refine s_pu (d := some 70) (v := (.bool y82)) rfl rfl rfl (r_pick1 rfl g83 rfl) ?_
          exact S_mk (l := [(0, (Sl.v l1)), (1, (Sl.v m2)), (10, (.int .i64 y56)), (12, (.bool y58)), (13, (.int .i64 y66)), (15, (.bool y68)), (70, (.bool (y53 && y82)))]) HJ ⟨rfl, rfl, rfl, rfl, rfl, rfl, (by rw [g83]; rfl), trivial⟩
        · refine s_sk (d := some 69) rfl rfl (wants_no rfl rfl rfl rfl g83) ?_
          refine s_pu (d := some 70) (v := (.bool false)) rfl rfl rfl (r_pick0 rfl g83 rfl) ?_
          exact S_mk (l := [(0, (Sl.v l1)), (1, (Sl.v m2)), (10, (.int .i64 y56)), (12, (.bool y58)), (13, (.int .i64 y66)), (15, (.bool y68)), (70, (.bool (y53 && y82)))]) HJ ⟨rfl, rfl, rfl, rfl, rfl, rfl, (by rw [g83]; rfl), trivial⟩

/-! ### law3_FingerSplits -/

def law3_FingerSplits_F (r : World) (l1 : Sl) (n2 : Int) (most3 : Bool) (h : Heap) (R : Bool → Heap → Prop) : Prop :=
  New h (.cells #[(.int .i64 n2)] 3) fun p4 h1 =>
  New h1 (.cells #[(.bool most3)] 4) fun p7 h2 =>
  law3_fingered r h2 fun y10 h3 =>
  Br (!y10) (
    R false h3) (
    finger_Of r l1 h3 fun y11 h4 =>
    New h4 (.cells #[(.pointer none)] 26) fun p12 h5 =>
    St h5 p12 1 [(.pointer y11)] fun h6 =>
    LdP h6 (Addr.add p12 0) fun x17 =>
    finger_Tree_Split r x17 ((.func (.func 24) #[] #[(.pointer (some p7)), (.pointer (some p4))])) h6 fun y19 y20 h7 =>
    New h7 (.cells #[(.pointer none)] 26) fun p21 h8 =>
    New h8 (.cells #[(.pointer none)] 26) fun p24 h9 =>
    St h9 p21 1 [(.pointer y19)] fun h10 =>
    St h10 p24 1 [(.pointer y20)] fun h11 =>
    LdP h11 (Addr.add p21 0) fun x31 =>
    LdP h11 (Addr.add p24 0) fun x33 =>
    finger_Tree_Ints r x31 h11 fun y35 h12 =>
    (hcell h12 (Addr.add p24 0) = some (.pointer x33)) ∧
    finger_Tree_Ints r x33 h12 fun y37 h13 =>
    ref1_Cat r y35 y37 h13 fun y38 h14 =>
    same_Ints r y38 l1 h14 fun y39 h15 =>
    Br (!y39) (
      R false h15) (
      ∀ X41 : Int → Heap → Prop, (∀ (k40 : Int) (h16 : Heap),
        (∀ J43 : Bool → Heap → Prop, (∀ (x42 : Bool) (h17 : Heap),
          (Br x42 (
            X41 (w64 (k40 + 1)) h17) (
            ref1_MeasureOf r Sl.nil h17 fun y45 y46 y47 y48 y49 h18 =>
            CallV Try.prog r ((.func (.func 24) #[] #[(.pointer (some p7)), (.pointer (some p4))])) [(.agg #[(.int .i64 y45), (.int .i64 y46), (.int .i64 y47), (.int .i64 y48), (.int .i64 y49)])] h18 fun v73 h19 => ∃ (y50 : Bool), v73 = (.bool y50) ∧
            ∀ J52 : Int → Prop, (∀ (k51 : Int),
              (∀ J55 : Bool → Heap → Prop, (∀ (x54 : Bool) (h20 : Heap),
                (R x54 h20) →
                J55 x54 h20) →
              LdP h19 (Addr.add p21 0) fun x57 =>
              finger_Tree_Measure r x57 h19 fun y59 y60 y61 y62 y63 h21 =>
              Br (decide (y59 = k51)) (
                LdP h21 (Addr.add p24 0) fun x65 =>
                finger_Tree_Measure r x65 h21 fun y67 y68 y69 y70 y71 h22 =>
                J55 (decide (y67 = (w64 (((l1.len : Int)) - k51)))) h22) (
                J55 false h21)) →
              J52 k51) →
            Br y50 (
              J52 0) (
              J52 k40))) →
          J43 x42 h17) →
        Br (decide (k40 < ((l1.len : Int)))) (
          Sub l1 0 (w64 (k40 + 1)) ((l1.cap : Int)) 1 fun s76 =>
          ref1_MeasureOf r s76 h16 fun y82 y83 y84 y85 y86 h23 =>
          CallV Try.prog r ((.func (.func 24) #[] #[(.pointer (some p7)), (.pointer (some p4))])) [(.agg #[(.int .i64 y82), (.int .i64 y83), (.int .i64 y84), (.int .i64 y85), (.int .i64 y86)])] h23 fun v88 h24 => ∃ (y87 : Bool), v88 = (.bool y87) ∧
          J43 (!y87) h24) (
          J43 false h16)) →
        X41 k40 h16) →
      X41 0 h15))

set_option maxRecDepth 100000 in
theorem law3_FingerSplits_of {r : World} {l1 : Sl} {n2 : Int} {most3 : Bool} {h : Heap} {R : Bool → Heap → Prop} (H : law3_FingerSplits_F r l1 n2 most3 h R) : law3_FingerSplits r l1 n2 most3 h R := by
  unfold law3_FingerSplits_F at H
  refine calls_of 69 [.tmp 6] Try.func5 rfl rfl rfl rfl rfl ?_
  refine W_seq ?_
  refine W_region (.ef 0 [] (.ef 1 [] (.pu 2 .fin) .no) .no) rfl rfl ?_
  obtain ⟨p4, e5⟩ : ∃ p : Addr, p = ⟨h.size, 0, none⟩ := ⟨_, rfl⟩
  obtain ⟨h1, e6⟩ : ∃ hh : Heap, hh = h.push (.cells #[(.int .i64 n2)] 3) := ⟨_, rfl⟩
  have H := H p4 h1 e5 e6
  refine s_ef1 (d := some 4) (v := (.pointer (some p4))) (h' := h1) rfl rfl rfl (fun dr => (r_box (v := (.int .i64 n2)) rfl).trans (by rw [e5, e6]; rfl)) trivial ?_ trivial
  obtain ⟨p7, e8⟩ : ∃ p : Addr, p = ⟨h1.size, 0, none⟩ := ⟨_, rfl⟩
  obtain ⟨h2, e9⟩ : ∃ hh : Heap, hh = h1.push (.cells #[(.bool most3)] 4) := ⟨_, rfl⟩
  have H := H p7 h2 e8 e9
  refine s_ef1 (d := some 5) (v := (.pointer (some p7))) (h' := h2) rfl rfl rfl (fun dr => (r_box (v := (.bool most3)) rfl).trans (by rw [e8, e9]; rfl)) trivial ?_ trivial
  refine s_pu (d := some 6) (v := (.bool false)) rfl rfl rfl (r_assign rfl) ?_
  refine s_fin ?_
  show W _ _ _ _ _ _ _ _
  refine W_seq ?_
  refine W_region (.ef 0 [] (.pu 1 .fin) .no) rfl rfl ?_
  refine s_ef (d := some 14) rfl rfl rfl (fun dr => r_call Try.call12 rfl rfl H) ?_ trivial
  rintro _ h3 ⟨y10, rfl, H⟩
  refine ⟨trivial, ?_⟩
  refine s_pu (d := some 7) (v := (.bool y10)) rfl rfl rfl (r_assign rfl) ?_
  refine s_fin ?_
  show W _ _ _ _ _ _ _ _
  refine W_seq ?_
  refine W_seq ?_
  refine W_region (.pu 0 (.pu 1 .fin)) rfl rfl ?_
  refine s_pu (d := some 15) (v := (.bool y10)) rfl rfl rfl (r_move rfl) ?_
  refine s_pu (d := some 16) (v := (.bool (!y10))) rfl rfl rfl (r_not rfl) ?_
  refine s_fin ?_
  show W _ _ _ _ _ _ _ _
  refine W_if (!y10) rfl (fun g90 => ?_) (fun g90 => ?_)
  · have H := H.1 g90
    refine W_seq ?_
    refine W_region (.pu 0 .fin) rfl rfl ?_
    refine s_pu (d := some 6) (v := (.bool false)) rfl rfl rfl (r_assign rfl) ?_
    refine s_fin ?_
    show W _ _ _ _ _ _ _ _
    refine W_ret ?_
    exact ⟨[(.bool false)], ⟨_, _, rfl, rfl, rfl⟩, false, rfl, H⟩
  · have H := H.2 g90
    refine W_skip ?_
    show W _ _ _ _ _ _ _ _
    refine W_seq ?_
    refine W_region (.pu 0 (.pu 1 .fin)) rfl rfl ?_
    refine s_pu (d := some 17) (v := ((.func (.func 24) #[] #[(.pointer (some p7)), (.pointer (some p4))]))) rfl rfl rfl (r_makeFunc rfl rfl) ?_
    refine s_pu (d := some 8) (v := ((.func (.func 24) #[] #[(.pointer (some p7)), (.pointer (some p4))]))) rfl rfl rfl (r_assign rfl) ?_
    refine s_fin ?_
    show W _ _ _ _ _ _ _ _
    refine W_seq ?_
    refine W_region (.pu 0 (.ef 1 [] (.ef 2 [] (.ef 3 [] .fin .no) .no) .no)) rfl rfl ?_
    refine s_pu (d := some 18) (v := (Sl.v l1)) rfl rfl rfl (r_move rfl) ?_
    refine s_ef (d := some 19) rfl rfl rfl (fun dr => r_call Try.call22 rfl rfl H) ?_ trivial
    rintro _ h4 ⟨y11, rfl, H⟩
    refine ⟨trivial, ?_⟩
    obtain ⟨p12, e13⟩ : ∃ p : Addr, p = ⟨h4.size, 0, none⟩ := ⟨_, rfl⟩
    obtain ⟨h5, e14⟩ : ∃ hh : Heap, hh = h4.push (.cells #[(.pointer none)] 26) := ⟨_, rfl⟩
    have H := H p12 h5 e13 e14
    refine s_ef1 (d := some 9) (v := (.pointer (some p12))) (h' := h5) rfl rfl rfl (fun dr => (r_alloc Try.zeroValue26).trans (by rw [e13, e14]; rfl)) trivial ?_ trivial
    obtain ⟨e16, H⟩ := H
    obtain ⟨h6, e15⟩ : ∃ hh : Heap, hh = hsets h5 p12 0 [(.pointer y11)] := ⟨_, rfl⟩
    have H := H h6 e15
    refine s_st (d := none) (h' := h6) rfl rfl rfl (fun dr => (r_store (v := (.agg #[(.pointer y11)])) Try.sizeOf26 rfl rfl rfl (one_all rfl) e16).trans (by rw [e15]; rfl)) trivial ?_ trivial
    refine s_fin ?_
    show W _ _ _ _ _ _ _ _
    refine W_seq ?_
    refine W_region (.rl 0 (.pu 1 (.ef 2 [] (.pu 3 (.pu 4 (.pu 5 (.ef 6 [] (.ef 7 [] (.ef 8 [] (.ef 9 [] .fin .no) .no) .no) .no)))) .no))) rfl rfl ?_
    obtain ⟨x17, e18, H⟩ := H
    refine s_rl (d := some 21) (v := (.agg #[(.pointer x17)])) rfl rfl rfl (fun dr => r_loadN Try.isAgg26 Try.sizeOf26 (vs := [(.pointer x17)]) rfl rfl ⟨e18, trivial⟩) ?_
    refine s_pu (d := some 22) (v := ((.func (.func 24) #[] #[(.pointer (some p7)), (.pointer (some p4))]))) rfl rfl rfl (r_move rfl) ?_
    refine s_ef (d := some 23) rfl rfl rfl (fun dr => r_call Try.call25 rfl rfl H) ?_ trivial
    rintro _ h7 ⟨y19, y20, rfl, H⟩
    refine ⟨trivial, ?_⟩
    refine s_pu (d := some 20) (v := (.tuple #[(.agg #[(.pointer y19)]), (.agg #[(.pointer y20)])])) rfl rfl rfl (r_move rfl) ?_
    refine s_pu (d := some 24) (v := (.agg #[(.pointer y19)])) rfl rfl rfl (r_extract rfl rfl) ?_
    refine s_pu (d := some 25) (v := (.agg #[(.pointer y20)])) rfl rfl rfl (r_extract rfl rfl) ?_
    obtain ⟨p21, e22⟩ : ∃ p : Addr, p = ⟨h7.size, 0, none⟩ := ⟨_, rfl⟩
    obtain ⟨h8, e23⟩ : ∃ hh : Heap, hh = h7.push (.cells #[(.pointer none)] 26) := ⟨_, rfl⟩
    have H := H p21 h8 e22 e23
    refine s_ef1 (d := some 10) (v := (.pointer (some p21))) (h' := h8) rfl rfl rfl (fun dr => (r_alloc Try.zeroValue26).trans (by rw [e22, e23]; rfl)) trivial ?_ trivial
    obtain ⟨p24, e25⟩ : ∃ p : Addr, p = ⟨h8.size, 0, none⟩ := ⟨_, rfl⟩
    obtain ⟨h9, e26⟩ : ∃ hh : Heap, hh = h8.push (.cells #[(.pointer none)] 26) := ⟨_, rfl⟩
    have H := H p24 h9 e25 e26
    refine s_ef1 (d := some 11) (v := (.pointer (some p24))) (h' := h9) rfl rfl rfl (fun dr => (r_alloc Try.zeroValue26).trans (by rw [e25, e26]; rfl)) trivial ?_ trivial
    obtain ⟨e28, H⟩ := H
    obtain ⟨h10, e27⟩ : ∃ hh : Heap, hh = hsets h9 p21 0 [(.pointer y19)] := ⟨_, rfl⟩
    have H := H h10 e27
    refine s_st (d := none) (h' := h10) rfl rfl rfl (fun dr => (r_store (v := (.agg #[(.pointer y19)])) Try.sizeOf26 rfl rfl rfl (one_all rfl) e28).trans (by rw [e27]; rfl)) trivial ?_ trivial
    obtain ⟨e30, H⟩ := H
    obtain ⟨h11, e29⟩ : ∃ hh : Heap, hh = hsets h10 p24 0 [(.pointer y20)] := ⟨_, rfl⟩
    have H := H h11 e29
    refine s_st (d := none) (h' := h11) rfl rfl rfl (fun dr => (r_store (v := (.agg #[(.pointer y20)])) Try.sizeOf26 rfl rfl rfl (one_all rfl) e30).trans (by rw [e29]; rfl)) trivial ?_ trivial
    refine s_fin ?_
    show W _ _ _ _ _ _ _ _
    refine W_seq ?_
    refine W_draw [0, 1, 0, 7, 15, 0, 63, 127] (.rd 0 (.rd 2 (.pu 5 (.ef 1 [0] (.ef 3 [0, 2] (.ef 4 [0, 2] (.ef 6 [0, 2] (.pu 7 .fin) .no) .no) .no) .no)))) (by kernel_rfl) (by kernel_rfl) ?_
    obtain ⟨x31, e32, H⟩ := H
    refine s_rd (d := some 26) (v := (.agg #[(.pointer x31)])) rfl rfl rfl (fun dr => r_loadN Try.isAgg26 Try.sizeOf26 (vs := [(.pointer x31)]) rfl rfl ⟨e32, trivial⟩) ?_
    obtain ⟨x33, e34, H⟩ := H
    refine s_rd (d := some 28) (v := (.agg #[(.pointer x33)])) rfl rfl rfl (fun dr => r_loadN Try.isAgg26 Try.sizeOf26 (vs := [(.pointer x33)]) rfl rfl ⟨e34, trivial⟩) ?_
    refine s_pu (d := some 31) (v := (Sl.v l1)) rfl rfl rfl (r_move rfl) ?_
    refine s_ef (d := some 27) rfl rfl rfl (fun dr => r_call Try.call19 rfl rfl H) ?_ trivial
    rintro _ h12 ⟨y35, rfl, H⟩
    obtain ⟨e36, H⟩ := H
    refine ⟨⟨(.inl ⟨rfl, fun dr => r_loadN Try.isAgg26 Try.sizeOf26 (vs := [(.pointer x33)]) rfl rfl ⟨e36, trivial⟩⟩), trivial, trivial⟩, ?_⟩
    refine s_ef (d := some 29) rfl rfl rfl (fun dr => r_call Try.call19 rfl rfl H) ?_ trivial
    rintro _ h13 ⟨y37, rfl, H⟩
    refine ⟨⟨trivial, trivial, trivial⟩, ?_⟩
    refine s_ef (d := some 30) rfl rfl rfl (fun dr => r_call Try.call15 rfl rfl H) ?_ trivial
    rintro _ h14 ⟨y38, rfl, H⟩
    refine ⟨⟨trivial, trivial, trivial⟩, ?_⟩
    refine s_ef (d := some 32) rfl rfl rfl (fun dr => r_call Try.call18 rfl rfl H) ?_ trivial
    rintro _ h15 ⟨y39, rfl, H⟩
    refine ⟨⟨trivial, trivial, trivial⟩, ?_⟩
    refine s_pu (d := some 12) (v := (.bool y39)) rfl rfl rfl (r_assign rfl) ?_
    refine s_fin ?_
    show W _ _ _ _ _ _ _ _
    refine W_seq ?_
    refine W_seq ?_
    refine W_region (.pu 0 (.pu 1 .fin)) rfl rfl ?_
    refine s_pu (d := some 33) (v := (.bool y39)) rfl rfl rfl (r_move rfl) ?_
    refine s_pu (d := some 34) (v := (.bool (!y39))) rfl rfl rfl (r_not rfl) ?_
    refine s_fin ?_
    show W _ _ _ _ _ _ _ _
    refine W_if (!y39) rfl (fun g89 => ?_) (fun g89 => ?_)
    · have H := H.1 g89
      refine W_seq ?_
      refine W_region (.pu 0 .fin) rfl rfl ?_
      refine s_pu (d := some 6) (v := (.bool false)) rfl rfl rfl (r_assign rfl) ?_
      refine s_fin ?_
      show W _ _ _ _ _ _ _ _
      refine W_ret ?_
      exact ⟨[(.bool false)], ⟨_, _, rfl, rfl, rfl⟩, false, rfl, H⟩
    · have H := H.2 g89
      refine W_skip ?_
      show W _ _ _ _ _ _ _ _
      refine W_seq ?_
      refine W_region (.pu 0 .fin) rfl rfl ?_
      refine s_pu (d := some 13) (v := (.int .i64 0)) rfl rfl rfl (r_assign rfl) ?_
      refine s_fin ?_
      show W _ _ _ _ _ _ _ _
      refine W_seq ?_
      refine W_block ?_
      refine W_loop (WL_mk (l := [(0, (Sl.v l1)), (8, ((.func (.func 24) #[] #[(.pointer (some p7)), (.pointer (some p4))]))), (10, (.pointer (some p21))), (11, (.pointer (some p24))), (13, (.int .i64 0))]) ?_ ⟨rfl, rfl, rfl, rfl, rfl, trivial⟩)
      refine H (fun (k40 : Int) (h16 : Heap) => ∀ b, WL _ _ _ _ _ _ (mkE [(0, (Sl.v l1)), (8, ((.func (.func 24) #[] #[(.pointer (some p7)), (.pointer (some p4))]))), (10, (.pointer (some p21))), (11, (.pointer (some p24))), (13, (.int .i64 k40))] b) h16) ?_
      intro k40 h16 H b
      refine WL_round ?_
      refine W_seq ?_
      refine W_seq ?_
      refine W_set ?_
      intro N44 eN44
      have H := H (fun (x42 : Bool) (h17 : Heap) => ∀ b, N44 [] (mkE [(0, (Sl.v l1)), (8, ((.func (.func 24) #[] #[(.pointer (some p7)), (.pointer (some p4))]))), (10, (.pointer (some p21))), (11, (.pointer (some p24))), (13, (.int .i64 k40)), (48, (.bool x42))] b) h17) (by
        intro x42 h17 H b
        rw [eN44]
        show W _ _ _ _ _ _ _ _
        refine W_if x42 rfl (fun g74 => ?_) (fun g74 => ?_)
        · have H := H.1 g74
          refine W_skip ?_
          show W _ _ _ _ _ _ _ _
          refine W_block ?_
          refine W_region (.pu 0 (.pu 1 (.pu 2 .fin))) rfl rfl ?_
          refine s_pu (d := some 49) (v := (.int .i64 k40)) rfl rfl rfl (r_move rfl) ?_
          refine s_pu (d := some 50) (v := (.int .i64 (w64 (k40 + 1)))) rfl rfl rfl (r_add rfl rfl) ?_
          refine s_pu (d := some 13) (v := (.int .i64 (w64 (k40 + 1)))) rfl rfl rfl (r_assign rfl) ?_
          refine s_fin ?_
          exact WL_mk (l := [(0, (Sl.v l1)), (8, ((.func (.func 24) #[] #[(.pointer (some p7)), (.pointer (some p4))]))), (10, (.pointer (some p21))), (11, (.pointer (some p24))), (13, (.int .i64 (w64 (k40 + 1))))]) H ⟨rfl, rfl, rfl, rfl, rfl, trivial⟩
        · have H := H.2 g74
          refine W_exit (inX_here ?_)
          show W _ _ _ _ _ _ _ _
          refine W_seq ?_
          refine W_seq ?_
          refine W_region (.pu 0 (.ef 1 [] (.ef 2 [] .fin .no) .no)) rfl rfl ?_
          refine s_pu (d := some 51) (v := ((.func (.func 24) #[] #[(.pointer (some p7)), (.pointer (some p4))]))) rfl rfl rfl (r_move rfl) ?_
          refine s_ef (d := some 52) rfl rfl rfl (fun dr => r_call Try.call21 rfl rfl H) ?_ trivial
          rintro _ h18 ⟨y45, y46, y47, y48, y49, rfl, H⟩
          refine ⟨trivial, ?_⟩
          refine s_ef (d := some 53) rfl rfl rfl (fun dr => r_callV rfl rfl H) ?_ trivial
          rintro _ h19 ⟨y50, rfl, H⟩
          refine ⟨trivial, ?_⟩
          refine s_fin ?_
          show W _ _ _ _ _ _ _ _
          refine W_set ?_
          intro N53 eN53
          have H := H (fun (k51 : Int) => ∀ b, N53 [] (mkE [(0, (Sl.v l1)), (10, (.pointer (some p21))), (11, (.pointer (some p24))), (13, (.int .i64 k51))] b) h19) (by
            intro k51 H b
            rw [eN53]
            show W _ _ _ _ _ _ _ _
            refine W_seq ?_
            refine W_set ?_
            intro N56 eN56
            have H := H (fun (x54 : Bool) (h20 : Heap) => ∀ b, N56 [] (mkE [(6, (.bool x54))] b) h20) (by
              intro x54 h20 H b
              rw [eN56]
              show W _ _ _ _ _ _ _ _
              refine W_ret ?_
              exact ⟨[(.bool x54)], ⟨_, _, rfl, rfl, rfl⟩, x54, rfl, H⟩)
            clear eN56
            refine W_region (.rl 0 (.ef 1 [] (.pu 2 (.pu 3 (.pu 4 (.pu 5 (.rl 6 (.ef 7 [] (.pu 8 (.pu 9 (.pu 10 (.pu 11 (.pu 12 (.pu 13 (.pu 14 (.pu 15 .fin)))))))) .no)))))) .no)) rfl rfl ?_
            obtain ⟨x57, e58, H⟩ := H
            refine s_rl (d := some 54) (v := (.agg #[(.pointer x57)])) rfl rfl rfl (fun dr => r_loadN Try.isAgg26 Try.sizeOf26 (vs := [(.pointer x57)]) rfl rfl ⟨e58, trivial⟩) ?_
            refine s_ef (d := some 55) rfl rfl rfl (fun dr => r_call Try.call20 rfl rfl H) ?_ trivial
            rintro _ h21 ⟨y59, y60, y61, y62, y63, rfl, H⟩
            refine ⟨trivial, ?_⟩
            refine s_pu (d := some 56) (v := (.int .i64 y59)) rfl rfl rfl (fun w => by kernel_rfl) ?_
            refine s_pu (d := some 57) (v := (.int .i64 k51)) rfl rfl rfl (r_move rfl) ?_
            refine s_pu (d := some 58) (v := (.bool (decide (y59 = k51)))) rfl rfl rfl (r_eql rfl rfl) ?_
            refine s_pu (d := some 59) (v := (.bool (decide (y59 = k51)))) rfl rfl rfl (r_move rfl) ?_
            rcases Bool.eq_false_or_eq_true (decide (y59 = k51)) with g64 | g64
            · have H := H.1 g64
              obtain ⟨x65, e66, H⟩ := H
              refine s_rl (d := some 60) (v := (.agg #[(.pointer x65)])) rfl rfl (wants_yes rfl rfl rfl rfl g64) (fun dr => r_loadN Try.isAgg26 Try.sizeOf26 (vs := [(.pointer x65)]) rfl rfl ⟨e66, trivial⟩) ?_
              refine s_ef (d := some 61) rfl rfl (wants_yes rfl rfl rfl rfl g64) (fun dr => r_call Try.call20 rfl rfl H) ?_ trivial
              rintro _ h22 ⟨y67, y68, y69, y70, y71, rfl, H⟩
              refine ⟨trivial, ?_⟩
              refine s_pu (d := some 62) (v := (.int .i64 y67)) rfl rfl (wants_yes rfl rfl rfl rfl g64) (fun w => by kernel_rfl) ?_
              refine s_pu (d := some 63) (v := (Sl.v l1)) rfl rfl (wants_yes rfl rfl rfl rfl g64) (r_move rfl) ?_
              refine s_pu (d := some 64) (v := (.int .i64 ((l1.len : Int)))) rfl rfl (wants_yes rfl rfl rfl rfl g64) (r_len Try.underlying22 rfl) ?_
              refine s_pu (d := some 65) (v := (.int .i64 k51)) rfl rfl (wants_yes rfl rfl rfl rfl g64) (r_move rfl) ?_
              refine s_pu (d := some 66) (v := (.int .i64 (w64 (((l1.len : Int)) - k51)))) rfl rfl (wants_yes rfl rfl rfl rfl g64) (r_sub rfl rfl) ?_
              refine s_pu (d := some 67) (v := (.bool (decide (y67 = (w64 (((l1.len : Int)) - k51)))))) rfl rfl (wants_yes rfl rfl rfl rfl g64) (r_eql rfl rfl) ?_
              refine s_pu (d := some 68) (v := (.bool (decide (y67 = (w64 (((l1.len : Int)) - k51)))))) rfl rfl rfl (r_pick1 rfl g64 rfl) ?_
              refine s_pu (d := some 6) (v := (.bool (decide (y67 = (w64 (((l1.len : Int)) - k51)))))) rfl rfl rfl (r_assign rfl) ?_
              refine s_fin ?_
              exact N_mk (l := [(6, (.bool (decide (y67 = (w64 (((l1.len : Int)) - k51))))))]) H ⟨rfl, trivial⟩
            · have H := H.2 g64
              refine s_skl (d := some 60) rfl rfl (wants_no rfl rfl rfl rfl g64) ?_
              refine s_skf (d := some 61) rfl rfl (wants_no rfl rfl rfl rfl g64) trivial ?_ trivial
              refine s_sk (d := some 62) rfl rfl (wants_no rfl rfl rfl rfl g64) ?_
              refine s_sk (d := some 63) rfl rfl (wants_no rfl rfl rfl rfl g64) ?_
              refine s_sk (d := some 64) rfl rfl (wants_no rfl rfl rfl rfl g64) ?_
              refine s_sk (d := some 65) rfl rfl (wants_no rfl rfl rfl rfl g64) ?_
              refine s_sk (d := some 66) rfl rfl (wants_no rfl rfl rfl rfl g64) ?_
              refine s_sk (d := some 67) rfl rfl (wants_no rfl rfl rfl rfl g64) ?_
              refine s_pu (d := some 68) (v := (.bool false)) rfl rfl rfl (r_pick0 rfl g64 rfl) ?_
              refine s_pu (d := some 6) (v := (.bool false)) rfl rfl rfl (r_assign rfl) ?_
              refine s_fin ?_
              exact N_mk (l := [(6, (.bool false))]) H ⟨rfl, trivial⟩)
          clear eN53
          refine W_if y50 rfl (fun g72 => ?_) (fun g72 => ?_)
          · have H := H.1 g72
            refine W_region (.pu 0 .fin) rfl rfl ?_
            refine s_pu (d := some 13) (v := (.int .i64 0)) rfl rfl rfl (r_assign rfl) ?_
            refine s_fin ?_
            exact N_mk (l := [(0, (Sl.v l1)), (10, (.pointer (some p21))), (11, (.pointer (some p24))), (13, (.int .i64 0))]) H ⟨rfl, rfl, rfl, rfl, trivial⟩
          · have H := H.2 g72
            refine W_skip ?_
            exact N_mk (l := [(0, (Sl.v l1)), (10, (.pointer (some p21))), (11, (.pointer (some p24))), (13, (.int .i64 k40))]) H ⟨rfl, rfl, rfl, rfl, trivial⟩)
      clear eN44
      refine W_region (.pu 0 (.pu 1 (.pu 2 (.pu 3 (.pu 4 (.pu 5 (.pu 6 (.pu 7 (.pu 8 (.pu 9 (.ef 10 [] (.ef 11 [] (.pu 12 (.pu 13 .fin)) .no) .no))))))))))) rfl rfl ?_
      refine s_pu (d := some 35) (v := (.int .i64 k40)) rfl rfl rfl (r_move rfl) ?_
      refine s_pu (d := some 36) (v := (Sl.v l1)) rfl rfl rfl (r_move rfl) ?_
      refine s_pu (d := some 37) (v := (.int .i64 ((l1.len : Int)))) rfl rfl rfl (r_len Try.underlying22 rfl) ?_
      refine s_pu (d := some 38) (v := (.bool (decide (k40 < ((l1.len : Int)))))) rfl rfl rfl (r_lss rfl rfl) ?_
      refine s_pu (d := some 39) (v := (.bool (decide (k40 < ((l1.len : Int)))))) rfl rfl rfl (r_move rfl) ?_
      rcases Bool.eq_false_or_eq_true (decide (k40 < ((l1.len : Int)))) with g75 | g75
      · have H := H.1 g75
        refine s_pu (d := some 40) (v := ((.func (.func 24) #[] #[(.pointer (some p7)), (.pointer (some p4))]))) rfl rfl (wants_yes rfl rfl rfl rfl g75) (r_move rfl) ?_
        refine s_pu (d := some 41) (v := (Sl.v l1)) rfl rfl (wants_yes rfl rfl rfl rfl g75) (r_move rfl) ?_
        refine s_pu (d := some 42) (v := (.int .i64 k40)) rfl rfl (wants_yes rfl rfl rfl rfl g75) (r_move rfl) ?_
        refine s_pu (d := some 43) (v := (.int .i64 (w64 (k40 + 1)))) rfl rfl (wants_yes rfl rfl rfl rfl g75) (r_add rfl rfl) ?_
        obtain ⟨e77, e78, e79, e80, H⟩ := H
        obtain ⟨s76, e81⟩ : ∃ t : Sl, t = ⟨sliceA l1.a (Int.toNat ((l1.cap : Int))) (Int.toNat 0) 1, Int.toNat (w64 (k40 + 1)) - Int.toNat 0, Int.toNat ((l1.cap : Int)) - Int.toNat 0⟩ := ⟨_, rfl⟩
        have H := H s76 e81
        refine s_pu (d := some 44) (v := (Sl.v s76)) rfl rfl (wants_yes rfl rfl rfl rfl g75) (fun w => (r_slice (lo := .none) (hi := (.some (.tmp 43))) (mx := .none) Try.underlying22 Try.sizeOf3 rfl ((l1.cap : Int)) (w64 (k40 + 1)) 0 rfl ⟨_, rfl⟩ rfl e77 e78 (.inr e79) e80 w).trans (by rw [e81]; rfl)) ?_
        refine s_ef (d := some 45) rfl rfl (wants_yes rfl rfl rfl rfl g75) (fun dr => r_call Try.call21 rfl rfl H) ?_ trivial
        rintro _ h23 ⟨y82, y83, y84, y85, y86, rfl, H⟩
        refine ⟨trivial, ?_⟩
        refine s_ef (d := some 46) rfl rfl (wants_yes rfl rfl rfl rfl g75) (fun dr => r_callV rfl rfl H) ?_ trivial
        rintro _ h24 ⟨y87, rfl, H⟩
        refine ⟨trivial, ?_⟩
        refine s_pu (d := some 47) (v := (.bool (!y87))) rfl rfl (wants_yes rfl rfl rfl rfl g75) (r_not rfl) ?_
        refine s_pu (d := some 48) (v := (.bool (!y87))) rfl rfl rfl (r_pick1 rfl g75 rfl) ?_
        refine s_fin ?_
        exact N_mk (l := [(0, (Sl.v l1)), (8, ((.func (.func 24) #[] #[(.pointer (some p7)), (.pointer (some p4))]))), (10, (.pointer (some p21))), (11, (.pointer (some p24))), (13, (.int .i64 k40)), (48, (.bool (!y87)))]) H ⟨rfl, rfl, rfl, rfl, rfl, rfl, trivial⟩
      · have H := H.2 g75
        refine s_sk (d := some 40) rfl rfl (wants_no rfl rfl rfl rfl g75) ?_
        refine s_sk (d := some 41) rfl rfl (wants_no rfl rfl rfl rfl g75) ?_
        refine s_sk (d := some 42) rfl rfl (wants_no rfl rfl rfl rfl g75) ?_
        refine s_sk (d := some 43) rfl rfl (wants_no rfl rfl rfl rfl g75) ?_
        refine s_sk (d := some 44) rfl rfl (wants_no rfl rfl rfl rfl g75) ?_
        refine s_skf (d := some 45) rfl rfl (wants_no rfl rfl rfl rfl g75) trivial ?_ trivial
        refine s_skf (d := some 46) rfl rfl (wants_no rfl rfl rfl rfl g75) trivial ?_ trivial
        refine s_sk (d := some 47) rfl rfl (wants_no rfl rfl rfl rfl g75) ?_
        refine s_pu (d := some 48) (v := (.bool false)) rfl rfl rfl (r_pick0 rfl g75 rfl) ?_
        refine s_fin ?_
        exact N_mk (l := [(0, (Sl.v l1)), (8, ((.func (.func 24) #[] #[(.pointer (some p7)), (.pointer (some p4))]))), (10, (.pointer (some p21))), (11, (.pointer (some p24))), (13, (.int .i64 k40)), (48, (.bool false))]) H ⟨rfl, rfl, rfl, rfl, rfl, rfl, trivial⟩

/-! ### law3_FingerSplits_1 -/

def law3_FingerSplits_1_F (r : World) (m1 : Int) (m2 : Int) (m3 : Int) (m4 : Int) (m5 : Int) (c6 : Addr) (c7 : Addr) (h : Heap) (R : Bool → Heap → Prop) : Prop :=
  New h (.cells #[(.int .i64 m1), (.int .i64 m2), (.int .i64 m3), (.int .i64 m4), (.int .i64 m5)] 34) fun p8 h1 =>
  LdB h1 c6 fun x11 =>
  Br x11 (
    ∀ J14 : Bool → Prop, (∀ (x13 : Bool),
      (R x13 h1) →
      J14 x13) →
    LdI h1 (Addr.add p8 0) fun x16 =>
    Br (decide (0 < x16)) (
      LdI h1 (Addr.add p8 3) fun x19 =>
      LdI h1 c7 fun x21 =>
      J14 (decide (x21 ≤ x19))) (
      J14 false)) (
    LdI h1 (Addr.add p8 0) fun x23 =>
    LdI h1 c7 fun x25 =>
    R (decide (x25 < x23)) h1)

set_option maxRecDepth 100000 in
theorem law3_FingerSplits_1_of {r : World} {m1 : Int} {m2 : Int} {m3 : Int} {m4 : Int} {m5 : Int} {c6 : Addr} {c7 : Addr} {h : Heap} {R : Bool → Heap → Prop} (H : law3_FingerSplits_1_F r m1 m2 m3 m4 m5 c6 c7 h R) : law3_FingerSplits_1 r m1 m2 m3 m4 m5 c6 c7 h R := by
  unfold law3_FingerSplits_1_F at H
  refine calls_of 19 [.tmp 4] Try.func24 rfl rfl rfl rfl rfl ?_
  refine W_seq ?_
  refine W_region (.ef 0 [] (.pu 1 .fin) .no) rfl rfl ?_
  obtain ⟨p8, e9⟩ : ∃ p : Addr, p = ⟨h.size, 0, none⟩ := ⟨_, rfl⟩
  obtain ⟨h1, e10⟩ : ∃ hh : Heap, hh = h.push (.cells #[(.int .i64 m1), (.int .i64 m2), (.int .i64 m3), (.int .i64 m4), (.int .i64 m5)] 34) := ⟨_, rfl⟩
  have H := H p8 h1 e9 e10
  refine s_ef1 (d := some 3) (v := (.pointer (some p8))) (h' := h1) rfl rfl rfl (fun dr => (r_box (v := (.agg #[(.int .i64 m1), (.int .i64 m2), (.int .i64 m3), (.int .i64 m4), (.int .i64 m5)])) rfl).trans (by rw [e9, e10]; rfl)) trivial ?_ trivial
  refine s_pu (d := some 4) (v := (.bool false)) rfl rfl rfl (r_assign rfl) ?_
  refine s_fin ?_
  show W _ _ _ _ _ _ _ _
  refine W_seq ?_
  refine W_seq ?_
  refine W_region (.rl 0 .fin) rfl rfl ?_
  obtain ⟨x11, e12, H⟩ := H
  refine s_rl (d := some 5) (v := (.bool x11)) rfl rfl rfl (fun dr => r_load1 Try.isAgg4 rfl e12) ?_
  refine s_fin ?_
  show W _ _ _ _ _ _ _ _
  refine W_if x11 rfl (fun g27 => ?_) (fun g27 => ?_)
  · have H := H.1 g27
    refine W_seq ?_
    refine W_set ?_
    intro N15 eN15
    have H := H (fun (x13 : Bool) => ∀ b, N15 [] (mkE [(4, (.bool x13))] b) h1) (by
      intro x13 H b
      rw [eN15]
      show W _ _ _ _ _ _ _ _
      refine W_ret ?_
      exact ⟨[(.bool x13)], ⟨_, _, rfl, rfl, rfl⟩, x13, rfl, H⟩)
    clear eN15
    refine W_region (.pu 0 (.rl 1 (.pu 2 (.pu 3 (.pu 4 (.rl 5 (.rl 6 (.pu 7 (.pu 8 (.pu 9 .fin)))))))))) rfl rfl ?_
    refine s_pu (d := some 6) (v := (.pointer (some (Addr.add p8 0)))) rfl rfl rfl (r_fieldAddr Try.underlying34 Try.sizeOf3 rfl rfl rfl) ?_
    obtain ⟨x16, e17, H⟩ := H
    refine s_rl (d := some 7) (v := (.int .i64 x16)) rfl rfl rfl (fun dr => r_load1 Try.isAgg3 rfl e17) ?_
    refine s_pu (d := some 8) (v := (.bool (decide (0 < x16)))) rfl rfl rfl (r_gtr rfl rfl) ?_
    refine s_pu (d := some 9) (v := (.bool (decide (0 < x16)))) rfl rfl rfl (r_move rfl) ?_
    rcases Bool.eq_false_or_eq_true (decide (0 < x16)) with g18 | g18
    · have H := H.1 g18
      refine s_pu (d := some 10) (v := (.pointer (some (Addr.add p8 3)))) rfl rfl (wants_yes rfl rfl rfl rfl g18) (r_fieldAddr Try.underlying34 Try.sizeOf3 rfl rfl rfl) ?_
      obtain ⟨x19, e20, H⟩ := H
      refine s_rl (d := some 11) (v := (.int .i64 x19)) rfl rfl (wants_yes rfl rfl rfl rfl g18) (fun dr => r_load1 Try.isAgg3 rfl e20) ?_
      obtain ⟨x21, e22, H⟩ := H
      refine s_rl (d := some 12) (v := (.int .i64 x21)) rfl rfl (wants_yes rfl rfl rfl rfl g18) (fun dr => r_load1 Try.isAgg3 rfl e22) ?_
      refine s_pu (d := some 13) (v := (.bool (decide (x21 ≤ x19)))) rfl rfl (wants_yes rfl rfl rfl rfl g18) (r_geq rfl rfl) ?_
      refine s_pu (d := some 14) (v := (.bool (decide (x21 ≤ x19)))) rfl rfl rfl (r_pick1 rfl g18 rfl) ?_
      refine s_pu (d := some 4) (v := (.bool (decide (x21 ≤ x19)))) rfl rfl rfl (r_assign rfl) ?_
      refine s_fin ?_
      exact N_mk (l := [(4, (.bool (decide (x21 ≤ x19))))]) H ⟨rfl, trivial⟩
    · have H := H.2 g18
      refine s_sk (d := some 10) rfl rfl (wants_no rfl rfl rfl rfl g18) ?_
      refine s_skl (d := some 11) rfl rfl (wants_no rfl rfl rfl rfl g18) ?_
      refine s_skl (d := some 12) rfl rfl (wants_no rfl rfl rfl rfl g18) ?_
      refine s_sk (d := some 13) rfl rfl (wants_no rfl rfl rfl rfl g18) ?_
      refine s_pu (d := some 14) (v := (.bool false)) rfl rfl rfl (r_pick0 rfl g18 rfl) ?_
      refine s_pu (d := some 4) (v := (.bool false)) rfl rfl rfl (r_assign rfl) ?_
      refine s_fin ?_
      exact N_mk (l := [(4, (.bool false))]) H ⟨rfl, trivial⟩
  · have H := H.2 g27
    refine W_skip ?_
    show W _ _ _ _ _ _ _ _
    refine W_seq ?_
    refine W_region (.pu 0 (.rl 1 (.rl 2 (.pu 3 (.pu 4 .fin))))) rfl rfl ?_
    refine s_pu (d := some 15) (v := (.pointer (some (Addr.add p8 0)))) rfl rfl rfl (r_fieldAddr Try.underlying34 Try.sizeOf3 rfl rfl rfl) ?_
    obtain ⟨x23, e24, H⟩ := H
    refine s_rl (d := some 16) (v := (.int .i64 x23)) rfl rfl rfl (fun dr => r_load1 Try.isAgg3 rfl e24) ?_
    obtain ⟨x25, e26, H⟩ := H
    refine s_rl (d := some 17) (v := (.int .i64 x25)) rfl rfl rfl (fun dr => r_load1 Try.isAgg3 rfl e26) ?_
    refine s_pu (d := some 18) (v := (.bool (decide (x25 < x23)))) rfl rfl rfl (r_gtr rfl rfl) ?_
    refine s_pu (d := some 4) (v := (.bool (decide (x25 < x23)))) rfl rfl rfl (r_assign rfl) ?_
    refine s_fin ?_
    show W _ _ _ _ _ _ _ _
    refine W_ret ?_
    exact ⟨[(.bool (decide (x25 < x23)))], ⟨_, _, rfl, rfl, rfl⟩, (decide (x25 < x23)), rfl, H⟩

/-! ### law3_FingerJoins -/

def law3_FingerJoins_F (r : World) (a1 : Sl) (vb2 : Sl) (c3 : Sl) (h : Heap) (R : Bool → Heap → Prop) : Prop :=
  law3_fingered r h fun y4 h1 =>
  Br (!y4) (
    R false h1) (
    finger_Of r a1 h1 fun y5 h2 =>
    New h2 (.cells #[(.pointer none)] 26) fun p6 h3 =>
    St h3 p6 1 [(.pointer y5)] fun h4 =>
    finger_Of r vb2 h4 fun y11 h5 =>
    New h5 (.cells #[(.pointer none)] 26) fun p12 h6 =>
    St h6 p12 1 [(.pointer y11)] fun h7 =>
    finger_Of r c3 h7 fun y17 h8 =>
    New h8 (.cells #[(.pointer none)] 26) fun p18 h9 =>
    St h9 p18 1 [(.pointer y17)] fun h10 =>
    ∀ J24 : Addr → Heap → Prop, (∀ (p23 : Addr) (h11 : Heap),
      (∀ J27 : Addr → Heap → Prop, (∀ (p26 : Addr) (h12 : Heap),
        (LdP h12 (Addr.add p23 0) fun x29 =>
        finger_Tree_Ints r x29 h12 fun y31 h13 =>
        ref1_Cat r a1 vb2 h13 fun y32 h14 =>
        ref1_Cat r y32 c3 h14 fun y33 h15 =>
        same_Ints r y31 y33 h15 fun y34 h16 =>
        LdP h16 (Addr.add p26 0) fun x35 =>
        LdP h16 (Addr.add p23 0) fun x37 =>
        finger_Tree_Ints r x35 h16 fun y39 h17 =>
        (hcell h17 (Addr.add p23 0) = some (.pointer x37)) ∧
        finger_Tree_Ints r x37 h17 fun y41 h18 =>
        same_Ints r y39 y41 h18 fun y42 h19 =>
        ∀ J44 : Bool → Heap → Prop, (∀ (x43 : Bool) (h20 : Heap),
          (R x43 h20) →
          J44 x43 h20) →
        Br y34 (
          Br y42 (
            LdP h19 (Addr.add p6 0) fun x48 =>
            LdP h19 (Addr.add p12 0) fun x50 =>
            LdP h19 (Addr.add p6 0) fun x52 =>
            LdP h19 (Addr.add p12 0) fun x54 =>
            finger_Tree_Join r x48 x50 h19 fun y56 h21 =>
            (hcell h21 (Addr.add p12 0) = some (.pointer x54)) ∧
            (hcell h21 (Addr.add p6 0) = some (.pointer x52)) ∧
            finger_Tree_Measure r y56 h21 fun y59 y60 y61 y62 y63 h22 =>
            (hcell h22 (Addr.add p12 0) = some (.pointer x54)) ∧
            (hcell h22 (Addr.add p6 0) = some (.pointer x52)) ∧
            finger_Tree_Measure r x52 h22 fun y66 y67 y68 y69 y70 h23 =>
            (hcell h23 (Addr.add p12 0) = some (.pointer x54)) ∧
            finger_Tree_Measure r x54 h23 fun y72 y73 y74 y75 y76 h24 =>
            mono_Join r y66 y67 y68 y69 y70 y72 y73 y74 y75 y76 h24 fun y77 y78 y79 y80 y81 h25 =>
            Br (decide (y59 = y77 ∧ y60 = y78 ∧ y61 = y79 ∧ y62 = y80 ∧ y63 = y81)) (
              LdP h25 (Addr.add p23 0) fun x83 =>
              LdP h25 (Addr.add p26 0) fun x85 =>
              finger_Tree_Measure r x83 h25 fun y87 y88 y89 y90 y91 h26 =>
              (hcell h26 (Addr.add p26 0) = some (.pointer x85)) ∧
              finger_Tree_Measure r x85 h26 fun y93 y94 y95 y96 y97 h27 =>
              ∀ x98 : Bool, x98 = (decide (y87 = y93 ∧ y88 = y94 ∧ y89 = y95 ∧ y90 = y96 ∧ y91 = y97)) →
              J44 x98 h27) (
              J44 false h25)) (
            J44 false h19)) (
          J44 false h19)) →
        J27 p26 h12) →
      LdP h11 (Addr.add p6 0) fun x100 =>
      LdP h11 (Addr.add p12 0) fun x102 =>
      LdP h11 (Addr.add p18 0) fun x104 =>
      (finger_Tree_Join r x102 x104 h11 fun y106 h28 =>
      (hcell h28 (Addr.add p6 0) = some (.pointer x100)) ∧
      (finger_Tree_Join r x100 y106 h28 fun y108 h29 =>
      New h29 (.cells #[(.pointer none)] 26) fun p109 h30 =>
      (hcell h30 (Addr.add p18 0) = some (.pointer x104)) ∧
      (hcell h30 (Addr.add p12 0) = some (.pointer x102)) ∧
      (hcell h30 (Addr.add p6 0) = some (.pointer x100)) ∧
      St h30 p109 1 [(.pointer y108)] fun h31 =>
      J27 p109 h31) ∧
      (New h28 (.cells #[(.pointer none)] 26) fun p117 h32 =>
      (hcell h32 (Addr.add p18 0) = some (.pointer x104)) ∧
      (hcell h32 (Addr.add p12 0) = some (.pointer x102)) ∧
      (hcell h32 (Addr.add p6 0) = some (.pointer x100)) ∧
      finger_Tree_Join r x100 y106 h32 fun y123 h33 =>
      St h33 p117 1 [(.pointer y123)] fun h34 =>
      J27 p117 h34)) ∧
      (New h11 (.cells #[(.pointer none)] 26) fun p126 h35 =>
      (hcell h35 (Addr.add p18 0) = some (.pointer x104)) ∧
      (hcell h35 (Addr.add p12 0) = some (.pointer x102)) ∧
      (hcell h35 (Addr.add p6 0) = some (.pointer x100)) ∧
      finger_Tree_Join r x102 x104 h35 fun y132 h36 =>
      (hcell h36 (Addr.add p6 0) = some (.pointer x100)) ∧
      finger_Tree_Join r x100 y132 h36 fun y134 h37 =>
      St h37 p126 1 [(.pointer y134)] fun h38 =>
      J27 p126 h38)) →
      J24 p23 h11) →
    LdP h10 (Addr.add p6 0) fun x137 =>
    LdP h10 (Addr.add p12 0) fun x139 =>
    LdP h10 (Addr.add p18 0) fun x141 =>
    (finger_Tree_Join r x137 x139 h10 fun y143 h39 =>
    (hcell h39 (Addr.add p18 0) = some (.pointer x141)) ∧
    (finger_Tree_Join r y143 x141 h39 fun y145 h40 =>
    New h40 (.cells #[(.pointer none)] 26) fun p146 h41 =>
    (hcell h41 (Addr.add p18 0) = some (.pointer x141)) ∧
    (hcell h41 (Addr.add p12 0) = some (.pointer x139)) ∧
    (hcell h41 (Addr.add p6 0) = some (.pointer x137)) ∧
    St h41 p146 1 [(.pointer y145)] fun h42 =>
    J24 p146 h42) ∧
    (New h39 (.cells #[(.pointer none)] 26) fun p154 h43 =>
    (hcell h43 (Addr.add p18 0) = some (.pointer x141)) ∧
    (hcell h43 (Addr.add p12 0) = some (.pointer x139)) ∧
    (hcell h43 (Addr.add p6 0) = some (.pointer x137)) ∧
    finger_Tree_Join r y143 x141 h43 fun y160 h44 =>
    St h44 p154 1 [(.pointer y160)] fun h45 =>
    J24 p154 h45)) ∧
    (New h10 (.cells #[(.pointer none)] 26) fun p163 h46 =>
    (hcell h46 (Addr.add p18 0) = some (.pointer x141)) ∧
    (hcell h46 (Addr.add p12 0) = some (.pointer x139)) ∧
    (hcell h46 (Addr.add p6 0) = some (.pointer x137)) ∧
    finger_Tree_Join r x137 x139 h46 fun y169 h47 =>
    (hcell h47 (Addr.add p18 0) = some (.pointer x141)) ∧
    finger_Tree_Join r y169 x141 h47 fun y171 h48 =>
    St h48 p163 1 [(.pointer y171)] fun h49 =>
    J24 p163 h49))

set_option maxRecDepth 100000 in
theorem law3_FingerJoins_of {r : World} {a1 : Sl} {vb2 : Sl} {c3 : Sl} {h : Heap} {R : Bool → Heap → Prop} (H : law3_FingerJoins_F r a1 vb2 c3 h R) : law3_FingerJoins r a1 vb2 c3 h R := by
  unfold law3_FingerJoins_F at H
  refine calls_of 70 [.tmp 6] Try.func6 rfl rfl rfl rfl rfl ?_
  refine W_seq ?_
  refine W_region (.pu 0 .fin) rfl rfl ?_
  refine s_pu (d := some 6) (v := (.bool false)) rfl rfl rfl (r_assign rfl) ?_
  refine s_fin ?_
  show W _ _ _ _ _ _ _ _
  refine W_seq ?_
  refine W_region (.ef 0 [] (.pu 1 .fin) .no) rfl rfl ?_
  refine s_ef (d := some 15) rfl rfl rfl (fun dr => r_call Try.call12 rfl rfl H) ?_ trivial
  rintro _ h1 ⟨y4, rfl, H⟩
  refine ⟨trivial, ?_⟩
  refine s_pu (d := some 7) (v := (.bool y4)) rfl rfl rfl (r_assign rfl) ?_
  refine s_fin ?_
  show W _ _ _ _ _ _ _ _
  refine W_seq ?_
  refine W_seq ?_
  refine W_region (.pu 0 (.pu 1 .fin)) rfl rfl ?_
  refine s_pu (d := some 16) (v := (.bool y4)) rfl rfl rfl (r_move rfl) ?_
  refine s_pu (d := some 17) (v := (.bool (!y4))) rfl rfl rfl (r_not rfl) ?_
  refine s_fin ?_
  show W _ _ _ _ _ _ _ _
  refine W_if (!y4) rfl (fun g174 => ?_) (fun g174 => ?_)
  · have H := H.1 g174
    refine W_seq ?_
    refine W_region (.pu 0 .fin) rfl rfl ?_
    refine s_pu (d := some 6) (v := (.bool false)) rfl rfl rfl (r_assign rfl) ?_
    refine s_fin ?_
    show W _ _ _ _ _ _ _ _
    refine W_ret ?_
    exact ⟨[(.bool false)], ⟨_, _, rfl, rfl, rfl⟩, false, rfl, H⟩
  · have H := H.2 g174
    refine W_skip ?_
    show W _ _ _ _ _ _ _ _
    refine W_seq ?_
    refine W_region (.pu 0 (.ef 1 [] (.ef 2 [] (.ef 3 [] .fin .no) .no) .no)) rfl rfl ?_
    refine s_pu (d := some 18) (v := (Sl.v a1)) rfl rfl rfl (r_move rfl) ?_
    refine s_ef (d := some 19) rfl rfl rfl (fun dr => r_call Try.call22 rfl rfl H) ?_ trivial
    rintro _ h2 ⟨y5, rfl, H⟩
    refine ⟨trivial, ?_⟩
    obtain ⟨p6, e7⟩ : ∃ p : Addr, p = ⟨h2.size, 0, none⟩ := ⟨_, rfl⟩
    obtain ⟨h3, e8⟩ : ∃ hh : Heap, hh = h2.push (.cells #[(.pointer none)] 26) := ⟨_, rfl⟩
    have H := H p6 h3 e7 e8
    refine s_ef1 (d := some 8) (v := (.pointer (some p6))) (h' := h3) rfl rfl rfl (fun dr => (r_alloc Try.zeroValue26).trans (by rw [e7, e8]; rfl)) trivial ?_ trivial
    obtain ⟨e10, H⟩ := H
    obtain ⟨h4, e9⟩ : ∃ hh : Heap, hh = hsets h3 p6 0 [(.pointer y5)] := ⟨_, rfl⟩
    have H := H h4 e9
    refine s_st (d := none) (h' := h4) rfl rfl rfl (fun dr => (r_store (v := (.agg #[(.pointer y5)])) Try.sizeOf26 rfl rfl rfl (one_all rfl) e10).trans (by rw [e9]; rfl)) trivial ?_ trivial
    refine s_fin ?_
    show W _ _ _ _ _ _ _ _
    refine W_seq ?_
    refine W_region (.pu 0 (.ef 1 [] (.ef 2 [] (.ef 3 [] .fin .no) .no) .no)) rfl rfl ?_
    refine s_pu (d := some 20) (v := (Sl.v vb2)) rfl rfl rfl (r_move rfl) ?_
    refine s_ef (d := some 21) rfl rfl rfl (fun dr => r_call Try.call22 rfl rfl H) ?_ trivial
    rintro _ h5 ⟨y11, rfl, H⟩
    refine ⟨trivial, ?_⟩
    obtain ⟨p12, e13⟩ : ∃ p : Addr, p = ⟨h5.size, 0, none⟩ := ⟨_, rfl⟩
    obtain ⟨h6, e14⟩ : ∃ hh : Heap, hh = h5.push (.cells #[(.pointer none)] 26) := ⟨_, rfl⟩
    have H := H p12 h6 e13 e14
    refine s_ef1 (d := some 9) (v := (.pointer (some p12))) (h' := h6) rfl rfl rfl (fun dr => (r_alloc Try.zeroValue26).trans (by rw [e13, e14]; rfl)) trivial ?_ trivial
    obtain ⟨e16, H⟩ := H
    obtain ⟨h7, e15⟩ : ∃ hh : Heap, hh = hsets h6 p12 0 [(.pointer y11)] := ⟨_, rfl⟩
    have H := H h7 e15
    refine s_st (d := none) (h' := h7) rfl rfl rfl (fun dr => (r_store (v := (.agg #[(.pointer y11)])) Try.sizeOf26 rfl rfl rfl (one_all rfl) e16).trans (by rw [e15]; rfl)) trivial ?_ trivial
    refine s_fin ?_
    show W _ _ _ _ _ _ _ _
    refine W_seq ?_
    refine W_region (.pu 0 (.ef 1 [] (.ef 2 [] (.ef 3 [] .fin .no) .no) .no)) rfl rfl ?_
    refine s_pu (d := some 22) (v := (Sl.v c3)) rfl rfl rfl (r_move rfl) ?_
    refine s_ef (d := some 23) rfl rfl rfl (fun dr => r_call Try.call22 rfl rfl H) ?_ trivial
    rintro _ h8 ⟨y17, rfl, H⟩
    refine ⟨trivial, ?_⟩
    obtain ⟨p18, e19⟩ : ∃ p : Addr, p = ⟨h8.size, 0, none⟩ := ⟨_, rfl⟩
    obtain ⟨h9, e20⟩ : ∃ hh : Heap, hh = h8.push (.cells #[(.pointer none)] 26) := ⟨_, rfl⟩
    have H := H p18 h9 e19 e20
    refine s_ef1 (d := some 10) (v := (.pointer (some p18))) (h' := h9) rfl rfl rfl (fun dr => (r_alloc Try.zeroValue26).trans (by rw [e19, e20]; rfl)) trivial ?_ trivial
    obtain ⟨e22, H⟩ := H
    obtain ⟨h10, e21⟩ : ∃ hh : Heap, hh = hsets h9 p18 0 [(.pointer y17)] := ⟨_, rfl⟩
    have H := H h10 e21
    refine s_st (d := none) (h' := h10) rfl rfl rfl (fun dr => (r_store (v := (.agg #[(.pointer y17)])) Try.sizeOf26 rfl rfl rfl (one_all rfl) e22).trans (by rw [e21]; rfl)) trivial ?_ trivial
    refine s_fin ?_
    show W _ _ _ _ _ _ _ _
    refine W_seq ?_
    refine W_set ?_
    intro N25 eN25
    have H := H (fun (p23 : Addr) (h11 : Heap) => ∀ b, N25 [] (mkE [(0, (Sl.v a1)), (1, (Sl.v vb2)), (2, (Sl.v c3)), (8, (.pointer (some p6))), (9, (.pointer (some p12))), (10, (.pointer (some p18))), (11, (.pointer (some p23)))] b) h11) (by
      intro p23 h11 H b
      rw [eN25]
      show W _ _ _ _ _ _ _ _
      refine W_seq ?_
      refine W_set ?_
      intro N28 eN28
      have H := H (fun (p26 : Addr) (h12 : Heap) => ∀ b, N28 [] (mkE [(0, (Sl.v a1)), (1, (Sl.v vb2)), (2, (Sl.v c3)), (8, (.pointer (some p6))), (9, (.pointer (some p12))), (11, (.pointer (some p23))), (12, (.pointer (some p26)))] b) h12) (by
        intro p26 h12 H b
        rw [eN28]
        show W _ _ _ _ _ _ _ _
        refine W_seq ?_
        refine W_region (.rl 0 (.ef 1 [] (.pu 2 (.pu 3 (.ef 4 [] (.pu 5 (.ef 6 [] (.ef 7 [] (.pu 8 .fin) .no) .no)) .no))) .no)) rfl rfl ?_
        obtain ⟨x29, e30, H⟩ := H
        refine s_rl (d := some 34) (v := (.agg #[(.pointer x29)])) rfl rfl rfl (fun dr => r_loadN Try.isAgg26 Try.sizeOf26 (vs := [(.pointer x29)]) rfl rfl ⟨e30, trivial⟩) ?_
        refine s_ef (d := some 35) rfl rfl rfl (fun dr => r_call Try.call19 rfl rfl H) ?_ trivial
        rintro _ h13 ⟨y31, rfl, H⟩
        refine ⟨trivial, ?_⟩
        refine s_pu (d := some 36) (v := (Sl.v a1)) rfl rfl rfl (r_move rfl) ?_
        refine s_pu (d := some 37) (v := (Sl.v vb2)) rfl rfl rfl (r_move rfl) ?_
        refine s_ef (d := some 38) rfl rfl rfl (fun dr => r_call Try.call15 rfl rfl H) ?_ trivial
        rintro _ h14 ⟨y32, rfl, H⟩
        refine ⟨trivial, ?_⟩
        refine s_pu (d := some 39) (v := (Sl.v c3)) rfl rfl rfl (r_move rfl) ?_
        refine s_ef (d := some 40) rfl rfl rfl (fun dr => r_call Try.call15 rfl rfl H) ?_ trivial
        rintro _ h15 ⟨y33, rfl, H⟩
        refine ⟨trivial, ?_⟩
        refine s_ef (d := some 41) rfl rfl rfl (fun dr => r_call Try.call18 rfl rfl H) ?_ trivial
        rintro _ h16 ⟨y34, rfl, H⟩
        refine ⟨trivial, ?_⟩
        refine s_pu (d := some 13) (v := (.bool y34)) rfl rfl rfl (r_assign rfl) ?_
        refine s_fin ?_
        show W _ _ _ _ _ _ _ _
        refine W_seq ?_
        refine W_draw [0, 1, 0, 7, 15, 31] (.rd 0 (.rd 2 (.ef 1 [0] (.ef 3 [0, 2] (.ef 4 [0, 2] (.pu 5 .fin) .no) .no) .no))) (by kernel_rfl) (by kernel_rfl) ?_
        obtain ⟨x35, e36, H⟩ := H
        refine s_rd (d := some 42) (v := (.agg #[(.pointer x35)])) rfl rfl rfl (fun dr => r_loadN Try.isAgg26 Try.sizeOf26 (vs := [(.pointer x35)]) rfl rfl ⟨e36, trivial⟩) ?_
        obtain ⟨x37, e38, H⟩ := H
        refine s_rd (d := some 44) (v := (.agg #[(.pointer x37)])) rfl rfl rfl (fun dr => r_loadN Try.isAgg26 Try.sizeOf26 (vs := [(.pointer x37)]) rfl rfl ⟨e38, trivial⟩) ?_
        refine s_ef (d := some 43) rfl rfl rfl (fun dr => r_call Try.call19 rfl rfl H) ?_ trivial
        rintro _ h17 ⟨y39, rfl, H⟩
        obtain ⟨e40, H⟩ := H
        refine ⟨⟨(.inl ⟨rfl, fun dr => r_loadN Try.isAgg26 Try.sizeOf26 (vs := [(.pointer x37)]) rfl rfl ⟨e40, trivial⟩⟩), trivial, trivial⟩, ?_⟩
        refine s_ef (d := some 45) rfl rfl rfl (fun dr => r_call Try.call19 rfl rfl H) ?_ trivial
        rintro _ h18 ⟨y41, rfl, H⟩
        refine ⟨⟨trivial, trivial, trivial⟩, ?_⟩
        refine s_ef (d := some 46) rfl rfl rfl (fun dr => r_call Try.call18 rfl rfl H) ?_ trivial
        rintro _ h19 ⟨y42, rfl, H⟩
        refine ⟨⟨trivial, trivial, trivial⟩, ?_⟩
        refine s_pu (d := some 14) (v := (.bool y42)) rfl rfl rfl (r_assign rfl) ?_
        refine s_fin ?_
        show W _ _ _ _ _ _ _ _
        refine W_seq ?_
        refine W_set ?_
        intro N45 eN45
        have H := H (fun (x43 : Bool) (h20 : Heap) => ∀ b, N45 [] (mkE [(6, (.bool x43))] b) h20) (by
          intro x43 h20 H b
          rw [eN45]
          show W _ _ _ _ _ _ _ _
          refine W_ret ?_
          exact ⟨[(.bool x43)], ⟨_, _, rfl, rfl, rfl⟩, x43, rfl, H⟩)
        clear eN45
        refine W_draw [0, 1, 3, 7, 15, 31, 31, 127, 255, 31, 1023, 31, 4095, 8191, 16383, 32767, 65535, 131071, 262143, 131071, 1048575, 2097151, 4194303, 8388607] (.pu 0 (.pu 1 (.pu 2 (.pu 3 (.pu 4 (.rd 5 (.rd 6 (.rd 9 (.rd 11 (.ef 7 [5, 6] (.ef 8 [5, 6] (.ef 10 [5, 6, 9] (.ef 12 [5, 6, 9, 11] (.ef 13 [5, 6, 9, 11] (.pu 14 (.pu 15 (.pu 16 (.rd 17 (.rd 19 (.ef 18 [5, 6, 9, 11, 17] (.ef 20 [5, 6, 9, 11, 17, 19] (.pu 21 (.pu 22 (.pu 23 .fin))) .no) .no)))))) .no) .no) .no) .no) .no)))))))))) (by kernel_rfl) (by kernel_rfl) ?_
        refine s_pu (d := some 47) (v := (.bool y34)) rfl rfl rfl (r_move rfl) ?_
        refine s_pu (d := some 48) (v := (.bool y34)) rfl rfl rfl (r_move rfl) ?_
        rcases Bool.eq_false_or_eq_true y34 with g46 | g46
        · have H := H.1 g46
          refine s_pu (d := some 49) (v := (.bool y42)) rfl rfl (wants_yes rfl rfl rfl rfl g46) (r_move rfl) ?_
          refine s_pu (d := some 50) (v := (.bool y42)) rfl rfl rfl (r_pick1 rfl g46 rfl) ?_
          refine s_pu (d := some 51) (v := (.bool y42)) rfl rfl rfl (r_move rfl) ?_
          rcases Bool.eq_false_or_eq_true y42 with g47 | g47
          · have H := H.1 g47
            obtain ⟨x48, e49, H⟩ := H
            refine s_rd (d := some 52) (v := (.agg #[(.pointer x48)])) rfl rfl (wants_yes rfl rfl rfl rfl g47) (fun dr => r_loadN Try.isAgg26 Try.sizeOf26 (vs := [(.pointer x48)]) rfl rfl ⟨e49, trivial⟩) ?_
            obtain ⟨x50, e51, H⟩ := H
            refine s_rd (d := some 53) (v := (.agg #[(.pointer x50)])) rfl rfl (wants_yes rfl rfl rfl rfl g47) (fun dr => r_loadN Try.isAgg26 Try.sizeOf26 (vs := [(.pointer x50)]) rfl rfl ⟨e51, trivial⟩) ?_
            obtain ⟨x52, e53, H⟩ := H
            refine s_rd (d := some 56) (v := (.agg #[(.pointer x52)])) rfl rfl (wants_yes rfl rfl rfl rfl g47) (fun dr => r_loadN Try.isAgg26 Try.sizeOf26 (vs := [(.pointer x52)]) rfl rfl ⟨e53, trivial⟩) ?_
            obtain ⟨x54, e55, H⟩ := H
            refine s_rd (d := some 58) (v := (.agg #[(.pointer x54)])) rfl rfl (wants_yes rfl rfl rfl rfl g47) (fun dr => r_loadN Try.isAgg26 Try.sizeOf26 (vs := [(.pointer x54)]) rfl rfl ⟨e55, trivial⟩) ?_
            refine s_ef (d := some 54) rfl rfl (wants_yes rfl rfl rfl rfl g47) (fun dr => r_call Try.call26 rfl rfl H) ?_ trivial
            rintro _ h21 ⟨y56, rfl, H⟩
            obtain ⟨e57, H⟩ := H
            obtain ⟨e58, H⟩ := H
            refine ⟨⟨(.inl ⟨(wants_yes rfl rfl rfl rfl g47), fun dr => r_loadN Try.isAgg26 Try.sizeOf26 (vs := [(.pointer x54)]) rfl rfl ⟨e57, trivial⟩⟩), (.inl ⟨(wants_yes rfl rfl rfl rfl g47), fun dr => r_loadN Try.isAgg26 Try.sizeOf26 (vs := [(.pointer x52)]) rfl rfl ⟨e58, trivial⟩⟩), trivial, trivial, trivial⟩, ?_⟩
            refine s_ef (d := some 55) rfl rfl (wants_yes rfl rfl rfl rfl g47) (fun dr => r_call Try.call20 rfl rfl H) ?_ trivial
            rintro _ h22 ⟨y59, y60, y61, y62, y63, rfl, H⟩
            obtain ⟨e64, H⟩ := H
            obtain ⟨e65, H⟩ := H
            refine ⟨⟨(.inl ⟨(wants_yes rfl rfl rfl rfl g47), fun dr => r_loadN Try.isAgg26 Try.sizeOf26 (vs := [(.pointer x54)]) rfl rfl ⟨e64, trivial⟩⟩), (.inl ⟨(wants_yes rfl rfl rfl rfl g47), fun dr => r_loadN Try.isAgg26 Try.sizeOf26 (vs := [(.pointer x52)]) rfl rfl ⟨e65, trivial⟩⟩), trivial, trivial, trivial⟩, ?_⟩
            refine s_ef (d := some 57) rfl rfl (wants_yes rfl rfl rfl rfl g47) (fun dr => r_call Try.call20 rfl rfl H) ?_ trivial
            rintro _ h23 ⟨y66, y67, y68, y69, y70, rfl, H⟩
            obtain ⟨e71, H⟩ := H
            refine ⟨⟨(.inl ⟨(wants_yes rfl rfl rfl rfl g47), fun dr => r_loadN Try.isAgg26 Try.sizeOf26 (vs := [(.pointer x54)]) rfl rfl ⟨e71, trivial⟩⟩), trivial, trivial, trivial, trivial⟩, ?_⟩
            refine s_ef (d := some 59) rfl rfl (wants_yes rfl rfl rfl rfl g47) (fun dr => r_call Try.call20 rfl rfl H) ?_ trivial
            rintro _ h24 ⟨y72, y73, y74, y75, y76, rfl, H⟩
            refine ⟨⟨trivial, trivial, trivial, trivial, trivial⟩, ?_⟩
            refine s_ef (d := some 60) rfl rfl (wants_yes rfl rfl rfl rfl g47) (fun dr => r_call Try.call27 rfl rfl H) ?_ trivial
            rintro _ h25 ⟨y77, y78, y79, y80, y81, rfl, H⟩
            refine ⟨⟨trivial, trivial, trivial, trivial, trivial⟩, ?_⟩
            refine s_pu (d := some 61) (v := (.bool (decide (y59 = y77 ∧ y60 = y78 ∧ y61 = y79 ∧ y62 = y80 ∧ y63 = y81)))) rfl rfl (wants_yes rfl rfl rfl rfl g47) (r_eqlAgg_Try34 rfl rfl) ?_
            refine s_pu (d := some 62) (v := (.bool (decide (y59 = y77 ∧ y60 = y78 ∧ y61 = y79 ∧ y62 = y80 ∧ y63 = y81)))) rfl rfl rfl (r_pick1 rfl g47 rfl) ?_
            refine s_pu (d := some 63) (v := (.bool (decide (y59 = y77 ∧ y60 = y78 ∧ y61 = y79 ∧ y62 = y80 ∧ y63 = y81)))) rfl rfl rfl (r_move rfl) ?_
            rcases Bool.eq_false_or_eq_true (decide (y59 = y77 ∧ y60 = y78 ∧ y61 = y79 ∧ y62 = y80 ∧ y63 = y81)) with g82 | g82
            · have H := H.1 g82
              obtain ⟨x83, e84, H⟩ := H
              refine s_rd (d := some 64) (v := (.agg #[(.pointer x83)])) rfl rfl (wants_yes rfl rfl rfl rfl g82) (fun dr => r_loadN Try.isAgg26 Try.sizeOf26 (vs := [(.pointer x83)]) rfl rfl ⟨e84, trivial⟩) ?_
              obtain ⟨x85, e86, H⟩ := H
              refine s_rd (d := some 66) (v := (.agg #[(.pointer x85)])) rfl rfl (wants_yes rfl rfl rfl rfl g82) (fun dr => r_loadN Try.isAgg26 Try.sizeOf26 (vs := [(.pointer x85)]) rfl rfl ⟨e86, trivial⟩) ?_
              refine s_ef (d := some 65) rfl rfl (wants_yes rfl rfl rfl rfl g82) (fun dr => r_call Try.call20 rfl rfl H) ?_ trivial
              rintro _ h26 ⟨y87, y88, y89, y90, y91, rfl, H⟩
              obtain ⟨e92, H⟩ := H
              refine ⟨⟨(.inl ⟨(wants_yes rfl rfl rfl rfl g82), fun dr => r_loadN Try.isAgg26 Try.sizeOf26 (vs := [(.pointer x85)]) rfl rfl ⟨e92, trivial⟩⟩), trivial, trivial, trivial, trivial, trivial, trivial⟩, ?_⟩
              refine s_ef (d := some 67) rfl rfl (wants_yes rfl rfl rfl rfl g82) (fun dr => r_call Try.call20 rfl rfl H) ?_ trivial
              rintro _ h27 ⟨y93, y94, y95, y96, y97, rfl, H⟩
              refine ⟨⟨trivial, trivial, trivial, trivial, trivial, trivial, trivial⟩, ?_⟩
              refine s_pu (d := some 68) (v := (.bool (decide (y87 = y93 ∧ y88 = y94 ∧ y89 = y95 ∧ y90 = y96 ∧ y91 = y97)))) rfl rfl (wants_yes rfl rfl rfl rfl g82) (r_eqlAgg_Try34 rfl rfl) ?_
              refine s_pu (d := some 69) (v := (.bool (decide (y87 = y93 ∧ y88 = y94 ∧ y89 = y95 ∧ y90 = y96 ∧ y91 = y97)))) rfl rfl rfl (r_pick1 rfl g82 rfl) ?_
              obtain ⟨x98, e99⟩ : ∃ x : Bool, x = (decide (y87 = y93 ∧ y88 = y94 ∧ y89 = y95 ∧ y90 = y96 ∧ y91 = y97)) := ⟨_, rfl⟩
              have H := H x98 e99
              refine s_pu (d := some 6) (v := (.bool x98)) rfl rfl rfl (r_assign (congrArg Value.bool e99.symm)) ?_
              refine s_fin ?_
              exact N_mk (l := [(6, (.bool x98))]) H ⟨rfl, trivial⟩
            · have H := H.2 g82
              refine s_skd (d := some 64) rfl rfl (wants_no rfl rfl rfl rfl g82) ?_
              refine s_skd (d := some 66) rfl rfl (wants_no rfl rfl rfl rfl g82) ?_
              refine s_skf (d := some 65) rfl rfl (wants_no rfl rfl rfl rfl g82) ⟨(.inr ⟨wants_no rfl rfl rfl rfl g82, rfl⟩), trivial, trivial, trivial, trivial, trivial, trivial⟩ ?_ trivial
              refine s_skf (d := some 67) rfl rfl (wants_no rfl rfl rfl rfl g82) ⟨trivial, trivial, trivial, trivial, trivial, trivial, trivial⟩ ?_ trivial
              refine s_sk (d := some 68) rfl rfl (wants_no rfl rfl rfl rfl g82) ?_
              refine s_pu (d := some 69) (v := (.bool false)) rfl rfl rfl (r_pick0 rfl g82 rfl) ?_
              refine s_pu (d := some 6) (v := (.bool false)) rfl rfl rfl (r_assign rfl) ?_
              refine s_fin ?_
              exact N_mk (l := [(6, (.bool false))]) H ⟨rfl, trivial⟩
          · have H := H.2 g47
            refine s_skd (d := some 52) rfl rfl (wants_no rfl rfl rfl rfl g47) ?_
            refine s_skd (d := some 53) rfl rfl (wants_no rfl rfl rfl rfl g47) ?_
            refine s_skd (d := some 56) rfl rfl (wants_no rfl rfl rfl rfl g47) ?_
            refine s_skd (d := some 58) rfl rfl (wants_no rfl rfl rfl rfl g47) ?_
            refine s_skf (d := some 54) rfl rfl (wants_no rfl rfl rfl rfl g47) ⟨(.inr ⟨wants_no rfl rfl rfl rfl g47, rfl⟩), (.inr ⟨wants_no rfl rfl rfl rfl g47, rfl⟩), trivial, trivial, trivial⟩ ?_ trivial
            refine s_skf (d := some 55) rfl rfl (wants_no rfl rfl rfl rfl g47) ⟨(.inr ⟨wants_no rfl rfl rfl rfl g47, rfl⟩), (.inr ⟨wants_no rfl rfl rfl rfl g47, rfl⟩), trivial, trivial, trivial⟩ ?_ trivial
            refine s_skf (d := some 57) rfl rfl (wants_no rfl rfl rfl rfl g47) ⟨(.inr ⟨wants_no rfl rfl rfl rfl g47, rfl⟩), trivial, trivial, trivial, trivial⟩ ?_ trivial
            refine s_skf (d := some 59) rfl rfl (wants_no rfl rfl rfl rfl g47) ⟨trivial, trivial, trivial, trivial, trivial⟩ ?_ trivial
            refine s_skf (d := some 60) rfl rfl (wants_no rfl rfl rfl rfl g47) ⟨trivial, trivial, trivial, trivial, trivial⟩ ?_ trivial
            refine s_sk (d := some 61) rfl rfl (wants_no rfl rfl rfl rfl g47) ?_
            refine s_pu (d := some 62) (v := (.bool false)) rfl rfl rfl (r_pick0 rfl g47 rfl) ?_
            refine s_pu (d := some 63) (v := (.bool false)) rfl rfl rfl (r_move rfl) ?_
            refine s_skd (d := some 64) rfl rfl (wants_no rfl rfl rfl rfl rfl) ?_
            refine s_skd (d := some 66) rfl rfl (wants_no rfl rfl rfl rfl rfl) ?_
            refine s_skf (d := some 65) rfl rfl (wants_no rfl rfl rfl rfl rfl) ⟨(.inr ⟨wants_no rfl rfl rfl rfl rfl, rfl⟩), trivial, trivial, trivial, trivial, trivial, trivial⟩ ?_ trivial
            refine s_skf (d := some 67) rfl rfl (wants_no rfl rfl rfl rfl rfl) ⟨trivial, trivial, trivial, trivial, trivial, trivial, trivial⟩ ?_ trivial
            refine s_sk (d := some 68) rfl rfl (wants_no rfl rfl rfl rfl rfl) ?_
            refine s_pu (d := some 69) (v := (.bool false)) rfl rfl rfl (r_pick0 rfl rfl rfl) ?_
            refine s_pu (d := some 6) (v := (.bool false)) rfl rfl rfl (r_assign rfl) ?_
            refine s_fin ?_
            exact N_mk (l := [(6, (.bool false))]) H ⟨rfl, trivial⟩
        · have H := H.2 g46
          refine s_sk (d := some 49) rfl rfl (wants_no rfl rfl rfl rfl g46) ?_
          refine s_pu (d := some 50) (v := (.bool false)) rfl rfl rfl (r_pick0 rfl g46 rfl) ?_
          refine s_pu (d := some 51) (v := (.bool false)) rfl rfl rfl (r_move rfl) ?_
          refine s_skd (d := some 52) rfl rfl (wants_no rfl rfl rfl rfl rfl) ?_
          refine s_skd (d := some 53) rfl rfl (wants_no rfl rfl rfl rfl rfl) ?_
          refine s_skd (d := some 56) rfl rfl (wants_no rfl rfl rfl rfl rfl) ?_
          refine s_skd (d := some 58) rfl rfl (wants_no rfl rfl rfl rfl rfl) ?_
          refine s_skf (d := some 54) rfl rfl (wants_no rfl rfl rfl rfl rfl) ⟨(.inr ⟨wants_no rfl rfl rfl rfl rfl, rfl⟩), (.inr ⟨wants_no rfl rfl rfl rfl rfl, rfl⟩), trivial, trivial, trivial⟩ ?_ trivial
          refine s_skf (d := some 55) rfl rfl (wants_no rfl rfl rfl rfl rfl) ⟨(.inr ⟨wants_no rfl rfl rfl rfl rfl, rfl⟩), (.inr ⟨wants_no rfl rfl rfl rfl rfl, rfl⟩), trivial, trivial, trivial⟩ ?_ trivial
          refine s_skf (d := some 57) rfl rfl (wants_no rfl rfl rfl rfl rfl) ⟨(.inr ⟨wants_no rfl rfl rfl rfl rfl, rfl⟩), trivial, trivial, trivial, trivial⟩ ?_ trivial
          refine s_skf (d := some 59) rfl rfl (wants_no rfl rfl rfl rfl rfl) ⟨trivial, trivial, trivial, trivial, trivial⟩ ?_ trivial
          refine s_skf (d := some 60) rfl rfl (wants_no rfl rfl rfl rfl rfl) ⟨trivial, trivial, trivial, trivial, trivial⟩ ?_ trivial
          refine s_sk (d := some 61) rfl rfl (wants_no rfl rfl rfl rfl rfl) ?_
          refine s_pu (d := some 62) (v := (.bool false)) rfl rfl rfl (r_pick0 rfl rfl rfl) ?_
          refine s_pu (d := some 63) (v := (.bool false)) rfl rfl rfl (r_move rfl) ?_
          refine s_skd (d := some 64) rfl rfl (wants_no rfl rfl rfl rfl rfl) ?_
          refine s_skd (d := some 66) rfl rfl (wants_no rfl rfl rfl rfl rfl) ?_
          refine s_skf (d := some 65) rfl rfl (wants_no rfl rfl rfl rfl rfl) ⟨(.inr ⟨wants_no rfl rfl rfl rfl rfl, rfl⟩), trivial, trivial, trivial, trivial, trivial, trivial⟩ ?_ trivial
          refine s_skf (d := some 67) rfl rfl (wants_no rfl rfl rfl rfl rfl) ⟨trivial, trivial, trivial, trivial, trivial, trivial, trivial⟩ ?_ trivial
          refine s_sk (d := some 68) rfl rfl (wants_no rfl rfl rfl rfl rfl) ?_
          refine s_pu (d := some 69) (v := (.bool false)) rfl rfl rfl (r_pick0 rfl rfl rfl) ?_
          refine s_pu (d := some 6) (v := (.bool false)) rfl rfl rfl (r_assign rfl) ?_
          refine s_fin ?_
          exact N_mk (l := [(6, (.bool false))]) H ⟨rfl, trivial⟩)
      clear eN28
      refine W_draw [0, 0, 0, 6, 15, 0, 63] (.rd 0 (.rd 1 (.rd 2 (.ef 3 [1, 2] (.ef 4 [0, 1, 2] (.ef 5 [] (.ef 6 [0, 1, 2] .fin .no) .no) (.ef 5 [] (.ef 4 [0, 1, 2] (.ef 6 [0, 1, 2] .fin .no) .no) .no)) (.ef 5 [] (.ef 3 [1, 2] (.ef 4 [0, 1, 2] (.ef 6 [0, 1, 2] .fin .no) .no) .no) .no))))) (by kernel_rfl) (by kernel_rfl) ?_
      obtain ⟨x100, e101, H⟩ := H
      refine s_rd (d := some 29) (v := (.agg #[(.pointer x100)])) rfl rfl rfl (fun dr => r_loadN Try.isAgg26 Try.sizeOf26 (vs := [(.pointer x100)]) rfl rfl ⟨e101, trivial⟩) ?_
      obtain ⟨x102, e103, H⟩ := H
      refine s_rd (d := some 30) (v := (.agg #[(.pointer x102)])) rfl rfl rfl (fun dr => r_loadN Try.isAgg26 Try.sizeOf26 (vs := [(.pointer x102)]) rfl rfl ⟨e103, trivial⟩) ?_
      obtain ⟨x104, e105, H⟩ := H
      refine s_rd (d := some 31) (v := (.agg #[(.pointer x104)])) rfl rfl rfl (fun dr => r_loadN Try.isAgg26 Try.sizeOf26 (vs := [(.pointer x104)]) rfl rfl ⟨e105, trivial⟩) ?_
      refine s_or ?_ ?_
      · have H := H.1
        refine s_ef (d := some 32) rfl rfl rfl (fun dr => r_call Try.call26 rfl rfl H) ?_ trivial
        rintro _ h28 ⟨y106, rfl, H⟩
        obtain ⟨e107, H⟩ := H
        refine ⟨⟨trivial, trivial, (.inl ⟨rfl, fun dr => r_loadN Try.isAgg26 Try.sizeOf26 (vs := [(.pointer x100)]) rfl rfl ⟨e107, trivial⟩⟩), trivial⟩, ?_⟩
        refine s_or ?_ ?_
        · have H := H.1
          refine s_ef (d := some 33) rfl rfl rfl (fun dr => r_call Try.call26 rfl rfl H) ?_ trivial
          rintro _ h29 ⟨y108, rfl, H⟩
          refine ⟨⟨trivial, trivial, trivial, trivial⟩, ?_⟩
          obtain ⟨p109, e110⟩ : ∃ p : Addr, p = ⟨h29.size, 0, none⟩ := ⟨_, rfl⟩
          obtain ⟨h30, e111⟩ : ∃ hh : Heap, hh = h29.push (.cells #[(.pointer none)] 26) := ⟨_, rfl⟩
          have H := H p109 h30 e110 e111
          obtain ⟨e112, H⟩ := H
          obtain ⟨e113, H⟩ := H
          obtain ⟨e114, H⟩ := H
          refine s_ef1 (d := some 12) (v := (.pointer (some p109))) (h' := h30) rfl rfl rfl (fun dr => (r_alloc Try.zeroValue26).trans (by rw [e110, e111]; rfl)) ⟨(.inl ⟨rfl, fun dr => r_loadN Try.isAgg26 Try.sizeOf26 (vs := [(.pointer x104)]) rfl rfl ⟨e112, trivial⟩⟩), (.inl ⟨rfl, fun dr => r_loadN Try.isAgg26 Try.sizeOf26 (vs := [(.pointer x102)]) rfl rfl ⟨e113, trivial⟩⟩), (.inl ⟨rfl, fun dr => r_loadN Try.isAgg26 Try.sizeOf26 (vs := [(.pointer x100)]) rfl rfl ⟨e114, trivial⟩⟩), trivial⟩ ?_ trivial
          obtain ⟨e116, H⟩ := H
          obtain ⟨h31, e115⟩ : ∃ hh : Heap, hh = hsets h30 p109 0 [(.pointer y108)] := ⟨_, rfl⟩
          have H := H h31 e115
          refine s_st (d := none) (h' := h31) rfl rfl rfl (fun dr => (r_store (v := (.agg #[(.pointer y108)])) Try.sizeOf26 rfl rfl rfl (one_all rfl) e116).trans (by rw [e115]; rfl)) ⟨trivial, trivial, trivial, trivial⟩ ?_ trivial
          refine s_fin ?_
          exact N_mk (l := [(0, (Sl.v a1)), (1, (Sl.v vb2)), (2, (Sl.v c3)), (8, (.pointer (some p6))), (9, (.pointer (some p12))), (11, (.pointer (some p23))), (12, (.pointer (some p109)))]) H ⟨rfl, rfl, rfl, rfl, rfl, rfl, rfl, trivial⟩
        · have H := H.2
          obtain ⟨p117, e118⟩ : ∃ p : Addr, p = ⟨h28.size, 0, none⟩ := ⟨_, rfl⟩
          obtain ⟨h32, e119⟩ : ∃ hh : Heap, hh = h28.push (.cells #[(.pointer none)] 26) := ⟨_, rfl⟩
          have H := H p117 h32 e118 e119
          obtain ⟨e120, H⟩ := H
          obtain ⟨e121, H⟩ := H
          obtain ⟨e122, H⟩ := H
          refine s_ef1 (d := some 12) (v := (.pointer (some p117))) (h' := h32) rfl rfl rfl (fun dr => (r_alloc Try.zeroValue26).trans (by rw [e118, e119]; rfl)) ⟨(.inl ⟨rfl, fun dr => r_loadN Try.isAgg26 Try.sizeOf26 (vs := [(.pointer x104)]) rfl rfl ⟨e120, trivial⟩⟩), (.inl ⟨rfl, fun dr => r_loadN Try.isAgg26 Try.sizeOf26 (vs := [(.pointer x102)]) rfl rfl ⟨e121, trivial⟩⟩), (.inl ⟨rfl, fun dr => r_loadN Try.isAgg26 Try.sizeOf26 (vs := [(.pointer x100)]) rfl rfl ⟨e122, trivial⟩⟩), trivial⟩ ?_ trivial
          refine s_ef (d := some 33) rfl rfl rfl (fun dr => r_call Try.call26 rfl rfl H) ?_ trivial
          rintro _ h33 ⟨y123, rfl, H⟩
          refine ⟨⟨trivial, trivial, trivial, trivial⟩, ?_⟩
          obtain ⟨e125, H⟩ := H
          obtain ⟨h34, e124⟩ : ∃ hh : Heap, hh = hsets h33 p117 0 [(.pointer y123)] := ⟨_, rfl⟩
          have H := H h34 e124
          refine s_st (d := none) (h' := h34) rfl rfl rfl (fun dr => (r_store (v := (.agg #[(.pointer y123)])) Try.sizeOf26 rfl rfl rfl (one_all rfl) e125).trans (by rw [e124]; rfl)) ⟨trivial, trivial, trivial, trivial⟩ ?_ trivial
          refine s_fin ?_
          exact N_mk (l := [(0, (Sl.v a1)), (1, (Sl.v vb2)), (2, (Sl.v c3)), (8, (.pointer (some p6))), (9, (.pointer (some p12))), (11, (.pointer (some p23))), (12, (.pointer (some p117)))]) H ⟨rfl, rfl, rfl, rfl, rfl, rfl, rfl, trivial⟩
      · have H := H.2
        obtain ⟨p126, e127⟩ : ∃ p : Addr, p = ⟨h11.size, 0, none⟩ := ⟨_, rfl⟩
        obtain ⟨h35, e128⟩ : ∃ hh : Heap, hh = h11.push (.cells #[(.pointer none)] 26) := ⟨_, rfl⟩
        have H := H p126 h35 e127 e128
        obtain ⟨e129, H⟩ := H
        obtain ⟨e130, H⟩ := H
        obtain ⟨e131, H⟩ := H
        refine s_ef1 (d := some 12) (v := (.pointer (some p126))) (h' := h35) rfl rfl rfl (fun dr => (r_alloc Try.zeroValue26).trans (by rw [e127, e128]; rfl)) ⟨(.inl ⟨rfl, fun dr => r_loadN Try.isAgg26 Try.sizeOf26 (vs := [(.pointer x104)]) rfl rfl ⟨e129, trivial⟩⟩), (.inl ⟨rfl, fun dr => r_loadN Try.isAgg26 Try.sizeOf26 (vs := [(.pointer x102)]) rfl rfl ⟨e130, trivial⟩⟩), (.inl ⟨rfl, fun dr => r_loadN Try.isAgg26 Try.sizeOf26 (vs := [(.pointer x100)]) rfl rfl ⟨e131, trivial⟩⟩), trivial⟩ ?_ trivial
        refine s_ef (d := some 32) rfl rfl rfl (fun dr => r_call Try.call26 rfl rfl H) ?_ trivial
        rintro _ h36 ⟨y132, rfl, H⟩
        obtain ⟨e133, H⟩ := H
        refine ⟨⟨trivial, trivial, (.inl ⟨rfl, fun dr => r_loadN Try.isAgg26 Try.sizeOf26 (vs := [(.pointer x100)]) rfl rfl ⟨e133, trivial⟩⟩), trivial⟩, ?_⟩
        refine s_ef (d := some 33) rfl rfl rfl (fun dr => r_call Try.call26 rfl rfl H) ?_ trivial
        rintro _ h37 ⟨y134, rfl, H⟩
        refine ⟨⟨trivial, trivial, trivial, trivial⟩, ?_⟩
        obtain ⟨e136, H⟩ := H
        obtain ⟨h38, e135⟩ : ∃ hh : Heap, hh = hsets h37 p126 0 [(.pointer y134)] := ⟨_, rfl⟩
        have H := H h38 e135
        refine s_st (d := none) (h' := h38) rfl rfl rfl (fun dr => (r_store (v := (.agg #[(.pointer y134)])) Try.sizeOf26 rfl rfl rfl (one_all rfl) e136).trans (by rw [e135]; rfl)) ⟨trivial, trivial, trivial, trivial⟩ ?_ trivial
        refine s_fin ?_
        exact N_mk (l := [(0, (Sl.v a1)), (1, (Sl.v vb2)), (2, (Sl.v c3)), (8, (.pointer (some p6))), (9, (.pointer (some p12))), (11, (.pointer (some p23))), (12, (.pointer (some p126)))]) H ⟨rfl, rfl, rfl, rfl, rfl, rfl, rfl, trivial⟩)
    clear eN25
    refine W_draw [0, 0, 3, 0, 15, 0, 63] (.rd 0 (.rd 1 (.rd 3 (.ef 2 [0, 1] (.ef 4 [0, 1, 3] (.ef 5 [] (.ef 6 [0, 1, 3] .fin .no) .no) (.ef 5 [] (.ef 4 [0, 1, 3] (.ef 6 [0, 1, 3] .fin .no) .no) .no)) (.ef 5 [] (.ef 2 [0, 1] (.ef 4 [0, 1, 3] (.ef 6 [0, 1, 3] .fin .no) .no) .no) .no))))) (by kernel_rfl) (by kernel_rfl) ?_
    obtain ⟨x137, e138, H⟩ := H
    refine s_rd (d := some 24) (v := (.agg #[(.pointer x137)])) rfl rfl rfl (fun dr => r_loadN Try.isAgg26 Try.sizeOf26 (vs := [(.pointer x137)]) rfl rfl ⟨e138, trivial⟩) ?_
    obtain ⟨x139, e140, H⟩ := H
    refine s_rd (d := some 25) (v := (.agg #[(.pointer x139)])) rfl rfl rfl (fun dr => r_loadN Try.isAgg26 Try.sizeOf26 (vs := [(.pointer x139)]) rfl rfl ⟨e140, trivial⟩) ?_
    obtain ⟨x141, e142, H⟩ := H
    refine s_rd (d := some 27) (v := (.agg #[(.pointer x141)])) rfl rfl rfl (fun dr => r_loadN Try.isAgg26 Try.sizeOf26 (vs := [(.pointer x141)]) rfl rfl ⟨e142, trivial⟩) ?_
    refine s_or ?_ ?_
    · have H := H.1
      refine s_ef (d := some 26) rfl rfl rfl (fun dr => r_call Try.call26 rfl rfl H) ?_ trivial
      rintro _ h39 ⟨y143, rfl, H⟩
      obtain ⟨e144, H⟩ := H
      refine ⟨⟨(.inl ⟨rfl, fun dr => r_loadN Try.isAgg26 Try.sizeOf26 (vs := [(.pointer x141)]) rfl rfl ⟨e144, trivial⟩⟩), trivial, trivial, trivial⟩, ?_⟩
      refine s_or ?_ ?_
      · have H := H.1
        refine s_ef (d := some 28) rfl rfl rfl (fun dr => r_call Try.call26 rfl rfl H) ?_ trivial
        rintro _ h40 ⟨y145, rfl, H⟩
        refine ⟨⟨trivial, trivial, trivial, trivial⟩, ?_⟩
        obtain ⟨p146, e147⟩ : ∃ p : Addr, p = ⟨h40.size, 0, none⟩ := ⟨_, rfl⟩
        obtain ⟨h41, e148⟩ : ∃ hh : Heap, hh = h40.push (.cells #[(.pointer none)] 26) := ⟨_, rfl⟩
        have H := H p146 h41 e147 e148
        obtain ⟨e149, H⟩ := H
        obtain ⟨e150, H⟩ := H
        obtain ⟨e151, H⟩ := H
        refine s_ef1 (d := some 11) (v := (.pointer (some p146))) (h' := h41) rfl rfl rfl (fun dr => (r_alloc Try.zeroValue26).trans (by rw [e147, e148]; rfl)) ⟨(.inl ⟨rfl, fun dr => r_loadN Try.isAgg26 Try.sizeOf26 (vs := [(.pointer x141)]) rfl rfl ⟨e149, trivial⟩⟩), (.inl ⟨rfl, fun dr => r_loadN Try.isAgg26 Try.sizeOf26 (vs := [(.pointer x139)]) rfl rfl ⟨e150, trivial⟩⟩), (.inl ⟨rfl, fun dr => r_loadN Try.isAgg26 Try.sizeOf26 (vs := [(.pointer x137)]) rfl rfl ⟨e151, trivial⟩⟩), trivial⟩ ?_ trivial
        obtain ⟨e153, H⟩ := H
        obtain ⟨h42, e152⟩ : ∃ hh : Heap, hh = hsets h41 p146 0 [(.pointer y145)] := ⟨_, rfl⟩
        have H := H h42 e152
        refine s_st (d := none) (h' := h42) rfl rfl rfl (fun dr => (r_store (v := (.agg #[(.pointer y145)])) Try.sizeOf26 rfl rfl rfl (one_all rfl) e153).trans (by rw [e152]; rfl)) ⟨trivial, trivial, trivial, trivial⟩ ?_ trivial
        refine s_fin ?_
        exact N_mk (l := [(0, (Sl.v a1)), (1, (Sl.v vb2)), (2, (Sl.v c3)), (8, (.pointer (some p6))), (9, (.pointer (some p12))), (10, (.pointer (some p18))), (11, (.pointer (some p146)))]) H ⟨rfl, rfl, rfl, rfl, rfl, rfl, rfl, trivial⟩
      · have H := H.2
        obtain ⟨p154, e155⟩ : ∃ p : Addr, p = ⟨h39.size, 0, none⟩ := ⟨_, rfl⟩
        obtain ⟨h43, e156⟩ : ∃ hh : Heap, hh = h39.push (.cells #[(.pointer none)] 26) := ⟨_, rfl⟩
        have H := H p154 h43 e155 e156
        obtain ⟨e157, H⟩ := H
        obtain ⟨e158, H⟩ := H
        obtain ⟨e159, H⟩ := H
        refine s_ef1 (d := some 11) (v := (.pointer (some p154))) (h' := h43) rfl rfl rfl (fun dr => (r_alloc Try.zeroValue26).trans (by rw [e155, e156]; rfl)) ⟨(.inl ⟨rfl, fun dr => r_loadN Try.isAgg26 Try.sizeOf26 (vs := [(.pointer x141)]) rfl rfl ⟨e157, trivial⟩⟩), (.inl ⟨rfl, fun dr => r_loadN Try.isAgg26 Try.sizeOf26 (vs := [(.pointer x139)]) rfl rfl ⟨e158, trivial⟩⟩), (.inl ⟨rfl, fun dr => r_loadN Try.isAgg26 Try.sizeOf26 (vs := [(.pointer x137)]) rfl rfl ⟨e159, trivial⟩⟩), trivial⟩ ?_ trivial
        refine s_ef (d := some 28) rfl rfl rfl (fun dr => r_call Try.call26 rfl rfl H) ?_ trivial
        rintro _ h44 ⟨y160, rfl, H⟩
        refine ⟨⟨trivial, trivial, trivial, trivial⟩, ?_⟩
        obtain ⟨e162, H⟩ := H
        obtain ⟨h45, e161⟩ : ∃ hh : Heap, hh = hsets h44 p154 0 [(.pointer y160)] := ⟨_, rfl⟩
        have H := H h45 e161
        refine s_st (d := none) (h' := h45) rfl rfl rfl (fun dr => (r_store (v := (.agg #[(.pointer y160)])) Try.sizeOf26 rfl rfl rfl (one_all rfl) e162).trans (by rw [e161]; rfl)) ⟨trivial, trivial, trivial, trivial⟩ ?_ trivial
        refine s_fin ?_
        exact N_mk (l := [(0, (Sl.v a1)), (1, (Sl.v vb2)), (2, (Sl.v c3)), (8, (.pointer (some p6))), (9, (.pointer (some p12))), (10, (.pointer (some p18))), (11, (.pointer (some p154)))]) H ⟨rfl, rfl, rfl, rfl, rfl, rfl, rfl, trivial⟩
    · have H := H.2
      obtain ⟨p163, e164⟩ : ∃ p : Addr, p = ⟨h10.size, 0, none⟩ := ⟨_, rfl⟩
      obtain ⟨h46, e165⟩ : ∃ hh : Heap, hh = h10.push (.cells #[(.pointer none)] 26) := ⟨_, rfl⟩
      have H := H p163 h46 e164 e165
      obtain ⟨e166, H⟩ := H
      obtain ⟨e167, H⟩ := H
      obtain ⟨e168, H⟩ := H
      refine s_ef1 (d := some 11) (v := (.pointer (some p163))) (h' := h46) rfl rfl rfl (fun dr => (r_alloc Try.zeroValue26).trans (by rw [e164, e165]; rfl)) ⟨(.inl ⟨rfl, fun dr => r_loadN Try.isAgg26 Try.sizeOf26 (vs := [(.pointer x141)]) rfl rfl ⟨e166, trivial⟩⟩), (.inl ⟨rfl, fun dr => r_loadN Try.isAgg26 Try.sizeOf26 (vs := [(.pointer x139)]) rfl rfl ⟨e167, trivial⟩⟩), (.inl ⟨rfl, fun dr => r_loadN Try.isAgg26 Try.sizeOf26 (vs := [(.pointer x137)]) rfl rfl ⟨e168, trivial⟩⟩), trivial⟩ ?_ trivial
      refine s_ef (d := some 26) rfl rfl rfl (fun dr => r_call Try.call26 rfl rfl H) ?_ trivial
      rintro _ h47 ⟨y169, rfl, H⟩
      obtain ⟨e170, H⟩ := H
      refine ⟨⟨(.inl ⟨rfl, fun dr => r_loadN Try.isAgg26 Try.sizeOf26 (vs := [(.pointer x141)]) rfl rfl ⟨e170, trivial⟩⟩), trivial, trivial, trivial⟩, ?_⟩
      refine s_ef (d := some 28) rfl rfl rfl (fun dr => r_call Try.call26 rfl rfl H) ?_ trivial
      rintro _ h48 ⟨y171, rfl, H⟩
      refine ⟨⟨trivial, trivial, trivial, trivial⟩, ?_⟩
      obtain ⟨e173, H⟩ := H
      obtain ⟨h49, e172⟩ : ∃ hh : Heap, hh = hsets h48 p163 0 [(.pointer y171)] := ⟨_, rfl⟩
      have H := H h49 e172
      refine s_st (d := none) (h' := h49) rfl rfl rfl (fun dr => (r_store (v := (.agg #[(.pointer y171)])) Try.sizeOf26 rfl rfl rfl (one_all rfl) e173).trans (by rw [e172]; rfl)) ⟨trivial, trivial, trivial, trivial⟩ ?_ trivial
      refine s_fin ?_
      exact N_mk (l := [(0, (Sl.v a1)), (1, (Sl.v vb2)), (2, (Sl.v c3)), (8, (.pointer (some p6))), (9, (.pointer (some p12))), (10, (.pointer (some p18))), (11, (.pointer (some p163)))]) H ⟨rfl, rfl, rfl, rfl, rfl, rfl, rfl, trivial⟩

end Go.Proofs.Ytmjljnbjoldeaaa
