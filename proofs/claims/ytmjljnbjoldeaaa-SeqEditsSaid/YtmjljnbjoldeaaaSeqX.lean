/- Typed words of functions, and that they hold: printed by gen.py (an own tool of this claim) off the model's own form of each function. -/
import Derived.Test.YtmjljnbjoldeaaaProg
import Derived.Test.YtmjljnbjoldeaaaSeqs
import Derived.Test.YtmjljnbjoldeaaaEqM
namespace Go.Proofs.Ytmjljnbjoldeaaa
open Go Go.RowKit Go.Tw
set_option linter.unusedVariables false

theorem slFSeqX_22 : SlF Try.prog 22 3 1 8 (.int .i64 0) := ⟨Try.underlying22, ⟨Try.t3, by kernel_rfl, rfl, rfl, rfl⟩, rfl, Try.sizeOf3, Try.zeroValue3⟩

/-! ### the calls -/

abbrev law3_placed (r : World)  (h : Heap) (R : Bool → Heap → Prop) : Prop :=
  CallsH Try.prog r 30 [] h fun v h' => ∃ (y1 : Bool), v = (.bool y1) ∧ R y1 h'

theorem law3_placed.mono {r : World}  {h : Heap} {R R' : Bool → Heap → Prop} (H : law3_placed r  h R) (hr : ∀ y1 h, R y1 h → R' y1 h) : law3_placed r  h R' :=
  CallsH.mono H fun _ _ hx => by
    obtain ⟨y1, hv, hR⟩ := hx
    exact ⟨y1, hv, hr _ _ hR⟩

abbrev law3_SeqMeasures (r : World) (l1 : Sl) (i2 : Int) (j3 : Int) (k4 : Int) (m5 : Sl) (h : Heap) (R : Bool → Heap → Prop) : Prop :=
  CallsH Try.prog r 8 [(Sl.v l1), (.int .i64 i2), (.int .i64 j3), (.int .i64 k4), (Sl.v m5)] h fun v h' => ∃ (y6 : Bool), v = (.bool y6) ∧ R y6 h'

theorem law3_SeqMeasures.mono {r : World} {l1 : Sl} {i2 : Int} {j3 : Int} {k4 : Int} {m5 : Sl} {h : Heap} {R R' : Bool → Heap → Prop} (H : law3_SeqMeasures r l1 i2 j3 k4 m5 h R) (hr : ∀ y6 h, R y6 h → R' y6 h) : law3_SeqMeasures r l1 i2 j3 k4 m5 h R' :=
  CallsH.mono H fun _ _ hx => by
    obtain ⟨y6, hv, hR⟩ := hx
    exact ⟨y6, hv, hr _ _ hR⟩

abbrev law3_SeqSlices (r : World) (l1 : Sl) (i2 : Int) (j3 : Int) (a4 : Int) (vb5 : Int) (h : Heap) (R : Bool → Heap → Prop) : Prop :=
  CallsH Try.prog r 9 [(Sl.v l1), (.int .i64 i2), (.int .i64 j3), (.int .i64 a4), (.int .i64 vb5)] h fun v h' => ∃ (y6 : Bool), v = (.bool y6) ∧ R y6 h'

theorem law3_SeqSlices.mono {r : World} {l1 : Sl} {i2 : Int} {j3 : Int} {a4 : Int} {vb5 : Int} {h : Heap} {R R' : Bool → Heap → Prop} (H : law3_SeqSlices r l1 i2 j3 a4 vb5 h R) (hr : ∀ y6 h, R y6 h → R' y6 h) : law3_SeqSlices r l1 i2 j3 a4 vb5 h R' :=
  CallsH.mono H fun _ _ hx => by
    obtain ⟨y6, hv, hR⟩ := hx
    exact ⟨y6, hv, hr _ _ hR⟩

abbrev law3_SeqEdits (r : World) (l1 : Sl) (i2 : Int) (x3 : Int) (k4 : Int) (h : Heap) (R : Bool → Heap → Prop) : Prop :=
  CallsH Try.prog r 10 [(Sl.v l1), (.int .i64 i2), (.int .i64 x3), (.int .i64 k4)] h fun v h' => ∃ (y5 : Bool), v = (.bool y5) ∧ R y5 h'

theorem law3_SeqEdits.mono {r : World} {l1 : Sl} {i2 : Int} {x3 : Int} {k4 : Int} {h : Heap} {R R' : Bool → Heap → Prop} (H : law3_SeqEdits r l1 i2 x3 k4 h R) (hr : ∀ y5 h, R y5 h → R' y5 h) : law3_SeqEdits r l1 i2 x3 k4 h R' :=
  CallsH.mono H fun _ _ hx => by
    obtain ⟨y5, hv, hR⟩ := hx
    exact ⟨y5, hv, hr _ _ hR⟩

abbrev law3_SeqTells (r : World) (l1 : Sl) (i2 : Int) (j3 : Int) (x4 : Int) (h : Heap) (R : Bool → Heap → Prop) : Prop :=
  CallsH Try.prog r 11 [(Sl.v l1), (.int .i64 i2), (.int .i64 j3), (.int .i64 x4)] h fun v h' => ∃ (y5 : Bool), v = (.bool y5) ∧ R y5 h'

theorem law3_SeqTells.mono {r : World} {l1 : Sl} {i2 : Int} {j3 : Int} {x4 : Int} {h : Heap} {R R' : Bool → Heap → Prop} (H : law3_SeqTells r l1 i2 j3 x4 h R) (hr : ∀ y5 h, R y5 h → R' y5 h) : law3_SeqTells r l1 i2 j3 x4 h R' :=
  CallsH.mono H fun _ _ hx => by
    obtain ⟨y5, hv, hR⟩ := hx
    exact ⟨y5, hv, hr _ _ hR⟩

/-! ### law3_placed -/

def law3_placed_F (r : World)  (h : Heap) (R : Bool → Heap → Prop) : Prop :=
  New h (.cells #[(.int .i64 5), (.int .i64 3)] 3) fun p1 h1 =>
  seq_Of r ((⟨some p1, 2, 2⟩ : Sl)) h1 fun y4 h2 =>
  New h2 (.cells #[(.pointer none)] 52) fun p5 h3 =>
  St h3 p5 1 [(.pointer y4)] fun h4 =>
  LdP h4 (Addr.add p5 0) fun x10 =>
  seq_Seq_At r x10 1 h4 fun y12 y13 h5 =>
  LdP h5 (Addr.add p5 0) fun x14 =>
  seq_Seq_Len r x14 h5 fun y16 h6 =>
  ∀ x23 : Bool, x23 = (((decide (y16 = 2)) && (decide (y12 = 3))) && y13) →
  R x23 h6

set_option maxRecDepth 100000 in
theorem law3_placed_of {r : World}  {h : Heap} {R : Bool → Heap → Prop} (H : law3_placed_F r  h R) : law3_placed r  h R := by
  unfold law3_placed_F at H
  refine calls_of 21 [.tmp 0] Try.func30 rfl rfl rfl rfl rfl ?_
  refine W_seq ?_
  refine W_region (.pu 0 .fin) rfl rfl ?_
  refine s_pu (d := some 0) (v := (.bool false)) rfl rfl rfl (r_assign rfl) ?_
  refine s_fin ?_
  show W _ _ _ _ _ _ _ _
  refine W_seq ?_
  refine W_region (.ef 0 [] (.ef 1 [] (.ef 2 [] (.ef 3 [] .fin .no) .no) .no) .no) rfl rfl ?_
  obtain ⟨p1, e2⟩ : ∃ p : Addr, p = ⟨h.size, 0, none⟩ := ⟨_, rfl⟩
  obtain ⟨h1, e3⟩ : ∃ hh : Heap, hh = h.push (.cells #[(.int .i64 5), (.int .i64 3)] 3) := ⟨_, rfl⟩
  have H := H p1 h1 e2 e3
  refine s_ef1 (d := some 4) (v := (Sl.v ((⟨some p1, 2, 2⟩ : Sl)))) (h' := h1) rfl rfl rfl (fun dr => (slFSeqX_22.build (cells := #[(.int .i64 5), (.int .i64 3)]) (by decide) rfl (by kernel_rfl)).trans (by rw [e2, e3]; rfl)) trivial ?_ trivial
  refine s_ef (d := some 5) rfl rfl rfl (fun dr => r_call Try.call31 rfl rfl H) ?_ trivial
  rintro _ h2 ⟨y4, rfl, H⟩
  refine ⟨trivial, ?_⟩
  obtain ⟨p5, e6⟩ : ∃ p : Addr, p = ⟨h2.size, 0, none⟩ := ⟨_, rfl⟩
  obtain ⟨h3, e7⟩ : ∃ hh : Heap, hh = h2.push (.cells #[(.pointer none)] 52) := ⟨_, rfl⟩
  have H := H p5 h3 e6 e7
  refine s_ef1 (d := some 1) (v := (.pointer (some p5))) (h' := h3) rfl rfl rfl (fun dr => (r_alloc Try.zeroValue52).trans (by rw [e6, e7]; rfl)) trivial ?_ trivial
  obtain ⟨e9, H⟩ := H
  obtain ⟨h4, e8⟩ : ∃ hh : Heap, hh = hsets h3 p5 0 [(.pointer y4)] := ⟨_, rfl⟩
  have H := H h4 e8
  refine s_st (d := none) (h' := h4) rfl rfl rfl (fun dr => (r_store (v := (.agg #[(.pointer y4)])) Try.sizeOf52 rfl rfl rfl (one_all rfl) e9).trans (by rw [e8]; rfl)) trivial ?_ trivial
  refine s_fin ?_
  show W _ _ _ _ _ _ _ _
  refine W_seq ?_
  refine W_region (.rl 0 (.ef 1 [] (.pu 2 (.pu 3 (.pu 4 (.pu 5 (.pu 6 .fin))))) .no)) rfl rfl ?_
  obtain ⟨x10, e11, H⟩ := H
  refine s_rl (d := some 7) (v := (.agg #[(.pointer x10)])) rfl rfl rfl (fun dr => r_loadN Try.isAgg52 Try.sizeOf52 (vs := [(.pointer x10)]) rfl rfl ⟨e11, trivial⟩) ?_
  refine s_ef (d := some 8) rfl rfl rfl (fun dr => r_call Try.call39 rfl rfl H) ?_ trivial
  rintro _ h5 ⟨y12, y13, rfl, H⟩
  refine ⟨trivial, ?_⟩
  refine s_pu (d := some 6) (v := (.tuple #[(.int .i64 y12), (.bool y13)])) rfl rfl rfl (r_move rfl) ?_
  refine s_pu (d := some 9) (v := (.int .i64 y12)) rfl rfl rfl (r_extract rfl rfl) ?_
  refine s_pu (d := some 10) (v := (.bool y13)) rfl rfl rfl (r_extract rfl rfl) ?_
  refine s_pu (d := some 2) (v := (.int .i64 y12)) rfl rfl rfl (r_assign rfl) ?_
  refine s_pu (d := some 3) (v := (.bool y13)) rfl rfl rfl (r_assign rfl) ?_
  refine s_fin ?_
  show W _ _ _ _ _ _ _ _
  refine W_seq ?_
  refine W_region (.rl 0 (.ef 1 [] (.pu 2 (.pu 3 (.pu 4 (.pu 5 (.pu 6 (.pu 7 (.pu 8 (.pu 9 (.pu 10 .fin))))))))) .no)) rfl rfl ?_
  obtain ⟨x14, e15, H⟩ := H
  refine s_rl (d := some 11) (v := (.agg #[(.pointer x14)])) rfl rfl rfl (fun dr => r_loadN Try.isAgg52 Try.sizeOf52 (vs := [(.pointer x14)]) rfl rfl ⟨e15, trivial⟩) ?_
  refine s_ef (d := some 12) rfl rfl rfl (fun dr => r_call Try.call36 rfl rfl H) ?_ trivial
  rintro _ h6 ⟨y16, rfl, H⟩
  refine ⟨trivial, ?_⟩
  refine s_pu (d := some 13) (v := (.bool (decide (y16 = 2)))) rfl rfl rfl (r_eql rfl rfl) ?_
  refine s_pu (d := some 14) (v := (.bool (decide (y16 = 2)))) rfl rfl rfl (r_move rfl) ?_
  refine S_meet (l := [(3, (.bool y13)), (17, (.bool ((decide (y16 = 2)) && (decide (y12 = 3)))))]) (i := 3) ?_ (fun HJ => ?_)
  · intro b
    show S _ _ _ _ _ _
    refine s_pu (d := some 18) (v := (.bool ((decide (y16 = 2)) && (decide (y12 = 3))))) rfl rfl rfl (r_move rfl) ?_
    refine S_meet (l := [(20, (.bool (((decide (y16 = 2)) && (decide (y12 = 3))) && y13)))]) (i := 2) ?_ (fun HJ => ?_)
    · intro b
      show S _ _ _ _ _ _
      obtain ⟨x23, e24⟩ : ∃ x : Bool, x = (((decide (y16 = 2)) && (decide (y12 = 3))) && y13) := ⟨_, rfl⟩
      have H := H x23 e24
      refine s_pu (d := some 0) (v := (.bool x23)) rfl rfl rfl (r_assign (congrArg Value.bool e24.symm)) ?_
      refine s_fin ?_
      show W _ _ _ _ _ _ _ _
      refine W_ret ?_
      exact ⟨[(.bool x23)], ⟨_, _, rfl, rfl, rfl⟩, x23, rfl, H⟩
    · rcases Bool.eq_false_or_eq_true ((decide (y16 = 2)) && (decide (y12 = 3))) with g20 | g20
      · refine s_pu (d := some 19) (v := (.bool y13)) rfl rfl (wants_yes rfl rfl rfl rfl g20) (r_move rfl) ?_
        refine s_pu (d := some 20) (v := (.bool y13)) rfl rfl rfl (r_pick1 rfl g20 rfl) ?_
        exact S_mk (l := [(20, (.bool (((decide (y16 = 2)) && (decide (y12 = 3))) && y13)))]) HJ ⟨(by rw [g20]; rfl), trivial⟩
      · refine s_sk (d := some 19) rfl rfl (wants_no rfl rfl rfl rfl g20) ?_
        refine s_pu (d := some 20) (v := (.bool false)) rfl rfl rfl (r_pick0 rfl g20 rfl) ?_
        exact S_mk (l := [(20, (.bool (((decide (y16 = 2)) && (decide (y12 = 3))) && y13)))]) HJ ⟨(by rw [g20]; rfl), trivial⟩
  · rcases Bool.eq_false_or_eq_true (decide (y16 = 2)) with g17 | g17
    · refine s_pu (d := some 15) (v := (.int .i64 y12)) rfl rfl (wants_yes rfl rfl rfl rfl g17) (r_move rfl) ?_
      refine s_pu (d := some 16) (v := (.bool (decide (y12 = 3)))) rfl rfl (wants_yes rfl rfl rfl rfl g17) (r_eql rfl rfl) ?_
      refine s_pu (d := some 17) (v := (.bool (decide (y12 = 3)))) rfl rfl rfl (r_pick1 rfl g17 rfl) ?_
      exact S_mk (l := [(3, (.bool y13)), (17, (.bool ((decide (y16 = 2)) && (decide (y12 = 3)))))]) HJ ⟨rfl, (by rw [g17]; rfl), trivial⟩
    · refine s_sk (d := some 15) rfl rfl (wants_no rfl rfl rfl rfl g17) ?_
      refine s_sk (d := some 16) rfl rfl (wants_no rfl rfl rfl rfl g17) ?_
      refine s_pu (d := some 17) (v := (.bool false)) rfl rfl rfl (r_pick0 rfl g17 rfl) ?_
      exact S_mk (l := [(3, (.bool y13)), (17, (.bool ((decide (y16 = 2)) && (decide (y12 = 3)))))]) HJ ⟨rfl, (by rw [g17]; rfl), trivial⟩

/-! ### law3_SeqMeasures -/

def law3_SeqMeasures_F (r : World) (l1 : Sl) (i2 : Int) (j3 : Int) (k4 : Int) (m5 : Sl) (h : Heap) (R : Bool → Heap → Prop) : Prop :=
  law3_placed r h fun y6 h1 =>
  Br (!y6) (
    R false h1) (
    seq_Of r l1 h1 fun y7 h2 =>
    New h2 (.cells #[(.pointer none)] 52) fun p8 h3 =>
    St h3 p8 1 [(.pointer y7)] fun h4 =>
    LdP h4 (Addr.add p8 0) fun x13 =>
    seq_Seq_Measure r x13 i2 j3 h4 fun y15 y16 y17 y18 y19 y20 h5 =>
    New h5 (.cells #[(.int .i64 0), (.int .i64 0), (.int .i64 0), (.int .i64 0), (.int .i64 0)] 34) fun p21 h6 =>
    St h6 p21 5 [(.int .i64 y15), (.int .i64 y16), (.int .i64 y17), (.int .i64 y18), (.int .i64 y19)] fun h7 =>
    LdP h7 (Addr.add p8 0) fun x26 =>
    seq_Seq_Measure r x26 j3 k4 h7 fun y28 y29 y30 y31 y32 y33 h8 =>
    New h8 (.cells #[(.int .i64 0), (.int .i64 0), (.int .i64 0), (.int .i64 0), (.int .i64 0)] 34) fun p34 h9 =>
    St h9 p34 5 [(.int .i64 y28), (.int .i64 y29), (.int .i64 y30), (.int .i64 y31), (.int .i64 y32)] fun h10 =>
    LdP h10 (Addr.add p8 0) fun x39 =>
    seq_Seq_Measure r x39 i2 k4 h10 fun y41 y42 y43 y44 y45 y46 h11 =>
    New h11 (.cells #[(.int .i64 0), (.int .i64 0), (.int .i64 0), (.int .i64 0), (.int .i64 0)] 34) fun p47 h12 =>
    St h12 p47 5 [(.int .i64 y41), (.int .i64 y42), (.int .i64 y43), (.int .i64 y44), (.int .i64 y45)] fun h13 =>
    ∀ J53 : Bool → Heap → Prop, (∀ (x52 : Bool) (h14 : Heap),
      (Br x52 (
        R false h14) (
        seq_Of r m5 h14 fun y55 h15 =>
        New h15 (.cells #[(.pointer none)] 52) fun p56 h16 =>
        St h16 p56 1 [(.pointer y55)] fun h17 =>
        LdP h17 (Addr.add p8 0) fun x61 =>
        seq_Seq_Measure r x61 0 ((l1.len : Int)) h17 fun y63 y64 y65 y66 y67 y68 h18 =>
        New h18 (.cells #[(.int .i64 0), (.int .i64 0), (.int .i64 0), (.int .i64 0), (.int .i64 0)] 34) fun p69 h19 =>
        St h19 p69 5 [(.int .i64 y63), (.int .i64 y64), (.int .i64 y65), (.int .i64 y66), (.int .i64 y67)] fun h20 =>
        LdP h20 (Addr.add p56 0) fun x74 =>
        seq_Seq_Measure r x74 0 ((m5.len : Int)) h20 fun y76 y77 y78 y79 y80 y81 h21 =>
        New h21 (.cells #[(.int .i64 0), (.int .i64 0), (.int .i64 0), (.int .i64 0), (.int .i64 0)] 34) fun p82 h22 =>
        St h22 p82 5 [(.int .i64 y76), (.int .i64 y77), (.int .i64 y78), (.int .i64 y79), (.int .i64 y80)] fun h23 =>
        LdP h23 (Addr.add p8 0) fun x87 =>
        LdP h23 (Addr.add p56 0) fun x89 =>
        seq_Seq_Join r x87 x89 h23 fun y91 h24 =>
        seq_Seq_Measure r y91 0 (w64 (((l1.len : Int)) + ((m5.len : Int)))) h24 fun y92 y93 y94 y95 y96 y97 h25 =>
        New h25 (.cells #[(.int .i64 0), (.int .i64 0), (.int .i64 0), (.int .i64 0), (.int .i64 0)] 34) fun p98 h26 =>
        St h26 p98 5 [(.int .i64 y92), (.int .i64 y93), (.int .i64 y94), (.int .i64 y95), (.int .i64 y96)] fun h27 =>
        ∀ J104 : Bool → Heap → Prop, (∀ (x103 : Bool) (h28 : Heap),
          (R x103 h28) →
          J104 x103 h28) →
        Br y68 (
          Br y81 (
            Br y97 (
              LdI h27 (Addr.add p98 0) fun x109 =>
              LdI h27 (Addr.add p98 1) fun x111 =>
              LdI h27 (Addr.add p98 2) fun x113 =>
              LdI h27 (Addr.add p98 3) fun x115 =>
              LdI h27 (Addr.add p98 4) fun x117 =>
              LdI h27 (Addr.add p69 0) fun x119 =>
              LdI h27 (Addr.add p69 1) fun x121 =>
              LdI h27 (Addr.add p69 2) fun x123 =>
              LdI h27 (Addr.add p69 3) fun x125 =>
              LdI h27 (Addr.add p69 4) fun x127 =>
              LdI h27 (Addr.add p82 0) fun x129 =>
              LdI h27 (Addr.add p82 1) fun x131 =>
              LdI h27 (Addr.add p82 2) fun x133 =>
              LdI h27 (Addr.add p82 3) fun x135 =>
              LdI h27 (Addr.add p82 4) fun x137 =>
              mono_Join r x119 x121 x123 x125 x127 x129 x131 x133 x135 x137 h27 fun y139 y140 y141 y142 y143 h29 =>
              (hcell h29 (Addr.add p98 0) = some (.int .i64 x109)) ∧
              (hcell h29 (Addr.add p98 1) = some (.int .i64 x111)) ∧
              (hcell h29 (Addr.add p98 2) = some (.int .i64 x113)) ∧
              (hcell h29 (Addr.add p98 3) = some (.int .i64 x115)) ∧
              (hcell h29 (Addr.add p98 4) = some (.int .i64 x117)) ∧
              ∀ x149 : Bool, x149 = (decide (x109 = y139 ∧ x111 = y140 ∧ x113 = y141 ∧ x115 = y142 ∧ x117 = y143)) →
              J104 x149 h29) (
              J104 false h27)) (
            J104 false h27)) (
          J104 false h27))) →
      J53 x52 h14) →
    Br y20 (
      Br y33 (
        Br (!y46) (
          J53 true h13) (
          LdI h13 (Addr.add p47 0) fun x155 =>
          LdI h13 (Addr.add p47 1) fun x157 =>
          LdI h13 (Addr.add p47 2) fun x159 =>
          LdI h13 (Addr.add p47 3) fun x161 =>
          LdI h13 (Addr.add p47 4) fun x163 =>
          LdI h13 (Addr.add p21 0) fun x165 =>
          LdI h13 (Addr.add p21 1) fun x167 =>
          LdI h13 (Addr.add p21 2) fun x169 =>
          LdI h13 (Addr.add p21 3) fun x171 =>
          LdI h13 (Addr.add p21 4) fun x173 =>
          LdI h13 (Addr.add p34 0) fun x175 =>
          LdI h13 (Addr.add p34 1) fun x177 =>
          LdI h13 (Addr.add p34 2) fun x179 =>
          LdI h13 (Addr.add p34 3) fun x181 =>
          LdI h13 (Addr.add p34 4) fun x183 =>
          mono_Join r x165 x167 x169 x171 x173 x175 x177 x179 x181 x183 h13 fun y185 y186 y187 y188 y189 h30 =>
          (hcell h30 (Addr.add p47 0) = some (.int .i64 x155)) ∧
          (hcell h30 (Addr.add p47 1) = some (.int .i64 x157)) ∧
          (hcell h30 (Addr.add p47 2) = some (.int .i64 x159)) ∧
          (hcell h30 (Addr.add p47 3) = some (.int .i64 x161)) ∧
          (hcell h30 (Addr.add p47 4) = some (.int .i64 x163)) ∧
          J53 (!(decide (x155 = y185 ∧ x157 = y186 ∧ x159 = y187 ∧ x161 = y188 ∧ x163 = y189))) h30)) (
        J53 false h13)) (
      J53 false h13))

set_option maxRecDepth 100000 in
theorem law3_SeqMeasures_of {r : World} {l1 : Sl} {i2 : Int} {j3 : Int} {k4 : Int} {m5 : Sl} {h : Heap} {R : Bool → Heap → Prop} (H : law3_SeqMeasures_F r l1 i2 j3 k4 m5 h R) : law3_SeqMeasures r l1 i2 j3 k4 m5 h R := by
  unfold law3_SeqMeasures_F at H
  refine calls_of 109 [.tmp 10] Try.func8 rfl rfl rfl rfl rfl ?_
  refine W_seq ?_
  refine W_region (.pu 0 .fin) rfl rfl ?_
  refine s_pu (d := some 10) (v := (.bool false)) rfl rfl rfl (r_assign rfl) ?_
  refine s_fin ?_
  show W _ _ _ _ _ _ _ _
  refine W_seq ?_
  refine W_region (.ef 0 [] (.pu 1 .fin) .no) rfl rfl ?_
  refine s_ef (d := some 26) rfl rfl rfl (fun dr => r_call Try.call30 rfl rfl H) ?_ trivial
  rintro _ h1 ⟨y6, rfl, H⟩
  refine ⟨trivial, ?_⟩
  refine s_pu (d := some 11) (v := (.bool y6)) rfl rfl rfl (r_assign rfl) ?_
  refine s_fin ?_
  show W _ _ _ _ _ _ _ _
  refine W_seq ?_
  refine W_seq ?_
  refine W_region (.pu 0 (.pu 1 .fin)) rfl rfl ?_
  refine s_pu (d := some 27) (v := (.bool y6)) rfl rfl rfl (r_move rfl) ?_
  refine s_pu (d := some 28) (v := (.bool (!y6))) rfl rfl rfl (r_not rfl) ?_
  refine s_fin ?_
  show W _ _ _ _ _ _ _ _
  refine W_if (!y6) rfl (fun g195 => ?_) (fun g195 => ?_)
  · have H := H.1 g195
    refine W_seq ?_
    refine W_region (.pu 0 .fin) rfl rfl ?_
    refine s_pu (d := some 10) (v := (.bool false)) rfl rfl rfl (r_assign rfl) ?_
    refine s_fin ?_
    show W _ _ _ _ _ _ _ _
    refine W_ret ?_
    exact ⟨[(.bool false)], ⟨_, _, rfl, rfl, rfl⟩, false, rfl, H⟩
  · have H := H.2 g195
    refine W_skip ?_
    show W _ _ _ _ _ _ _ _
    refine W_seq ?_
    refine W_region (.pu 0 (.ef 1 [] (.ef 2 [] (.ef 3 [] .fin .no) .no) .no)) rfl rfl ?_
    refine s_pu (d := some 29) (v := (Sl.v l1)) rfl rfl rfl (r_move rfl) ?_
    refine s_ef (d := some 30) rfl rfl rfl (fun dr => r_call Try.call31 rfl rfl H) ?_ trivial
    rintro _ h2 ⟨y7, rfl, H⟩
    refine ⟨trivial, ?_⟩
    obtain ⟨p8, e9⟩ : ∃ p : Addr, p = ⟨h2.size, 0, none⟩ := ⟨_, rfl⟩
    obtain ⟨h3, e10⟩ : ∃ hh : Heap, hh = h2.push (.cells #[(.pointer none)] 52) := ⟨_, rfl⟩
    have H := H p8 h3 e9 e10
    refine s_ef1 (d := some 12) (v := (.pointer (some p8))) (h' := h3) rfl rfl rfl (fun dr => (r_alloc Try.zeroValue52).trans (by rw [e9, e10]; rfl)) trivial ?_ trivial
    obtain ⟨e12, H⟩ := H
    obtain ⟨h4, e11⟩ : ∃ hh : Heap, hh = hsets h3 p8 0 [(.pointer y7)] := ⟨_, rfl⟩
    have H := H h4 e11
    refine s_st (d := none) (h' := h4) rfl rfl rfl (fun dr => (r_store (v := (.agg #[(.pointer y7)])) Try.sizeOf52 rfl rfl rfl (one_all rfl) e12).trans (by rw [e11]; rfl)) trivial ?_ trivial
    refine s_fin ?_
    show W _ _ _ _ _ _ _ _
    refine W_seq ?_
    refine W_region (.rl 0 (.pu 1 (.pu 2 (.ef 3 [] (.pu 4 (.pu 5 (.pu 6 (.ef 7 [] (.ef 8 [] (.pu 9 .fin) .no) .no)))) .no)))) rfl rfl ?_
    obtain ⟨x13, e14, H⟩ := H
    refine s_rl (d := some 32) (v := (.agg #[(.pointer x13)])) rfl rfl rfl (fun dr => r_loadN Try.isAgg52 Try.sizeOf52 (vs := [(.pointer x13)]) rfl rfl ⟨e14, trivial⟩) ?_
    refine s_pu (d := some 33) (v := (.int .i64 i2)) rfl rfl rfl (r_move rfl) ?_
    refine s_pu (d := some 34) (v := (.int .i64 j3)) rfl rfl rfl (r_move rfl) ?_
    refine s_ef (d := some 35) rfl rfl rfl (fun dr => r_call Try.call32 rfl rfl H) ?_ trivial
    rintro _ h5 ⟨y15, y16, y17, y18, y19, y20, rfl, H⟩
    refine ⟨trivial, ?_⟩
    refine s_pu (d := some 31) (v := (.tuple #[(.agg #[(.int .i64 y15), (.int .i64 y16), (.int .i64 y17), (.int .i64 y18), (.int .i64 y19)]), (.bool y20)])) rfl rfl rfl (r_move rfl) ?_
    refine s_pu (d := some 36) (v := (.agg #[(.int .i64 y15), (.int .i64 y16), (.int .i64 y17), (.int .i64 y18), (.int .i64 y19)])) rfl rfl rfl (r_extract rfl rfl) ?_
    refine s_pu (d := some 37) (v := (.bool y20)) rfl rfl rfl (r_extract rfl rfl) ?_
    obtain ⟨p21, e22⟩ : ∃ p : Addr, p = ⟨h5.size, 0, none⟩ := ⟨_, rfl⟩
    obtain ⟨h6, e23⟩ : ∃ hh : Heap, hh = h5.push (.cells #[(.int .i64 0), (.int .i64 0), (.int .i64 0), (.int .i64 0), (.int .i64 0)] 34) := ⟨_, rfl⟩
    have H := H p21 h6 e22 e23
    refine s_ef1 (d := some 13) (v := (.pointer (some p21))) (h' := h6) rfl rfl rfl (fun dr => (r_alloc Try.zeroValue34).trans (by rw [e22, e23]; rfl)) trivial ?_ trivial
    obtain ⟨e25, H⟩ := H
    obtain ⟨h7, e24⟩ : ∃ hh : Heap, hh = hsets h6 p21 0 [(.int .i64 y15), (.int .i64 y16), (.int .i64 y17), (.int .i64 y18), (.int .i64 y19)] := ⟨_, rfl⟩
    have H := H h7 e24
    refine s_st (d := none) (h' := h7) rfl rfl rfl (fun dr => (r_store (v := (.agg #[(.int .i64 y15), (.int .i64 y16), (.int .i64 y17), (.int .i64 y18), (.int .i64 y19)])) Try.sizeOf34 rfl rfl rfl (one_all rfl) e25).trans (by rw [e24]; rfl)) trivial ?_ trivial
    refine s_pu (d := some 14) (v := (.bool y20)) rfl rfl rfl (r_assign rfl) ?_
    refine s_fin ?_
    show W _ _ _ _ _ _ _ _
    refine W_seq ?_
    refine W_region (.rl 0 (.pu 1 (.pu 2 (.ef 3 [] (.pu 4 (.pu 5 (.pu 6 (.ef 7 [] (.ef 8 [] (.pu 9 .fin) .no) .no)))) .no)))) rfl rfl ?_
    obtain ⟨x26, e27, H⟩ := H
    refine s_rl (d := some 39) (v := (.agg #[(.pointer x26)])) rfl rfl rfl (fun dr => r_loadN Try.isAgg52 Try.sizeOf52 (vs := [(.pointer x26)]) rfl rfl ⟨e27, trivial⟩) ?_
    refine s_pu (d := some 40) (v := (.int .i64 j3)) rfl rfl rfl (r_move rfl) ?_
    refine s_pu (d := some 41) (v := (.int .i64 k4)) rfl rfl rfl (r_move rfl) ?_
    refine s_ef (d := some 42) rfl rfl rfl (fun dr => r_call Try.call32 rfl rfl H) ?_ trivial
    rintro _ h8 ⟨y28, y29, y30, y31, y32, y33, rfl, H⟩
    refine ⟨trivial, ?_⟩
    refine s_pu (d := some 38) (v := (.tuple #[(.agg #[(.int .i64 y28), (.int .i64 y29), (.int .i64 y30), (.int .i64 y31), (.int .i64 y32)]), (.bool y33)])) rfl rfl rfl (r_move rfl) ?_
    refine s_pu (d := some 43) (v := (.agg #[(.int .i64 y28), (.int .i64 y29), (.int .i64 y30), (.int .i64 y31), (.int .i64 y32)])) rfl rfl rfl (r_extract rfl rfl) ?_
    refine s_pu (d := some 44) (v := (.bool y33)) rfl rfl rfl (r_extract rfl rfl) ?_
    obtain ⟨p34, e35⟩ : ∃ p : Addr, p = ⟨h8.size, 0, none⟩ := ⟨_, rfl⟩
    obtain ⟨h9, e36⟩ : ∃ hh : Heap, hh = h8.push (.cells #[(.int .i64 0), (.int .i64 0), (.int .i64 0), (.int .i64 0), (.int .i64 0)] 34) := ⟨_, rfl⟩
    have H := H p34 h9 e35 e36
    refine s_ef1 (d := some 15) (v := (.pointer (some p34))) (h' := h9) rfl rfl rfl (fun dr => (r_alloc Try.zeroValue34).trans (by rw [e35, e36]; rfl)) trivial ?_ trivial
    obtain ⟨e38, H⟩ := H
    obtain ⟨h10, e37⟩ : ∃ hh : Heap, hh = hsets h9 p34 0 [(.int .i64 y28), (.int .i64 y29), (.int .i64 y30), (.int .i64 y31), (.int .i64 y32)] := ⟨_, rfl⟩
    have H := H h10 e37
    refine s_st (d := none) (h' := h10) rfl rfl rfl (fun dr => (r_store (v := (.agg #[(.int .i64 y28), (.int .i64 y29), (.int .i64 y30), (.int .i64 y31), (.int .i64 y32)])) Try.sizeOf34 rfl rfl rfl (one_all rfl) e38).trans (by rw [e37]; rfl)) trivial ?_ trivial
    refine s_pu (d := some 16) (v := (.bool y33)) rfl rfl rfl (r_assign rfl) ?_
    refine s_fin ?_
    show W _ _ _ _ _ _ _ _
    refine W_seq ?_
    refine W_region (.rl 0 (.pu 1 (.pu 2 (.ef 3 [] (.pu 4 (.pu 5 (.pu 6 (.ef 7 [] (.ef 8 [] (.pu 9 .fin) .no) .no)))) .no)))) rfl rfl ?_
    obtain ⟨x39, e40, H⟩ := H
    refine s_rl (d := some 46) (v := (.agg #[(.pointer x39)])) rfl rfl rfl (fun dr => r_loadN Try.isAgg52 Try.sizeOf52 (vs := [(.pointer x39)]) rfl rfl ⟨e40, trivial⟩) ?_
    refine s_pu (d := some 47) (v := (.int .i64 i2)) rfl rfl rfl (r_move rfl) ?_
    refine s_pu (d := some 48) (v := (.int .i64 k4)) rfl rfl rfl (r_move rfl) ?_
    refine s_ef (d := some 49) rfl rfl rfl (fun dr => r_call Try.call32 rfl rfl H) ?_ trivial
    rintro _ h11 ⟨y41, y42, y43, y44, y45, y46, rfl, H⟩
    refine ⟨trivial, ?_⟩
    refine s_pu (d := some 45) (v := (.tuple #[(.agg #[(.int .i64 y41), (.int .i64 y42), (.int .i64 y43), (.int .i64 y44), (.int .i64 y45)]), (.bool y46)])) rfl rfl rfl (r_move rfl) ?_
    refine s_pu (d := some 50) (v := (.agg #[(.int .i64 y41), (.int .i64 y42), (.int .i64 y43), (.int .i64 y44), (.int .i64 y45)])) rfl rfl rfl (r_extract rfl rfl) ?_
    refine s_pu (d := some 51) (v := (.bool y46)) rfl rfl rfl (r_extract rfl rfl) ?_
    obtain ⟨p47, e48⟩ : ∃ p : Addr, p = ⟨h11.size, 0, none⟩ := ⟨_, rfl⟩
    obtain ⟨h12, e49⟩ : ∃ hh : Heap, hh = h11.push (.cells #[(.int .i64 0), (.int .i64 0), (.int .i64 0), (.int .i64 0), (.int .i64 0)] 34) := ⟨_, rfl⟩
    have H := H p47 h12 e48 e49
    refine s_ef1 (d := some 17) (v := (.pointer (some p47))) (h' := h12) rfl rfl rfl (fun dr => (r_alloc Try.zeroValue34).trans (by rw [e48, e49]; rfl)) trivial ?_ trivial
    obtain ⟨e51, H⟩ := H
    obtain ⟨h13, e50⟩ : ∃ hh : Heap, hh = hsets h12 p47 0 [(.int .i64 y41), (.int .i64 y42), (.int .i64 y43), (.int .i64 y44), (.int .i64 y45)] := ⟨_, rfl⟩
    have H := H h13 e50
    refine s_st (d := none) (h' := h13) rfl rfl rfl (fun dr => (r_store (v := (.agg #[(.int .i64 y41), (.int .i64 y42), (.int .i64 y43), (.int .i64 y44), (.int .i64 y45)])) Try.sizeOf34 rfl rfl rfl (one_all rfl) e51).trans (by rw [e50]; rfl)) trivial ?_ trivial
    refine s_pu (d := some 18) (v := (.bool y46)) rfl rfl rfl (r_assign rfl) ?_
    refine s_fin ?_
    show W _ _ _ _ _ _ _ _
    refine W_seq ?_
    refine W_seq ?_
    refine W_set ?_
    intro N54 eN54
    have H := H (fun (x52 : Bool) (h14 : Heap) => ∀ b, N54 [] (mkE [(0, (Sl.v l1)), (4, (Sl.v m5)), (12, (.pointer (some p8))), (66, (.bool x52))] b) h14) (by
      intro x52 h14 H b
      rw [eN54]
      show W _ _ _ _ _ _ _ _
      refine W_if x52 rfl (fun g151 => ?_) (fun g151 => ?_)
      · have H := H.1 g151
        refine W_seq ?_
        refine W_region (.pu 0 .fin) rfl rfl ?_
        refine s_pu (d := some 10) (v := (.bool false)) rfl rfl rfl (r_assign rfl) ?_
        refine s_fin ?_
        show W _ _ _ _ _ _ _ _
        refine W_ret ?_
        exact ⟨[(.bool false)], ⟨_, _, rfl, rfl, rfl⟩, false, rfl, H⟩
      · have H := H.2 g151
        refine W_skip ?_
        show W _ _ _ _ _ _ _ _
        refine W_seq ?_
        refine W_region (.pu 0 (.ef 1 [] (.ef 2 [] (.ef 3 [] .fin .no) .no) .no)) rfl rfl ?_
        refine s_pu (d := some 67) (v := (Sl.v m5)) rfl rfl rfl (r_move rfl) ?_
        refine s_ef (d := some 68) rfl rfl rfl (fun dr => r_call Try.call31 rfl rfl H) ?_ trivial
        rintro _ h15 ⟨y55, rfl, H⟩
        refine ⟨trivial, ?_⟩
        obtain ⟨p56, e57⟩ : ∃ p : Addr, p = ⟨h15.size, 0, none⟩ := ⟨_, rfl⟩
        obtain ⟨h16, e58⟩ : ∃ hh : Heap, hh = h15.push (.cells #[(.pointer none)] 52) := ⟨_, rfl⟩
        have H := H p56 h16 e57 e58
        refine s_ef1 (d := some 19) (v := (.pointer (some p56))) (h' := h16) rfl rfl rfl (fun dr => (r_alloc Try.zeroValue52).trans (by rw [e57, e58]; rfl)) trivial ?_ trivial
        obtain ⟨e60, H⟩ := H
        obtain ⟨h17, e59⟩ : ∃ hh : Heap, hh = hsets h16 p56 0 [(.pointer y55)] := ⟨_, rfl⟩
        have H := H h17 e59
        refine s_st (d := none) (h' := h17) rfl rfl rfl (fun dr => (r_store (v := (.agg #[(.pointer y55)])) Try.sizeOf52 rfl rfl rfl (one_all rfl) e60).trans (by rw [e59]; rfl)) trivial ?_ trivial
        refine s_fin ?_
        show W _ _ _ _ _ _ _ _
        refine W_seq ?_
        refine W_region (.rl 0 (.pu 1 (.pu 2 (.ef 3 [] (.pu 4 (.pu 5 (.pu 6 (.ef 7 [] (.ef 8 [] (.pu 9 .fin) .no) .no)))) .no)))) rfl rfl ?_
        obtain ⟨x61, e62, H⟩ := H
        refine s_rl (d := some 70) (v := (.agg #[(.pointer x61)])) rfl rfl rfl (fun dr => r_loadN Try.isAgg52 Try.sizeOf52 (vs := [(.pointer x61)]) rfl rfl ⟨e62, trivial⟩) ?_
        refine s_pu (d := some 71) (v := (Sl.v l1)) rfl rfl rfl (r_move rfl) ?_
        refine s_pu (d := some 72) (v := (.int .i64 ((l1.len : Int)))) rfl rfl rfl (r_len Try.underlying22 rfl) ?_
        refine s_ef (d := some 73) rfl rfl rfl (fun dr => r_call Try.call32 rfl rfl H) ?_ trivial
        rintro _ h18 ⟨y63, y64, y65, y66, y67, y68, rfl, H⟩
        refine ⟨trivial, ?_⟩
        refine s_pu (d := some 69) (v := (.tuple #[(.agg #[(.int .i64 y63), (.int .i64 y64), (.int .i64 y65), (.int .i64 y66), (.int .i64 y67)]), (.bool y68)])) rfl rfl rfl (r_move rfl) ?_
        refine s_pu (d := some 74) (v := (.agg #[(.int .i64 y63), (.int .i64 y64), (.int .i64 y65), (.int .i64 y66), (.int .i64 y67)])) rfl rfl rfl (r_extract rfl rfl) ?_
        refine s_pu (d := some 75) (v := (.bool y68)) rfl rfl rfl (r_extract rfl rfl) ?_
        obtain ⟨p69, e70⟩ : ∃ p : Addr, p = ⟨h18.size, 0, none⟩ := ⟨_, rfl⟩
        obtain ⟨h19, e71⟩ : ∃ hh : Heap, hh = h18.push (.cells #[(.int .i64 0), (.int .i64 0), (.int .i64 0), (.int .i64 0), (.int .i64 0)] 34) := ⟨_, rfl⟩
        have H := H p69 h19 e70 e71
        refine s_ef1 (d := some 20) (v := (.pointer (some p69))) (h' := h19) rfl rfl rfl (fun dr => (r_alloc Try.zeroValue34).trans (by rw [e70, e71]; rfl)) trivial ?_ trivial
        obtain ⟨e73, H⟩ := H
        obtain ⟨h20, e72⟩ : ∃ hh : Heap, hh = hsets h19 p69 0 [(.int .i64 y63), (.int .i64 y64), (.int .i64 y65), (.int .i64 y66), (.int .i64 y67)] := ⟨_, rfl⟩
        have H := H h20 e72
        refine s_st (d := none) (h' := h20) rfl rfl rfl (fun dr => (r_store (v := (.agg #[(.int .i64 y63), (.int .i64 y64), (.int .i64 y65), (.int .i64 y66), (.int .i64 y67)])) Try.sizeOf34 rfl rfl rfl (one_all rfl) e73).trans (by rw [e72]; rfl)) trivial ?_ trivial
        refine s_pu (d := some 21) (v := (.bool y68)) rfl rfl rfl (r_assign rfl) ?_
        refine s_fin ?_
        show W _ _ _ _ _ _ _ _
        refine W_seq ?_
        refine W_region (.rl 0 (.pu 1 (.pu 2 (.ef 3 [] (.pu 4 (.pu 5 (.pu 6 (.ef 7 [] (.ef 8 [] (.pu 9 .fin) .no) .no)))) .no)))) rfl rfl ?_
        obtain ⟨x74, e75, H⟩ := H
        refine s_rl (d := some 77) (v := (.agg #[(.pointer x74)])) rfl rfl rfl (fun dr => r_loadN Try.isAgg52 Try.sizeOf52 (vs := [(.pointer x74)]) rfl rfl ⟨e75, trivial⟩) ?_
        refine s_pu (d := some 78) (v := (Sl.v m5)) rfl rfl rfl (r_move rfl) ?_
        refine s_pu (d := some 79) (v := (.int .i64 ((m5.len : Int)))) rfl rfl rfl (r_len Try.underlying22 rfl) ?_
        refine s_ef (d := some 80) rfl rfl rfl (fun dr => r_call Try.call32 rfl rfl H) ?_ trivial
        rintro _ h21 ⟨y76, y77, y78, y79, y80, y81, rfl, H⟩
        refine ⟨trivial, ?_⟩
        refine s_pu (d := some 76) (v := (.tuple #[(.agg #[(.int .i64 y76), (.int .i64 y77), (.int .i64 y78), (.int .i64 y79), (.int .i64 y80)]), (.bool y81)])) rfl rfl rfl (r_move rfl) ?_
        refine s_pu (d := some 81) (v := (.agg #[(.int .i64 y76), (.int .i64 y77), (.int .i64 y78), (.int .i64 y79), (.int .i64 y80)])) rfl rfl rfl (r_extract rfl rfl) ?_
        refine s_pu (d := some 82) (v := (.bool y81)) rfl rfl rfl (r_extract rfl rfl) ?_
        obtain ⟨p82, e83⟩ : ∃ p : Addr, p = ⟨h21.size, 0, none⟩ := ⟨_, rfl⟩
        obtain ⟨h22, e84⟩ : ∃ hh : Heap, hh = h21.push (.cells #[(.int .i64 0), (.int .i64 0), (.int .i64 0), (.int .i64 0), (.int .i64 0)] 34) := ⟨_, rfl⟩
        have H := H p82 h22 e83 e84
        refine s_ef1 (d := some 22) (v := (.pointer (some p82))) (h' := h22) rfl rfl rfl (fun dr => (r_alloc Try.zeroValue34).trans (by rw [e83, e84]; rfl)) trivial ?_ trivial
        obtain ⟨e86, H⟩ := H
        obtain ⟨h23, e85⟩ : ∃ hh : Heap, hh = hsets h22 p82 0 [(.int .i64 y76), (.int .i64 y77), (.int .i64 y78), (.int .i64 y79), (.int .i64 y80)] := ⟨_, rfl⟩
        have H := H h23 e85
        refine s_st (d := none) (h' := h23) rfl rfl rfl (fun dr => (r_store (v := (.agg #[(.int .i64 y76), (.int .i64 y77), (.int .i64 y78), (.int .i64 y79), (.int .i64 y80)])) Try.sizeOf34 rfl rfl rfl (one_all rfl) e86).trans (by rw [e85]; rfl)) trivial ?_ trivial
        refine s_pu (d := some 23) (v := (.bool y81)) rfl rfl rfl (r_assign rfl) ?_
        refine s_fin ?_
        show W _ _ _ _ _ _ _ _
        refine W_seq ?_
        refine W_region (.rl 0 (.rl 1 (.ef 2 [] (.pu 3 (.pu 4 (.pu 5 (.pu 6 (.pu 7 (.ef 8 [] (.pu 9 (.pu 10 (.pu 11 (.ef 12 [] (.ef 13 [] (.pu 14 .fin) .no) .no)))) .no)))))) .no))) rfl rfl ?_
        obtain ⟨x87, e88, H⟩ := H
        refine s_rl (d := some 84) (v := (.agg #[(.pointer x87)])) rfl rfl rfl (fun dr => r_loadN Try.isAgg52 Try.sizeOf52 (vs := [(.pointer x87)]) rfl rfl ⟨e88, trivial⟩) ?_
        obtain ⟨x89, e90, H⟩ := H
        refine s_rl (d := some 85) (v := (.agg #[(.pointer x89)])) rfl rfl rfl (fun dr => r_loadN Try.isAgg52 Try.sizeOf52 (vs := [(.pointer x89)]) rfl rfl ⟨e90, trivial⟩) ?_
        refine s_ef (d := some 86) rfl rfl rfl (fun dr => r_call Try.call33 rfl rfl H) ?_ trivial
        rintro _ h24 ⟨y91, rfl, H⟩
        refine ⟨trivial, ?_⟩
        refine s_pu (d := some 87) (v := (Sl.v l1)) rfl rfl rfl (r_move rfl) ?_
        refine s_pu (d := some 88) (v := (.int .i64 ((l1.len : Int)))) rfl rfl rfl (r_len Try.underlying22 rfl) ?_
        refine s_pu (d := some 89) (v := (Sl.v m5)) rfl rfl rfl (r_move rfl) ?_
        refine s_pu (d := some 90) (v := (.int .i64 ((m5.len : Int)))) rfl rfl rfl (r_len Try.underlying22 rfl) ?_
        refine s_pu (d := some 91) (v := (.int .i64 (w64 (((l1.len : Int)) + ((m5.len : Int)))))) rfl rfl rfl (r_add rfl rfl) ?_
        refine s_ef (d := some 92) rfl rfl rfl (fun dr => r_call Try.call32 rfl rfl H) ?_ trivial
        rintro _ h25 ⟨y92, y93, y94, y95, y96, y97, rfl, H⟩
        refine ⟨trivial, ?_⟩
        refine s_pu (d := some 83) (v := (.tuple #[(.agg #[(.int .i64 y92), (.int .i64 y93), (.int .i64 y94), (.int .i64 y95), (.int .i64 y96)]), (.bool y97)])) rfl rfl rfl (r_move rfl) ?_
        refine s_pu (d := some 93) (v := (.agg #[(.int .i64 y92), (.int .i64 y93), (.int .i64 y94), (.int .i64 y95), (.int .i64 y96)])) rfl rfl rfl (r_extract rfl rfl) ?_
        refine s_pu (d := some 94) (v := (.bool y97)) rfl rfl rfl (r_extract rfl rfl) ?_
        obtain ⟨p98, e99⟩ : ∃ p : Addr, p = ⟨h25.size, 0, none⟩ := ⟨_, rfl⟩
        obtain ⟨h26, e100⟩ : ∃ hh : Heap, hh = h25.push (.cells #[(.int .i64 0), (.int .i64 0), (.int .i64 0), (.int .i64 0), (.int .i64 0)] 34) := ⟨_, rfl⟩
        have H := H p98 h26 e99 e100
        refine s_ef1 (d := some 24) (v := (.pointer (some p98))) (h' := h26) rfl rfl rfl (fun dr => (r_alloc Try.zeroValue34).trans (by rw [e99, e100]; rfl)) trivial ?_ trivial
        obtain ⟨e102, H⟩ := H
        obtain ⟨h27, e101⟩ : ∃ hh : Heap, hh = hsets h26 p98 0 [(.int .i64 y92), (.int .i64 y93), (.int .i64 y94), (.int .i64 y95), (.int .i64 y96)] := ⟨_, rfl⟩
        have H := H h27 e101
        refine s_st (d := none) (h' := h27) rfl rfl rfl (fun dr => (r_store (v := (.agg #[(.int .i64 y92), (.int .i64 y93), (.int .i64 y94), (.int .i64 y95), (.int .i64 y96)])) Try.sizeOf34 rfl rfl rfl (one_all rfl) e102).trans (by rw [e101]; rfl)) trivial ?_ trivial
        refine s_pu (d := some 25) (v := (.bool y97)) rfl rfl rfl (r_assign rfl) ?_
        refine s_fin ?_
        show W _ _ _ _ _ _ _ _
        refine W_seq ?_
        refine W_set ?_
        intro N105 eN105
        have H := H (fun (x103 : Bool) (h28 : Heap) => ∀ b, N105 [] (mkE [(10, (.bool x103))] b) h28) (by
          intro x103 h28 H b
          rw [eN105]
          show W _ _ _ _ _ _ _ _
          refine W_ret ?_
          exact ⟨[(.bool x103)], ⟨_, _, rfl, rfl, rfl⟩, x103, rfl, H⟩)
        clear eN105
        refine W_draw [0, 1, 3, 7, 15, 31, 63, 127, 255, 255, 255, 1791, 4095, 8191, 16383] (.pu 0 (.pu 1 (.pu 2 (.pu 3 (.pu 4 (.pu 5 (.pu 6 (.pu 7 (.rd 8 (.rd 9 (.rd 10 (.ef 11 [9, 10] (.pu 12 (.pu 13 (.pu 14 .fin))) .no)))))))))))) (by kernel_rfl) (by kernel_rfl) ?_
        refine s_pu (d := some 95) (v := (.bool y68)) rfl rfl rfl (r_move rfl) ?_
        refine s_pu (d := some 96) (v := (.bool y68)) rfl rfl rfl (r_move rfl) ?_
        rcases Bool.eq_false_or_eq_true y68 with g106 | g106
        · have H := H.1 g106
          refine s_pu (d := some 97) (v := (.bool y81)) rfl rfl (wants_yes rfl rfl rfl rfl g106) (r_move rfl) ?_
          refine s_pu (d := some 98) (v := (.bool y81)) rfl rfl rfl (r_pick1 rfl g106 rfl) ?_
          refine s_pu (d := some 99) (v := (.bool y81)) rfl rfl rfl (r_move rfl) ?_
          rcases Bool.eq_false_or_eq_true y81 with g107 | g107
          · have H := H.1 g107
            refine s_pu (d := some 100) (v := (.bool y97)) rfl rfl (wants_yes rfl rfl rfl rfl g107) (r_move rfl) ?_
            refine s_pu (d := some 101) (v := (.bool y97)) rfl rfl rfl (r_pick1 rfl g107 rfl) ?_
            refine s_pu (d := some 102) (v := (.bool y97)) rfl rfl rfl (r_move rfl) ?_
            rcases Bool.eq_false_or_eq_true y97 with g108 | g108
            · have H := H.1 g108
              obtain ⟨x109, e110, H⟩ := H
              obtain ⟨x111, e112, H⟩ := H
              obtain ⟨x113, e114, H⟩ := H
              obtain ⟨x115, e116, H⟩ := H
              obtain ⟨x117, e118, H⟩ := H
              refine s_rd (d := some 103) (v := (.agg #[(.int .i64 x109), (.int .i64 x111), (.int .i64 x113), (.int .i64 x115), (.int .i64 x117)])) rfl rfl (wants_yes rfl rfl rfl rfl g108) (fun dr => r_loadN Try.isAgg34 Try.sizeOf34 (vs := [(.int .i64 x109), (.int .i64 x111), (.int .i64 x113), (.int .i64 x115), (.int .i64 x117)]) rfl rfl ⟨e110, e112, e114, e116, e118, trivial⟩) ?_
              obtain ⟨x119, e120, H⟩ := H
              obtain ⟨x121, e122, H⟩ := H
              obtain ⟨x123, e124, H⟩ := H
              obtain ⟨x125, e126, H⟩ := H
              obtain ⟨x127, e128, H⟩ := H
              refine s_rd (d := some 104) (v := (.agg #[(.int .i64 x119), (.int .i64 x121), (.int .i64 x123), (.int .i64 x125), (.int .i64 x127)])) rfl rfl (wants_yes rfl rfl rfl rfl g108) (fun dr => r_loadN Try.isAgg34 Try.sizeOf34 (vs := [(.int .i64 x119), (.int .i64 x121), (.int .i64 x123), (.int .i64 x125), (.int .i64 x127)]) rfl rfl ⟨e120, e122, e124, e126, e128, trivial⟩) ?_
              obtain ⟨x129, e130, H⟩ := H
              obtain ⟨x131, e132, H⟩ := H
              obtain ⟨x133, e134, H⟩ := H
              obtain ⟨x135, e136, H⟩ := H
              obtain ⟨x137, e138, H⟩ := H
              refine s_rd (d := some 105) (v := (.agg #[(.int .i64 x129), (.int .i64 x131), (.int .i64 x133), (.int .i64 x135), (.int .i64 x137)])) rfl rfl (wants_yes rfl rfl rfl rfl g108) (fun dr => r_loadN Try.isAgg34 Try.sizeOf34 (vs := [(.int .i64 x129), (.int .i64 x131), (.int .i64 x133), (.int .i64 x135), (.int .i64 x137)]) rfl rfl ⟨e130, e132, e134, e136, e138, trivial⟩) ?_
              refine s_ef (d := some 106) rfl rfl (wants_yes rfl rfl rfl rfl g108) (fun dr => r_call Try.call27 rfl rfl H) ?_ trivial
              rintro _ h29 ⟨y139, y140, y141, y142, y143, rfl, H⟩
              obtain ⟨e144, H⟩ := H
              obtain ⟨e145, H⟩ := H
              obtain ⟨e146, H⟩ := H
              obtain ⟨e147, H⟩ := H
              obtain ⟨e148, H⟩ := H
              refine ⟨⟨trivial, trivial, (.inl ⟨(wants_yes rfl rfl rfl rfl g108), fun dr => r_loadN Try.isAgg34 Try.sizeOf34 (vs := [(.int .i64 x109), (.int .i64 x111), (.int .i64 x113), (.int .i64 x115), (.int .i64 x117)]) rfl rfl ⟨e144, e145, e146, e147, e148, trivial⟩⟩), trivial⟩, ?_⟩
              refine s_pu (d := some 107) (v := (.bool (decide (x109 = y139 ∧ x111 = y140 ∧ x113 = y141 ∧ x115 = y142 ∧ x117 = y143)))) rfl rfl (wants_yes rfl rfl rfl rfl g108) (r_eqlAgg_Try34 rfl rfl) ?_
              refine s_pu (d := some 108) (v := (.bool (decide (x109 = y139 ∧ x111 = y140 ∧ x113 = y141 ∧ x115 = y142 ∧ x117 = y143)))) rfl rfl rfl (r_pick1 rfl g108 rfl) ?_
              obtain ⟨x149, e150⟩ : ∃ x : Bool, x = (decide (x109 = y139 ∧ x111 = y140 ∧ x113 = y141 ∧ x115 = y142 ∧ x117 = y143)) := ⟨_, rfl⟩
              have H := H x149 e150
              refine s_pu (d := some 10) (v := (.bool x149)) rfl rfl rfl (r_assign (congrArg Value.bool e150.symm)) ?_
              refine s_fin ?_
              exact N_mk (l := [(10, (.bool x149))]) H ⟨rfl, trivial⟩
            · have H := H.2 g108
              refine s_skd (d := some 103) rfl rfl (wants_no rfl rfl rfl rfl g108) ?_
              refine s_skd (d := some 104) rfl rfl (wants_no rfl rfl rfl rfl g108) ?_
              refine s_skd (d := some 105) rfl rfl (wants_no rfl rfl rfl rfl g108) ?_
              refine s_skf (d := some 106) rfl rfl (wants_no rfl rfl rfl rfl g108) ⟨trivial, trivial, (.inr ⟨wants_no rfl rfl rfl rfl g108, rfl⟩), trivial⟩ ?_ trivial
              refine s_sk (d := some 107) rfl rfl (wants_no rfl rfl rfl rfl g108) ?_
              refine s_pu (d := some 108) (v := (.bool false)) rfl rfl rfl (r_pick0 rfl g108 rfl) ?_
              refine s_pu (d := some 10) (v := (.bool false)) rfl rfl rfl (r_assign rfl) ?_
              refine s_fin ?_
              exact N_mk (l := [(10, (.bool false))]) H ⟨rfl, trivial⟩
          · have H := H.2 g107
            refine s_sk (d := some 100) rfl rfl (wants_no rfl rfl rfl rfl g107) ?_
            refine s_pu (d := some 101) (v := (.bool false)) rfl rfl rfl (r_pick0 rfl g107 rfl) ?_
            refine s_pu (d := some 102) (v := (.bool false)) rfl rfl rfl (r_move rfl) ?_
            refine s_skd (d := some 103) rfl rfl (wants_no rfl rfl rfl rfl rfl) ?_
            refine s_skd (d := some 104) rfl rfl (wants_no rfl rfl rfl rfl rfl) ?_
            refine s_skd (d := some 105) rfl rfl (wants_no rfl rfl rfl rfl rfl) ?_
            refine s_skf (d := some 106) rfl rfl (wants_no rfl rfl rfl rfl rfl) ⟨trivial, trivial, (.inr ⟨wants_no rfl rfl rfl rfl rfl, rfl⟩), trivial⟩ ?_ trivial
            refine s_sk (d := some 107) rfl rfl (wants_no rfl rfl rfl rfl rfl) ?_
            refine s_pu (d := some 108) (v := (.bool false)) rfl rfl rfl (r_pick0 rfl rfl rfl) ?_
            refine s_pu (d := some 10) (v := (.bool false)) rfl rfl rfl (r_assign rfl) ?_
            refine s_fin ?_
            exact N_mk (l := [(10, (.bool false))]) H ⟨rfl, trivial⟩
        · have H := H.2 g106
          refine s_sk (d := some 97) rfl rfl (wants_no rfl rfl rfl rfl g106) ?_
          refine s_pu (d := some 98) (v := (.bool false)) rfl rfl rfl (r_pick0 rfl g106 rfl) ?_
          refine s_pu (d := some 99) (v := (.bool false)) rfl rfl rfl (r_move rfl) ?_
          refine s_sk (d := some 100) rfl rfl (wants_no rfl rfl rfl rfl rfl) ?_
          refine s_pu (d := some 101) (v := (.bool false)) rfl rfl rfl (r_pick0 rfl rfl rfl) ?_
          refine s_pu (d := some 102) (v := (.bool false)) rfl rfl rfl (r_move rfl) ?_
          refine s_skd (d := some 103) rfl rfl (wants_no rfl rfl rfl rfl rfl) ?_
          refine s_skd (d := some 104) rfl rfl (wants_no rfl rfl rfl rfl rfl) ?_
          refine s_skd (d := some 105) rfl rfl (wants_no rfl rfl rfl rfl rfl) ?_
          refine s_skf (d := some 106) rfl rfl (wants_no rfl rfl rfl rfl rfl) ⟨trivial, trivial, (.inr ⟨wants_no rfl rfl rfl rfl rfl, rfl⟩), trivial⟩ ?_ trivial
          refine s_sk (d := some 107) rfl rfl (wants_no rfl rfl rfl rfl rfl) ?_
          refine s_pu (d := some 108) (v := (.bool false)) rfl rfl rfl (r_pick0 rfl rfl rfl) ?_
          refine s_pu (d := some 10) (v := (.bool false)) rfl rfl rfl (r_assign rfl) ?_
          refine s_fin ?_
          exact N_mk (l := [(10, (.bool false))]) H ⟨rfl, trivial⟩)
    clear eN54
    refine W_draw [0, 1, 3, 7, 15, 31, 63, 127, 255, 255, 255, 1791, 4095, 8191, 16383] (.pu 0 (.pu 1 (.pu 2 (.pu 3 (.pu 4 (.pu 5 (.pu 6 (.pu 7 (.rd 8 (.rd 9 (.rd 10 (.ef 11 [9, 10] (.pu 12 (.pu 13 (.pu 14 .fin))) .no)))))))))))) (by kernel_rfl) (by kernel_rfl) ?_
    refine s_pu (d := some 52) (v := (.bool y20)) rfl rfl rfl (r_move rfl) ?_
    refine s_pu (d := some 53) (v := (.bool y20)) rfl rfl rfl (r_move rfl) ?_
    rcases Bool.eq_false_or_eq_true y20 with g152 | g152
    · have H := H.1 g152
      refine s_pu (d := some 54) (v := (.bool y33)) rfl rfl (wants_yes rfl rfl rfl rfl g152) (r_move rfl) ?_
      refine s_pu (d := some 55) (v := (.bool y33)) rfl rfl rfl (r_pick1 rfl g152 rfl) ?_
      refine s_pu (d := some 56) (v := (.bool y33)) rfl rfl rfl (r_move rfl) ?_
      rcases Bool.eq_false_or_eq_true y33 with g153 | g153
      · have H := H.1 g153
        refine s_pu (d := some 57) (v := (.bool y46)) rfl rfl (wants_yes rfl rfl rfl rfl g153) (r_move rfl) ?_
        refine s_pu (d := some 58) (v := (.bool (!y46))) rfl rfl (wants_yes rfl rfl rfl rfl g153) (r_not rfl) ?_
        refine s_pu (d := some 59) (v := (.bool (!y46))) rfl rfl (wants_yes rfl rfl rfl rfl g153) (r_move rfl) ?_
        rcases Bool.eq_false_or_eq_true (!y46) with g154 | g154
        · have H := H.1 g154
          refine s_skd (d := some 60) rfl rfl (wants_no rfl rfl rfl rfl g154) ?_
          refine s_skd (d := some 61) rfl rfl (wants_no rfl rfl rfl rfl g154) ?_
          refine s_skd (d := some 62) rfl rfl (wants_no rfl rfl rfl rfl g154) ?_
          refine s_skf (d := some 63) rfl rfl (wants_no rfl rfl rfl rfl g154) ⟨trivial, trivial, (.inr ⟨wants_no rfl rfl rfl rfl g154, rfl⟩), trivial⟩ ?_ trivial
          refine s_sk (d := some 64) rfl rfl (wants_no rfl rfl rfl rfl g154) ?_
          refine s_pu (d := some 65) (v := (.bool true)) rfl rfl (wants_yes rfl rfl rfl rfl g153) (r_pick1 rfl g154 rfl) ?_
          refine s_pu (d := some 66) (v := (.bool true)) rfl rfl rfl (r_pick1 rfl g153 rfl) ?_
          refine s_fin ?_
          exact N_mk (l := [(0, (Sl.v l1)), (4, (Sl.v m5)), (12, (.pointer (some p8))), (66, (.bool true))]) H ⟨rfl, rfl, rfl, rfl, trivial⟩
        · have H := H.2 g154
          obtain ⟨x155, e156, H⟩ := H
          obtain ⟨x157, e158, H⟩ := H
          obtain ⟨x159, e160, H⟩ := H
          obtain ⟨x161, e162, H⟩ := H
          obtain ⟨x163, e164, H⟩ := H
          refine s_rd (d := some 60) (v := (.agg #[(.int .i64 x155), (.int .i64 x157), (.int .i64 x159), (.int .i64 x161), (.int .i64 x163)])) rfl rfl (wants_yes rfl rfl rfl rfl g154) (fun dr => r_loadN Try.isAgg34 Try.sizeOf34 (vs := [(.int .i64 x155), (.int .i64 x157), (.int .i64 x159), (.int .i64 x161), (.int .i64 x163)]) rfl rfl ⟨e156, e158, e160, e162, e164, trivial⟩) ?_
          obtain ⟨x165, e166, H⟩ := H
          obtain ⟨x167, e168, H⟩ := H
          obtain ⟨x169, e170, H⟩ := H
          obtain ⟨x171, e172, H⟩ := H
          obtain ⟨x173, e174, H⟩ := H
          refine s_rd (d := some 61) (v := (.agg #[(.int .i64 x165), (.int .i64 x167), (.int .i64 x169), (.int .i64 x171), (.int .i64 x173)])) rfl rfl (wants_yes rfl rfl rfl rfl g154) (fun dr => r_loadN Try.isAgg34 Try.sizeOf34 (vs := [(.int .i64 x165), (.int .i64 x167), (.int .i64 x169), (.int .i64 x171), (.int .i64 x173)]) rfl rfl ⟨e166, e168, e170, e172, e174, trivial⟩) ?_
          obtain ⟨x175, e176, H⟩ := H
          obtain ⟨x177, e178, H⟩ := H
          obtain ⟨x179, e180, H⟩ := H
          obtain ⟨x181, e182, H⟩ := H
          obtain ⟨x183, e184, H⟩ := H
          refine s_rd (d := some 62) (v := (.agg #[(.int .i64 x175), (.int .i64 x177), (.int .i64 x179), (.int .i64 x181), (.int .i64 x183)])) rfl rfl (wants_yes rfl rfl rfl rfl g154) (fun dr => r_loadN Try.isAgg34 Try.sizeOf34 (vs := [(.int .i64 x175), (.int .i64 x177), (.int .i64 x179), (.int .i64 x181), (.int .i64 x183)]) rfl rfl ⟨e176, e178, e180, e182, e184, trivial⟩) ?_
          refine s_ef (d := some 63) rfl rfl (wants_yes rfl rfl rfl rfl g154) (fun dr => r_call Try.call27 rfl rfl H) ?_ trivial
          rintro _ h30 ⟨y185, y186, y187, y188, y189, rfl, H⟩
          obtain ⟨e190, H⟩ := H
          obtain ⟨e191, H⟩ := H
          obtain ⟨e192, H⟩ := H
          obtain ⟨e193, H⟩ := H
          obtain ⟨e194, H⟩ := H
          refine ⟨⟨trivial, trivial, (.inl ⟨(wants_yes rfl rfl rfl rfl g154), fun dr => r_loadN Try.isAgg34 Try.sizeOf34 (vs := [(.int .i64 x155), (.int .i64 x157), (.int .i64 x159), (.int .i64 x161), (.int .i64 x163)]) rfl rfl ⟨e190, e191, e192, e193, e194, trivial⟩⟩), trivial⟩, ?_⟩
          refine s_pu (d := some 64) (v := (.bool (!(decide (x155 = y185 ∧ x157 = y186 ∧ x159 = y187 ∧ x161 = y188 ∧ x163 = y189))))) rfl rfl (wants_yes rfl rfl rfl rfl g154) (r_neqAgg_Try34 rfl rfl) ?_
          refine s_pu (d := some 65) (v := (.bool (!(decide (x155 = y185 ∧ x157 = y186 ∧ x159 = y187 ∧ x161 = y188 ∧ x163 = y189))))) rfl rfl (wants_yes rfl rfl rfl rfl g153) (r_pick0 rfl g154 rfl) ?_
          refine s_pu (d := some 66) (v := (.bool (!(decide (x155 = y185 ∧ x157 = y186 ∧ x159 = y187 ∧ x161 = y188 ∧ x163 = y189))))) rfl rfl rfl (r_pick1 rfl g153 rfl) ?_
          refine s_fin ?_
          exact N_mk (l := [(0, (Sl.v l1)), (4, (Sl.v m5)), (12, (.pointer (some p8))), (66, (.bool (!(decide (x155 = y185 ∧ x157 = y186 ∧ x159 = y187 ∧ x161 = y188 ∧ x163 = y189)))))]) H ⟨rfl, rfl, rfl, rfl, trivial⟩
      · have H := H.2 g153
        refine s_sk (d := some 57) rfl rfl (wants_no rfl rfl rfl rfl g153) ?_
        refine s_sk (d := some 58) rfl rfl (wants_no rfl rfl rfl rfl g153) ?_
        refine s_sk (d := some 59) rfl rfl (wants_no rfl rfl rfl rfl g153) ?_
        refine s_skd (d := some 60) rfl rfl (wants_un rfl rfl rfl) ?_
        refine s_skd (d := some 61) rfl rfl (wants_un rfl rfl rfl) ?_
        refine s_skd (d := some 62) rfl rfl (wants_un rfl rfl rfl) ?_
        refine s_skf (d := some 63) rfl rfl (wants_un rfl rfl rfl) ⟨trivial, trivial, (.inr ⟨wants_un rfl rfl rfl, rfl⟩), trivial⟩ ?_ trivial
        refine s_sk (d := some 64) rfl rfl (wants_un rfl rfl rfl) ?_
        refine s_sk (d := some 65) rfl rfl (wants_no rfl rfl rfl rfl g153) ?_
        refine s_pu (d := some 66) (v := (.bool false)) rfl rfl rfl (r_pick0 rfl g153 rfl) ?_
        refine s_fin ?_
        exact N_mk (l := [(0, (Sl.v l1)), (4, (Sl.v m5)), (12, (.pointer (some p8))), (66, (.bool false))]) H ⟨rfl, rfl, rfl, rfl, trivial⟩
    · have H := H.2 g152
      refine s_sk (d := some 54) rfl rfl (wants_no rfl rfl rfl rfl g152) ?_
      refine s_pu (d := some 55) (v := (.bool false)) rfl rfl rfl (r_pick0 rfl g152 rfl) ?_
      refine s_pu (d := some 56) (v := (.bool false)) rfl rfl rfl (r_move rfl) ?_
      refine s_sk (d := some 57) rfl rfl (wants_no rfl rfl rfl rfl rfl) ?_
      refine s_sk (d := some 58) rfl rfl (wants_no rfl rfl rfl rfl rfl) ?_
      refine s_sk (d := some 59) rfl rfl (wants_no rfl rfl rfl rfl rfl) ?_
      refine s_skd (d := some 60) rfl rfl (wants_un rfl rfl rfl) ?_
      refine s_skd (d := some 61) rfl rfl (wants_un rfl rfl rfl) ?_
      refine s_skd (d := some 62) rfl rfl (wants_un rfl rfl rfl) ?_
      refine s_skf (d := some 63) rfl rfl (wants_un rfl rfl rfl) ⟨trivial, trivial, (.inr ⟨wants_un rfl rfl rfl, rfl⟩), trivial⟩ ?_ trivial
      refine s_sk (d := some 64) rfl rfl (wants_un rfl rfl rfl) ?_
      refine s_sk (d := some 65) rfl rfl (wants_no rfl rfl rfl rfl rfl) ?_
      refine s_pu (d := some 66) (v := (.bool false)) rfl rfl rfl (r_pick0 rfl rfl rfl) ?_
      refine s_fin ?_
      exact N_mk (l := [(0, (Sl.v l1)), (4, (Sl.v m5)), (12, (.pointer (some p8))), (66, (.bool false))]) H ⟨rfl, rfl, rfl, rfl, trivial⟩

/-! ### law3_SeqSlices -/

def law3_SeqSlices_F (r : World) (l1 : Sl) (i2 : Int) (j3 : Int) (a4 : Int) (vb5 : Int) (h : Heap) (R : Bool → Heap → Prop) : Prop :=
  law3_placed r h fun y6 h1 =>
  Br (!y6) (
    R false h1) (
    seq_Of r l1 h1 fun y7 h2 =>
    New h2 (.cells #[(.pointer none)] 52) fun p8 h3 =>
    St h3 p8 1 [(.pointer y7)] fun h4 =>
    LdP h4 (Addr.add p8 0) fun x13 =>
    seq_Seq_Slice r x13 i2 j3 h4 fun y15 y16 h5 =>
    New h5 (.cells #[(.pointer none)] 52) fun p17 h6 =>
    St h6 p17 1 [(.pointer y15)] fun h7 =>
    Br (!y16) (
      ∀ x28 : Bool, x28 = (((decide (i2 < 0)) || (decide (j3 < i2))) || (decide (((l1.len : Int)) < j3))) →
      R x28 h7) (
      LdP h7 (Addr.add p8 0) fun x32 =>
      seq_Seq_Slice r x32 0 i2 h7 fun y34 y35 h8 =>
      New h8 (.cells #[(.pointer none)] 52) fun p36 h9 =>
      St h9 p36 1 [(.pointer y34)] fun h10 =>
      LdP h10 (Addr.add p8 0) fun x41 =>
      seq_Seq_Slice r x41 j3 ((l1.len : Int)) h10 fun y43 y44 h11 =>
      New h11 (.cells #[(.pointer none)] 52) fun p45 h12 =>
      St h12 p45 1 [(.pointer y43)] fun h13 =>
      LdP h13 (Addr.add p36 0) fun x50 =>
      LdP h13 (Addr.add p17 0) fun x52 =>
      LdP h13 (Addr.add p45 0) fun x54 =>
      seq_Seq_Join r x50 x52 h13 fun y56 h14 =>
      (hcell h14 (Addr.add p45 0) = some (.pointer x54)) ∧
      seq_Seq_Join r y56 x54 h14 fun y58 h15 =>
      seq_Seq_Ints r y58 h15 fun y59 h16 =>
      same_Ints r y59 l1 h16 fun y60 h17 =>
      LdP h17 (Addr.add p17 0) fun x61 =>
      seq_Seq_Slice r x61 a4 vb5 h17 fun y63 y64 h18 =>
      New h18 (.cells #[(.pointer none)] 52) fun p65 h19 =>
      St h19 p65 1 [(.pointer y63)] fun h20 =>
      ∀ J71 : Bool → Heap → Prop, (∀ (x70 : Bool) (h21 : Heap),
        (Br x70 (
          R false h21) (
          Br (!y64) (
            ∀ x79 : Bool, x79 = (((decide (a4 < 0)) || (decide (vb5 < a4))) || (decide ((w64 (j3 - i2)) < vb5))) →
            R x79 h21) (
            LdP h21 (Addr.add p8 0) fun x83 =>
            seq_Seq_Slice r x83 (w64 (i2 + a4)) (w64 (i2 + vb5)) h21 fun y85 y86 h22 =>
            New h22 (.cells #[(.pointer none)] 52) fun p87 h23 =>
            St h23 p87 1 [(.pointer y85)] fun h24 =>
            LdP h24 (Addr.add p65 0) fun x92 =>
            LdP h24 (Addr.add p87 0) fun x94 =>
            seq_Seq_Ints r x92 h24 fun y96 h25 =>
            (hcell h25 (Addr.add p87 0) = some (.pointer x94)) ∧
            seq_Seq_Ints r x94 h25 fun y98 h26 =>
            same_Ints r y96 y98 h26 fun y99 h27 =>
            R (y86 && y99) h27))) →
        J71 x70 h21) →
      Br (!y35) (
        J71 true h20) (
        Br (!y44) (
          J71 true h20) (
          Br (!y60) (
            J71 true h20) (
            LdP h20 (Addr.add p17 0) fun x109 =>
            seq_Seq_Len r x109 h20 fun y111 h28 =>
            J71 (!decide (y111 = (w64 (j3 - i2)))) h28)))))

set_option maxRecDepth 100000 in
theorem law3_SeqSlices_of {r : World} {l1 : Sl} {i2 : Int} {j3 : Int} {a4 : Int} {vb5 : Int} {h : Heap} {R : Bool → Heap → Prop} (H : law3_SeqSlices_F r l1 i2 j3 a4 vb5 h R) : law3_SeqSlices r l1 i2 j3 a4 vb5 h R := by
  unfold law3_SeqSlices_F at H
  refine calls_of 135 [.tmp 10] Try.func9 rfl rfl rfl rfl rfl ?_
  refine W_seq ?_
  refine W_region (.pu 0 .fin) rfl rfl ?_
  refine s_pu (d := some 10) (v := (.bool false)) rfl rfl rfl (r_assign rfl) ?_
  refine s_fin ?_
  show W _ _ _ _ _ _ _ _
  refine W_seq ?_
  refine W_region (.ef 0 [] (.pu 1 .fin) .no) rfl rfl ?_
  refine s_ef (d := some 25) rfl rfl rfl (fun dr => r_call Try.call30 rfl rfl H) ?_ trivial
  rintro _ h1 ⟨y6, rfl, H⟩
  refine ⟨trivial, ?_⟩
  refine s_pu (d := some 11) (v := (.bool y6)) rfl rfl rfl (r_assign rfl) ?_
  refine s_fin ?_
  show W _ _ _ _ _ _ _ _
  refine W_seq ?_
  refine W_seq ?_
  refine W_region (.pu 0 (.pu 1 .fin)) rfl rfl ?_
  refine s_pu (d := some 26) (v := (.bool y6)) rfl rfl rfl (r_move rfl) ?_
  refine s_pu (d := some 27) (v := (.bool (!y6))) rfl rfl rfl (r_not rfl) ?_
  refine s_fin ?_
  show W _ _ _ _ _ _ _ _
  refine W_if (!y6) rfl (fun g113 => ?_) (fun g113 => ?_)
  · have H := H.1 g113
    refine W_seq ?_
    refine W_region (.pu 0 .fin) rfl rfl ?_
    refine s_pu (d := some 10) (v := (.bool false)) rfl rfl rfl (r_assign rfl) ?_
    refine s_fin ?_
    show W _ _ _ _ _ _ _ _
    refine W_ret ?_
    exact ⟨[(.bool false)], ⟨_, _, rfl, rfl, rfl⟩, false, rfl, H⟩
  · have H := H.2 g113
    refine W_skip ?_
    show W _ _ _ _ _ _ _ _
    refine W_seq ?_
    refine W_region (.pu 0 (.ef 1 [] (.ef 2 [] (.ef 3 [] .fin .no) .no) .no)) rfl rfl ?_
    refine s_pu (d := some 28) (v := (Sl.v l1)) rfl rfl rfl (r_move rfl) ?_
    refine s_ef (d := some 29) rfl rfl rfl (fun dr => r_call Try.call31 rfl rfl H) ?_ trivial
    rintro _ h2 ⟨y7, rfl, H⟩
    refine ⟨trivial, ?_⟩
    obtain ⟨p8, e9⟩ : ∃ p : Addr, p = ⟨h2.size, 0, none⟩ := ⟨_, rfl⟩
    obtain ⟨h3, e10⟩ : ∃ hh : Heap, hh = h2.push (.cells #[(.pointer none)] 52) := ⟨_, rfl⟩
    have H := H p8 h3 e9 e10
    refine s_ef1 (d := some 12) (v := (.pointer (some p8))) (h' := h3) rfl rfl rfl (fun dr => (r_alloc Try.zeroValue52).trans (by rw [e9, e10]; rfl)) trivial ?_ trivial
    obtain ⟨e12, H⟩ := H
    obtain ⟨h4, e11⟩ : ∃ hh : Heap, hh = hsets h3 p8 0 [(.pointer y7)] := ⟨_, rfl⟩
    have H := H h4 e11
    refine s_st (d := none) (h' := h4) rfl rfl rfl (fun dr => (r_store (v := (.agg #[(.pointer y7)])) Try.sizeOf52 rfl rfl rfl (one_all rfl) e12).trans (by rw [e11]; rfl)) trivial ?_ trivial
    refine s_fin ?_
    show W _ _ _ _ _ _ _ _
    refine W_seq ?_
    refine W_region (.rl 0 (.pu 1 (.pu 2 (.ef 3 [] (.pu 4 (.pu 5 (.pu 6 (.ef 7 [] (.ef 8 [] (.pu 9 .fin) .no) .no)))) .no)))) rfl rfl ?_
    obtain ⟨x13, e14, H⟩ := H
    refine s_rl (d := some 31) (v := (.agg #[(.pointer x13)])) rfl rfl rfl (fun dr => r_loadN Try.isAgg52 Try.sizeOf52 (vs := [(.pointer x13)]) rfl rfl ⟨e14, trivial⟩) ?_
    refine s_pu (d := some 32) (v := (.int .i64 i2)) rfl rfl rfl (r_move rfl) ?_
    refine s_pu (d := some 33) (v := (.int .i64 j3)) rfl rfl rfl (r_move rfl) ?_
    refine s_ef (d := some 34) rfl rfl rfl (fun dr => r_call Try.call34 rfl rfl H) ?_ trivial
    rintro _ h5 ⟨y15, y16, rfl, H⟩
    refine ⟨trivial, ?_⟩
    refine s_pu (d := some 30) (v := (.tuple #[(.agg #[(.pointer y15)]), (.bool y16)])) rfl rfl rfl (r_move rfl) ?_
    refine s_pu (d := some 35) (v := (.agg #[(.pointer y15)])) rfl rfl rfl (r_extract rfl rfl) ?_
    refine s_pu (d := some 36) (v := (.bool y16)) rfl rfl rfl (r_extract rfl rfl) ?_
    obtain ⟨p17, e18⟩ : ∃ p : Addr, p = ⟨h5.size, 0, none⟩ := ⟨_, rfl⟩
    obtain ⟨h6, e19⟩ : ∃ hh : Heap, hh = h5.push (.cells #[(.pointer none)] 52) := ⟨_, rfl⟩
    have H := H p17 h6 e18 e19
    refine s_ef1 (d := some 13) (v := (.pointer (some p17))) (h' := h6) rfl rfl rfl (fun dr => (r_alloc Try.zeroValue52).trans (by rw [e18, e19]; rfl)) trivial ?_ trivial
    obtain ⟨e21, H⟩ := H
    obtain ⟨h7, e20⟩ : ∃ hh : Heap, hh = hsets h6 p17 0 [(.pointer y15)] := ⟨_, rfl⟩
    have H := H h7 e20
    refine s_st (d := none) (h' := h7) rfl rfl rfl (fun dr => (r_store (v := (.agg #[(.pointer y15)])) Try.sizeOf52 rfl rfl rfl (one_all rfl) e21).trans (by rw [e20]; rfl)) trivial ?_ trivial
    refine s_pu (d := some 14) (v := (.bool y16)) rfl rfl rfl (r_assign rfl) ?_
    refine s_fin ?_
    show W _ _ _ _ _ _ _ _
    refine W_seq ?_
    refine W_seq ?_
    refine W_region (.pu 0 (.pu 1 .fin)) rfl rfl ?_
    refine s_pu (d := some 37) (v := (.bool y16)) rfl rfl rfl (r_move rfl) ?_
    refine s_pu (d := some 38) (v := (.bool (!y16))) rfl rfl rfl (r_not rfl) ?_
    refine s_fin ?_
    show W _ _ _ _ _ _ _ _
    refine W_if (!y16) rfl (fun g112 => ?_) (fun g112 => ?_)
    · have H := H.1 g112
      refine W_seq ?_
      refine W_region (.pu 0 (.pu 1 (.pu 2 (.pu 3 (.pu 4 (.pu 5 (.pu 6 (.pu 7 (.pu 8 (.pu 9 (.pu 10 (.pu 11 (.pu 12 (.pu 13 .fin)))))))))))))) rfl rfl ?_
      refine s_pu (d := some 39) (v := (.int .i64 i2)) rfl rfl rfl (r_move rfl) ?_
      refine s_pu (d := some 40) (v := (.bool (decide (i2 < 0)))) rfl rfl rfl (r_lss rfl rfl) ?_
      refine s_pu (d := some 41) (v := (.bool (decide (i2 < 0)))) rfl rfl rfl (r_move rfl) ?_
      refine S_meet (l := [(0, (Sl.v l1)), (2, (.int .i64 j3)), (45, (.bool ((decide (i2 < 0)) || (decide (j3 < i2)))))]) (i := 4) ?_ (fun HJ => ?_)
      · intro b
        show S _ _ _ _ _ _
        refine s_pu (d := some 46) (v := (.bool ((decide (i2 < 0)) || (decide (j3 < i2))))) rfl rfl rfl (r_move rfl) ?_
        refine S_meet (l := [(51, (.bool (((decide (i2 < 0)) || (decide (j3 < i2))) || (decide (((l1.len : Int)) < j3)))))]) (i := 5) ?_ (fun HJ => ?_)
        · intro b
          show S _ _ _ _ _ _
          obtain ⟨x28, e29⟩ : ∃ x : Bool, x = (((decide (i2 < 0)) || (decide (j3 < i2))) || (decide (((l1.len : Int)) < j3))) := ⟨_, rfl⟩
          have H := H x28 e29
          refine s_pu (d := some 10) (v := (.bool x28)) rfl rfl rfl (r_assign (congrArg Value.bool e29.symm)) ?_
          refine s_fin ?_
          show W _ _ _ _ _ _ _ _
          refine W_ret ?_
          exact ⟨[(.bool x28)], ⟨_, _, rfl, rfl, rfl⟩, x28, rfl, H⟩
        · rcases Bool.eq_false_or_eq_true ((decide (i2 < 0)) || (decide (j3 < i2))) with g25 | g25
          · refine s_sk (d := some 47) rfl rfl (wants_no rfl rfl rfl rfl g25) ?_
            refine s_sk (d := some 48) rfl rfl (wants_no rfl rfl rfl rfl g25) ?_
            refine s_sk (d := some 49) rfl rfl (wants_no rfl rfl rfl rfl g25) ?_
            refine s_sk (d := some 50) rfl rfl (wants_no rfl rfl rfl rfl g25) ?_
            refine s_pu (d := some 51) (v := (.bool true)) rfl rfl rfl (r_pick1 rfl g25 rfl) ?_
            exact S_mk (l := [(51, (.bool (((decide (i2 < 0)) || (decide (j3 < i2))) || (decide (((l1.len : Int)) < j3)))))]) HJ ⟨(by rw [g25]; rfl), trivial⟩
          · refine s_pu (d := some 47) (v := (.int .i64 j3)) rfl rfl (wants_yes rfl rfl rfl rfl g25) (r_move rfl) ?_
            refine s_pu (d := some 48) (v := (Sl.v l1)) rfl rfl (wants_yes rfl rfl rfl rfl g25) (r_move rfl) ?_
            refine s_pu (d := some 49) (v := (.int .i64 ((l1.len : Int)))) rfl rfl (wants_yes rfl rfl rfl rfl g25) (r_len Try.underlying22 rfl) ?_
            refine s_pu (d := some 50) (v := (.bool (decide (((l1.len : Int)) < j3)))) rfl rfl (wants_yes rfl rfl rfl rfl g25) (r_gtr rfl rfl) ?_
            refine s_pu (d := some 51) (v := (.bool (decide (((l1.len : Int)) < j3)))) rfl rfl rfl (r_pick0 rfl g25 rfl) ?_
            exact S_mk (l := [(51, (.bool (((decide (i2 < 0)) || (decide (j3 < i2))) || (decide (((l1.len : Int)) < j3)))))]) HJ ⟨(by rw [g25]; rfl), trivial⟩
      · rcases Bool.eq_false_or_eq_true (decide (i2 < 0)) with g22 | g22
        · refine s_sk (d := some 42) rfl rfl (wants_no rfl rfl rfl rfl g22) ?_
          refine s_sk (d := some 43) rfl rfl (wants_no rfl rfl rfl rfl g22) ?_
          refine s_sk (d := some 44) rfl rfl (wants_no rfl rfl rfl rfl g22) ?_
          refine s_pu (d := some 45) (v := (.bool true)) rfl rfl rfl (r_pick1 rfl g22 rfl) ?_
          exact S_mk (l := [(0, (Sl.v l1)), (2, (.int .i64 j3)), (45, (.bool ((decide (i2 < 0)) || (decide (j3 < i2)))))]) HJ ⟨rfl, rfl, (by rw [g22]; rfl), trivial⟩
        · refine s_pu (d := some 42) (v := (.int .i64 j3)) rfl rfl (wants_yes rfl rfl rfl rfl g22) (r_move rfl) ?_
          refine s_pu (d := some 43) (v := (.int .i64 i2)) rfl rfl (wants_yes rfl rfl rfl rfl g22) (r_move rfl) ?_
          refine s_pu (d := some 44) (v := (.bool (decide (j3 < i2)))) rfl rfl (wants_yes rfl rfl rfl rfl g22) (r_lss rfl rfl) ?_
          refine s_pu (d := some 45) (v := (.bool (decide (j3 < i2)))) rfl rfl rfl (r_pick0 rfl g22 rfl) ?_
          exact S_mk (l := [(0, (Sl.v l1)), (2, (.int .i64 j3)), (45, (.bool ((decide (i2 < 0)) || (decide (j3 < i2)))))]) HJ ⟨rfl, rfl, (by rw [g22]; rfl), trivial⟩
    · have H := H.2 g112
      refine W_skip ?_
      show W _ _ _ _ _ _ _ _
      refine W_seq ?_
      refine W_region (.rl 0 (.pu 1 (.ef 2 [] (.pu 3 (.pu 4 (.pu 5 (.ef 6 [] (.ef 7 [] (.pu 8 .fin) .no) .no)))) .no))) rfl rfl ?_
      obtain ⟨x32, e33, H⟩ := H
      refine s_rl (d := some 53) (v := (.agg #[(.pointer x32)])) rfl rfl rfl (fun dr => r_loadN Try.isAgg52 Try.sizeOf52 (vs := [(.pointer x32)]) rfl rfl ⟨e33, trivial⟩) ?_
      refine s_pu (d := some 54) (v := (.int .i64 i2)) rfl rfl rfl (r_move rfl) ?_
      refine s_ef (d := some 55) rfl rfl rfl (fun dr => r_call Try.call34 rfl rfl H) ?_ trivial
      rintro _ h8 ⟨y34, y35, rfl, H⟩
      refine ⟨trivial, ?_⟩
      refine s_pu (d := some 52) (v := (.tuple #[(.agg #[(.pointer y34)]), (.bool y35)])) rfl rfl rfl (r_move rfl) ?_
      refine s_pu (d := some 56) (v := (.agg #[(.pointer y34)])) rfl rfl rfl (r_extract rfl rfl) ?_
      refine s_pu (d := some 57) (v := (.bool y35)) rfl rfl rfl (r_extract rfl rfl) ?_
      obtain ⟨p36, e37⟩ : ∃ p : Addr, p = ⟨h8.size, 0, none⟩ := ⟨_, rfl⟩
      obtain ⟨h9, e38⟩ : ∃ hh : Heap, hh = h8.push (.cells #[(.pointer none)] 52) := ⟨_, rfl⟩
      have H := H p36 h9 e37 e38
      refine s_ef1 (d := some 15) (v := (.pointer (some p36))) (h' := h9) rfl rfl rfl (fun dr => (r_alloc Try.zeroValue52).trans (by rw [e37, e38]; rfl)) trivial ?_ trivial
      obtain ⟨e40, H⟩ := H
      obtain ⟨h10, e39⟩ : ∃ hh : Heap, hh = hsets h9 p36 0 [(.pointer y34)] := ⟨_, rfl⟩
      have H := H h10 e39
      refine s_st (d := none) (h' := h10) rfl rfl rfl (fun dr => (r_store (v := (.agg #[(.pointer y34)])) Try.sizeOf52 rfl rfl rfl (one_all rfl) e40).trans (by rw [e39]; rfl)) trivial ?_ trivial
      refine s_pu (d := some 16) (v := (.bool y35)) rfl rfl rfl (r_assign rfl) ?_
      refine s_fin ?_
      show W _ _ _ _ _ _ _ _
      refine W_seq ?_
      refine W_region (.rl 0 (.pu 1 (.pu 2 (.pu 3 (.ef 4 [] (.pu 5 (.pu 6 (.pu 7 (.ef 8 [] (.ef 9 [] (.pu 10 .fin) .no) .no)))) .no))))) rfl rfl ?_
      obtain ⟨x41, e42, H⟩ := H
      refine s_rl (d := some 59) (v := (.agg #[(.pointer x41)])) rfl rfl rfl (fun dr => r_loadN Try.isAgg52 Try.sizeOf52 (vs := [(.pointer x41)]) rfl rfl ⟨e42, trivial⟩) ?_
      refine s_pu (d := some 60) (v := (.int .i64 j3)) rfl rfl rfl (r_move rfl) ?_
      refine s_pu (d := some 61) (v := (Sl.v l1)) rfl rfl rfl (r_move rfl) ?_
      refine s_pu (d := some 62) (v := (.int .i64 ((l1.len : Int)))) rfl rfl rfl (r_len Try.underlying22 rfl) ?_
      refine s_ef (d := some 63) rfl rfl rfl (fun dr => r_call Try.call34 rfl rfl H) ?_ trivial
      rintro _ h11 ⟨y43, y44, rfl, H⟩
      refine ⟨trivial, ?_⟩
      refine s_pu (d := some 58) (v := (.tuple #[(.agg #[(.pointer y43)]), (.bool y44)])) rfl rfl rfl (r_move rfl) ?_
      refine s_pu (d := some 64) (v := (.agg #[(.pointer y43)])) rfl rfl rfl (r_extract rfl rfl) ?_
      refine s_pu (d := some 65) (v := (.bool y44)) rfl rfl rfl (r_extract rfl rfl) ?_
      obtain ⟨p45, e46⟩ : ∃ p : Addr, p = ⟨h11.size, 0, none⟩ := ⟨_, rfl⟩
      obtain ⟨h12, e47⟩ : ∃ hh : Heap, hh = h11.push (.cells #[(.pointer none)] 52) := ⟨_, rfl⟩
      have H := H p45 h12 e46 e47
      refine s_ef1 (d := some 17) (v := (.pointer (some p45))) (h' := h12) rfl rfl rfl (fun dr => (r_alloc Try.zeroValue52).trans (by rw [e46, e47]; rfl)) trivial ?_ trivial
      obtain ⟨e49, H⟩ := H
      obtain ⟨h13, e48⟩ : ∃ hh : Heap, hh = hsets h12 p45 0 [(.pointer y43)] := ⟨_, rfl⟩
      have H := H h13 e48
      refine s_st (d := none) (h' := h13) rfl rfl rfl (fun dr => (r_store (v := (.agg #[(.pointer y43)])) Try.sizeOf52 rfl rfl rfl (one_all rfl) e49).trans (by rw [e48]; rfl)) trivial ?_ trivial
      refine s_pu (d := some 18) (v := (.bool y44)) rfl rfl rfl (r_assign rfl) ?_
      refine s_fin ?_
      show W _ _ _ _ _ _ _ _
      refine W_seq ?_
      refine W_draw [0, 0, 3, 0, 15, 31, 0, 127, 255] (.rd 0 (.rd 1 (.rd 3 (.pu 6 (.ef 2 [0, 1] (.ef 4 [0, 1, 3] (.ef 5 [0, 1, 3] (.ef 7 [0, 1, 3] (.pu 8 .fin) .no) .no) .no) .no))))) (by kernel_rfl) (by kernel_rfl) ?_
      obtain ⟨x50, e51, H⟩ := H
      refine s_rd (d := some 66) (v := (.agg #[(.pointer x50)])) rfl rfl rfl (fun dr => r_loadN Try.isAgg52 Try.sizeOf52 (vs := [(.pointer x50)]) rfl rfl ⟨e51, trivial⟩) ?_
      obtain ⟨x52, e53, H⟩ := H
      refine s_rd (d := some 67) (v := (.agg #[(.pointer x52)])) rfl rfl rfl (fun dr => r_loadN Try.isAgg52 Try.sizeOf52 (vs := [(.pointer x52)]) rfl rfl ⟨e53, trivial⟩) ?_
      obtain ⟨x54, e55, H⟩ := H
      refine s_rd (d := some 69) (v := (.agg #[(.pointer x54)])) rfl rfl rfl (fun dr => r_loadN Try.isAgg52 Try.sizeOf52 (vs := [(.pointer x54)]) rfl rfl ⟨e55, trivial⟩) ?_
      refine s_pu (d := some 72) (v := (Sl.v l1)) rfl rfl rfl (r_move rfl) ?_
      refine s_ef (d := some 68) rfl rfl rfl (fun dr => r_call Try.call33 rfl rfl H) ?_ trivial
      rintro _ h14 ⟨y56, rfl, H⟩
      obtain ⟨e57, H⟩ := H
      refine ⟨⟨(.inl ⟨rfl, fun dr => r_loadN Try.isAgg52 Try.sizeOf52 (vs := [(.pointer x54)]) rfl rfl ⟨e57, trivial⟩⟩), trivial, trivial, trivial⟩, ?_⟩
      refine s_ef (d := some 70) rfl rfl rfl (fun dr => r_call Try.call33 rfl rfl H) ?_ trivial
      rintro _ h15 ⟨y58, rfl, H⟩
      refine ⟨⟨trivial, trivial, trivial, trivial⟩, ?_⟩
      refine s_ef (d := some 71) rfl rfl rfl (fun dr => r_call Try.call35 rfl rfl H) ?_ trivial
      rintro _ h16 ⟨y59, rfl, H⟩
      refine ⟨⟨trivial, trivial, trivial, trivial⟩, ?_⟩
      refine s_ef (d := some 73) rfl rfl rfl (fun dr => r_call Try.call18 rfl rfl H) ?_ trivial
      rintro _ h17 ⟨y60, rfl, H⟩
      refine ⟨⟨trivial, trivial, trivial, trivial⟩, ?_⟩
      refine s_pu (d := some 19) (v := (.bool y60)) rfl rfl rfl (r_assign rfl) ?_
      refine s_fin ?_
      show W _ _ _ _ _ _ _ _
      refine W_seq ?_
      refine W_region (.rl 0 (.pu 1 (.pu 2 (.ef 3 [] (.pu 4 (.pu 5 (.pu 6 (.ef 7 [] (.ef 8 [] (.pu 9 .fin) .no) .no)))) .no)))) rfl rfl ?_
      obtain ⟨x61, e62, H⟩ := H
      refine s_rl (d := some 75) (v := (.agg #[(.pointer x61)])) rfl rfl rfl (fun dr => r_loadN Try.isAgg52 Try.sizeOf52 (vs := [(.pointer x61)]) rfl rfl ⟨e62, trivial⟩) ?_
      refine s_pu (d := some 76) (v := (.int .i64 a4)) rfl rfl rfl (r_move rfl) ?_
      refine s_pu (d := some 77) (v := (.int .i64 vb5)) rfl rfl rfl (r_move rfl) ?_
      refine s_ef (d := some 78) rfl rfl rfl (fun dr => r_call Try.call34 rfl rfl H) ?_ trivial
      rintro _ h18 ⟨y63, y64, rfl, H⟩
      refine ⟨trivial, ?_⟩
      refine s_pu (d := some 74) (v := (.tuple #[(.agg #[(.pointer y63)]), (.bool y64)])) rfl rfl rfl (r_move rfl) ?_
      refine s_pu (d := some 79) (v := (.agg #[(.pointer y63)])) rfl rfl rfl (r_extract rfl rfl) ?_
      refine s_pu (d := some 80) (v := (.bool y64)) rfl rfl rfl (r_extract rfl rfl) ?_
      obtain ⟨p65, e66⟩ : ∃ p : Addr, p = ⟨h18.size, 0, none⟩ := ⟨_, rfl⟩
      obtain ⟨h19, e67⟩ : ∃ hh : Heap, hh = h18.push (.cells #[(.pointer none)] 52) := ⟨_, rfl⟩
      have H := H p65 h19 e66 e67
      refine s_ef1 (d := some 20) (v := (.pointer (some p65))) (h' := h19) rfl rfl rfl (fun dr => (r_alloc Try.zeroValue52).trans (by rw [e66, e67]; rfl)) trivial ?_ trivial
      obtain ⟨e69, H⟩ := H
      obtain ⟨h20, e68⟩ : ∃ hh : Heap, hh = hsets h19 p65 0 [(.pointer y63)] := ⟨_, rfl⟩
      have H := H h20 e68
      refine s_st (d := none) (h' := h20) rfl rfl rfl (fun dr => (r_store (v := (.agg #[(.pointer y63)])) Try.sizeOf52 rfl rfl rfl (one_all rfl) e69).trans (by rw [e68]; rfl)) trivial ?_ trivial
      refine s_pu (d := some 21) (v := (.bool y64)) rfl rfl rfl (r_assign rfl) ?_
      refine s_fin ?_
      show W _ _ _ _ _ _ _ _
      refine W_seq ?_
      refine W_seq ?_
      refine W_set ?_
      intro N72 eN72
      have H := H (fun (x70 : Bool) (h21 : Heap) => ∀ b, N72 [] (mkE [(1, (.int .i64 i2)), (2, (.int .i64 j3)), (3, (.int .i64 a4)), (4, (.int .i64 vb5)), (12, (.pointer (some p8))), (20, (.pointer (some p65))), (21, (.bool y64)), (98, (.bool x70))] b) h21) (by
        intro x70 h21 H b
        rw [eN72]
        show W _ _ _ _ _ _ _ _
        refine W_if x70 rfl (fun g105 => ?_) (fun g105 => ?_)
        · have H := H.1 g105
          refine W_seq ?_
          refine W_region (.pu 0 .fin) rfl rfl ?_
          refine s_pu (d := some 10) (v := (.bool false)) rfl rfl rfl (r_assign rfl) ?_
          refine s_fin ?_
          show W _ _ _ _ _ _ _ _
          refine W_ret ?_
          exact ⟨[(.bool false)], ⟨_, _, rfl, rfl, rfl⟩, false, rfl, H⟩
        · have H := H.2 g105
          refine W_skip ?_
          show W _ _ _ _ _ _ _ _
          refine W_seq ?_
          refine W_seq ?_
          refine W_region (.pu 0 (.pu 1 .fin)) rfl rfl ?_
          refine s_pu (d := some 99) (v := (.bool y64)) rfl rfl rfl (r_move rfl) ?_
          refine s_pu (d := some 100) (v := (.bool (!y64))) rfl rfl rfl (r_not rfl) ?_
          refine s_fin ?_
          show W _ _ _ _ _ _ _ _
          refine W_if (!y64) rfl (fun g104 => ?_) (fun g104 => ?_)
          · have H := H.1 g104
            refine W_seq ?_
            refine W_region (.pu 0 (.pu 1 (.pu 2 (.pu 3 (.pu 4 (.pu 5 (.pu 6 (.pu 7 (.pu 8 (.pu 9 (.pu 10 (.pu 11 (.pu 12 (.pu 13 (.pu 14 .fin))))))))))))))) rfl rfl ?_
            refine s_pu (d := some 101) (v := (.int .i64 a4)) rfl rfl rfl (r_move rfl) ?_
            refine s_pu (d := some 102) (v := (.bool (decide (a4 < 0)))) rfl rfl rfl (r_lss rfl rfl) ?_
            refine s_pu (d := some 103) (v := (.bool (decide (a4 < 0)))) rfl rfl rfl (r_move rfl) ?_
            refine S_meet (l := [(1, (.int .i64 i2)), (2, (.int .i64 j3)), (4, (.int .i64 vb5)), (107, (.bool ((decide (a4 < 0)) || (decide (vb5 < a4)))))]) (i := 4) ?_ (fun HJ => ?_)
            · intro b
              show S _ _ _ _ _ _
              refine s_pu (d := some 108) (v := (.bool ((decide (a4 < 0)) || (decide (vb5 < a4))))) rfl rfl rfl (r_move rfl) ?_
              refine S_meet (l := [(114, (.bool (((decide (a4 < 0)) || (decide (vb5 < a4))) || (decide ((w64 (j3 - i2)) < vb5)))))]) (i := 6) ?_ (fun HJ => ?_)
              · intro b
                show S _ _ _ _ _ _
                obtain ⟨x79, e80⟩ : ∃ x : Bool, x = (((decide (a4 < 0)) || (decide (vb5 < a4))) || (decide ((w64 (j3 - i2)) < vb5))) := ⟨_, rfl⟩
                have H := H x79 e80
                refine s_pu (d := some 10) (v := (.bool x79)) rfl rfl rfl (r_assign (congrArg Value.bool e80.symm)) ?_
                refine s_fin ?_
                show W _ _ _ _ _ _ _ _
                refine W_ret ?_
                exact ⟨[(.bool x79)], ⟨_, _, rfl, rfl, rfl⟩, x79, rfl, H⟩
              · rcases Bool.eq_false_or_eq_true ((decide (a4 < 0)) || (decide (vb5 < a4))) with g76 | g76
                · refine s_sk (d := some 109) rfl rfl (wants_no rfl rfl rfl rfl g76) ?_
                  refine s_sk (d := some 110) rfl rfl (wants_no rfl rfl rfl rfl g76) ?_
                  refine s_sk (d := some 111) rfl rfl (wants_no rfl rfl rfl rfl g76) ?_
                  refine s_sk (d := some 112) rfl rfl (wants_no rfl rfl rfl rfl g76) ?_
                  refine s_sk (d := some 113) rfl rfl (wants_no rfl rfl rfl rfl g76) ?_
                  refine s_pu (d := some 114) (v := (.bool true)) rfl rfl rfl (r_pick1 rfl g76 rfl) ?_
                  exact S_mk (l := [(114, (.bool (((decide (a4 < 0)) || (decide (vb5 < a4))) || (decide ((w64 (j3 - i2)) < vb5)))))]) HJ ⟨(by rw [g76]; rfl), trivial⟩
                · refine s_pu (d := some 109) (v := (.int .i64 vb5)) rfl rfl (wants_yes rfl rfl rfl rfl g76) (r_move rfl) ?_
                  refine s_pu (d := some 110) (v := (.int .i64 j3)) rfl rfl (wants_yes rfl rfl rfl rfl g76) (r_move rfl) ?_
                  refine s_pu (d := some 111) (v := (.int .i64 i2)) rfl rfl (wants_yes rfl rfl rfl rfl g76) (r_move rfl) ?_
                  refine s_pu (d := some 112) (v := (.int .i64 (w64 (j3 - i2)))) rfl rfl (wants_yes rfl rfl rfl rfl g76) (r_sub rfl rfl) ?_
                  refine s_pu (d := some 113) (v := (.bool (decide ((w64 (j3 - i2)) < vb5)))) rfl rfl (wants_yes rfl rfl rfl rfl g76) (r_gtr rfl rfl) ?_
                  refine s_pu (d := some 114) (v := (.bool (decide ((w64 (j3 - i2)) < vb5)))) rfl rfl rfl (r_pick0 rfl g76 rfl) ?_
                  exact S_mk (l := [(114, (.bool (((decide (a4 < 0)) || (decide (vb5 < a4))) || (decide ((w64 (j3 - i2)) < vb5)))))]) HJ ⟨(by rw [g76]; rfl), trivial⟩
            · rcases Bool.eq_false_or_eq_true (decide (a4 < 0)) with g73 | g73
              · refine s_sk (d := some 104) rfl rfl (wants_no rfl rfl rfl rfl g73) ?_
                refine s_sk (d := some 105) rfl rfl (wants_no rfl rfl rfl rfl g73) ?_
                refine s_sk (d := some 106) rfl rfl (wants_no rfl rfl rfl rfl g73) ?_
                refine s_pu (d := some 107) (v := (.bool true)) rfl rfl rfl (r_pick1 rfl g73 rfl) ?_
                exact S_mk (l := [(1, (.int .i64 i2)), (2, (.int .i64 j3)), (4, (.int .i64 vb5)), (107, (.bool ((decide (a4 < 0)) || (decide (vb5 < a4)))))]) HJ ⟨rfl, rfl, rfl, (by rw [g73]; rfl), trivial⟩
              · refine s_pu (d := some 104) (v := (.int .i64 vb5)) rfl rfl (wants_yes rfl rfl rfl rfl g73) (r_move rfl) ?_
                refine s_pu (d := some 105) (v := (.int .i64 a4)) rfl rfl (wants_yes rfl rfl rfl rfl g73) (r_move rfl) ?_
                refine s_pu (d := some 106) (v := (.bool (decide (vb5 < a4)))) rfl rfl (wants_yes rfl rfl rfl rfl g73) (r_lss rfl rfl) ?_
                refine s_pu (d := some 107) (v := (.bool (decide (vb5 < a4)))) rfl rfl rfl (r_pick0 rfl g73 rfl) ?_
                exact S_mk (l := [(1, (.int .i64 i2)), (2, (.int .i64 j3)), (4, (.int .i64 vb5)), (107, (.bool ((decide (a4 < 0)) || (decide (vb5 < a4)))))]) HJ ⟨rfl, rfl, rfl, (by rw [g73]; rfl), trivial⟩
          · have H := H.2 g104
            refine W_skip ?_
            show W _ _ _ _ _ _ _ _
            refine W_seq ?_
            refine W_region (.rl 0 (.pu 1 (.pu 2 (.pu 3 (.pu 4 (.pu 5 (.pu 6 (.ef 7 [] (.pu 8 (.pu 9 (.pu 10 (.ef 11 [] (.ef 12 [] (.pu 13 .fin) .no) .no)))) .no)))))))) rfl rfl ?_
            obtain ⟨x83, e84, H⟩ := H
            refine s_rl (d := some 116) (v := (.agg #[(.pointer x83)])) rfl rfl rfl (fun dr => r_loadN Try.isAgg52 Try.sizeOf52 (vs := [(.pointer x83)]) rfl rfl ⟨e84, trivial⟩) ?_
            refine s_pu (d := some 117) (v := (.int .i64 i2)) rfl rfl rfl (r_move rfl) ?_
            refine s_pu (d := some 118) (v := (.int .i64 a4)) rfl rfl rfl (r_move rfl) ?_
            refine s_pu (d := some 119) (v := (.int .i64 (w64 (i2 + a4)))) rfl rfl rfl (r_add rfl rfl) ?_
            refine s_pu (d := some 120) (v := (.int .i64 i2)) rfl rfl rfl (r_move rfl) ?_
            refine s_pu (d := some 121) (v := (.int .i64 vb5)) rfl rfl rfl (r_move rfl) ?_
            refine s_pu (d := some 122) (v := (.int .i64 (w64 (i2 + vb5)))) rfl rfl rfl (r_add rfl rfl) ?_
            refine s_ef (d := some 123) rfl rfl rfl (fun dr => r_call Try.call34 rfl rfl H) ?_ trivial
            rintro _ h22 ⟨y85, y86, rfl, H⟩
            refine ⟨trivial, ?_⟩
            refine s_pu (d := some 115) (v := (.tuple #[(.agg #[(.pointer y85)]), (.bool y86)])) rfl rfl rfl (r_move rfl) ?_
            refine s_pu (d := some 124) (v := (.agg #[(.pointer y85)])) rfl rfl rfl (r_extract rfl rfl) ?_
            refine s_pu (d := some 125) (v := (.bool y86)) rfl rfl rfl (r_extract rfl rfl) ?_
            obtain ⟨p87, e88⟩ : ∃ p : Addr, p = ⟨h22.size, 0, none⟩ := ⟨_, rfl⟩
            obtain ⟨h23, e89⟩ : ∃ hh : Heap, hh = h22.push (.cells #[(.pointer none)] 52) := ⟨_, rfl⟩
            have H := H p87 h23 e88 e89
            refine s_ef1 (d := some 22) (v := (.pointer (some p87))) (h' := h23) rfl rfl rfl (fun dr => (r_alloc Try.zeroValue52).trans (by rw [e88, e89]; rfl)) trivial ?_ trivial
            obtain ⟨e91, H⟩ := H
            obtain ⟨h24, e90⟩ : ∃ hh : Heap, hh = hsets h23 p87 0 [(.pointer y85)] := ⟨_, rfl⟩
            have H := H h24 e90
            refine s_st (d := none) (h' := h24) rfl rfl rfl (fun dr => (r_store (v := (.agg #[(.pointer y85)])) Try.sizeOf52 rfl rfl rfl (one_all rfl) e91).trans (by rw [e90]; rfl)) trivial ?_ trivial
            refine s_pu (d := some 23) (v := (.bool y86)) rfl rfl rfl (r_assign rfl) ?_
            refine s_fin ?_
            show W _ _ _ _ _ _ _ _
            refine W_seq ?_
            refine W_draw [0, 1, 0, 7, 15, 31] (.rd 0 (.rd 2 (.ef 1 [0] (.ef 3 [0, 2] (.ef 4 [0, 2] (.pu 5 .fin) .no) .no) .no))) (by kernel_rfl) (by kernel_rfl) ?_
            obtain ⟨x92, e93, H⟩ := H
            refine s_rd (d := some 126) (v := (.agg #[(.pointer x92)])) rfl rfl rfl (fun dr => r_loadN Try.isAgg52 Try.sizeOf52 (vs := [(.pointer x92)]) rfl rfl ⟨e93, trivial⟩) ?_
            obtain ⟨x94, e95, H⟩ := H
            refine s_rd (d := some 128) (v := (.agg #[(.pointer x94)])) rfl rfl rfl (fun dr => r_loadN Try.isAgg52 Try.sizeOf52 (vs := [(.pointer x94)]) rfl rfl ⟨e95, trivial⟩) ?_
            refine s_ef (d := some 127) rfl rfl rfl (fun dr => r_call Try.call35 rfl rfl H) ?_ trivial
            rintro _ h25 ⟨y96, rfl, H⟩
            obtain ⟨e97, H⟩ := H
            refine ⟨⟨(.inl ⟨rfl, fun dr => r_loadN Try.isAgg52 Try.sizeOf52 (vs := [(.pointer x94)]) rfl rfl ⟨e97, trivial⟩⟩), trivial, trivial⟩, ?_⟩
            refine s_ef (d := some 129) rfl rfl rfl (fun dr => r_call Try.call35 rfl rfl H) ?_ trivial
            rintro _ h26 ⟨y98, rfl, H⟩
            refine ⟨⟨trivial, trivial, trivial⟩, ?_⟩
            refine s_ef (d := some 130) rfl rfl rfl (fun dr => r_call Try.call18 rfl rfl H) ?_ trivial
            rintro _ h27 ⟨y99, rfl, H⟩
            refine ⟨⟨trivial, trivial, trivial⟩, ?_⟩
            refine s_pu (d := some 24) (v := (.bool y99)) rfl rfl rfl (r_assign rfl) ?_
            refine s_fin ?_
            show W _ _ _ _ _ _ _ _
            refine W_seq ?_
            refine W_region (.pu 0 (.pu 1 (.pu 2 (.pu 3 (.pu 4 .fin))))) rfl rfl ?_
            refine s_pu (d := some 131) (v := (.bool y86)) rfl rfl rfl (r_move rfl) ?_
            refine s_pu (d := some 132) (v := (.bool y86)) rfl rfl rfl (r_move rfl) ?_
            refine S_meet (l := [(134, (.bool (y86 && y99)))]) (i := 2) ?_ (fun HJ => ?_)
            · intro b
              show S _ _ _ _ _ _
              refine s_pu (d := some 10) (v := (.bool (y86 && y99))) rfl rfl rfl (r_assign rfl) ?_
              refine s_fin ?_
              show W _ _ _ _ _ _ _ _
              refine W_ret ?_
              exact ⟨[(.bool (y86 && y99))], ⟨_, _, rfl, rfl, rfl⟩, (y86 && y99), rfl, H⟩
            · rcases Bool.eq_false_or_eq_true y86 with g100 | g100
              · refine s_pu (d := some 133) (v := (.bool y99)) rfl rfl (wants_yes rfl rfl rfl rfl g100) (r_move rfl) ?_
                refine s_pu (d := some 134) (v := (.bool y99)) rfl rfl rfl (r_pick1 rfl g100 rfl) ?_
                exact S_mk (l := [(134, (.bool (y86 && y99)))]) HJ ⟨(by rw [g100]; rfl), trivial⟩
              · refine s_sk (d := some 133) rfl rfl (wants_no rfl rfl rfl rfl g100) ?_
                refine s_pu (d := some 134) (v := (.bool false)) rfl rfl rfl (r_pick0 rfl g100 rfl) ?_
                exact S_mk (l := [(134, (.bool (y86 && y99)))]) HJ ⟨(by rw [g100]; rfl), trivial⟩)
      clear eN72
      refine W_region (.pu 0 (.pu 1 (.pu 2 (.pu 3 (.pu 4 (.pu 5 (.pu 6 (.pu 7 (.pu 8 (.pu 9 (.pu 10 (.rl 11 (.ef 12 [] (.pu 13 (.pu 14 (.pu 15 (.pu 16 (.pu 17 .fin))))) .no))))))))))))) rfl rfl ?_
      refine s_pu (d := some 81) (v := (.bool y35)) rfl rfl rfl (r_move rfl) ?_
      refine s_pu (d := some 82) (v := (.bool (!y35))) rfl rfl rfl (r_not rfl) ?_
      refine s_pu (d := some 83) (v := (.bool (!y35))) rfl rfl rfl (r_move rfl) ?_
      rcases Bool.eq_false_or_eq_true (!y35) with g106 | g106
      · have H := H.1 g106
        refine s_sk (d := some 84) rfl rfl (wants_no rfl rfl rfl rfl g106) ?_
        refine s_sk (d := some 85) rfl rfl (wants_no rfl rfl rfl rfl g106) ?_
        refine s_pu (d := some 86) (v := (.bool true)) rfl rfl rfl (r_pick1 rfl g106 rfl) ?_
        refine s_pu (d := some 87) (v := (.bool true)) rfl rfl rfl (r_move rfl) ?_
        refine s_sk (d := some 88) rfl rfl (wants_no rfl rfl rfl rfl rfl) ?_
        refine s_sk (d := some 89) rfl rfl (wants_no rfl rfl rfl rfl rfl) ?_
        refine s_pu (d := some 90) (v := (.bool true)) rfl rfl rfl (r_pick1 rfl rfl rfl) ?_
        refine s_pu (d := some 91) (v := (.bool true)) rfl rfl rfl (r_move rfl) ?_
        refine s_skl (d := some 92) rfl rfl (wants_no rfl rfl rfl rfl rfl) ?_
        refine s_skf (d := some 93) rfl rfl (wants_no rfl rfl rfl rfl rfl) trivial ?_ trivial
        refine s_sk (d := some 94) rfl rfl (wants_no rfl rfl rfl rfl rfl) ?_
        refine s_sk (d := some 95) rfl rfl (wants_no rfl rfl rfl rfl rfl) ?_
        refine s_sk (d := some 96) rfl rfl (wants_no rfl rfl rfl rfl rfl) ?_
        refine s_sk (d := some 97) rfl rfl (wants_no rfl rfl rfl rfl rfl) ?_
        refine s_pu (d := some 98) (v := (.bool true)) rfl rfl rfl (r_pick1 rfl rfl rfl) ?_
        refine s_fin ?_
        exact N_mk (l := [(1, (.int .i64 i2)), (2, (.int .i64 j3)), (3, (.int .i64 a4)), (4, (.int .i64 vb5)), (12, (.pointer (some p8))), (20, (.pointer (some p65))), (21, (.bool y64)), (98, (.bool true))]) H ⟨rfl, rfl, rfl, rfl, rfl, rfl, rfl, rfl, trivial⟩
      · have H := H.2 g106
        refine s_pu (d := some 84) (v := (.bool y44)) rfl rfl (wants_yes rfl rfl rfl rfl g106) (r_move rfl) ?_
        refine s_pu (d := some 85) (v := (.bool (!y44))) rfl rfl (wants_yes rfl rfl rfl rfl g106) (r_not rfl) ?_
        refine s_pu (d := some 86) (v := (.bool (!y44))) rfl rfl rfl (r_pick0 rfl g106 rfl) ?_
        refine s_pu (d := some 87) (v := (.bool (!y44))) rfl rfl rfl (r_move rfl) ?_
        rcases Bool.eq_false_or_eq_true (!y44) with g107 | g107
        · have H := H.1 g107
          refine s_sk (d := some 88) rfl rfl (wants_no rfl rfl rfl rfl g107) ?_
          refine s_sk (d := some 89) rfl rfl (wants_no rfl rfl rfl rfl g107) ?_
          refine s_pu (d := some 90) (v := (.bool true)) rfl rfl rfl (r_pick1 rfl g107 rfl) ?_
          refine s_pu (d := some 91) (v := (.bool true)) rfl rfl rfl (r_move rfl) ?_
          refine s_skl (d := some 92) rfl rfl (wants_no rfl rfl rfl rfl rfl) ?_
          refine s_skf (d := some 93) rfl rfl (wants_no rfl rfl rfl rfl rfl) trivial ?_ trivial
          refine s_sk (d := some 94) rfl rfl (wants_no rfl rfl rfl rfl rfl) ?_
          refine s_sk (d := some 95) rfl rfl (wants_no rfl rfl rfl rfl rfl) ?_
          refine s_sk (d := some 96) rfl rfl (wants_no rfl rfl rfl rfl rfl) ?_
          refine s_sk (d := some 97) rfl rfl (wants_no rfl rfl rfl rfl rfl) ?_
          refine s_pu (d := some 98) (v := (.bool true)) rfl rfl rfl (r_pick1 rfl rfl rfl) ?_
          refine s_fin ?_
          exact N_mk (l := [(1, (.int .i64 i2)), (2, (.int .i64 j3)), (3, (.int .i64 a4)), (4, (.int .i64 vb5)), (12, (.pointer (some p8))), (20, (.pointer (some p65))), (21, (.bool y64)), (98, (.bool true))]) H ⟨rfl, rfl, rfl, rfl, rfl, rfl, rfl, rfl, trivial⟩
        · have H := H.2 g107
          refine s_pu (d := some 88) (v := (.bool y60)) rfl rfl (wants_yes rfl rfl rfl rfl g107) (r_move rfl) ?_
          refine s_pu (d := some 89) (v := (.bool (!y60))) rfl rfl (wants_yes rfl rfl rfl rfl g107) (r_not rfl) ?_
          refine s_pu (d := some 90) (v := (.bool (!y60))) rfl rfl rfl (r_pick0 rfl g107 rfl) ?_
          refine s_pu (d := some 91) (v := (.bool (!y60))) rfl rfl rfl (r_move rfl) ?_
          rcases Bool.eq_false_or_eq_true (!y60) with g108 | g108
          · have H := H.1 g108
            refine s_skl (d := some 92) rfl rfl (wants_no rfl rfl rfl rfl g108) ?_
            refine s_skf (d := some 93) rfl rfl (wants_no rfl rfl rfl rfl g108) trivial ?_ trivial
            refine s_sk (d := some 94) rfl rfl (wants_no rfl rfl rfl rfl g108) ?_
            refine s_sk (d := some 95) rfl rfl (wants_no rfl rfl rfl rfl g108) ?_
            refine s_sk (d := some 96) rfl rfl (wants_no rfl rfl rfl rfl g108) ?_
            refine s_sk (d := some 97) rfl rfl (wants_no rfl rfl rfl rfl g108) ?_
            refine s_pu (d := some 98) (v := (.bool true)) rfl rfl rfl (r_pick1 rfl g108 rfl) ?_
            refine s_fin ?_
            exact N_mk (l := [(1, (.int .i64 i2)), (2, (.int .i64 j3)), (3, (.int .i64 a4)), (4, (.int .i64 vb5)), (12, (.pointer (some p8))), (20, (.pointer (some p65))), (21, (.bool y64)), (98, (.bool true))]) H ⟨rfl, rfl, rfl, rfl, rfl, rfl, rfl, rfl, trivial⟩
          · have H := H.2 g108
            obtain ⟨x109, e110, H⟩ := H
            refine s_rl (d := some 92) (v := (.agg #[(.pointer x109)])) rfl rfl (wants_yes rfl rfl rfl rfl g108) (fun dr => r_loadN Try.isAgg52 Try.sizeOf52 (vs := [(.pointer x109)]) rfl rfl ⟨e110, trivial⟩) ?_
            refine s_ef (d := some 93) rfl rfl (wants_yes rfl rfl rfl rfl g108) (fun dr => r_call Try.call36 rfl rfl H) ?_ trivial
            rintro _ h28 ⟨y111, rfl, H⟩
            refine ⟨trivial, ?_⟩
            refine s_pu (d := some 94) (v := (.int .i64 j3)) rfl rfl (wants_yes rfl rfl rfl rfl g108) (r_move rfl) ?_
            refine s_pu (d := some 95) (v := (.int .i64 i2)) rfl rfl (wants_yes rfl rfl rfl rfl g108) (r_move rfl) ?_
            refine s_pu (d := some 96) (v := (.int .i64 (w64 (j3 - i2)))) rfl rfl (wants_yes rfl rfl rfl rfl g108) (r_sub rfl rfl) ?_
            refine s_pu (d := some 97) (v := (.bool (!decide (y111 = (w64 (j3 - i2)))))) rfl rfl (wants_yes rfl rfl rfl rfl g108) (r_neq rfl rfl) ?_
            refine s_pu (d := some 98) (v := (.bool (!decide (y111 = (w64 (j3 - i2)))))) rfl rfl rfl (r_pick0 rfl g108 rfl) ?_
            refine s_fin ?_
            exact N_mk (l := [(1, (.int .i64 i2)), (2, (.int .i64 j3)), (3, (.int .i64 a4)), (4, (.int .i64 vb5)), (12, (.pointer (some p8))), (20, (.pointer (some p65))), (21, (.bool y64)), (98, (.bool (!decide (y111 = (w64 (j3 - i2))))))]) H ⟨rfl, rfl, rfl, rfl, rfl, rfl, rfl, rfl, trivial⟩

/-! ### law3_SeqEdits -/

def law3_SeqEdits_F (r : World) (l1 : Sl) (i2 : Int) (x3 : Int) (k4 : Int) (h : Heap) (R : Bool → Heap → Prop) : Prop :=
  law3_placed r h fun y5 h1 =>
  Br (!y5) (
    R false h1) (
    seq_Of r l1 h1 fun y6 h2 =>
    New h2 (.cells #[(.pointer none)] 52) fun p7 h3 =>
    St h3 p7 1 [(.pointer y6)] fun h4 =>
    LdP h4 (Addr.add p7 0) fun x12 =>
    seq_Seq_Insert r x12 i2 x3 h4 fun y14 y15 h5 =>
    New h5 (.cells #[(.pointer none)] 52) fun p16 h6 =>
    St h6 p16 1 [(.pointer y14)] fun h7 =>
    Br (!y15) (
      ∀ x24 : Bool, x24 = ((decide (i2 < 0)) || (decide (((l1.len : Int)) < i2))) →
      R x24 h7) (
      LdP h7 (Addr.add p16 0) fun x27 =>
      seq_Seq_Delete r x27 i2 h7 fun y29 y30 h8 =>
      New h8 (.cells #[(.pointer none)] 52) fun p31 h9 =>
      St h9 p31 1 [(.pointer y29)] fun h10 =>
      LdP h10 (Addr.add p31 0) fun x36 =>
      seq_Seq_Ints r x36 h10 fun y38 h11 =>
      same_Ints r y38 l1 h11 fun y39 h12 =>
      LdP h12 (Addr.add p7 0) fun x40 =>
      seq_Seq_At r x40 k4 h12 fun y42 y43 h13 =>
      ∀ J45 : Int → Prop, (∀ (va44 : Int),
        (LdP h13 (Addr.add p16 0) fun x47 =>
        seq_Seq_At r x47 va44 h13 fun y49 y50 h14 =>
        LdP h14 (Addr.add p16 0) fun x51 =>
        seq_Seq_At r x51 i2 h14 fun y53 y54 h15 =>
        ∀ J56 : Bool → Heap → Prop, (∀ (x55 : Bool) (h16 : Heap),
          (R x55 h16) →
          J56 x55 h16) →
        Br y30 (
          Br y39 (
            Br y54 (
              Br (decide (y53 = x3)) (
                Br (!y43) (
                  LdP h15 (Addr.add p16 0) fun x63 =>
                  seq_Seq_Len r x63 h15 fun y65 h17 =>
                  J56 (decide (y65 = (w64 (((l1.len : Int)) + 1)))) h17) (
                  Br y50 (
                    Br (decide (y49 = y42)) (
                      LdP h15 (Addr.add p16 0) fun x68 =>
                      seq_Seq_Len r x68 h15 fun y70 h18 =>
                      J56 (decide (y70 = (w64 (((l1.len : Int)) + 1)))) h18) (
                      J56 false h15)) (
                    J56 false h15))) (
                J56 false h15)) (
              J56 false h15)) (
            J56 false h15)) (
          J56 false h15)) →
        J45 va44) →
      Br (decide (i2 ≤ k4)) (
        J45 (w64 (k4 + 1))) (
        J45 k4)))

set_option maxRecDepth 100000 in
theorem law3_SeqEdits_of {r : World} {l1 : Sl} {i2 : Int} {x3 : Int} {k4 : Int} {h : Heap} {R : Bool → Heap → Prop} (H : law3_SeqEdits_F r l1 i2 x3 k4 h R) : law3_SeqEdits r l1 i2 x3 k4 h R := by
  unfold law3_SeqEdits_F at H
  refine calls_of 111 [.tmp 8] Try.func10 rfl rfl rfl rfl rfl ?_
  refine W_seq ?_
  refine W_region (.pu 0 .fin) rfl rfl ?_
  refine s_pu (d := some 8) (v := (.bool false)) rfl rfl rfl (r_assign rfl) ?_
  refine s_fin ?_
  show W _ _ _ _ _ _ _ _
  refine W_seq ?_
  refine W_region (.ef 0 [] (.pu 1 .fin) .no) rfl rfl ?_
  refine s_ef (d := some 23) rfl rfl rfl (fun dr => r_call Try.call30 rfl rfl H) ?_ trivial
  rintro _ h1 ⟨y5, rfl, H⟩
  refine ⟨trivial, ?_⟩
  refine s_pu (d := some 9) (v := (.bool y5)) rfl rfl rfl (r_assign rfl) ?_
  refine s_fin ?_
  show W _ _ _ _ _ _ _ _
  refine W_seq ?_
  refine W_seq ?_
  refine W_region (.pu 0 (.pu 1 .fin)) rfl rfl ?_
  refine s_pu (d := some 24) (v := (.bool y5)) rfl rfl rfl (r_move rfl) ?_
  refine s_pu (d := some 25) (v := (.bool (!y5))) rfl rfl rfl (r_not rfl) ?_
  refine s_fin ?_
  show W _ _ _ _ _ _ _ _
  refine W_if (!y5) rfl (fun g73 => ?_) (fun g73 => ?_)
  · have H := H.1 g73
    refine W_seq ?_
    refine W_region (.pu 0 .fin) rfl rfl ?_
    refine s_pu (d := some 8) (v := (.bool false)) rfl rfl rfl (r_assign rfl) ?_
    refine s_fin ?_
    show W _ _ _ _ _ _ _ _
    refine W_ret ?_
    exact ⟨[(.bool false)], ⟨_, _, rfl, rfl, rfl⟩, false, rfl, H⟩
  · have H := H.2 g73
    refine W_skip ?_
    show W _ _ _ _ _ _ _ _
    refine W_seq ?_
    refine W_region (.pu 0 (.ef 1 [] (.ef 2 [] (.ef 3 [] .fin .no) .no) .no)) rfl rfl ?_
    refine s_pu (d := some 26) (v := (Sl.v l1)) rfl rfl rfl (r_move rfl) ?_
    refine s_ef (d := some 27) rfl rfl rfl (fun dr => r_call Try.call31 rfl rfl H) ?_ trivial
    rintro _ h2 ⟨y6, rfl, H⟩
    refine ⟨trivial, ?_⟩
    obtain ⟨p7, e8⟩ : ∃ p : Addr, p = ⟨h2.size, 0, none⟩ := ⟨_, rfl⟩
    obtain ⟨h3, e9⟩ : ∃ hh : Heap, hh = h2.push (.cells #[(.pointer none)] 52) := ⟨_, rfl⟩
    have H := H p7 h3 e8 e9
    refine s_ef1 (d := some 10) (v := (.pointer (some p7))) (h' := h3) rfl rfl rfl (fun dr => (r_alloc Try.zeroValue52).trans (by rw [e8, e9]; rfl)) trivial ?_ trivial
    obtain ⟨e11, H⟩ := H
    obtain ⟨h4, e10⟩ : ∃ hh : Heap, hh = hsets h3 p7 0 [(.pointer y6)] := ⟨_, rfl⟩
    have H := H h4 e10
    refine s_st (d := none) (h' := h4) rfl rfl rfl (fun dr => (r_store (v := (.agg #[(.pointer y6)])) Try.sizeOf52 rfl rfl rfl (one_all rfl) e11).trans (by rw [e10]; rfl)) trivial ?_ trivial
    refine s_fin ?_
    show W _ _ _ _ _ _ _ _
    refine W_seq ?_
    refine W_region (.rl 0 (.pu 1 (.pu 2 (.ef 3 [] (.pu 4 (.pu 5 (.pu 6 (.ef 7 [] (.ef 8 [] (.pu 9 .fin) .no) .no)))) .no)))) rfl rfl ?_
    obtain ⟨x12, e13, H⟩ := H
    refine s_rl (d := some 29) (v := (.agg #[(.pointer x12)])) rfl rfl rfl (fun dr => r_loadN Try.isAgg52 Try.sizeOf52 (vs := [(.pointer x12)]) rfl rfl ⟨e13, trivial⟩) ?_
    refine s_pu (d := some 30) (v := (.int .i64 i2)) rfl rfl rfl (r_move rfl) ?_
    refine s_pu (d := some 31) (v := (.int .i64 x3)) rfl rfl rfl (r_move rfl) ?_
    refine s_ef (d := some 32) rfl rfl rfl (fun dr => r_call Try.call37 rfl rfl H) ?_ trivial
    rintro _ h5 ⟨y14, y15, rfl, H⟩
    refine ⟨trivial, ?_⟩
    refine s_pu (d := some 28) (v := (.tuple #[(.agg #[(.pointer y14)]), (.bool y15)])) rfl rfl rfl (r_move rfl) ?_
    refine s_pu (d := some 33) (v := (.agg #[(.pointer y14)])) rfl rfl rfl (r_extract rfl rfl) ?_
    refine s_pu (d := some 34) (v := (.bool y15)) rfl rfl rfl (r_extract rfl rfl) ?_
    obtain ⟨p16, e17⟩ : ∃ p : Addr, p = ⟨h5.size, 0, none⟩ := ⟨_, rfl⟩
    obtain ⟨h6, e18⟩ : ∃ hh : Heap, hh = h5.push (.cells #[(.pointer none)] 52) := ⟨_, rfl⟩
    have H := H p16 h6 e17 e18
    refine s_ef1 (d := some 11) (v := (.pointer (some p16))) (h' := h6) rfl rfl rfl (fun dr => (r_alloc Try.zeroValue52).trans (by rw [e17, e18]; rfl)) trivial ?_ trivial
    obtain ⟨e20, H⟩ := H
    obtain ⟨h7, e19⟩ : ∃ hh : Heap, hh = hsets h6 p16 0 [(.pointer y14)] := ⟨_, rfl⟩
    have H := H h7 e19
    refine s_st (d := none) (h' := h7) rfl rfl rfl (fun dr => (r_store (v := (.agg #[(.pointer y14)])) Try.sizeOf52 rfl rfl rfl (one_all rfl) e20).trans (by rw [e19]; rfl)) trivial ?_ trivial
    refine s_pu (d := some 12) (v := (.bool y15)) rfl rfl rfl (r_assign rfl) ?_
    refine s_fin ?_
    show W _ _ _ _ _ _ _ _
    refine W_seq ?_
    refine W_seq ?_
    refine W_region (.pu 0 (.pu 1 .fin)) rfl rfl ?_
    refine s_pu (d := some 35) (v := (.bool y15)) rfl rfl rfl (r_move rfl) ?_
    refine s_pu (d := some 36) (v := (.bool (!y15))) rfl rfl rfl (r_not rfl) ?_
    refine s_fin ?_
    show W _ _ _ _ _ _ _ _
    refine W_if (!y15) rfl (fun g72 => ?_) (fun g72 => ?_)
    · have H := H.1 g72
      refine W_seq ?_
      refine W_region (.pu 0 (.pu 1 (.pu 2 (.pu 3 (.pu 4 (.pu 5 (.pu 6 (.pu 7 (.pu 8 .fin))))))))) rfl rfl ?_
      refine s_pu (d := some 37) (v := (.int .i64 i2)) rfl rfl rfl (r_move rfl) ?_
      refine s_pu (d := some 38) (v := (.bool (decide (i2 < 0)))) rfl rfl rfl (r_lss rfl rfl) ?_
      refine s_pu (d := some 39) (v := (.bool (decide (i2 < 0)))) rfl rfl rfl (r_move rfl) ?_
      refine S_meet (l := [(44, (.bool ((decide (i2 < 0)) || (decide (((l1.len : Int)) < i2)))))]) (i := 5) ?_ (fun HJ => ?_)
      · intro b
        show S _ _ _ _ _ _
        obtain ⟨x24, e25⟩ : ∃ x : Bool, x = ((decide (i2 < 0)) || (decide (((l1.len : Int)) < i2))) := ⟨_, rfl⟩
        have H := H x24 e25
        refine s_pu (d := some 8) (v := (.bool x24)) rfl rfl rfl (r_assign (congrArg Value.bool e25.symm)) ?_
        refine s_fin ?_
        show W _ _ _ _ _ _ _ _
        refine W_ret ?_
        exact ⟨[(.bool x24)], ⟨_, _, rfl, rfl, rfl⟩, x24, rfl, H⟩
      · rcases Bool.eq_false_or_eq_true (decide (i2 < 0)) with g21 | g21
        · refine s_sk (d := some 40) rfl rfl (wants_no rfl rfl rfl rfl g21) ?_
          refine s_sk (d := some 41) rfl rfl (wants_no rfl rfl rfl rfl g21) ?_
          refine s_sk (d := some 42) rfl rfl (wants_no rfl rfl rfl rfl g21) ?_
          refine s_sk (d := some 43) rfl rfl (wants_no rfl rfl rfl rfl g21) ?_
          refine s_pu (d := some 44) (v := (.bool true)) rfl rfl rfl (r_pick1 rfl g21 rfl) ?_
          exact S_mk (l := [(44, (.bool ((decide (i2 < 0)) || (decide (((l1.len : Int)) < i2)))))]) HJ ⟨(by rw [g21]; rfl), trivial⟩
        · refine s_pu (d := some 40) (v := (.int .i64 i2)) rfl rfl (wants_yes rfl rfl rfl rfl g21) (r_move rfl) ?_
          refine s_pu (d := some 41) (v := (Sl.v l1)) rfl rfl (wants_yes rfl rfl rfl rfl g21) (r_move rfl) ?_
          refine s_pu (d := some 42) (v := (.int .i64 ((l1.len : Int)))) rfl rfl (wants_yes rfl rfl rfl rfl g21) (r_len Try.underlying22 rfl) ?_
          refine s_pu (d := some 43) (v := (.bool (decide (((l1.len : Int)) < i2)))) rfl rfl (wants_yes rfl rfl rfl rfl g21) (r_gtr rfl rfl) ?_
          refine s_pu (d := some 44) (v := (.bool (decide (((l1.len : Int)) < i2)))) rfl rfl rfl (r_pick0 rfl g21 rfl) ?_
          exact S_mk (l := [(44, (.bool ((decide (i2 < 0)) || (decide (((l1.len : Int)) < i2)))))]) HJ ⟨(by rw [g21]; rfl), trivial⟩
    · have H := H.2 g72
      refine W_skip ?_
      show W _ _ _ _ _ _ _ _
      refine W_seq ?_
      refine W_region (.rl 0 (.pu 1 (.ef 2 [] (.pu 3 (.pu 4 (.pu 5 (.ef 6 [] (.ef 7 [] (.pu 8 .fin) .no) .no)))) .no))) rfl rfl ?_
      obtain ⟨x27, e28, H⟩ := H
      refine s_rl (d := some 46) (v := (.agg #[(.pointer x27)])) rfl rfl rfl (fun dr => r_loadN Try.isAgg52 Try.sizeOf52 (vs := [(.pointer x27)]) rfl rfl ⟨e28, trivial⟩) ?_
      refine s_pu (d := some 47) (v := (.int .i64 i2)) rfl rfl rfl (r_move rfl) ?_
      refine s_ef (d := some 48) rfl rfl rfl (fun dr => r_call Try.call38 rfl rfl H) ?_ trivial
      rintro _ h8 ⟨y29, y30, rfl, H⟩
      refine ⟨trivial, ?_⟩
      refine s_pu (d := some 45) (v := (.tuple #[(.agg #[(.pointer y29)]), (.bool y30)])) rfl rfl rfl (r_move rfl) ?_
      refine s_pu (d := some 49) (v := (.agg #[(.pointer y29)])) rfl rfl rfl (r_extract rfl rfl) ?_
      refine s_pu (d := some 50) (v := (.bool y30)) rfl rfl rfl (r_extract rfl rfl) ?_
      obtain ⟨p31, e32⟩ : ∃ p : Addr, p = ⟨h8.size, 0, none⟩ := ⟨_, rfl⟩
      obtain ⟨h9, e33⟩ : ∃ hh : Heap, hh = h8.push (.cells #[(.pointer none)] 52) := ⟨_, rfl⟩
      have H := H p31 h9 e32 e33
      refine s_ef1 (d := some 13) (v := (.pointer (some p31))) (h' := h9) rfl rfl rfl (fun dr => (r_alloc Try.zeroValue52).trans (by rw [e32, e33]; rfl)) trivial ?_ trivial
      obtain ⟨e35, H⟩ := H
      obtain ⟨h10, e34⟩ : ∃ hh : Heap, hh = hsets h9 p31 0 [(.pointer y29)] := ⟨_, rfl⟩
      have H := H h10 e34
      refine s_st (d := none) (h' := h10) rfl rfl rfl (fun dr => (r_store (v := (.agg #[(.pointer y29)])) Try.sizeOf52 rfl rfl rfl (one_all rfl) e35).trans (by rw [e34]; rfl)) trivial ?_ trivial
      refine s_pu (d := some 14) (v := (.bool y30)) rfl rfl rfl (r_assign rfl) ?_
      refine s_fin ?_
      show W _ _ _ _ _ _ _ _
      refine W_seq ?_
      refine W_region (.rl 0 (.ef 1 [] (.pu 2 (.ef 3 [] (.pu 4 .fin) .no)) .no)) rfl rfl ?_
      obtain ⟨x36, e37, H⟩ := H
      refine s_rl (d := some 51) (v := (.agg #[(.pointer x36)])) rfl rfl rfl (fun dr => r_loadN Try.isAgg52 Try.sizeOf52 (vs := [(.pointer x36)]) rfl rfl ⟨e37, trivial⟩) ?_
      refine s_ef (d := some 52) rfl rfl rfl (fun dr => r_call Try.call35 rfl rfl H) ?_ trivial
      rintro _ h11 ⟨y38, rfl, H⟩
      refine ⟨trivial, ?_⟩
      refine s_pu (d := some 53) (v := (Sl.v l1)) rfl rfl rfl (r_move rfl) ?_
      refine s_ef (d := some 54) rfl rfl rfl (fun dr => r_call Try.call18 rfl rfl H) ?_ trivial
      rintro _ h12 ⟨y39, rfl, H⟩
      refine ⟨trivial, ?_⟩
      refine s_pu (d := some 15) (v := (.bool y39)) rfl rfl rfl (r_assign rfl) ?_
      refine s_fin ?_
      show W _ _ _ _ _ _ _ _
      refine W_seq ?_
      refine W_region (.rl 0 (.pu 1 (.ef 2 [] (.pu 3 (.pu 4 (.pu 5 (.pu 6 (.pu 7 .fin))))) .no))) rfl rfl ?_
      obtain ⟨x40, e41, H⟩ := H
      refine s_rl (d := some 56) (v := (.agg #[(.pointer x40)])) rfl rfl rfl (fun dr => r_loadN Try.isAgg52 Try.sizeOf52 (vs := [(.pointer x40)]) rfl rfl ⟨e41, trivial⟩) ?_
      refine s_pu (d := some 57) (v := (.int .i64 k4)) rfl rfl rfl (r_move rfl) ?_
      refine s_ef (d := some 58) rfl rfl rfl (fun dr => r_call Try.call39 rfl rfl H) ?_ trivial
      rintro _ h13 ⟨y42, y43, rfl, H⟩
      refine ⟨trivial, ?_⟩
      refine s_pu (d := some 55) (v := (.tuple #[(.int .i64 y42), (.bool y43)])) rfl rfl rfl (r_move rfl) ?_
      refine s_pu (d := some 59) (v := (.int .i64 y42)) rfl rfl rfl (r_extract rfl rfl) ?_
      refine s_pu (d := some 60) (v := (.bool y43)) rfl rfl rfl (r_extract rfl rfl) ?_
      refine s_pu (d := some 16) (v := (.int .i64 y42)) rfl rfl rfl (r_assign rfl) ?_
      refine s_pu (d := some 17) (v := (.bool y43)) rfl rfl rfl (r_assign rfl) ?_
      refine s_fin ?_
      show W _ _ _ _ _ _ _ _
      refine W_seq ?_
      refine W_region (.pu 0 (.pu 1 .fin)) rfl rfl ?_
      refine s_pu (d := some 61) (v := (.int .i64 k4)) rfl rfl rfl (r_move rfl) ?_
      refine s_pu (d := some 18) (v := (.int .i64 k4)) rfl rfl rfl (r_assign rfl) ?_
      refine s_fin ?_
      show W _ _ _ _ _ _ _ _
      refine W_seq ?_
      refine W_seq ?_
      refine W_region (.pu 0 (.pu 1 (.pu 2 .fin))) rfl rfl ?_
      refine s_pu (d := some 62) (v := (.int .i64 k4)) rfl rfl rfl (r_move rfl) ?_
      refine s_pu (d := some 63) (v := (.int .i64 i2)) rfl rfl rfl (r_move rfl) ?_
      refine s_pu (d := some 64) (v := (.bool (decide (i2 ≤ k4)))) rfl rfl rfl (r_geq rfl rfl) ?_
      refine s_fin ?_
      show W _ _ _ _ _ _ _ _
      refine W_set ?_
      intro N46 eN46
      have H := H (fun (va44 : Int) => ∀ b, N46 [] (mkE [(0, (Sl.v l1)), (1, (.int .i64 i2)), (2, (.int .i64 x3)), (11, (.pointer (some p16))), (14, (.bool y30)), (15, (.bool y39)), (16, (.int .i64 y42)), (17, (.bool y43)), (18, (.int .i64 va44))] b) h13) (by
        intro va44 H b
        rw [eN46]
        show W _ _ _ _ _ _ _ _
        refine W_seq ?_
        refine W_region (.rl 0 (.pu 1 (.ef 2 [] (.pu 3 (.pu 4 (.pu 5 (.pu 6 (.pu 7 .fin))))) .no))) rfl rfl ?_
        obtain ⟨x47, e48, H⟩ := H
        refine s_rl (d := some 68) (v := (.agg #[(.pointer x47)])) rfl rfl rfl (fun dr => r_loadN Try.isAgg52 Try.sizeOf52 (vs := [(.pointer x47)]) rfl rfl ⟨e48, trivial⟩) ?_
        refine s_pu (d := some 69) (v := (.int .i64 va44)) rfl rfl rfl (r_move rfl) ?_
        refine s_ef (d := some 70) rfl rfl rfl (fun dr => r_call Try.call39 rfl rfl H) ?_ trivial
        rintro _ h14 ⟨y49, y50, rfl, H⟩
        refine ⟨trivial, ?_⟩
        refine s_pu (d := some 67) (v := (.tuple #[(.int .i64 y49), (.bool y50)])) rfl rfl rfl (r_move rfl) ?_
        refine s_pu (d := some 71) (v := (.int .i64 y49)) rfl rfl rfl (r_extract rfl rfl) ?_
        refine s_pu (d := some 72) (v := (.bool y50)) rfl rfl rfl (r_extract rfl rfl) ?_
        refine s_pu (d := some 19) (v := (.int .i64 y49)) rfl rfl rfl (r_assign rfl) ?_
        refine s_pu (d := some 20) (v := (.bool y50)) rfl rfl rfl (r_assign rfl) ?_
        refine s_fin ?_
        show W _ _ _ _ _ _ _ _
        refine W_seq ?_
        refine W_region (.rl 0 (.pu 1 (.ef 2 [] (.pu 3 (.pu 4 (.pu 5 (.pu 6 (.pu 7 .fin))))) .no))) rfl rfl ?_
        obtain ⟨x51, e52, H⟩ := H
        refine s_rl (d := some 74) (v := (.agg #[(.pointer x51)])) rfl rfl rfl (fun dr => r_loadN Try.isAgg52 Try.sizeOf52 (vs := [(.pointer x51)]) rfl rfl ⟨e52, trivial⟩) ?_
        refine s_pu (d := some 75) (v := (.int .i64 i2)) rfl rfl rfl (r_move rfl) ?_
        refine s_ef (d := some 76) rfl rfl rfl (fun dr => r_call Try.call39 rfl rfl H) ?_ trivial
        rintro _ h15 ⟨y53, y54, rfl, H⟩
        refine ⟨trivial, ?_⟩
        refine s_pu (d := some 73) (v := (.tuple #[(.int .i64 y53), (.bool y54)])) rfl rfl rfl (r_move rfl) ?_
        refine s_pu (d := some 77) (v := (.int .i64 y53)) rfl rfl rfl (r_extract rfl rfl) ?_
        refine s_pu (d := some 78) (v := (.bool y54)) rfl rfl rfl (r_extract rfl rfl) ?_
        refine s_pu (d := some 21) (v := (.int .i64 y53)) rfl rfl rfl (r_assign rfl) ?_
        refine s_pu (d := some 22) (v := (.bool y54)) rfl rfl rfl (r_assign rfl) ?_
        refine s_fin ?_
        show W _ _ _ _ _ _ _ _
        refine W_seq ?_
        refine W_set ?_
        intro N57 eN57
        have H := H (fun (x55 : Bool) (h16 : Heap) => ∀ b, N57 [] (mkE [(8, (.bool x55))] b) h16) (by
          intro x55 h16 H b
          rw [eN57]
          show W _ _ _ _ _ _ _ _
          refine W_ret ?_
          exact ⟨[(.bool x55)], ⟨_, _, rfl, rfl, rfl⟩, x55, rfl, H⟩)
        clear eN57
        refine W_region (.pu 0 (.pu 1 (.pu 2 (.pu 3 (.pu 4 (.pu 5 (.pu 6 (.pu 7 (.pu 8 (.pu 9 (.pu 10 (.pu 11 (.pu 12 (.pu 13 (.pu 14 (.pu 15 (.pu 16 (.pu 17 (.pu 18 (.pu 19 (.pu 20 (.pu 21 (.pu 22 (.pu 23 (.pu 24 (.rl 25 (.ef 26 [] (.pu 27 (.pu 28 (.pu 29 (.pu 30 (.pu 31 (.pu 32 .fin)))))) .no))))))))))))))))))))))))))) rfl rfl ?_
        refine s_pu (d := some 79) (v := (.bool y30)) rfl rfl rfl (r_move rfl) ?_
        refine s_pu (d := some 80) (v := (.bool y30)) rfl rfl rfl (r_move rfl) ?_
        rcases Bool.eq_false_or_eq_true y30 with g58 | g58
        · have H := H.1 g58
          refine s_pu (d := some 81) (v := (.bool y39)) rfl rfl (wants_yes rfl rfl rfl rfl g58) (r_move rfl) ?_
          refine s_pu (d := some 82) (v := (.bool y39)) rfl rfl rfl (r_pick1 rfl g58 rfl) ?_
          refine s_pu (d := some 83) (v := (.bool y39)) rfl rfl rfl (r_move rfl) ?_
          rcases Bool.eq_false_or_eq_true y39 with g59 | g59
          · have H := H.1 g59
            refine s_pu (d := some 84) (v := (.bool y54)) rfl rfl (wants_yes rfl rfl rfl rfl g59) (r_move rfl) ?_
            refine s_pu (d := some 85) (v := (.bool y54)) rfl rfl rfl (r_pick1 rfl g59 rfl) ?_
            refine s_pu (d := some 86) (v := (.bool y54)) rfl rfl rfl (r_move rfl) ?_
            rcases Bool.eq_false_or_eq_true y54 with g60 | g60
            · have H := H.1 g60
              refine s_pu (d := some 87) (v := (.int .i64 y53)) rfl rfl (wants_yes rfl rfl rfl rfl g60) (r_move rfl) ?_
              refine s_pu (d := some 88) (v := (.int .i64 x3)) rfl rfl (wants_yes rfl rfl rfl rfl g60) (r_move rfl) ?_
              refine s_pu (d := some 89) (v := (.bool (decide (y53 = x3)))) rfl rfl (wants_yes rfl rfl rfl rfl g60) (r_eql rfl rfl) ?_
              refine s_pu (d := some 90) (v := (.bool (decide (y53 = x3)))) rfl rfl rfl (r_pick1 rfl g60 rfl) ?_
              refine s_pu (d := some 91) (v := (.bool (decide (y53 = x3)))) rfl rfl rfl (r_move rfl) ?_
              rcases Bool.eq_false_or_eq_true (decide (y53 = x3)) with g61 | g61
              · have H := H.1 g61
                refine s_pu (d := some 92) (v := (.bool y43)) rfl rfl (wants_yes rfl rfl rfl rfl g61) (r_move rfl) ?_
                refine s_pu (d := some 93) (v := (.bool (!y43))) rfl rfl (wants_yes rfl rfl rfl rfl g61) (r_not rfl) ?_
                refine s_pu (d := some 94) (v := (.bool (!y43))) rfl rfl (wants_yes rfl rfl rfl rfl g61) (r_move rfl) ?_
                rcases Bool.eq_false_or_eq_true (!y43) with g62 | g62
                · have H := H.1 g62
                  refine s_sk (d := some 95) rfl rfl (wants_no rfl rfl rfl rfl g62) ?_
                  refine s_sk (d := some 96) rfl rfl (wants_no rfl rfl rfl rfl g62) ?_
                  refine s_sk (d := some 97) rfl rfl (wants_un rfl rfl rfl) ?_
                  refine s_sk (d := some 98) rfl rfl (wants_un rfl rfl rfl) ?_
                  refine s_sk (d := some 99) rfl rfl (wants_un rfl rfl rfl) ?_
                  refine s_sk (d := some 100) rfl rfl (wants_no rfl rfl rfl rfl g62) ?_
                  refine s_pu (d := some 101) (v := (.bool true)) rfl rfl (wants_yes rfl rfl rfl rfl g61) (r_pick1 rfl g62 rfl) ?_
                  refine s_pu (d := some 102) (v := (.bool true)) rfl rfl rfl (r_pick1 rfl g61 rfl) ?_
                  refine s_pu (d := some 103) (v := (.bool true)) rfl rfl rfl (r_move rfl) ?_
                  obtain ⟨x63, e64, H⟩ := H
                  refine s_rl (d := some 104) (v := (.agg #[(.pointer x63)])) rfl rfl (wants_yes rfl rfl rfl rfl rfl) (fun dr => r_loadN Try.isAgg52 Try.sizeOf52 (vs := [(.pointer x63)]) rfl rfl ⟨e64, trivial⟩) ?_
                  refine s_ef (d := some 105) rfl rfl (wants_yes rfl rfl rfl rfl rfl) (fun dr => r_call Try.call36 rfl rfl H) ?_ trivial
                  rintro _ h17 ⟨y65, rfl, H⟩
                  refine ⟨trivial, ?_⟩
                  refine s_pu (d := some 106) (v := (Sl.v l1)) rfl rfl (wants_yes rfl rfl rfl rfl rfl) (r_move rfl) ?_
                  refine s_pu (d := some 107) (v := (.int .i64 ((l1.len : Int)))) rfl rfl (wants_yes rfl rfl rfl rfl rfl) (r_len Try.underlying22 rfl) ?_
                  refine s_pu (d := some 108) (v := (.int .i64 (w64 (((l1.len : Int)) + 1)))) rfl rfl (wants_yes rfl rfl rfl rfl rfl) (r_add rfl rfl) ?_
                  refine s_pu (d := some 109) (v := (.bool (decide (y65 = (w64 (((l1.len : Int)) + 1)))))) rfl rfl (wants_yes rfl rfl rfl rfl rfl) (r_eql rfl rfl) ?_
                  refine s_pu (d := some 110) (v := (.bool (decide (y65 = (w64 (((l1.len : Int)) + 1)))))) rfl rfl rfl (r_pick1 rfl rfl rfl) ?_
                  refine s_pu (d := some 8) (v := (.bool (decide (y65 = (w64 (((l1.len : Int)) + 1)))))) rfl rfl rfl (r_assign rfl) ?_
                  refine s_fin ?_
                  exact N_mk (l := [(8, (.bool (decide (y65 = (w64 (((l1.len : Int)) + 1))))))]) H ⟨rfl, trivial⟩
                · have H := H.2 g62
                  refine s_pu (d := some 95) (v := (.bool y50)) rfl rfl (wants_yes rfl rfl rfl rfl g62) (r_move rfl) ?_
                  refine s_pu (d := some 96) (v := (.bool y50)) rfl rfl (wants_yes rfl rfl rfl rfl g62) (r_move rfl) ?_
                  rcases Bool.eq_false_or_eq_true y50 with g66 | g66
                  · have H := H.1 g66
                    refine s_pu (d := some 97) (v := (.int .i64 y49)) rfl rfl (wants_yes rfl rfl rfl rfl g66) (r_move rfl) ?_
                    refine s_pu (d := some 98) (v := (.int .i64 y42)) rfl rfl (wants_yes rfl rfl rfl rfl g66) (r_move rfl) ?_
                    refine s_pu (d := some 99) (v := (.bool (decide (y49 = y42)))) rfl rfl (wants_yes rfl rfl rfl rfl g66) (r_eql rfl rfl) ?_
                    refine s_pu (d := some 100) (v := (.bool (decide (y49 = y42)))) rfl rfl (wants_yes rfl rfl rfl rfl g62) (r_pick1 rfl g66 rfl) ?_
                    refine s_pu (d := some 101) (v := (.bool (decide (y49 = y42)))) rfl rfl (wants_yes rfl rfl rfl rfl g61) (r_pick0 rfl g62 rfl) ?_
                    refine s_pu (d := some 102) (v := (.bool (decide (y49 = y42)))) rfl rfl rfl (r_pick1 rfl g61 rfl) ?_
                    refine s_pu (d := some 103) (v := (.bool (decide (y49 = y42)))) rfl rfl rfl (r_move rfl) ?_
                    rcases Bool.eq_false_or_eq_true (decide (y49 = y42)) with g67 | g67
                    · have H := H.1 g67
                      obtain ⟨x68, e69, H⟩ := H
                      refine s_rl (d := some 104) (v := (.agg #[(.pointer x68)])) rfl rfl (wants_yes rfl rfl rfl rfl g67) (fun dr => r_loadN Try.isAgg52 Try.sizeOf52 (vs := [(.pointer x68)]) rfl rfl ⟨e69, trivial⟩) ?_
                      refine s_ef (d := some 105) rfl rfl (wants_yes rfl rfl rfl rfl g67) (fun dr => r_call Try.call36 rfl rfl H) ?_ trivial
                      rintro _ h18 ⟨y70, rfl, H⟩
                      refine ⟨trivial, ?_⟩
                      refine s_pu (d := some 106) (v := (Sl.v l1)) rfl rfl (wants_yes rfl rfl rfl rfl g67) (r_move rfl) ?_
                      refine s_pu (d := some 107) (v := (.int .i64 ((l1.len : Int)))) rfl rfl (wants_yes rfl rfl rfl rfl g67) (r_len Try.underlying22 rfl) ?_
                      refine s_pu (d := some 108) (v := (.int .i64 (w64 (((l1.len : Int)) + 1)))) rfl rfl (wants_yes rfl rfl rfl rfl g67) (r_add rfl rfl) ?_
                      refine s_pu (d := some 109) (v := (.bool (decide (y70 = (w64 (((l1.len : Int)) + 1)))))) rfl rfl (wants_yes rfl rfl rfl rfl g67) (r_eql rfl rfl) ?_
                      refine s_pu (d := some 110) (v := (.bool (decide (y70 = (w64 (((l1.len : Int)) + 1)))))) rfl rfl rfl (r_pick1 rfl g67 rfl) ?_
                      refine s_pu (d := some 8) (v := (.bool (decide (y70 = (w64 (((l1.len : Int)) + 1)))))) rfl rfl rfl (r_assign rfl) ?_
                      refine s_fin ?_
                      exact N_mk (l := [(8, (.bool (decide (y70 = (w64 (((l1.len : Int)) + 1))))))]) H ⟨rfl, trivial⟩
                    · have H := H.2 g67
                      refine s_skl (d := some 104) rfl rfl (wants_no rfl rfl rfl rfl g67) ?_
                      refine s_skf (d := some 105) rfl rfl (wants_no rfl rfl rfl rfl g67) trivial ?_ trivial
                      refine s_sk (d := some 106) rfl rfl (wants_no rfl rfl rfl rfl g67) ?_
                      refine s_sk (d := some 107) rfl rfl (wants_no rfl rfl rfl rfl g67) ?_
                      refine s_sk (d := some 108) rfl rfl (wants_no rfl rfl rfl rfl g67) ?_
                      refine s_sk (d := some 109) rfl rfl (wants_no rfl rfl rfl rfl g67) ?_
                      refine s_pu (d := some 110) (v := (.bool false)) rfl rfl rfl (r_pick0 rfl g67 rfl) ?_
                      refine s_pu (d := some 8) (v := (.bool false)) rfl rfl rfl (r_assign rfl) ?_
                      refine s_fin ?_
                      exact N_mk (l := [(8, (.bool false))]) H ⟨rfl, trivial⟩
                  · have H := H.2 g66
                    refine s_sk (d := some 97) rfl rfl (wants_no rfl rfl rfl rfl g66) ?_
                    refine s_sk (d := some 98) rfl rfl (wants_no rfl rfl rfl rfl g66) ?_
                    refine s_sk (d := some 99) rfl rfl (wants_no rfl rfl rfl rfl g66) ?_
                    refine s_pu (d := some 100) (v := (.bool false)) rfl rfl (wants_yes rfl rfl rfl rfl g62) (r_pick0 rfl g66 rfl) ?_
                    refine s_pu (d := some 101) (v := (.bool false)) rfl rfl (wants_yes rfl rfl rfl rfl g61) (r_pick0 rfl g62 rfl) ?_
                    refine s_pu (d := some 102) (v := (.bool false)) rfl rfl rfl (r_pick1 rfl g61 rfl) ?_
                    refine s_pu (d := some 103) (v := (.bool false)) rfl rfl rfl (r_move rfl) ?_
                    refine s_skl (d := some 104) rfl rfl (wants_no rfl rfl rfl rfl rfl) ?_
                    refine s_skf (d := some 105) rfl rfl (wants_no rfl rfl rfl rfl rfl) trivial ?_ trivial
                    refine s_sk (d := some 106) rfl rfl (wants_no rfl rfl rfl rfl rfl) ?_
                    refine s_sk (d := some 107) rfl rfl (wants_no rfl rfl rfl rfl rfl) ?_
                    refine s_sk (d := some 108) rfl rfl (wants_no rfl rfl rfl rfl rfl) ?_
                    refine s_sk (d := some 109) rfl rfl (wants_no rfl rfl rfl rfl rfl) ?_
                    refine s_pu (d := some 110) (v := (.bool false)) rfl rfl rfl (r_pick0 rfl rfl rfl) ?_
                    refine s_pu (d := some 8) (v := (.bool false)) rfl rfl rfl (r_assign rfl) ?_
                    refine s_fin ?_
                    exact N_mk (l := [(8, (.bool false))]) H ⟨rfl, trivial⟩
              · have H := H.2 g61
                refine s_sk (d := some 92) rfl rfl (wants_no rfl rfl rfl rfl g61) ?_
                refine s_sk (d := some 93) rfl rfl (wants_no rfl rfl rfl rfl g61) ?_
                refine s_sk (d := some 94) rfl rfl (wants_no rfl rfl rfl rfl g61) ?_
                refine s_sk (d := some 95) rfl rfl (wants_un rfl rfl rfl) ?_
                refine s_sk (d := some 96) rfl rfl (wants_un rfl rfl rfl) ?_
                refine s_sk (d := some 97) rfl rfl (wants_un rfl rfl rfl) ?_
                refine s_sk (d := some 98) rfl rfl (wants_un rfl rfl rfl) ?_
                refine s_sk (d := some 99) rfl rfl (wants_un rfl rfl rfl) ?_
                refine s_sk (d := some 100) rfl rfl (wants_un rfl rfl rfl) ?_
                refine s_sk (d := some 101) rfl rfl (wants_no rfl rfl rfl rfl g61) ?_
                refine s_pu (d := some 102) (v := (.bool false)) rfl rfl rfl (r_pick0 rfl g61 rfl) ?_
                refine s_pu (d := some 103) (v := (.bool false)) rfl rfl rfl (r_move rfl) ?_
                refine s_skl (d := some 104) rfl rfl (wants_no rfl rfl rfl rfl rfl) ?_
                refine s_skf (d := some 105) rfl rfl (wants_no rfl rfl rfl rfl rfl) trivial ?_ trivial
                refine s_sk (d := some 106) rfl rfl (wants_no rfl rfl rfl rfl rfl) ?_
                refine s_sk (d := some 107) rfl rfl (wants_no rfl rfl rfl rfl rfl) ?_
                refine s_sk (d := some 108) rfl rfl (wants_no rfl rfl rfl rfl rfl) ?_
                refine s_sk (d := some 109) rfl rfl (wants_no rfl rfl rfl rfl rfl) ?_
                refine s_pu (d := some 110) (v := (.bool false)) rfl rfl rfl (r_pick0 rfl rfl rfl) ?_
                refine s_pu (d := some 8) (v := (.bool false)) rfl rfl rfl (r_assign rfl) ?_
                refine s_fin ?_
                exact N_mk (l := [(8, (.bool false))]) H ⟨rfl, trivial⟩
            · have H := H.2 g60
              refine s_sk (d := some 87) rfl rfl (wants_no rfl rfl rfl rfl g60) ?_
              refine s_sk (d := some 88) rfl rfl (wants_no rfl rfl rfl rfl g60) ?_
              refine s_sk (d := some 89) rfl rfl (wants_no rfl rfl rfl rfl g60) ?_
              refine s_pu (d := some 90) (v := (.bool false)) rfl rfl rfl (r_pick0 rfl g60 rfl) ?_
              refine s_pu (d := some 91) (v := (.bool false)) rfl rfl rfl (r_move rfl) ?_
              refine s_sk (d := some 92) rfl rfl (wants_no rfl rfl rfl rfl rfl) ?_
              refine s_sk (d := some 93) rfl rfl (wants_no rfl rfl rfl rfl rfl) ?_
              refine s_sk (d := some 94) rfl rfl (wants_no rfl rfl rfl rfl rfl) ?_
              refine s_sk (d := some 95) rfl rfl (wants_un rfl rfl rfl) ?_
              refine s_sk (d := some 96) rfl rfl (wants_un rfl rfl rfl) ?_
              refine s_sk (d := some 97) rfl rfl (wants_un rfl rfl rfl) ?_
              refine s_sk (d := some 98) rfl rfl (wants_un rfl rfl rfl) ?_
              refine s_sk (d := some 99) rfl rfl (wants_un rfl rfl rfl) ?_
              refine s_sk (d := some 100) rfl rfl (wants_un rfl rfl rfl) ?_
              refine s_sk (d := some 101) rfl rfl (wants_no rfl rfl rfl rfl rfl) ?_
              refine s_pu (d := some 102) (v := (.bool false)) rfl rfl rfl (r_pick0 rfl rfl rfl) ?_
              refine s_pu (d := some 103) (v := (.bool false)) rfl rfl rfl (r_move rfl) ?_
              refine s_skl (d := some 104) rfl rfl (wants_no rfl rfl rfl rfl rfl) ?_
              refine s_skf (d := some 105) rfl rfl (wants_no rfl rfl rfl rfl rfl) trivial ?_ trivial
              refine s_sk (d := some 106) rfl rfl (wants_no rfl rfl rfl rfl rfl) ?_
              refine s_sk (d := some 107) rfl rfl (wants_no rfl rfl rfl rfl rfl) ?_
              refine s_sk (d := some 108) rfl rfl (wants_no rfl rfl rfl rfl rfl) ?_
              refine s_sk (d := some 109) rfl rfl (wants_no rfl rfl rfl rfl rfl) ?_
              refine s_pu (d := some 110) (v := (.bool false)) rfl rfl rfl (r_pick0 rfl rfl rfl) ?_
              refine s_pu (d := some 8) (v := (.bool false)) rfl rfl rfl (r_assign rfl) ?_
              refine s_fin ?_
              exact N_mk (l := [(8, (.bool false))]) H ⟨rfl, trivial⟩
          · have H := H.2 g59
            refine s_sk (d := some 84) rfl rfl (wants_no rfl rfl rfl rfl g59) ?_
            refine s_pu (d := some 85) (v := (.bool false)) rfl rfl rfl (r_pick0 rfl g59 rfl) ?_
            refine s_pu (d := some 86) (v := (.bool false)) rfl rfl rfl (r_move rfl) ?_
            refine s_sk (d := some 87) rfl rfl (wants_no rfl rfl rfl rfl rfl) ?_
            refine s_sk (d := some 88) rfl rfl (wants_no rfl rfl rfl rfl rfl) ?_
            refine s_sk (d := some 89) rfl rfl (wants_no rfl rfl rfl rfl rfl) ?_
            refine s_pu (d := some 90) (v := (.bool false)) rfl rfl rfl (r_pick0 rfl rfl rfl) ?_
            refine s_pu (d := some 91) (v := (.bool false)) rfl rfl rfl (r_move rfl) ?_
            refine s_sk (d := some 92) rfl rfl (wants_no rfl rfl rfl rfl rfl) ?_
            refine s_sk (d := some 93) rfl rfl (wants_no rfl rfl rfl rfl rfl) ?_
            refine s_sk (d := some 94) rfl rfl (wants_no rfl rfl rfl rfl rfl) ?_
            refine s_sk (d := some 95) rfl rfl (wants_un rfl rfl rfl) ?_
            refine s_sk (d := some 96) rfl rfl (wants_un rfl rfl rfl) ?_
            refine s_sk (d := some 97) rfl rfl (wants_un rfl rfl rfl) ?_
            refine s_sk (d := some 98) rfl rfl (wants_un rfl rfl rfl) ?_
            refine s_sk (d := some 99) rfl rfl (wants_un rfl rfl rfl) ?_
            refine s_sk (d := some 100) rfl rfl (wants_un rfl rfl rfl) ?_
            refine s_sk (d := some 101) rfl rfl (wants_no rfl rfl rfl rfl rfl) ?_
            refine s_pu (d := some 102) (v := (.bool false)) rfl rfl rfl (r_pick0 rfl rfl rfl) ?_
            refine s_pu (d := some 103) (v := (.bool false)) rfl rfl rfl (r_move rfl) ?_
            refine s_skl (d := some 104) rfl rfl (wants_no rfl rfl rfl rfl rfl) ?_
            refine s_skf (d := some 105) rfl rfl (wants_no rfl rfl rfl rfl rfl) trivial ?_ trivial
            refine s_sk (d := some 106) rfl rfl (wants_no rfl rfl rfl rfl rfl) ?_
            refine s_sk (d := some 107) rfl rfl (wants_no rfl rfl rfl rfl rfl) ?_
            refine s_sk (d := some 108) rfl rfl (wants_no rfl rfl rfl rfl rfl) ?_
            refine s_sk (d := some 109) rfl rfl (wants_no rfl rfl rfl rfl rfl) ?_
            refine s_pu (d := some 110) (v := (.bool false)) rfl rfl rfl (r_pick0 rfl rfl rfl) ?_
            refine s_pu (d := some 8) (v := (.bool false)) rfl rfl rfl (r_assign rfl) ?_
            refine s_fin ?_
            exact N_mk (l := [(8, (.bool false))]) H ⟨rfl, trivial⟩
        · have H := H.2 g58
          refine s_sk (d := some 81) rfl rfl (wants_no rfl rfl rfl rfl g58) ?_
          refine s_pu (d := some 82) (v := (.bool false)) rfl rfl rfl (r_pick0 rfl g58 rfl) ?_
          refine s_pu (d := some 83) (v := (.bool false)) rfl rfl rfl (r_move rfl) ?_
          refine s_sk (d := some 84) rfl rfl (wants_no rfl rfl rfl rfl rfl) ?_
          refine s_pu (d := some 85) (v := (.bool false)) rfl rfl rfl (r_pick0 rfl rfl rfl) ?_
          refine s_pu (d := some 86) (v := (.bool false)) rfl rfl rfl (r_move rfl) ?_
          refine s_sk (d := some 87) rfl rfl (wants_no rfl rfl rfl rfl rfl) ?_
          refine s_sk (d := some 88) rfl rfl (wants_no rfl rfl rfl rfl rfl) ?_
          refine s_sk (d := some 89) rfl rfl (wants_no rfl rfl rfl rfl rfl) ?_
          refine s_pu (d := some 90) (v := (.bool false)) rfl rfl rfl (r_pick0 rfl rfl rfl) ?_
          refine s_pu (d := some 91) (v := (.bool false)) rfl rfl rfl (r_move rfl) ?_
          refine s_sk (d := some 92) rfl rfl (wants_no rfl rfl rfl rfl rfl) ?_
          refine s_sk (d := some 93) rfl rfl (wants_no rfl rfl rfl rfl rfl) ?_
          refine s_sk (d := some 94) rfl rfl (wants_no rfl rfl rfl rfl rfl) ?_
          refine s_sk (d := some 95) rfl rfl (wants_un rfl rfl rfl) ?_
          refine s_sk (d := some 96) rfl rfl (wants_un rfl rfl rfl) ?_
          refine s_sk (d := some 97) rfl rfl (wants_un rfl rfl rfl) ?_
          refine s_sk (d := some 98) rfl rfl (wants_un rfl rfl rfl) ?_
          refine s_sk (d := some 99) rfl rfl (wants_un rfl rfl rfl) ?_
          refine s_sk (d := some 100) rfl rfl (wants_un rfl rfl rfl) ?_
          refine s_sk (d := some 101) rfl rfl (wants_no rfl rfl rfl rfl rfl) ?_
          refine s_pu (d := some 102) (v := (.bool false)) rfl rfl rfl (r_pick0 rfl rfl rfl) ?_
          refine s_pu (d := some 103) (v := (.bool false)) rfl rfl rfl (r_move rfl) ?_
          refine s_skl (d := some 104) rfl rfl (wants_no rfl rfl rfl rfl rfl) ?_
          refine s_skf (d := some 105) rfl rfl (wants_no rfl rfl rfl rfl rfl) trivial ?_ trivial
          refine s_sk (d := some 106) rfl rfl (wants_no rfl rfl rfl rfl rfl) ?_
          refine s_sk (d := some 107) rfl rfl (wants_no rfl rfl rfl rfl rfl) ?_
          refine s_sk (d := some 108) rfl rfl (wants_no rfl rfl rfl rfl rfl) ?_
          refine s_sk (d := some 109) rfl rfl (wants_no rfl rfl rfl rfl rfl) ?_
          refine s_pu (d := some 110) (v := (.bool false)) rfl rfl rfl (r_pick0 rfl rfl rfl) ?_
          refine s_pu (d := some 8) (v := (.bool false)) rfl rfl rfl (r_assign rfl) ?_
          refine s_fin ?_
          exact N_mk (l := [(8, (.bool false))]) H ⟨rfl, trivial⟩)
      clear eN46
      refine W_if (decide (i2 ≤ k4)) rfl (fun g71 => ?_) (fun g71 => ?_)
      · have H := H.1 g71
        refine W_region (.pu 0 (.pu 1 (.pu 2 .fin))) rfl rfl ?_
        refine s_pu (d := some 65) (v := (.int .i64 k4)) rfl rfl rfl (r_move rfl) ?_
        refine s_pu (d := some 66) (v := (.int .i64 (w64 (k4 + 1)))) rfl rfl rfl (r_add rfl rfl) ?_
        refine s_pu (d := some 18) (v := (.int .i64 (w64 (k4 + 1)))) rfl rfl rfl (r_assign rfl) ?_
        refine s_fin ?_
        exact N_mk (l := [(0, (Sl.v l1)), (1, (.int .i64 i2)), (2, (.int .i64 x3)), (11, (.pointer (some p16))), (14, (.bool y30)), (15, (.bool y39)), (16, (.int .i64 y42)), (17, (.bool y43)), (18, (.int .i64 (w64 (k4 + 1))))]) H ⟨rfl, rfl, rfl, rfl, rfl, rfl, rfl, rfl, rfl, trivial⟩
      · have H := H.2 g71
        refine W_skip ?_
        exact N_mk (l := [(0, (Sl.v l1)), (1, (.int .i64 i2)), (2, (.int .i64 x3)), (11, (.pointer (some p16))), (14, (.bool y30)), (15, (.bool y39)), (16, (.int .i64 y42)), (17, (.bool y43)), (18, (.int .i64 k4))]) H ⟨rfl, rfl, rfl, rfl, rfl, rfl, rfl, rfl, rfl, trivial⟩

/-! ### law3_SeqTells -/

def law3_SeqTells_F (r : World) (l1 : Sl) (i2 : Int) (j3 : Int) (x4 : Int) (h : Heap) (R : Bool → Heap → Prop) : Prop :=
  law3_placed r h fun y5 h1 =>
  Br (!y5) (
    R false h1) (
    seq_Of r l1 h1 fun y6 h2 =>
    New h2 (.cells #[(.pointer none)] 52) fun p7 h3 =>
    St h3 p7 1 [(.pointer y6)] fun h4 =>
    ∀ x15 : Bool, x15 = ((decide (0 ≤ i2)) && (decide (i2 < ((l1.len : Int))))) →
    LdP h4 (Addr.add p7 0) fun x17 =>
    seq_Seq_At r x17 i2 h4 fun y19 y20 h5 =>
    LdP h5 (Addr.add p7 0) fun x21 =>
    seq_Seq_Set r x21 i2 x4 h5 fun y23 y24 h6 =>
    New h6 (.cells #[(.pointer none)] 52) fun p25 h7 =>
    St h7 p25 1 [(.pointer y23)] fun h8 =>
    LdP h8 (Addr.add p7 0) fun x30 =>
    seq_Seq_Delete r x30 i2 h8 fun y32 y33 h9 =>
    New h9 (.cells #[(.pointer none)] 52) fun p34 h10 =>
    St h10 p34 1 [(.pointer y32)] fun h11 =>
    ∀ J40 : Bool → Prop, (∀ (x39 : Bool),
      (Br x39 (
        R false h11) (
        ∀ J44 : Sl → Sl → Heap → Prop, (∀ (set42 : Sl) (less43 : Sl) (h12 : Heap),
          (LdP h12 (Addr.add p25 0) fun x46 =>
          seq_Seq_Ints r x46 h12 fun y48 h13 =>
          same_Ints r y48 set42 h13 fun y49 h14 =>
          LdP h14 (Addr.add p34 0) fun x50 =>
          seq_Seq_Ints r x50 h14 fun y52 h15 =>
          same_Ints r y52 less43 h15 fun y53 h16 =>
          ∀ x57 : Bool, x57 = ((decide (0 ≤ i2)) && (decide (i2 ≤ ((l1.len : Int))))) →
          ∀ J60 : Sl → Heap → Prop, (∀ (more59 : Sl) (h17 : Heap),
            (LdP h17 (Addr.add p7 0) fun x62 =>
            seq_Seq_Insert r x62 i2 x4 h17 fun y64 y65 h18 =>
            New h18 (.cells #[(.pointer none)] 52) fun p66 h19 =>
            St h19 p66 1 [(.pointer y64)] fun h20 =>
            LdP h20 (Addr.add p66 0) fun x71 =>
            seq_Seq_Ints r x71 h20 fun y73 h21 =>
            same_Ints r y73 more59 h21 fun y74 h22 =>
            ∀ x81 : Bool, x81 = (((decide (0 ≤ i2)) && (decide (i2 ≤ j3))) && (decide (j3 ≤ ((l1.len : Int))))) →
            New h22 (.cells #[(.int .i64 0), (.int .i64 0), (.int .i64 0), (.int .i64 0), (.int .i64 0)] 34) fun p83 h23 =>
            ∀ J87 : Sl → Heap → Prop, (∀ (vs86 : Sl) (h24 : Heap),
              (LdP h24 (Addr.add p7 0) fun x89 =>
              seq_Seq_Slice r x89 i2 j3 h24 fun y91 y92 h25 =>
              New h25 (.cells #[(.pointer none)] 52) fun p93 h26 =>
              St h26 p93 1 [(.pointer y91)] fun h27 =>
              LdP h27 (Addr.add p7 0) fun x98 =>
              seq_Seq_Measure r x98 i2 j3 h27 fun y100 y101 y102 y103 y104 y105 h28 =>
              New h28 (.cells #[(.int .i64 0), (.int .i64 0), (.int .i64 0), (.int .i64 0), (.int .i64 0)] 34) fun p106 h29 =>
              St h29 p106 5 [(.int .i64 y100), (.int .i64 y101), (.int .i64 y102), (.int .i64 y103), (.int .i64 y104)] fun h30 =>
              LdP h30 (Addr.add p93 0) fun x111 =>
              seq_Seq_Ints r x111 h30 fun y113 h31 =>
              same_Ints r y113 vs86 h31 fun y114 h32 =>
              LdP h32 (Addr.add p7 0) fun x115 =>
              seq_Seq_Ints r x115 h32 fun y117 h33 =>
              same_Ints r y117 l1 h33 fun y118 h34 =>
              ∀ J120 : Bool → Prop, (∀ (x119 : Bool),
                (R x119 h34) →
                J120 x119) →
              Br y49 (
                Br y53 (
                  Br y74 (
                    Br y114 (
                      Br y118 (
                        Br (y65 == x57) (
                          Br (y92 == x81) (
                            Br (y105 == x81) (
                              LdI h34 (Addr.add p106 0) fun x130 =>
                              LdI h34 (Addr.add p106 1) fun x132 =>
                              LdI h34 (Addr.add p106 2) fun x134 =>
                              LdI h34 (Addr.add p106 3) fun x136 =>
                              LdI h34 (Addr.add p106 4) fun x138 =>
                              LdI h34 (Addr.add p83 0) fun x140 =>
                              LdI h34 (Addr.add p83 1) fun x142 =>
                              LdI h34 (Addr.add p83 2) fun x144 =>
                              LdI h34 (Addr.add p83 3) fun x146 =>
                              LdI h34 (Addr.add p83 4) fun x148 =>
                              ∀ x150 : Bool, x150 = (decide (x130 = x140 ∧ x132 = x142 ∧ x134 = x144 ∧ x136 = x146 ∧ x138 = x148)) →
                              J120 x150) (
                              J120 false)) (
                            J120 false)) (
                          J120 false)) (
                        J120 false)) (
                      J120 false)) (
                    J120 false)) (
                  J120 false)) (
                J120 false)) →
              J87 vs86 h24) →
            Br x81 (
              Sub l1 i2 j3 ((l1.cap : Int)) 1 fun s152 =>
              ref1_MeasureOf r s152 h23 fun y158 y159 y160 y161 y162 h35 =>
              St h35 p83 5 [(.int .i64 y158), (.int .i64 y159), (.int .i64 y160), (.int .i64 y161), (.int .i64 y162)] fun h36 =>
              J87 s152 h36) (
              J87 Sl.nil h23)) →
            J60 more59 h17) →
          Br x57 (
            ref1_With r l1 i2 x4 h16 fun y168 h37 =>
            J60 y168 h37) (
            J60 Sl.nil h16)) →
          J44 set42 less43 h12) →
        Br x15 (
          ref1_Put r l1 i2 x4 h11 fun y171 h38 =>
          ref1_Without r l1 i2 h38 fun y172 h39 =>
          J44 y171 y172 h39) (
          J44 Sl.nil Sl.nil h11))) →
      J40 x39) →
    Br (y20 != x15) (
      J40 true) (
      Br (y24 != x15) (
        J40 true) (
        Br (y33 != x15) (
          J40 true) (
          Br x15 (
            Ix l1 i2 1 fun q183 =>
            LdI h11 q183 fun x185 =>
            Br (!decide (y19 = x185)) (
              J40 true) (
              Br (!x15) (
                J40 (!decide (y19 = 0))) (
                J40 false))) (
            Br (!x15) (
              J40 (!decide (y19 = 0))) (
              J40 false))))))

set_option maxRecDepth 100000 in
theorem law3_SeqTells_of {r : World} {l1 : Sl} {i2 : Int} {j3 : Int} {x4 : Int} {h : Heap} {R : Bool → Heap → Prop} (H : law3_SeqTells_F r l1 i2 j3 x4 h R) : law3_SeqTells r l1 i2 j3 x4 h R := by
  unfold law3_SeqTells_F at H
  refine calls_of 215 [.tmp 8] Try.func11 rfl rfl rfl rfl rfl ?_
  refine W_seq ?_
  refine W_region (.pu 0 .fin) rfl rfl ?_
  refine s_pu (d := some 8) (v := (.bool false)) rfl rfl rfl (r_assign rfl) ?_
  refine s_fin ?_
  show W _ _ _ _ _ _ _ _
  refine W_seq ?_
  refine W_region (.ef 0 [] (.pu 1 .fin) .no) rfl rfl ?_
  refine s_ef (d := some 36) rfl rfl rfl (fun dr => r_call Try.call30 rfl rfl H) ?_ trivial
  rintro _ h1 ⟨y5, rfl, H⟩
  refine ⟨trivial, ?_⟩
  refine s_pu (d := some 9) (v := (.bool y5)) rfl rfl rfl (r_assign rfl) ?_
  refine s_fin ?_
  show W _ _ _ _ _ _ _ _
  refine W_seq ?_
  refine W_seq ?_
  refine W_region (.pu 0 (.pu 1 .fin)) rfl rfl ?_
  refine s_pu (d := some 37) (v := (.bool y5)) rfl rfl rfl (r_move rfl) ?_
  refine s_pu (d := some 38) (v := (.bool (!y5))) rfl rfl rfl (r_not rfl) ?_
  refine s_fin ?_
  show W _ _ _ _ _ _ _ _
  refine W_if (!y5) rfl (fun g191 => ?_) (fun g191 => ?_)
  · have H := H.1 g191
    refine W_seq ?_
    refine W_region (.pu 0 .fin) rfl rfl ?_
    refine s_pu (d := some 8) (v := (.bool false)) rfl rfl rfl (r_assign rfl) ?_
    refine s_fin ?_
    show W _ _ _ _ _ _ _ _
    refine W_ret ?_
    exact ⟨[(.bool false)], ⟨_, _, rfl, rfl, rfl⟩, false, rfl, H⟩
  · have H := H.2 g191
    refine W_skip ?_
    show W _ _ _ _ _ _ _ _
    refine W_seq ?_
    refine W_region (.pu 0 (.ef 1 [] (.ef 2 [] (.ef 3 [] .fin .no) .no) .no)) rfl rfl ?_
    refine s_pu (d := some 39) (v := (Sl.v l1)) rfl rfl rfl (r_move rfl) ?_
    refine s_ef (d := some 40) rfl rfl rfl (fun dr => r_call Try.call31 rfl rfl H) ?_ trivial
    rintro _ h2 ⟨y6, rfl, H⟩
    refine ⟨trivial, ?_⟩
    obtain ⟨p7, e8⟩ : ∃ p : Addr, p = ⟨h2.size, 0, none⟩ := ⟨_, rfl⟩
    obtain ⟨h3, e9⟩ : ∃ hh : Heap, hh = h2.push (.cells #[(.pointer none)] 52) := ⟨_, rfl⟩
    have H := H p7 h3 e8 e9
    refine s_ef1 (d := some 10) (v := (.pointer (some p7))) (h' := h3) rfl rfl rfl (fun dr => (r_alloc Try.zeroValue52).trans (by rw [e8, e9]; rfl)) trivial ?_ trivial
    obtain ⟨e11, H⟩ := H
    obtain ⟨h4, e10⟩ : ∃ hh : Heap, hh = hsets h3 p7 0 [(.pointer y6)] := ⟨_, rfl⟩
    have H := H h4 e10
    refine s_st (d := none) (h' := h4) rfl rfl rfl (fun dr => (r_store (v := (.agg #[(.pointer y6)])) Try.sizeOf52 rfl rfl rfl (one_all rfl) e11).trans (by rw [e10]; rfl)) trivial ?_ trivial
    refine s_fin ?_
    show W _ _ _ _ _ _ _ _
    refine W_seq ?_
    refine W_region (.pu 0 (.pu 1 (.pu 2 (.pu 3 (.pu 4 (.pu 5 (.pu 6 (.pu 7 (.pu 8 .fin))))))))) rfl rfl ?_
    refine s_pu (d := some 41) (v := (.int .i64 i2)) rfl rfl rfl (r_move rfl) ?_
    refine s_pu (d := some 42) (v := (.bool (decide (0 ≤ i2)))) rfl rfl rfl (r_geq rfl rfl) ?_
    refine s_pu (d := some 43) (v := (.bool (decide (0 ≤ i2)))) rfl rfl rfl (r_move rfl) ?_
    refine S_meet (l := [(0, (Sl.v l1)), (1, (.int .i64 i2)), (2, (.int .i64 j3)), (3, (.int .i64 x4)), (10, (.pointer (some p7))), (48, (.bool ((decide (0 ≤ i2)) && (decide (i2 < ((l1.len : Int)))))))]) (i := 5) ?_ (fun HJ => ?_)
    · intro b
      show S _ _ _ _ _ _
      obtain ⟨x15, e16⟩ : ∃ x : Bool, x = ((decide (0 ≤ i2)) && (decide (i2 < ((l1.len : Int))))) := ⟨_, rfl⟩
      have H := H x15 e16
      refine s_pu (d := some 11) (v := (.bool x15)) rfl rfl rfl (r_assign (congrArg Value.bool e16.symm)) ?_
      refine s_fin ?_
      show W _ _ _ _ _ _ _ _
      refine W_seq ?_
      refine W_region (.rl 0 (.pu 1 (.ef 2 [] (.pu 3 (.pu 4 (.pu 5 (.pu 6 (.pu 7 .fin))))) .no))) rfl rfl ?_
      obtain ⟨x17, e18, H⟩ := H
      refine s_rl (d := some 50) (v := (.agg #[(.pointer x17)])) rfl rfl rfl (fun dr => r_loadN Try.isAgg52 Try.sizeOf52 (vs := [(.pointer x17)]) rfl rfl ⟨e18, trivial⟩) ?_
      refine s_pu (d := some 51) (v := (.int .i64 i2)) rfl rfl rfl (r_move rfl) ?_
      refine s_ef (d := some 52) rfl rfl rfl (fun dr => r_call Try.call39 rfl rfl H) ?_ trivial
      rintro _ h5 ⟨y19, y20, rfl, H⟩
      refine ⟨trivial, ?_⟩
      refine s_pu (d := some 49) (v := (.tuple #[(.int .i64 y19), (.bool y20)])) rfl rfl rfl (r_move rfl) ?_
      refine s_pu (d := some 53) (v := (.int .i64 y19)) rfl rfl rfl (r_extract rfl rfl) ?_
      refine s_pu (d := some 54) (v := (.bool y20)) rfl rfl rfl (r_extract rfl rfl) ?_
      refine s_pu (d := some 12) (v := (.int .i64 y19)) rfl rfl rfl (r_assign rfl) ?_
      refine s_pu (d := some 13) (v := (.bool y20)) rfl rfl rfl (r_assign rfl) ?_
      refine s_fin ?_
      show W _ _ _ _ _ _ _ _
      refine W_seq ?_
      refine W_region (.rl 0 (.pu 1 (.pu 2 (.ef 3 [] (.pu 4 (.pu 5 (.pu 6 (.ef 7 [] (.ef 8 [] (.pu 9 .fin) .no) .no)))) .no)))) rfl rfl ?_
      obtain ⟨x21, e22, H⟩ := H
      refine s_rl (d := some 56) (v := (.agg #[(.pointer x21)])) rfl rfl rfl (fun dr => r_loadN Try.isAgg52 Try.sizeOf52 (vs := [(.pointer x21)]) rfl rfl ⟨e22, trivial⟩) ?_
      refine s_pu (d := some 57) (v := (.int .i64 i2)) rfl rfl rfl (r_move rfl) ?_
      refine s_pu (d := some 58) (v := (.int .i64 x4)) rfl rfl rfl (r_move rfl) ?_
      refine s_ef (d := some 59) rfl rfl rfl (fun dr => r_call Try.call40 rfl rfl H) ?_ trivial
      rintro _ h6 ⟨y23, y24, rfl, H⟩
      refine ⟨trivial, ?_⟩
      refine s_pu (d := some 55) (v := (.tuple #[(.agg #[(.pointer y23)]), (.bool y24)])) rfl rfl rfl (r_move rfl) ?_
      refine s_pu (d := some 60) (v := (.agg #[(.pointer y23)])) rfl rfl rfl (r_extract rfl rfl) ?_
      refine s_pu (d := some 61) (v := (.bool y24)) rfl rfl rfl (r_extract rfl rfl) ?_
      obtain ⟨p25, e26⟩ : ∃ p : Addr, p = ⟨h6.size, 0, none⟩ := ⟨_, rfl⟩
      obtain ⟨h7, e27⟩ : ∃ hh : Heap, hh = h6.push (.cells #[(.pointer none)] 52) := ⟨_, rfl⟩
      have H := H p25 h7 e26 e27
      refine s_ef1 (d := some 14) (v := (.pointer (some p25))) (h' := h7) rfl rfl rfl (fun dr => (r_alloc Try.zeroValue52).trans (by rw [e26, e27]; rfl)) trivial ?_ trivial
      obtain ⟨e29, H⟩ := H
      obtain ⟨h8, e28⟩ : ∃ hh : Heap, hh = hsets h7 p25 0 [(.pointer y23)] := ⟨_, rfl⟩
      have H := H h8 e28
      refine s_st (d := none) (h' := h8) rfl rfl rfl (fun dr => (r_store (v := (.agg #[(.pointer y23)])) Try.sizeOf52 rfl rfl rfl (one_all rfl) e29).trans (by rw [e28]; rfl)) trivial ?_ trivial
      refine s_pu (d := some 15) (v := (.bool y24)) rfl rfl rfl (r_assign rfl) ?_
      refine s_fin ?_
      show W _ _ _ _ _ _ _ _
      refine W_seq ?_
      refine W_region (.rl 0 (.pu 1 (.ef 2 [] (.pu 3 (.pu 4 (.pu 5 (.ef 6 [] (.ef 7 [] (.pu 8 .fin) .no) .no)))) .no))) rfl rfl ?_
      obtain ⟨x30, e31, H⟩ := H
      refine s_rl (d := some 63) (v := (.agg #[(.pointer x30)])) rfl rfl rfl (fun dr => r_loadN Try.isAgg52 Try.sizeOf52 (vs := [(.pointer x30)]) rfl rfl ⟨e31, trivial⟩) ?_
      refine s_pu (d := some 64) (v := (.int .i64 i2)) rfl rfl rfl (r_move rfl) ?_
      refine s_ef (d := some 65) rfl rfl rfl (fun dr => r_call Try.call38 rfl rfl H) ?_ trivial
      rintro _ h9 ⟨y32, y33, rfl, H⟩
      refine ⟨trivial, ?_⟩
      refine s_pu (d := some 62) (v := (.tuple #[(.agg #[(.pointer y32)]), (.bool y33)])) rfl rfl rfl (r_move rfl) ?_
      refine s_pu (d := some 66) (v := (.agg #[(.pointer y32)])) rfl rfl rfl (r_extract rfl rfl) ?_
      refine s_pu (d := some 67) (v := (.bool y33)) rfl rfl rfl (r_extract rfl rfl) ?_
      obtain ⟨p34, e35⟩ : ∃ p : Addr, p = ⟨h9.size, 0, none⟩ := ⟨_, rfl⟩
      obtain ⟨h10, e36⟩ : ∃ hh : Heap, hh = h9.push (.cells #[(.pointer none)] 52) := ⟨_, rfl⟩
      have H := H p34 h10 e35 e36
      refine s_ef1 (d := some 16) (v := (.pointer (some p34))) (h' := h10) rfl rfl rfl (fun dr => (r_alloc Try.zeroValue52).trans (by rw [e35, e36]; rfl)) trivial ?_ trivial
      obtain ⟨e38, H⟩ := H
      obtain ⟨h11, e37⟩ : ∃ hh : Heap, hh = hsets h10 p34 0 [(.pointer y32)] := ⟨_, rfl⟩
      have H := H h11 e37
      refine s_st (d := none) (h' := h11) rfl rfl rfl (fun dr => (r_store (v := (.agg #[(.pointer y32)])) Try.sizeOf52 rfl rfl rfl (one_all rfl) e38).trans (by rw [e37]; rfl)) trivial ?_ trivial
      refine s_pu (d := some 17) (v := (.bool y33)) rfl rfl rfl (r_assign rfl) ?_
      refine s_fin ?_
      show W _ _ _ _ _ _ _ _
      refine W_seq ?_
      refine W_seq ?_
      refine W_set ?_
      intro N41 eN41
      have H := H (fun (x39 : Bool) => ∀ b, N41 [] (mkE [(0, (Sl.v l1)), (1, (.int .i64 i2)), (2, (.int .i64 j3)), (3, (.int .i64 x4)), (10, (.pointer (some p7))), (11, (.bool x15)), (14, (.pointer (some p25))), (16, (.pointer (some p34))), (99, (.bool x39))] b) h11) (by
        intro x39 H b
        rw [eN41]
        show W _ _ _ _ _ _ _ _
        refine W_if x39 rfl (fun g174 => ?_) (fun g174 => ?_)
        · have H := H.1 g174
          refine W_seq ?_
          refine W_region (.pu 0 .fin) rfl rfl ?_
          refine s_pu (d := some 8) (v := (.bool false)) rfl rfl rfl (r_assign rfl) ?_
          refine s_fin ?_
          show W _ _ _ _ _ _ _ _
          refine W_ret ?_
          exact ⟨[(.bool false)], ⟨_, _, rfl, rfl, rfl⟩, false, rfl, H⟩
        · have H := H.2 g174
          refine W_skip ?_
          show W _ _ _ _ _ _ _ _
          refine W_seq ?_
          refine W_region (.pu 0 .fin) rfl rfl ?_
          refine s_pu (d := some 18) (v := (Sl.v Sl.nil)) rfl rfl rfl (r_assign rfl) ?_
          refine s_fin ?_
          show W _ _ _ _ _ _ _ _
          refine W_seq ?_
          refine W_region (.pu 0 .fin) rfl rfl ?_
          refine s_pu (d := some 19) (v := (Sl.v Sl.nil)) rfl rfl rfl (r_assign rfl) ?_
          refine s_fin ?_
          show W _ _ _ _ _ _ _ _
          refine W_seq ?_
          refine W_seq ?_
          refine W_region (.pu 0 .fin) rfl rfl ?_
          refine s_pu (d := some 100) (v := (.bool x15)) rfl rfl rfl (r_move rfl) ?_
          refine s_fin ?_
          show W _ _ _ _ _ _ _ _
          refine W_set ?_
          intro N45 eN45
          have H := H (fun (set42 : Sl) (less43 : Sl) (h12 : Heap) => ∀ b, N45 [] (mkE [(0, (Sl.v l1)), (1, (.int .i64 i2)), (2, (.int .i64 j3)), (3, (.int .i64 x4)), (10, (.pointer (some p7))), (14, (.pointer (some p25))), (16, (.pointer (some p34))), (18, (Sl.v set42)), (19, (Sl.v less43))] b) h12) (by
            intro set42 less43 h12 H b
            rw [eN45]
            show W _ _ _ _ _ _ _ _
            refine W_seq ?_
            refine W_region (.rl 0 (.ef 1 [] (.pu 2 (.ef 3 [] (.pu 4 .fin) .no)) .no)) rfl rfl ?_
            obtain ⟨x46, e47, H⟩ := H
            refine s_rl (d := some 108) (v := (.agg #[(.pointer x46)])) rfl rfl rfl (fun dr => r_loadN Try.isAgg52 Try.sizeOf52 (vs := [(.pointer x46)]) rfl rfl ⟨e47, trivial⟩) ?_
            refine s_ef (d := some 109) rfl rfl rfl (fun dr => r_call Try.call35 rfl rfl H) ?_ trivial
            rintro _ h13 ⟨y48, rfl, H⟩
            refine ⟨trivial, ?_⟩
            refine s_pu (d := some 110) (v := (Sl.v set42)) rfl rfl rfl (r_move rfl) ?_
            refine s_ef (d := some 111) rfl rfl rfl (fun dr => r_call Try.call18 rfl rfl H) ?_ trivial
            rintro _ h14 ⟨y49, rfl, H⟩
            refine ⟨trivial, ?_⟩
            refine s_pu (d := some 20) (v := (.bool y49)) rfl rfl rfl (r_assign rfl) ?_
            refine s_fin ?_
            show W _ _ _ _ _ _ _ _
            refine W_seq ?_
            refine W_region (.rl 0 (.ef 1 [] (.pu 2 (.ef 3 [] (.pu 4 .fin) .no)) .no)) rfl rfl ?_
            obtain ⟨x50, e51, H⟩ := H
            refine s_rl (d := some 112) (v := (.agg #[(.pointer x50)])) rfl rfl rfl (fun dr => r_loadN Try.isAgg52 Try.sizeOf52 (vs := [(.pointer x50)]) rfl rfl ⟨e51, trivial⟩) ?_
            refine s_ef (d := some 113) rfl rfl rfl (fun dr => r_call Try.call35 rfl rfl H) ?_ trivial
            rintro _ h15 ⟨y52, rfl, H⟩
            refine ⟨trivial, ?_⟩
            refine s_pu (d := some 114) (v := (Sl.v less43)) rfl rfl rfl (r_move rfl) ?_
            refine s_ef (d := some 115) rfl rfl rfl (fun dr => r_call Try.call18 rfl rfl H) ?_ trivial
            rintro _ h16 ⟨y53, rfl, H⟩
            refine ⟨trivial, ?_⟩
            refine s_pu (d := some 21) (v := (.bool y53)) rfl rfl rfl (r_assign rfl) ?_
            refine s_fin ?_
            show W _ _ _ _ _ _ _ _
            refine W_seq ?_
            refine W_region (.pu 0 (.pu 1 (.pu 2 (.pu 3 (.pu 4 (.pu 5 (.pu 6 (.pu 7 (.pu 8 .fin))))))))) rfl rfl ?_
            refine s_pu (d := some 116) (v := (.int .i64 i2)) rfl rfl rfl (r_move rfl) ?_
            refine s_pu (d := some 117) (v := (.bool (decide (0 ≤ i2)))) rfl rfl rfl (r_geq rfl rfl) ?_
            refine s_pu (d := some 118) (v := (.bool (decide (0 ≤ i2)))) rfl rfl rfl (r_move rfl) ?_
            refine S_meet (l := [(0, (Sl.v l1)), (1, (.int .i64 i2)), (2, (.int .i64 j3)), (3, (.int .i64 x4)), (10, (.pointer (some p7))), (20, (.bool y49)), (21, (.bool y53)), (123, (.bool ((decide (0 ≤ i2)) && (decide (i2 ≤ ((l1.len : Int)))))))]) (i := 5) ?_ (fun HJ => ?_)
            · intro b
              show S _ _ _ _ _ _
              obtain ⟨x57, e58⟩ : ∃ x : Bool, x = ((decide (0 ≤ i2)) && (decide (i2 ≤ ((l1.len : Int))))) := ⟨_, rfl⟩
              have H := H x57 e58
              refine s_pu (d := some 22) (v := (.bool x57)) rfl rfl rfl (r_assign (congrArg Value.bool e58.symm)) ?_
              refine s_fin ?_
              show W _ _ _ _ _ _ _ _
              refine W_seq ?_
              refine W_region (.pu 0 .fin) rfl rfl ?_
              refine s_pu (d := some 23) (v := (Sl.v Sl.nil)) rfl rfl rfl (r_assign rfl) ?_
              refine s_fin ?_
              show W _ _ _ _ _ _ _ _
              refine W_seq ?_
              refine W_seq ?_
              refine W_region (.pu 0 .fin) rfl rfl ?_
              refine s_pu (d := some 124) (v := (.bool x57)) rfl rfl rfl (r_move rfl) ?_
              refine s_fin ?_
              show W _ _ _ _ _ _ _ _
              refine W_set ?_
              intro N61 eN61
              have H := H (fun (more59 : Sl) (h17 : Heap) => ∀ b, N61 [] (mkE [(0, (Sl.v l1)), (1, (.int .i64 i2)), (2, (.int .i64 j3)), (3, (.int .i64 x4)), (10, (.pointer (some p7))), (20, (.bool y49)), (21, (.bool y53)), (22, (.bool x57)), (23, (Sl.v more59))] b) h17) (by
                intro more59 h17 H b
                rw [eN61]
                show W _ _ _ _ _ _ _ _
                refine W_seq ?_
                refine W_region (.rl 0 (.pu 1 (.pu 2 (.ef 3 [] (.pu 4 (.pu 5 (.pu 6 (.ef 7 [] (.ef 8 [] (.pu 9 .fin) .no) .no)))) .no)))) rfl rfl ?_
                obtain ⟨x62, e63, H⟩ := H
                refine s_rl (d := some 130) (v := (.agg #[(.pointer x62)])) rfl rfl rfl (fun dr => r_loadN Try.isAgg52 Try.sizeOf52 (vs := [(.pointer x62)]) rfl rfl ⟨e63, trivial⟩) ?_
                refine s_pu (d := some 131) (v := (.int .i64 i2)) rfl rfl rfl (r_move rfl) ?_
                refine s_pu (d := some 132) (v := (.int .i64 x4)) rfl rfl rfl (r_move rfl) ?_
                refine s_ef (d := some 133) rfl rfl rfl (fun dr => r_call Try.call37 rfl rfl H) ?_ trivial
                rintro _ h18 ⟨y64, y65, rfl, H⟩
                refine ⟨trivial, ?_⟩
                refine s_pu (d := some 129) (v := (.tuple #[(.agg #[(.pointer y64)]), (.bool y65)])) rfl rfl rfl (r_move rfl) ?_
                refine s_pu (d := some 134) (v := (.agg #[(.pointer y64)])) rfl rfl rfl (r_extract rfl rfl) ?_
                refine s_pu (d := some 135) (v := (.bool y65)) rfl rfl rfl (r_extract rfl rfl) ?_
                obtain ⟨p66, e67⟩ : ∃ p : Addr, p = ⟨h18.size, 0, none⟩ := ⟨_, rfl⟩
                obtain ⟨h19, e68⟩ : ∃ hh : Heap, hh = h18.push (.cells #[(.pointer none)] 52) := ⟨_, rfl⟩
                have H := H p66 h19 e67 e68
                refine s_ef1 (d := some 24) (v := (.pointer (some p66))) (h' := h19) rfl rfl rfl (fun dr => (r_alloc Try.zeroValue52).trans (by rw [e67, e68]; rfl)) trivial ?_ trivial
                obtain ⟨e70, H⟩ := H
                obtain ⟨h20, e69⟩ : ∃ hh : Heap, hh = hsets h19 p66 0 [(.pointer y64)] := ⟨_, rfl⟩
                have H := H h20 e69
                refine s_st (d := none) (h' := h20) rfl rfl rfl (fun dr => (r_store (v := (.agg #[(.pointer y64)])) Try.sizeOf52 rfl rfl rfl (one_all rfl) e70).trans (by rw [e69]; rfl)) trivial ?_ trivial
                refine s_pu (d := some 25) (v := (.bool y65)) rfl rfl rfl (r_assign rfl) ?_
                refine s_fin ?_
                show W _ _ _ _ _ _ _ _
                refine W_seq ?_
                refine W_region (.rl 0 (.ef 1 [] (.pu 2 (.ef 3 [] (.pu 4 .fin) .no)) .no)) rfl rfl ?_
                obtain ⟨x71, e72, H⟩ := H
                refine s_rl (d := some 136) (v := (.agg #[(.pointer x71)])) rfl rfl rfl (fun dr => r_loadN Try.isAgg52 Try.sizeOf52 (vs := [(.pointer x71)]) rfl rfl ⟨e72, trivial⟩) ?_
                refine s_ef (d := some 137) rfl rfl rfl (fun dr => r_call Try.call35 rfl rfl H) ?_ trivial
                rintro _ h21 ⟨y73, rfl, H⟩
                refine ⟨trivial, ?_⟩
                refine s_pu (d := some 138) (v := (Sl.v more59)) rfl rfl rfl (r_move rfl) ?_
                refine s_ef (d := some 139) rfl rfl rfl (fun dr => r_call Try.call18 rfl rfl H) ?_ trivial
                rintro _ h22 ⟨y74, rfl, H⟩
                refine ⟨trivial, ?_⟩
                refine s_pu (d := some 26) (v := (.bool y74)) rfl rfl rfl (r_assign rfl) ?_
                refine s_fin ?_
                show W _ _ _ _ _ _ _ _
                refine W_seq ?_
                refine W_region (.pu 0 (.pu 1 (.pu 2 (.pu 3 (.pu 4 (.pu 5 (.pu 6 (.pu 7 (.pu 8 (.pu 9 (.pu 10 (.pu 11 (.pu 12 (.pu 13 .fin)))))))))))))) rfl rfl ?_
                refine s_pu (d := some 140) (v := (.int .i64 i2)) rfl rfl rfl (r_move rfl) ?_
                refine s_pu (d := some 141) (v := (.bool (decide (0 ≤ i2)))) rfl rfl rfl (r_geq rfl rfl) ?_
                refine s_pu (d := some 142) (v := (.bool (decide (0 ≤ i2)))) rfl rfl rfl (r_move rfl) ?_
                refine S_meet (l := [(0, (Sl.v l1)), (1, (.int .i64 i2)), (2, (.int .i64 j3)), (10, (.pointer (some p7))), (20, (.bool y49)), (21, (.bool y53)), (22, (.bool x57)), (25, (.bool y65)), (26, (.bool y74)), (146, (.bool ((decide (0 ≤ i2)) && (decide (i2 ≤ j3)))))]) (i := 4) ?_ (fun HJ => ?_)
                · intro b
                  show S _ _ _ _ _ _
                  refine s_pu (d := some 147) (v := (.bool ((decide (0 ≤ i2)) && (decide (i2 ≤ j3))))) rfl rfl rfl (r_move rfl) ?_
                  refine S_meet (l := [(0, (Sl.v l1)), (1, (.int .i64 i2)), (2, (.int .i64 j3)), (10, (.pointer (some p7))), (20, (.bool y49)), (21, (.bool y53)), (22, (.bool x57)), (25, (.bool y65)), (26, (.bool y74)), (152, (.bool (((decide (0 ≤ i2)) && (decide (i2 ≤ j3))) && (decide (j3 ≤ ((l1.len : Int)))))))]) (i := 5) ?_ (fun HJ => ?_)
                  · intro b
                    show S _ _ _ _ _ _
                    obtain ⟨x81, e82⟩ : ∃ x : Bool, x = (((decide (0 ≤ i2)) && (decide (i2 ≤ j3))) && (decide (j3 ≤ ((l1.len : Int))))) := ⟨_, rfl⟩
                    have H := H x81 e82
                    refine s_pu (d := some 27) (v := (.bool x81)) rfl rfl rfl (r_assign (congrArg Value.bool e82.symm)) ?_
                    refine s_fin ?_
                    show W _ _ _ _ _ _ _ _
                    refine W_seq ?_
                    refine W_region (.pu 0 .fin) rfl rfl ?_
                    refine s_pu (d := some 28) (v := (Sl.v Sl.nil)) rfl rfl rfl (r_assign rfl) ?_
                    refine s_fin ?_
                    show W _ _ _ _ _ _ _ _
                    refine W_seq ?_
                    refine W_region (.ef 0 [] .fin .no) rfl rfl ?_
                    obtain ⟨p83, e84⟩ : ∃ p : Addr, p = ⟨h22.size, 0, none⟩ := ⟨_, rfl⟩
                    obtain ⟨h23, e85⟩ : ∃ hh : Heap, hh = h22.push (.cells #[(.int .i64 0), (.int .i64 0), (.int .i64 0), (.int .i64 0), (.int .i64 0)] 34) := ⟨_, rfl⟩
                    have H := H p83 h23 e84 e85
                    refine s_ef1 (d := some 29) (v := (.pointer (some p83))) (h' := h23) rfl rfl rfl (fun dr => (r_alloc Try.zeroValue34).trans (by rw [e84, e85]; rfl)) trivial ?_ trivial
                    refine s_fin ?_
                    show W _ _ _ _ _ _ _ _
                    refine W_seq ?_
                    refine W_seq ?_
                    refine W_region (.pu 0 .fin) rfl rfl ?_
                    refine s_pu (d := some 153) (v := (.bool x81)) rfl rfl rfl (r_move rfl) ?_
                    refine s_fin ?_
                    show W _ _ _ _ _ _ _ _
                    refine W_set ?_
                    intro N88 eN88
                    have H := H (fun (vs86 : Sl) (h24 : Heap) => ∀ b, N88 [] (mkE [(0, (Sl.v l1)), (1, (.int .i64 i2)), (2, (.int .i64 j3)), (10, (.pointer (some p7))), (20, (.bool y49)), (21, (.bool y53)), (22, (.bool x57)), (25, (.bool y65)), (26, (.bool y74)), (27, (.bool x81)), (28, (Sl.v vs86)), (29, (.pointer (some p83)))] b) h24) (by
                      intro vs86 h24 H b
                      rw [eN88]
                      show W _ _ _ _ _ _ _ _
                      refine W_seq ?_
                      refine W_region (.rl 0 (.pu 1 (.pu 2 (.ef 3 [] (.pu 4 (.pu 5 (.pu 6 (.ef 7 [] (.ef 8 [] (.pu 9 .fin) .no) .no)))) .no)))) rfl rfl ?_
                      obtain ⟨x89, e90, H⟩ := H
                      refine s_rl (d := some 161) (v := (.agg #[(.pointer x89)])) rfl rfl rfl (fun dr => r_loadN Try.isAgg52 Try.sizeOf52 (vs := [(.pointer x89)]) rfl rfl ⟨e90, trivial⟩) ?_
                      refine s_pu (d := some 162) (v := (.int .i64 i2)) rfl rfl rfl (r_move rfl) ?_
                      refine s_pu (d := some 163) (v := (.int .i64 j3)) rfl rfl rfl (r_move rfl) ?_
                      refine s_ef (d := some 164) rfl rfl rfl (fun dr => r_call Try.call34 rfl rfl H) ?_ trivial
                      rintro _ h25 ⟨y91, y92, rfl, H⟩
                      refine ⟨trivial, ?_⟩
                      refine s_pu (d := some 160) (v := (.tuple #[(.agg #[(.pointer y91)]), (.bool y92)])) rfl rfl rfl (r_move rfl) ?_
                      refine s_pu (d := some 165) (v := (.agg #[(.pointer y91)])) rfl rfl rfl (r_extract rfl rfl) ?_
                      refine s_pu (d := some 166) (v := (.bool y92)) rfl rfl rfl (r_extract rfl rfl) ?_
                      obtain ⟨p93, e94⟩ : ∃ p : Addr, p = ⟨h25.size, 0, none⟩ := ⟨_, rfl⟩
                      obtain ⟨h26, e95⟩ : ∃ hh : Heap, hh = h25.push (.cells #[(.pointer none)] 52) := ⟨_, rfl⟩
                      have H := H p93 h26 e94 e95
                      refine s_ef1 (d := some 30) (v := (.pointer (some p93))) (h' := h26) rfl rfl rfl (fun dr => (r_alloc Try.zeroValue52).trans (by rw [e94, e95]; rfl)) trivial ?_ trivial
                      obtain ⟨e97, H⟩ := H
                      obtain ⟨h27, e96⟩ : ∃ hh : Heap, hh = hsets h26 p93 0 [(.pointer y91)] := ⟨_, rfl⟩
                      have H := H h27 e96
                      refine s_st (d := none) (h' := h27) rfl rfl rfl (fun dr => (r_store (v := (.agg #[(.pointer y91)])) Try.sizeOf52 rfl rfl rfl (one_all rfl) e97).trans (by rw [e96]; rfl)) trivial ?_ trivial
                      refine s_pu (d := some 31) (v := (.bool y92)) rfl rfl rfl (r_assign rfl) ?_
                      refine s_fin ?_
                      show W _ _ _ _ _ _ _ _
                      refine W_seq ?_
                      refine W_region (.rl 0 (.pu 1 (.pu 2 (.ef 3 [] (.pu 4 (.pu 5 (.pu 6 (.ef 7 [] (.ef 8 [] (.pu 9 .fin) .no) .no)))) .no)))) rfl rfl ?_
                      obtain ⟨x98, e99, H⟩ := H
                      refine s_rl (d := some 168) (v := (.agg #[(.pointer x98)])) rfl rfl rfl (fun dr => r_loadN Try.isAgg52 Try.sizeOf52 (vs := [(.pointer x98)]) rfl rfl ⟨e99, trivial⟩) ?_
                      refine s_pu (d := some 169) (v := (.int .i64 i2)) rfl rfl rfl (r_move rfl) ?_
                      refine s_pu (d := some 170) (v := (.int .i64 j3)) rfl rfl rfl (r_move rfl) ?_
                      refine s_ef (d := some 171) rfl rfl rfl (fun dr => r_call Try.call32 rfl rfl H) ?_ trivial
                      rintro _ h28 ⟨y100, y101, y102, y103, y104, y105, rfl, H⟩
                      refine ⟨trivial, ?_⟩
                      refine s_pu (d := some 167) (v := (.tuple #[(.agg #[(.int .i64 y100), (.int .i64 y101), (.int .i64 y102), (.int .i64 y103), (.int .i64 y104)]), (.bool y105)])) rfl rfl rfl (r_move rfl) ?_
                      refine s_pu (d := some 172) (v := (.agg #[(.int .i64 y100), (.int .i64 y101), (.int .i64 y102), (.int .i64 y103), (.int .i64 y104)])) rfl rfl rfl (r_extract rfl rfl) ?_
                      refine s_pu (d := some 173) (v := (.bool y105)) rfl rfl rfl (r_extract rfl rfl) ?_
                      obtain ⟨p106, e107⟩ : ∃ p : Addr, p = ⟨h28.size, 0, none⟩ := ⟨_, rfl⟩
                      obtain ⟨h29, e108⟩ : ∃ hh : Heap, hh = h28.push (.cells #[(.int .i64 0), (.int .i64 0), (.int .i64 0), (.int .i64 0), (.int .i64 0)] 34) := ⟨_, rfl⟩
                      have H := H p106 h29 e107 e108
                      refine s_ef1 (d := some 32) (v := (.pointer (some p106))) (h' := h29) rfl rfl rfl (fun dr => (r_alloc Try.zeroValue34).trans (by rw [e107, e108]; rfl)) trivial ?_ trivial
                      obtain ⟨e110, H⟩ := H
                      obtain ⟨h30, e109⟩ : ∃ hh : Heap, hh = hsets h29 p106 0 [(.int .i64 y100), (.int .i64 y101), (.int .i64 y102), (.int .i64 y103), (.int .i64 y104)] := ⟨_, rfl⟩
                      have H := H h30 e109
                      refine s_st (d := none) (h' := h30) rfl rfl rfl (fun dr => (r_store (v := (.agg #[(.int .i64 y100), (.int .i64 y101), (.int .i64 y102), (.int .i64 y103), (.int .i64 y104)])) Try.sizeOf34 rfl rfl rfl (one_all rfl) e110).trans (by rw [e109]; rfl)) trivial ?_ trivial
                      refine s_pu (d := some 33) (v := (.bool y105)) rfl rfl rfl (r_assign rfl) ?_
                      refine s_fin ?_
                      show W _ _ _ _ _ _ _ _
                      refine W_seq ?_
                      refine W_region (.rl 0 (.ef 1 [] (.pu 2 (.ef 3 [] (.pu 4 .fin) .no)) .no)) rfl rfl ?_
                      obtain ⟨x111, e112, H⟩ := H
                      refine s_rl (d := some 174) (v := (.agg #[(.pointer x111)])) rfl rfl rfl (fun dr => r_loadN Try.isAgg52 Try.sizeOf52 (vs := [(.pointer x111)]) rfl rfl ⟨e112, trivial⟩) ?_
                      refine s_ef (d := some 175) rfl rfl rfl (fun dr => r_call Try.call35 rfl rfl H) ?_ trivial
                      rintro _ h31 ⟨y113, rfl, H⟩
                      refine ⟨trivial, ?_⟩
                      refine s_pu (d := some 176) (v := (Sl.v vs86)) rfl rfl rfl (r_move rfl) ?_
                      refine s_ef (d := some 177) rfl rfl rfl (fun dr => r_call Try.call18 rfl rfl H) ?_ trivial
                      rintro _ h32 ⟨y114, rfl, H⟩
                      refine ⟨trivial, ?_⟩
                      refine s_pu (d := some 34) (v := (.bool y114)) rfl rfl rfl (r_assign rfl) ?_
                      refine s_fin ?_
                      show W _ _ _ _ _ _ _ _
                      refine W_seq ?_
                      refine W_region (.rl 0 (.ef 1 [] (.pu 2 (.ef 3 [] (.pu 4 .fin) .no)) .no)) rfl rfl ?_
                      obtain ⟨x115, e116, H⟩ := H
                      refine s_rl (d := some 178) (v := (.agg #[(.pointer x115)])) rfl rfl rfl (fun dr => r_loadN Try.isAgg52 Try.sizeOf52 (vs := [(.pointer x115)]) rfl rfl ⟨e116, trivial⟩) ?_
                      refine s_ef (d := some 179) rfl rfl rfl (fun dr => r_call Try.call35 rfl rfl H) ?_ trivial
                      rintro _ h33 ⟨y117, rfl, H⟩
                      refine ⟨trivial, ?_⟩
                      refine s_pu (d := some 180) (v := (Sl.v l1)) rfl rfl rfl (r_move rfl) ?_
                      refine s_ef (d := some 181) rfl rfl rfl (fun dr => r_call Try.call18 rfl rfl H) ?_ trivial
                      rintro _ h34 ⟨y118, rfl, H⟩
                      refine ⟨trivial, ?_⟩
                      refine s_pu (d := some 35) (v := (.bool y118)) rfl rfl rfl (r_assign rfl) ?_
                      refine s_fin ?_
                      show W _ _ _ _ _ _ _ _
                      refine W_seq ?_
                      refine W_set ?_
                      intro N121 eN121
                      have H := H (fun (x119 : Bool) => ∀ b, N121 [] (mkE [(8, (.bool x119))] b) h34) (by
                        intro x119 H b
                        rw [eN121]
                        show W _ _ _ _ _ _ _ _
                        refine W_ret ?_
                        exact ⟨[(.bool x119)], ⟨_, _, rfl, rfl, rfl⟩, x119, rfl, H⟩)
                      clear eN121
                      refine W_region (.pu 0 (.pu 1 (.pu 2 (.pu 3 (.pu 4 (.pu 5 (.pu 6 (.pu 7 (.pu 8 (.pu 9 (.pu 10 (.pu 11 (.pu 12 (.pu 13 (.pu 14 (.pu 15 (.pu 16 (.pu 17 (.pu 18 (.pu 19 (.pu 20 (.pu 21 (.pu 22 (.pu 23 (.pu 24 (.pu 25 (.pu 26 (.pu 27 (.pu 28 (.rl 29 (.rl 30 (.pu 31 (.pu 32 (.pu 33 .fin)))))))))))))))))))))))))))))))))) rfl rfl ?_
                      refine s_pu (d := some 182) (v := (.bool y49)) rfl rfl rfl (r_move rfl) ?_
                      refine s_pu (d := some 183) (v := (.bool y49)) rfl rfl rfl (r_move rfl) ?_
                      rcases Bool.eq_false_or_eq_true y49 with g122 | g122
                      · have H := H.1 g122
                        refine s_pu (d := some 184) (v := (.bool y53)) rfl rfl (wants_yes rfl rfl rfl rfl g122) (r_move rfl) ?_
                        refine s_pu (d := some 185) (v := (.bool y53)) rfl rfl rfl (r_pick1 rfl g122 rfl) ?_
                        refine s_pu (d := some 186) (v := (.bool y53)) rfl rfl rfl (r_move rfl) ?_
                        rcases Bool.eq_false_or_eq_true y53 with g123 | g123
                        · have H := H.1 g123
                          refine s_pu (d := some 187) (v := (.bool y74)) rfl rfl (wants_yes rfl rfl rfl rfl g123) (r_move rfl) ?_
                          refine s_pu (d := some 188) (v := (.bool y74)) rfl rfl rfl (r_pick1 rfl g123 rfl) ?_
                          refine s_pu (d := some 189) (v := (.bool y74)) rfl rfl rfl (r_move rfl) ?_
                          rcases Bool.eq_false_or_eq_true y74 with g124 | g124
                          · have H := H.1 g124
                            refine s_pu (d := some 190) (v := (.bool y114)) rfl rfl (wants_yes rfl rfl rfl rfl g124) (r_move rfl) ?_
                            refine s_pu (d := some 191) (v := (.bool y114)) rfl rfl rfl (r_pick1 rfl g124 rfl) ?_
                            refine s_pu (d := some 192) (v := (.bool y114)) rfl rfl rfl (r_move rfl) ?_
                            rcases Bool.eq_false_or_eq_true y114 with g125 | g125
                            · have H := H.1 g125
                              refine s_pu (d := some 193) (v := (.bool y118)) rfl rfl (wants_yes rfl rfl rfl rfl g125) (r_move rfl) ?_
                              refine s_pu (d := some 194) (v := (.bool y118)) rfl rfl rfl (r_pick1 rfl g125 rfl) ?_
                              refine s_pu (d := some 195) (v := (.bool y118)) rfl rfl rfl (r_move rfl) ?_
                              rcases Bool.eq_false_or_eq_true y118 with g126 | g126
                              · have H := H.1 g126
                                refine s_pu (d := some 196) (v := (.bool y65)) rfl rfl (wants_yes rfl rfl rfl rfl g126) (r_move rfl) ?_
                                refine s_pu (d := some 197) (v := (.bool x57)) rfl rfl (wants_yes rfl rfl rfl rfl g126) (r_move rfl) ?_
                                refine s_pu (d := some 198) (v := (.bool (y65 == x57))) rfl rfl (wants_yes rfl rfl rfl rfl g126) (r_eqlB Try.underlying4 rfl rfl) ?_
                                refine s_pu (d := some 199) (v := (.bool (y65 == x57))) rfl rfl rfl (r_pick1 rfl g126 rfl) ?_
                                refine s_pu (d := some 200) (v := (.bool (y65 == x57))) rfl rfl rfl (r_move rfl) ?_
                                rcases Bool.eq_false_or_eq_true (y65 == x57) with g127 | g127
                                · have H := H.1 g127
                                  refine s_pu (d := some 201) (v := (.bool y92)) rfl rfl (wants_yes rfl rfl rfl rfl g127) (r_move rfl) ?_
                                  refine s_pu (d := some 202) (v := (.bool x81)) rfl rfl (wants_yes rfl rfl rfl rfl g127) (r_move rfl) ?_
                                  refine s_pu (d := some 203) (v := (.bool (y92 == x81))) rfl rfl (wants_yes rfl rfl rfl rfl g127) (r_eqlB Try.underlying4 rfl rfl) ?_
                                  refine s_pu (d := some 204) (v := (.bool (y92 == x81))) rfl rfl rfl (r_pick1 rfl g127 rfl) ?_
                                  refine s_pu (d := some 205) (v := (.bool (y92 == x81))) rfl rfl rfl (r_move rfl) ?_
                                  rcases Bool.eq_false_or_eq_true (y92 == x81) with g128 | g128
                                  · have H := H.1 g128
                                    refine s_pu (d := some 206) (v := (.bool y105)) rfl rfl (wants_yes rfl rfl rfl rfl g128) (r_move rfl) ?_
                                    refine s_pu (d := some 207) (v := (.bool x81)) rfl rfl (wants_yes rfl rfl rfl rfl g128) (r_move rfl) ?_
                                    refine s_pu (d := some 208) (v := (.bool (y105 == x81))) rfl rfl (wants_yes rfl rfl rfl rfl g128) (r_eqlB Try.underlying4 rfl rfl) ?_
                                    refine s_pu (d := some 209) (v := (.bool (y105 == x81))) rfl rfl rfl (r_pick1 rfl g128 rfl) ?_
                                    refine s_pu (d := some 210) (v := (.bool (y105 == x81))) rfl rfl rfl (r_move rfl) ?_
                                    rcases Bool.eq_false_or_eq_true (y105 == x81) with g129 | g129
                                    · have H := H.1 g129
                                      obtain ⟨x130, e131, H⟩ := H
                                      obtain ⟨x132, e133, H⟩ := H
                                      obtain ⟨x134, e135, H⟩ := H
                                      obtain ⟨x136, e137, H⟩ := H
                                      obtain ⟨x138, e139, H⟩ := H
                                      refine s_rl (d := some 211) (v := (.agg #[(.int .i64 x130), (.int .i64 x132), (.int .i64 x134), (.int .i64 x136), (.int .i64 x138)])) rfl rfl (wants_yes rfl rfl rfl rfl g129) (fun dr => r_loadN Try.isAgg34 Try.sizeOf34 (vs := [(.int .i64 x130), (.int .i64 x132), (.int .i64 x134), (.int .i64 x136), (.int .i64 x138)]) rfl rfl ⟨e131, e133, e135, e137, e139, trivial⟩) ?_
                                      obtain ⟨x140, e141, H⟩ := H
                                      obtain ⟨x142, e143, H⟩ := H
                                      obtain ⟨x144, e145, H⟩ := H
                                      obtain ⟨x146, e147, H⟩ := H
                                      obtain ⟨x148, e149, H⟩ := H
                                      refine s_rl (d := some 212) (v := (.agg #[(.int .i64 x140), (.int .i64 x142), (.int .i64 x144), (.int .i64 x146), (.int .i64 x148)])) rfl rfl (wants_yes rfl rfl rfl rfl g129) (fun dr => r_loadN Try.isAgg34 Try.sizeOf34 (vs := [(.int .i64 x140), (.int .i64 x142), (.int .i64 x144), (.int .i64 x146), (.int .i64 x148)]) rfl rfl ⟨e141, e143, e145, e147, e149, trivial⟩) ?_
                                      refine s_pu (d := some 213) (v := (.bool (decide (x130 = x140 ∧ x132 = x142 ∧ x134 = x144 ∧ x136 = x146 ∧ x138 = x148)))) rfl rfl (wants_yes rfl rfl rfl rfl g129) (r_eqlAgg_Try34 rfl rfl) ?_
                                      refine s_pu (d := some 214) (v := (.bool (decide (x130 = x140 ∧ x132 = x142 ∧ x134 = x144 ∧ x136 = x146 ∧ x138 = x148)))) rfl rfl rfl (r_pick1 rfl g129 rfl) ?_
                                      obtain ⟨x150, e151⟩ : ∃ x : Bool, x = (decide (x130 = x140 ∧ x132 = x142 ∧ x134 = x144 ∧ x136 = x146 ∧ x138 = x148)) := ⟨_, rfl⟩
                                      have H := H x150 e151
                                      refine s_pu (d := some 8) (v := (.bool x150)) rfl rfl rfl (r_assign (congrArg Value.bool e151.symm)) ?_
                                      refine s_fin ?_
                                      exact N_mk (l := [(8, (.bool x150))]) H ⟨rfl, trivial⟩
                                    · have H := H.2 g129
                                      refine s_skl (d := some 211) rfl rfl (wants_no rfl rfl rfl rfl g129) ?_
                                      refine s_skl (d := some 212) rfl rfl (wants_no rfl rfl rfl rfl g129) ?_
                                      refine s_sk (d := some 213) rfl rfl (wants_no rfl rfl rfl rfl g129) ?_
                                      refine s_pu (d := some 214) (v := (.bool false)) rfl rfl rfl (r_pick0 rfl g129 rfl) ?_
                                      refine s_pu (d := some 8) (v := (.bool false)) rfl rfl rfl (r_assign rfl) ?_
                                      refine s_fin ?_
                                      exact N_mk (l := [(8, (.bool false))]) H ⟨rfl, trivial⟩
                                  · have H := H.2 g128
                                    refine s_sk (d := some 206) rfl rfl (wants_no rfl rfl rfl rfl g128) ?_
                                    refine s_sk (d := some 207) rfl rfl (wants_no rfl rfl rfl rfl g128) ?_
                                    refine s_sk (d := some 208) rfl rfl (wants_no rfl rfl rfl rfl g128) ?_
                                    refine s_pu (d := some 209) (v := (.bool false)) rfl rfl rfl (r_pick0 rfl g128 rfl) ?_
                                    refine s_pu (d := some 210) (v := (.bool false)) rfl rfl rfl (r_move rfl) ?_
                                    refine s_skl (d := some 211) rfl rfl (wants_no rfl rfl rfl rfl rfl) ?_
                                    refine s_skl (d := some 212) rfl rfl (wants_no rfl rfl rfl rfl rfl) ?_
                                    refine s_sk (d := some 213) rfl rfl (wants_no rfl rfl rfl rfl rfl) ?_
                                    refine s_pu (d := some 214) (v := (.bool false)) rfl rfl rfl (r_pick0 rfl rfl rfl) ?_
                                    refine s_pu (d := some 8) (v := (.bool false)) rfl rfl rfl (r_assign rfl) ?_
                                    refine s_fin ?_
                                    exact N_mk (l := [(8, (.bool false))]) H ⟨rfl, trivial⟩
                                · have H := H.2 g127
                                  refine s_sk (d := some 201) rfl rfl (wants_no rfl rfl rfl rfl g127) ?_
                                  refine s_sk (d := some 202) rfl rfl (wants_no rfl rfl rfl rfl g127) ?_
                                  refine s_sk (d := some 203) rfl rfl (wants_no rfl rfl rfl rfl g127) ?_
                                  refine s_pu (d := some 204) (v := (.bool false)) rfl rfl rfl (r_pick0 rfl g127 rfl) ?_
                                  refine s_pu (d := some 205) (v := (.bool false)) rfl rfl rfl (r_move rfl) ?_
                                  refine s_sk (d := some 206) rfl rfl (wants_no rfl rfl rfl rfl rfl) ?_
                                  refine s_sk (d := some 207) rfl rfl (wants_no rfl rfl rfl rfl rfl) ?_
                                  refine s_sk (d := some 208) rfl rfl (wants_no rfl rfl rfl rfl rfl) ?_
                                  refine s_pu (d := some 209) (v := (.bool false)) rfl rfl rfl (r_pick0 rfl rfl rfl) ?_
                                  refine s_pu (d := some 210) (v := (.bool false)) rfl rfl rfl (r_move rfl) ?_
                                  refine s_skl (d := some 211) rfl rfl (wants_no rfl rfl rfl rfl rfl) ?_
                                  refine s_skl (d := some 212) rfl rfl (wants_no rfl rfl rfl rfl rfl) ?_
                                  refine s_sk (d := some 213) rfl rfl (wants_no rfl rfl rfl rfl rfl) ?_
                                  refine s_pu (d := some 214) (v := (.bool false)) rfl rfl rfl (r_pick0 rfl rfl rfl) ?_
                                  refine s_pu (d := some 8) (v := (.bool false)) rfl rfl rfl (r_assign rfl) ?_
                                  refine s_fin ?_
                                  exact N_mk (l := [(8, (.bool false))]) H ⟨rfl, trivial⟩
                              · have H := H.2 g126
                                refine s_sk (d := some 196) rfl rfl (wants_no rfl rfl rfl rfl g126) ?_
                                refine s_sk (d := some 197) rfl rfl (wants_no rfl rfl rfl rfl g126) ?_
                                refine s_sk (d := some 198) rfl rfl (wants_no rfl rfl rfl rfl g126) ?_
                                refine s_pu (d := some 199) (v := (.bool false)) rfl rfl rfl (r_pick0 rfl g126 rfl) ?_
                                refine s_pu (d := some 200) (v := (.bool false)) rfl rfl rfl (r_move rfl) ?_
                                refine s_sk (d := some 201) rfl rfl (wants_no rfl rfl rfl rfl rfl) ?_
                                refine s_sk (d := some 202) rfl rfl (wants_no rfl rfl rfl rfl rfl) ?_
                                refine s_sk (d := some 203) rfl rfl (wants_no rfl rfl rfl rfl rfl) ?_
                                refine s_pu (d := some 204) (v := (.bool false)) rfl rfl rfl (r_pick0 rfl rfl rfl) ?_
                                refine s_pu (d := some 205) (v := (.bool false)) rfl rfl rfl (r_move rfl) ?_
                                refine s_sk (d := some 206) rfl rfl (wants_no rfl rfl rfl rfl rfl) ?_
                                refine s_sk (d := some 207) rfl rfl (wants_no rfl rfl rfl rfl rfl) ?_
                                refine s_sk (d := some 208) rfl rfl (wants_no rfl rfl rfl rfl rfl) ?_
                                refine s_pu (d := some 209) (v := (.bool false)) rfl rfl rfl (r_pick0 rfl rfl rfl) ?_
                                refine s_pu (d := some 210) (v := (.bool false)) rfl rfl rfl (r_move rfl) ?_
                                refine s_skl (d := some 211) rfl rfl (wants_no rfl rfl rfl rfl rfl) ?_
                                refine s_skl (d := some 212) rfl rfl (wants_no rfl rfl rfl rfl rfl) ?_
                                refine s_sk (d := some 213) rfl rfl (wants_no rfl rfl rfl rfl rfl) ?_
                                refine s_pu (d := some 214) (v := (.bool false)) rfl rfl rfl (r_pick0 rfl rfl rfl) ?_
                                refine s_pu (d := some 8) (v := (.bool false)) rfl rfl rfl (r_assign rfl) ?_
                                refine s_fin ?_
                                exact N_mk (l := [(8, (.bool false))]) H ⟨rfl, trivial⟩
                            · have H := H.2 g125
                              refine s_sk (d := some 193) rfl rfl (wants_no rfl rfl rfl rfl g125) ?_
                              refine s_pu (d := some 194) (v := (.bool false)) rfl rfl rfl (r_pick0 rfl g125 rfl) ?_
                              refine s_pu (d := some 195) (v := (.bool false)) rfl rfl rfl (r_move rfl) ?_
                              refine s_sk (d := some 196) rfl rfl (wants_no rfl rfl rfl rfl rfl) ?_
                              refine s_sk (d := some 197) rfl rfl (wants_no rfl rfl rfl rfl rfl) ?_
                              refine s_sk (d := some 198) rfl rfl (wants_no rfl rfl rfl rfl rfl) ?_
                              refine s_pu (d := some 199) (v := (.bool false)) rfl rfl rfl (r_pick0 rfl rfl rfl) ?_
                              refine s_pu (d := some 200) (v := (.bool false)) rfl rfl rfl (r_move rfl) ?_
                              refine s_sk (d := some 201) rfl rfl (wants_no rfl rfl rfl rfl rfl) ?_
                              refine s_sk (d := some 202) rfl rfl (wants_no rfl rfl rfl rfl rfl) ?_
                              refine s_sk (d := some 203) rfl rfl (wants_no rfl rfl rfl rfl rfl) ?_
                              refine s_pu (d := some 204) (v := (.bool false)) rfl rfl rfl (r_pick0 rfl rfl rfl) ?_
                              refine s_pu (d := some 205) (v := (.bool false)) rfl rfl rfl (r_move rfl) ?_
                              refine s_sk (d := some 206) rfl rfl (wants_no rfl rfl rfl rfl rfl) ?_
                              refine s_sk (d := some 207) rfl rfl (wants_no rfl rfl rfl rfl rfl) ?_
                              refine s_sk (d := some 208) rfl rfl (wants_no rfl rfl rfl rfl rfl) ?_
                              refine s_pu (d := some 209) (v := (.bool false)) rfl rfl rfl (r_pick0 rfl rfl rfl) ?_
                              refine s_pu (d := some 210) (v := (.bool false)) rfl rfl rfl (r_move rfl) ?_
                              refine s_skl (d := some 211) rfl rfl (wants_no rfl rfl rfl rfl rfl) ?_
                              refine s_skl (d := some 212) rfl rfl (wants_no rfl rfl rfl rfl rfl) ?_
                              refine s_sk (d := some 213) rfl rfl (wants_no rfl rfl rfl rfl rfl) ?_
                              refine s_pu (d := some 214) (v := (.bool false)) rfl rfl rfl (r_pick0 rfl rfl rfl) ?_
                              refine s_pu (d := some 8) (v := (.bool false)) rfl rfl rfl (r_assign rfl) ?_
                              refine s_fin ?_
                              exact N_mk (l := [(8, (.bool false))]) H ⟨rfl, trivial⟩
                          · have H := H.2 g124
                            refine s_sk (d := some 190) rfl rfl (wants_no rfl rfl rfl rfl g124) ?_
                            refine s_pu (d := some 191) (v := (.bool false)) rfl rfl rfl (r_pick0 rfl g124 rfl) ?_
                            refine s_pu (d := some 192) (v := (.bool false)) rfl rfl rfl (r_move rfl) ?_
                            refine s_sk (d := some 193) rfl rfl (wants_no rfl rfl rfl rfl rfl) ?_
                            refine s_pu (d := some 194) (v := (.bool false)) rfl rfl rfl (r_pick0 rfl rfl rfl) ?_
                            refine s_pu (d := some 195) (v := (.bool false)) rfl rfl rfl (r_move rfl) ?_
                            refine s_sk (d := some 196) rfl rfl (wants_no rfl rfl rfl rfl rfl) ?_
                            refine s_sk (d := some 197) rfl rfl (wants_no rfl rfl rfl rfl rfl) ?_
                            refine s_sk (d := some 198) rfl rfl (wants_no rfl rfl rfl rfl rfl) ?_
                            refine s_pu (d := some 199) (v := (.bool false)) rfl rfl rfl (r_pick0 rfl rfl rfl) ?_
                            refine s_pu (d := some 200) (v := (.bool false)) rfl rfl rfl (r_move rfl) ?_
                            refine s_sk (d := some 201) rfl rfl (wants_no rfl rfl rfl rfl rfl) ?_
                            refine s_sk (d := some 202) rfl rfl (wants_no rfl rfl rfl rfl rfl) ?_
                            refine s_sk (d := some 203) rfl rfl (wants_no rfl rfl rfl rfl rfl) ?_
                            refine s_pu (d := some 204) (v := (.bool false)) rfl rfl rfl (r_pick0 rfl rfl rfl) ?_
                            refine s_pu (d := some 205) (v := (.bool false)) rfl rfl rfl (r_move rfl) ?_
                            refine s_sk (d := some 206) rfl rfl (wants_no rfl rfl rfl rfl rfl) ?_
                            refine s_sk (d := some 207) rfl rfl (wants_no rfl rfl rfl rfl rfl) ?_
                            refine s_sk (d := some 208) rfl rfl (wants_no rfl rfl rfl rfl rfl) ?_
                            refine s_pu (d := some 209) (v := (.bool false)) rfl rfl rfl (r_pick0 rfl rfl rfl) ?_
                            refine s_pu (d := some 210) (v := (.bool false)) rfl rfl rfl (r_move rfl) ?_
                            refine s_skl (d := some 211) rfl rfl (wants_no rfl rfl rfl rfl rfl) ?_
                            refine s_skl (d := some 212) rfl rfl (wants_no rfl rfl rfl rfl rfl) ?_
                            refine s_sk (d := some 213) rfl rfl (wants_no rfl rfl rfl rfl rfl) ?_
                            refine s_pu (d := some 214) (v := (.bool false)) rfl rfl rfl (r_pick0 rfl rfl rfl) ?_
                            refine s_pu (d := some 8) (v := (.bool false)) rfl rfl rfl (r_assign rfl) ?_
                            refine s_fin ?_
                            exact N_mk (l := [(8, (.bool false))]) H ⟨rfl, trivial⟩
                        · have H := H.2 g123
                          refine s_sk (d := some 187) rfl rfl (wants_no rfl rfl rfl rfl g123) ?_
                          refine s_pu (d := some 188) (v := (.bool false)) rfl rfl rfl (r_pick0 rfl g123 rfl) ?_
                          refine s_pu (d := some 189) (v := (.bool false)) rfl rfl rfl (r_move rfl) ?_
                          refine s_sk (d := some 190) rfl rfl (wants_no rfl rfl rfl rfl rfl) ?_
                          refine s_pu (d := some 191) (v := (.bool false)) rfl rfl rfl (r_pick0 rfl rfl rfl) ?_
                          refine s_pu (d := some 192) (v := (.bool false)) rfl rfl rfl (r_move rfl) ?_
                          refine s_sk (d := some 193) rfl rfl (wants_no rfl rfl rfl rfl rfl) ?_
                          refine s_pu (d := some 194) (v := (.bool false)) rfl rfl rfl (r_pick0 rfl rfl rfl) ?_
                          refine s_pu (d := some 195) (v := (.bool false)) rfl rfl rfl (r_move rfl) ?_
                          refine s_sk (d := some 196) rfl rfl (wants_no rfl rfl rfl rfl rfl) ?_
                          refine s_sk (d := some 197) rfl rfl (wants_no rfl rfl rfl rfl rfl) ?_
                          refine s_sk (d := some 198) rfl rfl (wants_no rfl rfl rfl rfl rfl) ?_
                          refine s_pu (d := some 199) (v := (.bool false)) rfl rfl rfl (r_pick0 rfl rfl rfl) ?_
                          refine s_pu (d := some 200) (v := (.bool false)) rfl rfl rfl (r_move rfl) ?_
                          refine s_sk (d := some 201) rfl rfl (wants_no rfl rfl rfl rfl rfl) ?_
                          refine s_sk (d := some 202) rfl rfl (wants_no rfl rfl rfl rfl rfl) ?_
                          refine s_sk (d := some 203) rfl rfl (wants_no rfl rfl rfl rfl rfl) ?_
                          refine s_pu (d := some 204) (v := (.bool false)) rfl rfl rfl (r_pick0 rfl rfl rfl) ?_
                          refine s_pu (d := some 205) (v := (.bool false)) rfl rfl rfl (r_move rfl) ?_
                          refine s_sk (d := some 206) rfl rfl (wants_no rfl rfl rfl rfl rfl) ?_
                          refine s_sk (d := some 207) rfl rfl (wants_no rfl rfl rfl rfl rfl) ?_
                          refine s_sk (d := some 208) rfl rfl (wants_no rfl rfl rfl rfl rfl) ?_
                          refine s_pu (d := some 209) (v := (.bool false)) rfl rfl rfl (r_pick0 rfl rfl rfl) ?_
                          refine s_pu (d := some 210) (v := (.bool false)) rfl rfl rfl (r_move rfl) ?_
                          refine s_skl (d := some 211) rfl rfl (wants_no rfl rfl rfl rfl rfl) ?_
                          refine s_skl (d := some 212) rfl rfl (wants_no rfl rfl rfl rfl rfl) ?_
                          refine s_sk (d := some 213) rfl rfl (wants_no rfl rfl rfl rfl rfl) ?_
                          refine s_pu (d := some 214) (v := (.bool false)) rfl rfl rfl (r_pick0 rfl rfl rfl) ?_
                          refine s_pu (d := some 8) (v := (.bool false)) rfl rfl rfl (r_assign rfl) ?_
                          refine s_fin ?_
                          exact N_mk (l := [(8, (.bool false))]) H ⟨rfl, trivial⟩
                      · have H := H.2 g122
                        refine s_sk (d := some 184) rfl rfl (wants_no rfl rfl rfl rfl g122) ?_
                        refine s_pu (d := some 185) (v := (.bool false)) rfl rfl rfl (r_pick0 rfl g122 rfl) ?_
                        refine s_pu (d := some 186) (v := (.bool false)) rfl rfl rfl (r_move rfl) ?_
                        refine s_sk (d := some 187) rfl rfl (wants_no rfl rfl rfl rfl rfl) ?_
                        refine s_pu (d := some 188) (v := (.bool false)) rfl rfl rfl (r_pick0 rfl rfl rfl) ?_
                        refine s_pu (d := some 189) (v := (.bool false)) rfl rfl rfl (r_move rfl) ?_
                        refine s_sk (d := some 190) rfl rfl (wants_no rfl rfl rfl rfl rfl) ?_
                        refine s_pu (d := some 191) (v := (.bool false)) rfl rfl rfl (r_pick0 rfl rfl rfl) ?_
                        refine s_pu (d := some 192) (v := (.bool false)) rfl rfl rfl (r_move rfl) ?_
                        refine s_sk (d := some 193) rfl rfl (wants_no rfl rfl rfl rfl rfl) ?_
                        refine s_pu (d := some 194) (v := (.bool false)) rfl rfl rfl (r_pick0 rfl rfl rfl) ?_
                        refine s_pu (d := some 195) (v := (.bool false)) rfl rfl rfl (r_move rfl) ?_
                        refine s_sk (d := some 196) rfl rfl (wants_no rfl rfl rfl rfl rfl) ?_
                        refine s_sk (d := some 197) rfl rfl (wants_no rfl rfl rfl rfl rfl) ?_
                        refine s_sk (d := some 198) rfl rfl (wants_no rfl rfl rfl rfl rfl) ?_
                        refine s_pu (d := some 199) (v := (.bool false)) rfl rfl rfl (r_pick0 rfl rfl rfl) ?_
                        refine s_pu (d := some 200) (v := (.bool false)) rfl rfl rfl (r_move rfl) ?_
                        refine s_sk (d := some 201) rfl rfl (wants_no rfl rfl rfl rfl rfl) ?_
                        refine s_sk (d := some 202) rfl rfl (wants_no rfl rfl rfl rfl rfl) ?_
                        refine s_sk (d := some 203) rfl rfl (wants_no rfl rfl rfl rfl rfl) ?_
                        refine s_pu (d := some 204) (v := (.bool false)) rfl rfl rfl (r_pick0 rfl rfl rfl) ?_
                        refine s_pu (d := some 205) (v := (.bool false)) rfl rfl rfl (r_move rfl) ?_
                        refine s_sk (d := some 206) rfl rfl (wants_no rfl rfl rfl rfl rfl) ?_
                        refine s_sk (d := some 207) rfl rfl (wants_no rfl rfl rfl rfl rfl) ?_
                        refine s_sk (d := some 208) rfl rfl (wants_no rfl rfl rfl rfl rfl) ?_
                        refine s_pu (d := some 209) (v := (.bool false)) rfl rfl rfl (r_pick0 rfl rfl rfl) ?_
                        refine s_pu (d := some 210) (v := (.bool false)) rfl rfl rfl (r_move rfl) ?_
                        refine s_skl (d := some 211) rfl rfl (wants_no rfl rfl rfl rfl rfl) ?_
                        refine s_skl (d := some 212) rfl rfl (wants_no rfl rfl rfl rfl rfl) ?_
                        refine s_sk (d := some 213) rfl rfl (wants_no rfl rfl rfl rfl rfl) ?_
                        refine s_pu (d := some 214) (v := (.bool false)) rfl rfl rfl (r_pick0 rfl rfl rfl) ?_
                        refine s_pu (d := some 8) (v := (.bool false)) rfl rfl rfl (r_assign rfl) ?_
                        refine s_fin ?_
                        exact N_mk (l := [(8, (.bool false))]) H ⟨rfl, trivial⟩)
                    clear eN88
                    refine W_if x81 rfl (fun g165 => ?_) (fun g165 => ?_)
                    · have H := H.1 g165
                      refine W_seq ?_
                      refine W_region (.pu 0 (.pu 1 (.pu 2 (.pu 3 (.pu 4 .fin))))) rfl rfl ?_
                      refine s_pu (d := some 154) (v := (Sl.v l1)) rfl rfl rfl (r_move rfl) ?_
                      refine s_pu (d := some 155) (v := (.int .i64 i2)) rfl rfl rfl (r_move rfl) ?_
                      refine s_pu (d := some 156) (v := (.int .i64 j3)) rfl rfl rfl (r_move rfl) ?_
                      obtain ⟨e153, e154, e155, e156, H⟩ := H
                      obtain ⟨s152, e157⟩ : ∃ t : Sl, t = ⟨sliceA l1.a (Int.toNat ((l1.cap : Int))) (Int.toNat i2) 1, Int.toNat j3 - Int.toNat i2, Int.toNat ((l1.cap : Int)) - Int.toNat i2⟩ := ⟨_, rfl⟩
                      have H := H s152 e157
                      refine s_pu (d := some 157) (v := (Sl.v s152)) rfl rfl rfl (fun w => (r_slice (lo := (.some (.tmp 155))) (hi := (.some (.tmp 156))) (mx := .none) Try.underlying22 Try.sizeOf3 rfl ((l1.cap : Int)) j3 i2 rfl ⟨_, rfl⟩ ⟨_, rfl⟩ e153 e154 (.inr e155) e156 w).trans (by rw [e157]; rfl)) ?_
                      refine s_pu (d := some 28) (v := (Sl.v s152)) rfl rfl rfl (r_assign rfl) ?_
                      refine s_fin ?_
                      show W _ _ _ _ _ _ _ _
                      refine W_region (.pu 0 (.ef 1 [] (.ef 2 [] .fin .no) .no)) rfl rfl ?_
                      refine s_pu (d := some 158) (v := (Sl.v s152)) rfl rfl rfl (r_move rfl) ?_
                      refine s_ef (d := some 159) rfl rfl rfl (fun dr => r_call Try.call21 rfl rfl H) ?_ trivial
                      rintro _ h35 ⟨y158, y159, y160, y161, y162, rfl, H⟩
                      refine ⟨trivial, ?_⟩
                      obtain ⟨e164, H⟩ := H
                      obtain ⟨h36, e163⟩ : ∃ hh : Heap, hh = hsets h35 p83 0 [(.int .i64 y158), (.int .i64 y159), (.int .i64 y160), (.int .i64 y161), (.int .i64 y162)] := ⟨_, rfl⟩
                      have H := H h36 e163
                      refine s_st (d := none) (h' := h36) rfl rfl rfl (fun dr => (r_store (v := (.agg #[(.int .i64 y158), (.int .i64 y159), (.int .i64 y160), (.int .i64 y161), (.int .i64 y162)])) Try.sizeOf34 rfl rfl rfl (one_all rfl) e164).trans (by rw [e163]; rfl)) trivial ?_ trivial
                      refine s_fin ?_
                      exact N_mk (l := [(0, (Sl.v l1)), (1, (.int .i64 i2)), (2, (.int .i64 j3)), (10, (.pointer (some p7))), (20, (.bool y49)), (21, (.bool y53)), (22, (.bool x57)), (25, (.bool y65)), (26, (.bool y74)), (27, (.bool x81)), (28, (Sl.v s152)), (29, (.pointer (some p83)))]) H ⟨rfl, rfl, rfl, rfl, rfl, rfl, rfl, rfl, rfl, rfl, rfl, rfl, trivial⟩
                    · have H := H.2 g165
                      refine W_skip ?_
                      exact N_mk (l := [(0, (Sl.v l1)), (1, (.int .i64 i2)), (2, (.int .i64 j3)), (10, (.pointer (some p7))), (20, (.bool y49)), (21, (.bool y53)), (22, (.bool x57)), (25, (.bool y65)), (26, (.bool y74)), (27, (.bool x81)), (28, (Sl.v Sl.nil)), (29, (.pointer (some p83)))]) H ⟨rfl, rfl, rfl, rfl, rfl, rfl, rfl, rfl, rfl, rfl, rfl, rfl, trivial⟩
                  · rcases Bool.eq_false_or_eq_true ((decide (0 ≤ i2)) && (decide (i2 ≤ j3))) with g78 | g78
                    · refine s_pu (d := some 148) (v := (.int .i64 j3)) rfl rfl (wants_yes rfl rfl rfl rfl g78) (r_move rfl) ?_
                      refine s_pu (d := some 149) (v := (Sl.v l1)) rfl rfl (wants_yes rfl rfl rfl rfl g78) (r_move rfl) ?_
                      refine s_pu (d := some 150) (v := (.int .i64 ((l1.len : Int)))) rfl rfl (wants_yes rfl rfl rfl rfl g78) (r_len Try.underlying22 rfl) ?_
                      refine s_pu (d := some 151) (v := (.bool (decide (j3 ≤ ((l1.len : Int)))))) rfl rfl (wants_yes rfl rfl rfl rfl g78) (r_leq rfl rfl) ?_
                      refine s_pu (d := some 152) (v := (.bool (decide (j3 ≤ ((l1.len : Int)))))) rfl rfl rfl (r_pick1 rfl g78 rfl) ?_
                      exact S_mk (l := [(0, (Sl.v l1)), (1, (.int .i64 i2)), (2, (.int .i64 j3)), (10, (.pointer (some p7))), (20, (.bool y49)), (21, (.bool y53)), (22, (.bool x57)), (25, (.bool y65)), (26, (.bool y74)), (152, (.bool (((decide (0 ≤ i2)) && (decide (i2 ≤ j3))) && (decide (j3 ≤ ((l1.len : Int)))))))]) HJ ⟨rfl, rfl, rfl, rfl, rfl, rfl, rfl, rfl, rfl, (by rw [g78]; rfl), trivial⟩
                    · refine s_sk (d := some 148) rfl rfl (wants_no rfl rfl rfl rfl g78) ?_
                      refine s_sk (d := some 149) rfl rfl (wants_no rfl rfl rfl rfl g78) ?_
                      refine s_sk (d := some 150) rfl rfl (wants_no rfl rfl rfl rfl g78) ?_
                      refine s_sk (d := some 151) rfl rfl (wants_no rfl rfl rfl rfl g78) ?_
                      refine s_pu (d := some 152) (v := (.bool false)) rfl rfl rfl (r_pick0 rfl g78 rfl) ?_
                      exact S_mk (l := [(0, (Sl.v l1)), (1, (.int .i64 i2)), (2, (.int .i64 j3)), (10, (.pointer (some p7))), (20, (.bool y49)), (21, (.bool y53)), (22, (.bool x57)), (25, (.bool y65)), (26, (.bool y74)), (152, (.bool (((decide (0 ≤ i2)) && (decide (i2 ≤ j3))) && (decide (j3 ≤ ((l1.len : Int)))))))]) HJ ⟨rfl, rfl, rfl, rfl, rfl, rfl, rfl, rfl, rfl, (by rw [g78]; rfl), trivial⟩
                · rcases Bool.eq_false_or_eq_true (decide (0 ≤ i2)) with g75 | g75
                  · refine s_pu (d := some 143) (v := (.int .i64 i2)) rfl rfl (wants_yes rfl rfl rfl rfl g75) (r_move rfl) ?_
                    refine s_pu (d := some 144) (v := (.int .i64 j3)) rfl rfl (wants_yes rfl rfl rfl rfl g75) (r_move rfl) ?_
                    refine s_pu (d := some 145) (v := (.bool (decide (i2 ≤ j3)))) rfl rfl (wants_yes rfl rfl rfl rfl g75) (r_leq rfl rfl) ?_
                    refine s_pu (d := some 146) (v := (.bool (decide (i2 ≤ j3)))) rfl rfl rfl (r_pick1 rfl g75 rfl) ?_
                    exact S_mk (l := [(0, (Sl.v l1)), (1, (.int .i64 i2)), (2, (.int .i64 j3)), (10, (.pointer (some p7))), (20, (.bool y49)), (21, (.bool y53)), (22, (.bool x57)), (25, (.bool y65)), (26, (.bool y74)), (146, (.bool ((decide (0 ≤ i2)) && (decide (i2 ≤ j3)))))]) HJ ⟨rfl, rfl, rfl, rfl, rfl, rfl, rfl, rfl, rfl, (by rw [g75]; rfl), trivial⟩
                  · refine s_sk (d := some 143) rfl rfl (wants_no rfl rfl rfl rfl g75) ?_
                    refine s_sk (d := some 144) rfl rfl (wants_no rfl rfl rfl rfl g75) ?_
                    refine s_sk (d := some 145) rfl rfl (wants_no rfl rfl rfl rfl g75) ?_
                    refine s_pu (d := some 146) (v := (.bool false)) rfl rfl rfl (r_pick0 rfl g75 rfl) ?_
                    exact S_mk (l := [(0, (Sl.v l1)), (1, (.int .i64 i2)), (2, (.int .i64 j3)), (10, (.pointer (some p7))), (20, (.bool y49)), (21, (.bool y53)), (22, (.bool x57)), (25, (.bool y65)), (26, (.bool y74)), (146, (.bool ((decide (0 ≤ i2)) && (decide (i2 ≤ j3)))))]) HJ ⟨rfl, rfl, rfl, rfl, rfl, rfl, rfl, rfl, rfl, (by rw [g75]; rfl), trivial⟩)
              clear eN61
              refine W_if x57 rfl (fun g169 => ?_) (fun g169 => ?_)
              · have H := H.1 g169
                refine W_region (.pu 0 (.pu 1 (.pu 2 (.ef 3 [] (.pu 4 .fin) .no)))) rfl rfl ?_
                refine s_pu (d := some 125) (v := (Sl.v l1)) rfl rfl rfl (r_move rfl) ?_
                refine s_pu (d := some 126) (v := (.int .i64 i2)) rfl rfl rfl (r_move rfl) ?_
                refine s_pu (d := some 127) (v := (.int .i64 x4)) rfl rfl rfl (r_move rfl) ?_
                refine s_ef (d := some 128) rfl rfl rfl (fun dr => r_call Try.call43 rfl rfl H) ?_ trivial
                rintro _ h37 ⟨y168, rfl, H⟩
                refine ⟨trivial, ?_⟩
                refine s_pu (d := some 23) (v := (Sl.v y168)) rfl rfl rfl (r_assign rfl) ?_
                refine s_fin ?_
                exact N_mk (l := [(0, (Sl.v l1)), (1, (.int .i64 i2)), (2, (.int .i64 j3)), (3, (.int .i64 x4)), (10, (.pointer (some p7))), (20, (.bool y49)), (21, (.bool y53)), (22, (.bool x57)), (23, (Sl.v y168))]) H ⟨rfl, rfl, rfl, rfl, rfl, rfl, rfl, rfl, rfl, trivial⟩
              · have H := H.2 g169
                refine W_skip ?_
                exact N_mk (l := [(0, (Sl.v l1)), (1, (.int .i64 i2)), (2, (.int .i64 j3)), (3, (.int .i64 x4)), (10, (.pointer (some p7))), (20, (.bool y49)), (21, (.bool y53)), (22, (.bool x57)), (23, (Sl.v Sl.nil))]) H ⟨rfl, rfl, rfl, rfl, rfl, rfl, rfl, rfl, rfl, trivial⟩
            · rcases Bool.eq_false_or_eq_true (decide (0 ≤ i2)) with g54 | g54
              · refine s_pu (d := some 119) (v := (.int .i64 i2)) rfl rfl (wants_yes rfl rfl rfl rfl g54) (r_move rfl) ?_
                refine s_pu (d := some 120) (v := (Sl.v l1)) rfl rfl (wants_yes rfl rfl rfl rfl g54) (r_move rfl) ?_
                refine s_pu (d := some 121) (v := (.int .i64 ((l1.len : Int)))) rfl rfl (wants_yes rfl rfl rfl rfl g54) (r_len Try.underlying22 rfl) ?_
                refine s_pu (d := some 122) (v := (.bool (decide (i2 ≤ ((l1.len : Int)))))) rfl rfl (wants_yes rfl rfl rfl rfl g54) (r_leq rfl rfl) ?_
                refine s_pu (d := some 123) (v := (.bool (decide (i2 ≤ ((l1.len : Int)))))) rfl rfl rfl (r_pick1 rfl g54 rfl) ?_
                exact S_mk (l := [(0, (Sl.v l1)), (1, (.int .i64 i2)), (2, (.int .i64 j3)), (3, (.int .i64 x4)), (10, (.pointer (some p7))), (20, (.bool y49)), (21, (.bool y53)), (123, (.bool ((decide (0 ≤ i2)) && (decide (i2 ≤ ((l1.len : Int)))))))]) HJ ⟨rfl, rfl, rfl, rfl, rfl, rfl, rfl, (by rw [g54]; rfl), trivial⟩
              · refine s_sk (d := some 119) rfl rfl (wants_no rfl rfl rfl rfl g54) ?_
                refine s_sk (d := some 120) rfl rfl (wants_no rfl rfl rfl rfl g54) ?_
                refine s_sk (d := some 121) rfl rfl (wants_no rfl rfl rfl rfl g54) ?_
                refine s_sk (d := some 122) rfl rfl (wants_no rfl rfl rfl rfl g54) ?_
                refine s_pu (d := some 123) (v := (.bool false)) rfl rfl rfl (r_pick0 rfl g54 rfl) ?_
                exact S_mk (l := [(0, (Sl.v l1)), (1, (.int .i64 i2)), (2, (.int .i64 j3)), (3, (.int .i64 x4)), (10, (.pointer (some p7))), (20, (.bool y49)), (21, (.bool y53)), (123, (.bool ((decide (0 ≤ i2)) && (decide (i2 ≤ ((l1.len : Int)))))))]) HJ ⟨rfl, rfl, rfl, rfl, rfl, rfl, rfl, (by rw [g54]; rfl), trivial⟩)
          clear eN45
          refine W_if x15 rfl (fun g173 => ?_) (fun g173 => ?_)
          · have H := H.1 g173
            refine W_seq ?_
            refine W_region (.pu 0 (.pu 1 (.pu 2 (.ef 3 [] (.pu 4 .fin) .no)))) rfl rfl ?_
            refine s_pu (d := some 101) (v := (Sl.v l1)) rfl rfl rfl (r_move rfl) ?_
            refine s_pu (d := some 102) (v := (.int .i64 i2)) rfl rfl rfl (r_move rfl) ?_
            refine s_pu (d := some 103) (v := (.int .i64 x4)) rfl rfl rfl (r_move rfl) ?_
            refine s_ef (d := some 104) rfl rfl rfl (fun dr => r_call Try.call41 rfl rfl H) ?_ trivial
            rintro _ h38 ⟨y171, rfl, H⟩
            refine ⟨trivial, ?_⟩
            refine s_pu (d := some 18) (v := (Sl.v y171)) rfl rfl rfl (r_assign rfl) ?_
            refine s_fin ?_
            show W _ _ _ _ _ _ _ _
            refine W_region (.pu 0 (.pu 1 (.ef 2 [] (.pu 3 .fin) .no))) rfl rfl ?_
            refine s_pu (d := some 105) (v := (Sl.v l1)) rfl rfl rfl (r_move rfl) ?_
            refine s_pu (d := some 106) (v := (.int .i64 i2)) rfl rfl rfl (r_move rfl) ?_
            refine s_ef (d := some 107) rfl rfl rfl (fun dr => r_call Try.call42 rfl rfl H) ?_ trivial
            rintro _ h39 ⟨y172, rfl, H⟩
            refine ⟨trivial, ?_⟩
            refine s_pu (d := some 19) (v := (Sl.v y172)) rfl rfl rfl (r_assign rfl) ?_
            refine s_fin ?_
            exact N_mk (l := [(0, (Sl.v l1)), (1, (.int .i64 i2)), (2, (.int .i64 j3)), (3, (.int .i64 x4)), (10, (.pointer (some p7))), (14, (.pointer (some p25))), (16, (.pointer (some p34))), (18, (Sl.v y171)), (19, (Sl.v y172))]) H ⟨rfl, rfl, rfl, rfl, rfl, rfl, rfl, rfl, rfl, trivial⟩
          · have H := H.2 g173
            refine W_skip ?_
            exact N_mk (l := [(0, (Sl.v l1)), (1, (.int .i64 i2)), (2, (.int .i64 j3)), (3, (.int .i64 x4)), (10, (.pointer (some p7))), (14, (.pointer (some p25))), (16, (.pointer (some p34))), (18, (Sl.v Sl.nil)), (19, (Sl.v Sl.nil))]) H ⟨rfl, rfl, rfl, rfl, rfl, rfl, rfl, rfl, rfl, trivial⟩)
      clear eN41
      refine W_region (.pu 0 (.pu 1 (.pu 2 (.pu 3 (.pu 4 (.pu 5 (.pu 6 (.pu 7 (.pu 8 (.pu 9 (.pu 10 (.pu 11 (.pu 12 (.pu 13 (.pu 14 (.pu 15 (.pu 16 (.pu 17 (.pu 18 (.pu 19 (.rl 20 (.pu 21 (.pu 22 (.pu 23 (.pu 24 (.pu 25 (.pu 26 (.pu 27 (.pu 28 (.pu 29 (.pu 30 (.pu 31 .fin)))))))))))))))))))))))))))))))) rfl rfl ?_
      refine s_pu (d := some 68) (v := (.bool y20)) rfl rfl rfl (r_move rfl) ?_
      refine s_pu (d := some 69) (v := (.bool x15)) rfl rfl rfl (r_move rfl) ?_
      refine s_pu (d := some 70) (v := (.bool (y20 != x15))) rfl rfl rfl (r_neqB Try.underlying4 rfl rfl) ?_
      refine s_pu (d := some 71) (v := (.bool (y20 != x15))) rfl rfl rfl (r_move rfl) ?_
      rcases Bool.eq_false_or_eq_true (y20 != x15) with g175 | g175
      · have H := H.1 g175
        refine s_sk (d := some 72) rfl rfl (wants_no rfl rfl rfl rfl g175) ?_
        refine s_sk (d := some 73) rfl rfl (wants_no rfl rfl rfl rfl g175) ?_
        refine s_sk (d := some 74) rfl rfl (wants_no rfl rfl rfl rfl g175) ?_
        refine s_pu (d := some 75) (v := (.bool true)) rfl rfl rfl (r_pick1 rfl g175 rfl) ?_
        refine s_pu (d := some 76) (v := (.bool true)) rfl rfl rfl (r_move rfl) ?_
        refine s_sk (d := some 77) rfl rfl (wants_no rfl rfl rfl rfl rfl) ?_
        refine s_sk (d := some 78) rfl rfl (wants_no rfl rfl rfl rfl rfl) ?_
        refine s_sk (d := some 79) rfl rfl (wants_no rfl rfl rfl rfl rfl) ?_
        refine s_pu (d := some 80) (v := (.bool true)) rfl rfl rfl (r_pick1 rfl rfl rfl) ?_
        refine s_pu (d := some 81) (v := (.bool true)) rfl rfl rfl (r_move rfl) ?_
        refine s_sk (d := some 82) rfl rfl (wants_no rfl rfl rfl rfl rfl) ?_
        refine s_sk (d := some 83) rfl rfl (wants_no rfl rfl rfl rfl rfl) ?_
        refine s_sk (d := some 84) rfl rfl (wants_un rfl rfl rfl) ?_
        refine s_sk (d := some 85) rfl rfl (wants_un rfl rfl rfl) ?_
        refine s_sk (d := some 86) rfl rfl (wants_un rfl rfl rfl) ?_
        refine s_sk (d := some 87) rfl rfl (wants_un rfl rfl rfl) ?_
        refine s_skl (d := some 88) rfl rfl (wants_un rfl rfl rfl) ?_
        refine s_sk (d := some 89) rfl rfl (wants_un rfl rfl rfl) ?_
        refine s_sk (d := some 90) rfl rfl (wants_no rfl rfl rfl rfl rfl) ?_
        refine s_pu (d := some 91) (v := (.bool true)) rfl rfl rfl (r_pick1 rfl rfl rfl) ?_
        refine s_pu (d := some 92) (v := (.bool true)) rfl rfl rfl (r_move rfl) ?_
        refine s_sk (d := some 93) rfl rfl (wants_no rfl rfl rfl rfl rfl) ?_
        refine s_sk (d := some 94) rfl rfl (wants_no rfl rfl rfl rfl rfl) ?_
        refine s_sk (d := some 95) rfl rfl (wants_no rfl rfl rfl rfl rfl) ?_
        refine s_sk (d := some 96) rfl rfl (wants_un rfl rfl rfl) ?_
        refine s_sk (d := some 97) rfl rfl (wants_un rfl rfl rfl) ?_
        refine s_sk (d := some 98) rfl rfl (wants_no rfl rfl rfl rfl rfl) ?_
        refine s_pu (d := some 99) (v := (.bool true)) rfl rfl rfl (r_pick1 rfl rfl rfl) ?_
        refine s_fin ?_
        exact N_mk (l := [(0, (Sl.v l1)), (1, (.int .i64 i2)), (2, (.int .i64 j3)), (3, (.int .i64 x4)), (10, (.pointer (some p7))), (11, (.bool x15)), (14, (.pointer (some p25))), (16, (.pointer (some p34))), (99, (.bool true))]) H ⟨rfl, rfl, rfl, rfl, rfl, rfl, rfl, rfl, rfl, trivial⟩
      · have H := H.2 g175
        refine s_pu (d := some 72) (v := (.bool y24)) rfl rfl (wants_yes rfl rfl rfl rfl g175) (r_move rfl) ?_
        refine s_pu (d := some 73) (v := (.bool x15)) rfl rfl (wants_yes rfl rfl rfl rfl g175) (r_move rfl) ?_
        refine s_pu (d := some 74) (v := (.bool (y24 != x15))) rfl rfl (wants_yes rfl rfl rfl rfl g175) (r_neqB Try.underlying4 rfl rfl) ?_
        refine s_pu (d := some 75) (v := (.bool (y24 != x15))) rfl rfl rfl (r_pick0 rfl g175 rfl) ?_
        refine s_pu (d := some 76) (v := (.bool (y24 != x15))) rfl rfl rfl (r_move rfl) ?_
        rcases Bool.eq_false_or_eq_true (y24 != x15) with g176 | g176
        · have H := H.1 g176
          refine s_sk (d := some 77) rfl rfl (wants_no rfl rfl rfl rfl g176) ?_
          refine s_sk (d := some 78) rfl rfl (wants_no rfl rfl rfl rfl g176) ?_
          refine s_sk (d := some 79) rfl rfl (wants_no rfl rfl rfl rfl g176) ?_
          refine s_pu (d := some 80) (v := (.bool true)) rfl rfl rfl (r_pick1 rfl g176 rfl) ?_
          refine s_pu (d := some 81) (v := (.bool true)) rfl rfl rfl (r_move rfl) ?_
          refine s_sk (d := some 82) rfl rfl (wants_no rfl rfl rfl rfl rfl) ?_
          refine s_sk (d := some 83) rfl rfl (wants_no rfl rfl rfl rfl rfl) ?_
          refine s_sk (d := some 84) rfl rfl (wants_un rfl rfl rfl) ?_
          refine s_sk (d := some 85) rfl rfl (wants_un rfl rfl rfl) ?_
          refine s_sk (d := some 86) rfl rfl (wants_un rfl rfl rfl) ?_
          refine s_sk (d := some 87) rfl rfl (wants_un rfl rfl rfl) ?_
          refine s_skl (d := some 88) rfl rfl (wants_un rfl rfl rfl) ?_
          refine s_sk (d := some 89) rfl rfl (wants_un rfl rfl rfl) ?_
          refine s_sk (d := some 90) rfl rfl (wants_no rfl rfl rfl rfl rfl) ?_
          refine s_pu (d := some 91) (v := (.bool true)) rfl rfl rfl (r_pick1 rfl rfl rfl) ?_
          refine s_pu (d := some 92) (v := (.bool true)) rfl rfl rfl (r_move rfl) ?_
          refine s_sk (d := some 93) rfl rfl (wants_no rfl rfl rfl rfl rfl) ?_
          refine s_sk (d := some 94) rfl rfl (wants_no rfl rfl rfl rfl rfl) ?_
          refine s_sk (d := some 95) rfl rfl (wants_no rfl rfl rfl rfl rfl) ?_
          refine s_sk (d := some 96) rfl rfl (wants_un rfl rfl rfl) ?_
          refine s_sk (d := some 97) rfl rfl (wants_un rfl rfl rfl) ?_
          refine s_sk (d := some 98) rfl rfl (wants_no rfl rfl rfl rfl rfl) ?_
          refine s_pu (d := some 99) (v := (.bool true)) rfl rfl rfl (r_pick1 rfl rfl rfl) ?_
          refine s_fin ?_
          exact N_mk (l := [(0, (Sl.v l1)), (1, (.int .i64 i2)), (2, (.int .i64 j3)), (3, (.int .i64 x4)), (10, (.pointer (some p7))), (11, (.bool x15)), (14, (.pointer (some p25))), (16, (.pointer (some p34))), (99, (.bool true))]) H ⟨rfl, rfl, rfl, rfl, rfl, rfl, rfl, rfl, rfl, trivial⟩
        · have H := H.2 g176
          refine s_pu (d := some 77) (v := (.bool y33)) rfl rfl (wants_yes rfl rfl rfl rfl g176) (r_move rfl) ?_
          refine s_pu (d := some 78) (v := (.bool x15)) rfl rfl (wants_yes rfl rfl rfl rfl g176) (r_move rfl) ?_
          refine s_pu (d := some 79) (v := (.bool (y33 != x15))) rfl rfl (wants_yes rfl rfl rfl rfl g176) (r_neqB Try.underlying4 rfl rfl) ?_
          refine s_pu (d := some 80) (v := (.bool (y33 != x15))) rfl rfl rfl (r_pick0 rfl g176 rfl) ?_
          refine s_pu (d := some 81) (v := (.bool (y33 != x15))) rfl rfl rfl (r_move rfl) ?_
          rcases Bool.eq_false_or_eq_true (y33 != x15) with g177 | g177
          · have H := H.1 g177
            refine s_sk (d := some 82) rfl rfl (wants_no rfl rfl rfl rfl g177) ?_
            refine s_sk (d := some 83) rfl rfl (wants_no rfl rfl rfl rfl g177) ?_
            refine s_sk (d := some 84) rfl rfl (wants_un rfl rfl rfl) ?_
            refine s_sk (d := some 85) rfl rfl (wants_un rfl rfl rfl) ?_
            refine s_sk (d := some 86) rfl rfl (wants_un rfl rfl rfl) ?_
            refine s_sk (d := some 87) rfl rfl (wants_un rfl rfl rfl) ?_
            refine s_skl (d := some 88) rfl rfl (wants_un rfl rfl rfl) ?_
            refine s_sk (d := some 89) rfl rfl (wants_un rfl rfl rfl) ?_
            refine s_sk (d := some 90) rfl rfl (wants_no rfl rfl rfl rfl g177) ?_
            refine s_pu (d := some 91) (v := (.bool true)) rfl rfl rfl (r_pick1 rfl g177 rfl) ?_
            refine s_pu (d := some 92) (v := (.bool true)) rfl rfl rfl (r_move rfl) ?_
            refine s_sk (d := some 93) rfl rfl (wants_no rfl rfl rfl rfl rfl) ?_
            refine s_sk (d := some 94) rfl rfl (wants_no rfl rfl rfl rfl rfl) ?_
            refine s_sk (d := some 95) rfl rfl (wants_no rfl rfl rfl rfl rfl) ?_
            refine s_sk (d := some 96) rfl rfl (wants_un rfl rfl rfl) ?_
            refine s_sk (d := some 97) rfl rfl (wants_un rfl rfl rfl) ?_
            refine s_sk (d := some 98) rfl rfl (wants_no rfl rfl rfl rfl rfl) ?_
            refine s_pu (d := some 99) (v := (.bool true)) rfl rfl rfl (r_pick1 rfl rfl rfl) ?_
            refine s_fin ?_
            exact N_mk (l := [(0, (Sl.v l1)), (1, (.int .i64 i2)), (2, (.int .i64 j3)), (3, (.int .i64 x4)), (10, (.pointer (some p7))), (11, (.bool x15)), (14, (.pointer (some p25))), (16, (.pointer (some p34))), (99, (.bool true))]) H ⟨rfl, rfl, rfl, rfl, rfl, rfl, rfl, rfl, rfl, trivial⟩
          · have H := H.2 g177
            refine s_pu (d := some 82) (v := (.bool x15)) rfl rfl (wants_yes rfl rfl rfl rfl g177) (r_move rfl) ?_
            refine s_pu (d := some 83) (v := (.bool x15)) rfl rfl (wants_yes rfl rfl rfl rfl g177) (r_move rfl) ?_
            rcases Bool.eq_false_or_eq_true x15 with g178 | g178
            · have H := H.1 g178
              refine s_pu (d := some 84) (v := (.int .i64 y19)) rfl rfl (wants_yes rfl rfl rfl rfl g178) (r_move rfl) ?_
              refine s_pu (d := some 85) (v := (Sl.v l1)) rfl rfl (wants_yes rfl rfl rfl rfl g178) (r_move rfl) ?_
              refine s_pu (d := some 86) (v := (.int .i64 i2)) rfl rfl (wants_yes rfl rfl rfl rfl g178) (r_move rfl) ?_
              obtain ⟨p179, e180, e181, e182, H⟩ := H
              obtain ⟨q183, e184⟩ : ∃ q : Addr, q = Addr.add p179 (Int.toNat i2 * 1) := ⟨_, rfl⟩
              rw [← e184] at H
              refine s_pu (d := some 87) (v := (.pointer (some q183))) rfl rfl (wants_yes rfl rfl rfl rfl g178) (fun w => (r_indexAddr Try.underlying22 Try.sizeOf3 rfl rfl e180 e181 e182 w).trans (by rw [e184])) ?_
              obtain ⟨x185, e186, H⟩ := H
              refine s_rl (d := some 88) (v := (.int .i64 x185)) rfl rfl (wants_yes rfl rfl rfl rfl g178) (fun dr => r_load1 Try.isAgg3 rfl e186) ?_
              refine s_pu (d := some 89) (v := (.bool (!decide (y19 = x185)))) rfl rfl (wants_yes rfl rfl rfl rfl g178) (r_neq rfl rfl) ?_
              refine s_pu (d := some 90) (v := (.bool (!decide (y19 = x185)))) rfl rfl (wants_yes rfl rfl rfl rfl g177) (r_pick1 rfl g178 rfl) ?_
              refine s_pu (d := some 91) (v := (.bool (!decide (y19 = x185)))) rfl rfl rfl (r_pick0 rfl g177 rfl) ?_
              refine s_pu (d := some 92) (v := (.bool (!decide (y19 = x185)))) rfl rfl rfl (r_move rfl) ?_
              rcases Bool.eq_false_or_eq_true (!decide (y19 = x185)) with g187 | g187
              · have H := H.1 g187
                refine s_sk (d := some 93) rfl rfl (wants_no rfl rfl rfl rfl g187) ?_
                refine s_sk (d := some 94) rfl rfl (wants_no rfl rfl rfl rfl g187) ?_
                refine s_sk (d := some 95) rfl rfl (wants_no rfl rfl rfl rfl g187) ?_
                refine s_sk (d := some 96) rfl rfl (wants_un rfl rfl rfl) ?_
                refine s_sk (d := some 97) rfl rfl (wants_un rfl rfl rfl) ?_
                refine s_sk (d := some 98) rfl rfl (wants_no rfl rfl rfl rfl g187) ?_
                refine s_pu (d := some 99) (v := (.bool true)) rfl rfl rfl (r_pick1 rfl g187 rfl) ?_
                refine s_fin ?_
                exact N_mk (l := [(0, (Sl.v l1)), (1, (.int .i64 i2)), (2, (.int .i64 j3)), (3, (.int .i64 x4)), (10, (.pointer (some p7))), (11, (.bool x15)), (14, (.pointer (some p25))), (16, (.pointer (some p34))), (99, (.bool true))]) H ⟨rfl, rfl, rfl, rfl, rfl, rfl, rfl, rfl, rfl, trivial⟩
              · have H := H.2 g187
                refine s_pu (d := some 93) (v := (.bool x15)) rfl rfl (wants_yes rfl rfl rfl rfl g187) (r_move rfl) ?_
                refine s_pu (d := some 94) (v := (.bool (!x15))) rfl rfl (wants_yes rfl rfl rfl rfl g187) (r_not rfl) ?_
                refine s_pu (d := some 95) (v := (.bool (!x15))) rfl rfl (wants_yes rfl rfl rfl rfl g187) (r_move rfl) ?_
                rcases Bool.eq_false_or_eq_true (!x15) with g188 | g188
                · have H := H.1 g188
                  refine s_pu (d := some 96) (v := (.int .i64 y19)) rfl rfl (wants_yes rfl rfl rfl rfl g188) (r_move rfl) ?_
                  refine s_pu (d := some 97) (v := (.bool (!decide (y19 = 0)))) rfl rfl (wants_yes rfl rfl rfl rfl g188) (r_neq rfl rfl) ?_
                  refine s_pu (d := some 98) (v := (.bool (!decide (y19 = 0)))) rfl rfl (wants_yes rfl rfl rfl rfl g187) (r_pick1 rfl g188 rfl) ?_
                  refine s_pu (d := some 99) (v := (.bool (!decide (y19 = 0)))) rfl rfl rfl (r_pick0 rfl g187 rfl) ?_
                  refine s_fin ?_
                  exact N_mk (l := [(0, (Sl.v l1)), (1, (.int .i64 i2)), (2, (.int .i64 j3)), (3, (.int .i64 x4)), (10, (.pointer (some p7))), (11, (.bool x15)), (14, (.pointer (some p25))), (16, (.pointer (some p34))), (99, (.bool (!decide (y19 = 0))))]) H ⟨rfl, rfl, rfl, rfl, rfl, rfl, rfl, rfl, rfl, trivial⟩
                · have H := H.2 g188
                  refine s_sk (d := some 96) rfl rfl (wants_no rfl rfl rfl rfl g188) ?_
                  refine s_sk (d := some 97) rfl rfl (wants_no rfl rfl rfl rfl g188) ?_
                  refine s_pu (d := some 98) (v := (.bool false)) rfl rfl (wants_yes rfl rfl rfl rfl g187) (r_pick0 rfl g188 rfl) ?_
                  refine s_pu (d := some 99) (v := (.bool false)) rfl rfl rfl (r_pick0 rfl g187 rfl) ?_
                  refine s_fin ?_
                  exact N_mk (l := [(0, (Sl.v l1)), (1, (.int .i64 i2)), (2, (.int .i64 j3)), (3, (.int .i64 x4)), (10, (.pointer (some p7))), (11, (.bool x15)), (14, (.pointer (some p25))), (16, (.pointer (some p34))), (99, (.bool false))]) H ⟨rfl, rfl, rfl, rfl, rfl, rfl, rfl, rfl, rfl, trivial⟩
            · have H := H.2 g178
              refine s_sk (d := some 84) rfl rfl (wants_no rfl rfl rfl rfl g178) ?_
              refine s_sk (d := some 85) rfl rfl (wants_no rfl rfl rfl rfl g178) ?_
              refine s_sk (d := some 86) rfl rfl (wants_no rfl rfl rfl rfl g178) ?_
              refine s_sk (d := some 87) rfl rfl (wants_no rfl rfl rfl rfl g178) ?_
              refine s_skl (d := some 88) rfl rfl (wants_no rfl rfl rfl rfl g178) ?_
              refine s_sk (d := some 89) rfl rfl (wants_no rfl rfl rfl rfl g178) ?_
              refine s_pu (d := some 90) (v := (.bool false)) rfl rfl (wants_yes rfl rfl rfl rfl g177) (r_pick0 rfl g178 rfl) ?_
              refine s_pu (d := some 91) (v := (.bool false)) rfl rfl rfl (r_pick0 rfl g177 rfl) ?_
              refine s_pu (d := some 92) (v := (.bool false)) rfl rfl rfl (r_move rfl) ?_
              refine s_pu (d := some 93) (v := (.bool x15)) rfl rfl (wants_yes rfl rfl rfl rfl rfl) (r_move rfl) ?_
              refine s_pu (d := some 94) (v := (.bool (!x15))) rfl rfl (wants_yes rfl rfl rfl rfl rfl) (r_not rfl) ?_
              refine s_pu (d := some 95) (v := (.bool (!x15))) rfl rfl (wants_yes rfl rfl rfl rfl rfl) (r_move rfl) ?_
              rcases Bool.eq_false_or_eq_true (!x15) with g189 | g189
              · have H := H.1 g189
                refine s_pu (d := some 96) (v := (.int .i64 y19)) rfl rfl (wants_yes rfl rfl rfl rfl g189) (r_move rfl) ?_
                refine s_pu (d := some 97) (v := (.bool (!decide (y19 = 0)))) rfl rfl (wants_yes rfl rfl rfl rfl g189) (r_neq rfl rfl) ?_
                refine s_pu (d := some 98) (v := (.bool (!decide (y19 = 0)))) rfl rfl (wants_yes rfl rfl rfl rfl rfl) (r_pick1 rfl g189 rfl) ?_
                refine s_pu (d := some 99) (v := (.bool (!decide (y19 = 0)))) rfl rfl rfl (r_pick0 rfl rfl rfl) ?_
                refine s_fin ?_
                exact N_mk (l := [(0, (Sl.v l1)), (1, (.int .i64 i2)), (2, (.int .i64 j3)), (3, (.int .i64 x4)), (10, (.pointer (some p7))), (11, (.bool x15)), (14, (.pointer (some p25))), (16, (.pointer (some p34))), (99, (.bool (!decide (y19 = 0))))]) H ⟨rfl, rfl, rfl, rfl, rfl, rfl, rfl, rfl, rfl, trivial⟩
              · have H := H.2 g189
                refine s_sk (d := some 96) rfl rfl (wants_no rfl rfl rfl rfl g189) ?_
                refine s_sk (d := some 97) rfl rfl (wants_no rfl rfl rfl rfl g189) ?_
                refine s_pu (d := some 98) (v := (.bool false)) rfl rfl (wants_yes rfl rfl rfl rfl rfl) (r_pick0 rfl g189 rfl) ?_
                refine s_pu (d := some 99) (v := (.bool false)) rfl rfl rfl (r_pick0 rfl rfl rfl) ?_
                refine s_fin ?_
                exact N_mk (l := [(0, (Sl.v l1)), (1, (.int .i64 i2)), (2, (.int .i64 j3)), (3, (.int .i64 x4)), (10, (.pointer (some p7))), (11, (.bool x15)), (14, (.pointer (some p25))), (16, (.pointer (some p34))), (99, (.bool false))]) H ⟨rfl, rfl, rfl, rfl, rfl, rfl, rfl, rfl, rfl, trivial⟩
    · rcases Bool.eq_false_or_eq_true (decide (0 ≤ i2)) with g12 | g12
      · refine s_pu (d := some 44) (v := (.int .i64 i2)) rfl rfl (wants_yes rfl rfl rfl rfl g12) (r_move rfl) ?_
        refine s_pu (d := some 45) (v := (Sl.v l1)) rfl rfl (wants_yes rfl rfl rfl rfl g12) (r_move rfl) ?_
        refine s_pu (d := some 46) (v := (.int .i64 ((l1.len : Int)))) rfl rfl (wants_yes rfl rfl rfl rfl g12) (r_len Try.underlying22 rfl) ?_
        refine s_pu (d := some 47) (v := (.bool (decide (i2 < ((l1.len : Int)))))) rfl rfl (wants_yes rfl rfl rfl rfl g12) (r_lss rfl rfl) ?_
        refine s_pu (d := some 48) (v := (.bool (decide (i2 < ((l1.len : Int)))))) rfl rfl rfl (r_pick1 rfl g12 rfl) ?_
        exact S_mk (l := [(0, (Sl.v l1)), (1, (.int .i64 i2)), (2, (.int .i64 j3)), (3, (.int .i64 x4)), (10, (.pointer (some p7))), (48, (.bool ((decide (0 ≤ i2)) && (decide (i2 < ((l1.len : Int)))))))]) HJ ⟨rfl, rfl, rfl, rfl, rfl, (by rw [g12]; rfl), trivial⟩
      · refine s_sk (d := some 44) rfl rfl (wants_no rfl rfl rfl rfl g12) ?_
        refine s_sk (d := some 45) rfl rfl (wants_no rfl rfl rfl rfl g12) ?_
        refine s_sk (d := some 46) rfl rfl (wants_no rfl rfl rfl rfl g12) ?_
        refine s_sk (d := some 47) rfl rfl (wants_no rfl rfl rfl rfl g12) ?_
        refine s_pu (d := some 48) (v := (.bool false)) rfl rfl rfl (r_pick0 rfl g12 rfl) ?_
        exact S_mk (l := [(0, (Sl.v l1)), (1, (.int .i64 i2)), (2, (.int .i64 j3)), (3, (.int .i64 x4)), (10, (.pointer (some p7))), (48, (.bool ((decide (0 ≤ i2)) && (decide (i2 < ((l1.len : Int)))))))]) HJ ⟨rfl, rfl, rfl, rfl, rfl, (by rw [g12]; rfl), trivial⟩

end Go.Proofs.Ytmjljnbjoldeaaa
