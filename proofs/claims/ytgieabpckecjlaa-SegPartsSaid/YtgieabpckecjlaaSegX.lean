/- Typed words of functions, and that they hold: printed by gen.py (an own tool of this claim) off the model's own form of each function. -/
import Derived.Test.YtgieabpckecjlaaProg
import Derived.Test.YtgieabpckecjlaaSeg
namespace Go.Proofs.Ytgieabpckecjlaa
open Go Go.RowKit Go.Tw
set_option linter.unusedVariables false

theorem slFSegX_22 : SlF Try.prog 22 3 1 8 (.int .i64 0) := ⟨Try.underlying22, ⟨Try.t3, by kernel_rfl, rfl, rfl, rfl⟩, rfl, Try.sizeOf3, Try.zeroValue3⟩

/-! ### the calls -/

abbrev law5_segged (r : World)  (h : Heap) (R : Bool → Heap → Prop) : Prop :=
  CallsH Try.prog r 21 [] h fun v h' => ∃ (y1 : Bool), v = (.bool y1) ∧ R y1 h'

theorem law5_segged.mono {r : World}  {h : Heap} {R R' : Bool → Heap → Prop} (H : law5_segged r  h R) (hr : ∀ y1 h, R y1 h → R' y1 h) : law5_segged r  h R' :=
  CallsH.mono H fun _ _ hx => by
    obtain ⟨y1, hv, hR⟩ := hx
    exact ⟨y1, hv, hr _ _ hR⟩

abbrev law5_within (r : World) (n1 : Int) (i2 : Int) (j3 : Int) (h : Heap) (R : Bool → Heap → Prop) : Prop :=
  CallsH Try.prog r 24 [(.int .i64 n1), (.int .i64 i2), (.int .i64 j3)] h fun v h' => ∃ (y4 : Bool), v = (.bool y4) ∧ R y4 h'

theorem law5_within.mono {r : World} {n1 : Int} {i2 : Int} {j3 : Int} {h : Heap} {R R' : Bool → Heap → Prop} (H : law5_within r n1 i2 j3 h R) (hr : ∀ y4 h, R y4 h → R' y4 h) : law5_within r n1 i2 j3 h R' :=
  CallsH.mono H fun _ _ hx => by
    obtain ⟨y4, hv, hR⟩ := hx
    exact ⟨y4, hv, hr _ _ hR⟩

abbrev law5_SegParts (r : World) (l1 : Sl) (i2 : Int) (j3 : Int) (k4 : Int) (x5 : Int) (h : Heap) (R : Bool → Heap → Prop) : Prop :=
  CallsH Try.prog r 5 [(Sl.v l1), (.int .i64 i2), (.int .i64 j3), (.int .i64 k4), (.int .i64 x5)] h fun v h' => ∃ (y6 : Bool), v = (.bool y6) ∧ R y6 h'

theorem law5_SegParts.mono {r : World} {l1 : Sl} {i2 : Int} {j3 : Int} {k4 : Int} {x5 : Int} {h : Heap} {R R' : Bool → Heap → Prop} (H : law5_SegParts r l1 i2 j3 k4 x5 h R) (hr : ∀ y6 h, R y6 h → R' y6 h) : law5_SegParts r l1 i2 j3 k4 x5 h R' :=
  CallsH.mono H fun _ _ hx => by
    obtain ⟨y6, hv, hR⟩ := hx
    exact ⟨y6, hv, hr _ _ hR⟩

abbrev law5_SegAdds (r : World) (l1 : Sl) (i2 : Int) (j3 : Int) (x4 : Int) (y5 : Int) (h : Heap) (R : Bool → Heap → Prop) : Prop :=
  CallsH Try.prog r 8 [(Sl.v l1), (.int .i64 i2), (.int .i64 j3), (.int .i64 x4), (.int .i64 y5)] h fun v h' => ∃ (y6 : Bool), v = (.bool y6) ∧ R y6 h'

theorem law5_SegAdds.mono {r : World} {l1 : Sl} {i2 : Int} {j3 : Int} {x4 : Int} {y5 : Int} {h : Heap} {R R' : Bool → Heap → Prop} (H : law5_SegAdds r l1 i2 j3 x4 y5 h R) (hr : ∀ y6 h, R y6 h → R' y6 h) : law5_SegAdds r l1 i2 j3 x4 y5 h R' :=
  CallsH.mono H fun _ _ hx => by
    obtain ⟨y6, hv, hR⟩ := hx
    exact ⟨y6, hv, hr _ _ hR⟩

/-! ### law5_segged -/

def law5_segged_F (r : World)  (h : Heap) (R : Bool → Heap → Prop) : Prop :=
  New h (.cells #[(.int .i64 5), (.int .i64 3)] 3) fun p1 h1 =>
  seg_New r ((⟨some p1, 2, 2⟩ : Sl)) h1 fun y4 y5 h2 =>
  (isIface y5 = true) ∧
  Br ((!(isNil y5)) || (Option.isNone y4)) (
    R false h2) (
    seg_Seg_Sum r y4 0 2 h2 fun y10 y11 h3 =>
    seg_Seg_Least r y4 0 2 h3 fun y12 y13 h4 =>
    (isIface y11 = true) ∧
    (isIface y13 = true) ∧
    ∀ x25 : Bool, x25 = ((((isNil y11) && (isNil y13)) && (decide (y10 = 8))) && (decide (y12 = 3))) →
    R x25 h4)

set_option maxRecDepth 100000 in
theorem law5_segged_of {r : World}  {h : Heap} {R : Bool → Heap → Prop} (H : law5_segged_F r  h R) : law5_segged r  h R := by
  unfold law5_segged_F at H
  refine calls_of 42 [.tmp 0] Try.func21 rfl rfl rfl rfl rfl ?_
  refine W_seq ?_
  refine W_region (.pu 0 .fin) rfl rfl ?_
  refine s_pu (d := some 0) (v := (.bool false)) rfl rfl rfl (r_assign rfl) ?_
  refine s_fin ?_
  show W _ _ _ _ _ _ _ _
  refine W_seq ?_
  refine W_region (.ef 0 [] (.ef 1 [] (.pu 2 (.pu 3 (.pu 4 (.pu 5 (.pu 6 .fin))))) .no) .no) rfl rfl ?_
  obtain ⟨p1, e2⟩ : ∃ p : Addr, p = ⟨h.size, 0, none⟩ := ⟨_, rfl⟩
  obtain ⟨h1, e3⟩ : ∃ hh : Heap, hh = h.push (.cells #[(.int .i64 5), (.int .i64 3)] 3) := ⟨_, rfl⟩
  have H := H p1 h1 e2 e3
  refine s_ef1 (d := some 8) (v := (Sl.v ((⟨some p1, 2, 2⟩ : Sl)))) (h' := h1) rfl rfl rfl (fun dr => (slFSegX_22.build (cells := #[(.int .i64 5), (.int .i64 3)]) (by decide) rfl (by kernel_rfl)).trans (by rw [e2, e3]; rfl)) trivial ?_ trivial
  refine s_ef (d := some 9) rfl rfl rfl (fun dr => r_call Try.call22 rfl rfl H) ?_ trivial
  rintro _ h2 ⟨y4, y5, rfl, H⟩
  refine ⟨trivial, ?_⟩
  refine s_pu (d := some 7) (v := (.tuple #[(.pointer y4), y5])) rfl rfl rfl (r_move rfl) ?_
  refine s_pu (d := some 10) (v := (.pointer y4)) rfl rfl rfl (r_extract rfl rfl) ?_
  refine s_pu (d := some 11) (v := y5) rfl rfl rfl (r_extract rfl rfl) ?_
  refine s_pu (d := some 1) (v := (.pointer y4)) rfl rfl rfl (r_assign rfl) ?_
  refine s_pu (d := some 2) (v := y5) rfl rfl rfl (r_assign rfl) ?_
  refine s_fin ?_
  show W _ _ _ _ _ _ _ _
  refine W_seq ?_
  refine W_seq ?_
  refine W_region (.pu 0 (.pu 1 (.pu 2 (.pu 3 (.pu 4 (.pu 5 .fin)))))) rfl rfl ?_
  refine s_pu (d := some 12) (v := y5) rfl rfl rfl (r_move rfl) ?_
  obtain ⟨e6, H⟩ := H
  refine s_pu (d := some 13) (v := (.bool (!(isNil y5)))) rfl rfl rfl (r_notNilI Try.underlying26 rfl e6 rfl) ?_
  refine s_pu (d := some 14) (v := (.bool (!(isNil y5)))) rfl rfl rfl (r_move rfl) ?_
  refine S_meet (l := [(1, (.pointer y4)), (17, (.bool ((!(isNil y5)) || (Option.isNone y4))))]) (i := 3) ?_ (fun HJ => ?_)
  · intro b
    show S _ _ _ _ _ _
    refine s_fin ?_
    show W _ _ _ _ _ _ _ _
    refine W_if ((!(isNil y5)) || (Option.isNone y4)) rfl (fun g30 => ?_) (fun g30 => ?_)
    · have H := H.1 g30
      refine W_seq ?_
      refine W_region (.pu 0 .fin) rfl rfl ?_
      refine s_pu (d := some 0) (v := (.bool false)) rfl rfl rfl (r_assign rfl) ?_
      refine s_fin ?_
      show W _ _ _ _ _ _ _ _
      refine W_ret ?_
      exact ⟨[(.bool false)], ⟨_, _, rfl, rfl, rfl⟩, false, rfl, H⟩
    · have H := H.2 g30
      refine W_skip ?_
      show W _ _ _ _ _ _ _ _
      refine W_seq ?_
      refine W_region (.pu 0 (.ef 1 [] (.pu 2 (.pu 3 (.pu 4 (.pu 5 (.pu 6 .fin))))) .no)) rfl rfl ?_
      refine s_pu (d := some 19) (v := (.pointer y4)) rfl rfl rfl (r_move rfl) ?_
      refine s_ef (d := some 20) rfl rfl rfl (fun dr => r_call Try.call25 rfl rfl H) ?_ trivial
      rintro _ h3 ⟨y10, y11, rfl, H⟩
      refine ⟨trivial, ?_⟩
      refine s_pu (d := some 18) (v := (.tuple #[(.int .i64 y10), y11])) rfl rfl rfl (r_move rfl) ?_
      refine s_pu (d := some 21) (v := (.int .i64 y10)) rfl rfl rfl (r_extract rfl rfl) ?_
      refine s_pu (d := some 22) (v := y11) rfl rfl rfl (r_extract rfl rfl) ?_
      refine s_pu (d := some 3) (v := (.int .i64 y10)) rfl rfl rfl (r_assign rfl) ?_
      refine s_pu (d := some 4) (v := y11) rfl rfl rfl (r_assign rfl) ?_
      refine s_fin ?_
      show W _ _ _ _ _ _ _ _
      refine W_seq ?_
      refine W_region (.pu 0 (.ef 1 [] (.pu 2 (.pu 3 (.pu 4 (.pu 5 (.pu 6 .fin))))) .no)) rfl rfl ?_
      refine s_pu (d := some 24) (v := (.pointer y4)) rfl rfl rfl (r_move rfl) ?_
      refine s_ef (d := some 25) rfl rfl rfl (fun dr => r_call Try.call26 rfl rfl H) ?_ trivial
      rintro _ h4 ⟨y12, y13, rfl, H⟩
      refine ⟨trivial, ?_⟩
      refine s_pu (d := some 23) (v := (.tuple #[(.int .i64 y12), y13])) rfl rfl rfl (r_move rfl) ?_
      refine s_pu (d := some 26) (v := (.int .i64 y12)) rfl rfl rfl (r_extract rfl rfl) ?_
      refine s_pu (d := some 27) (v := y13) rfl rfl rfl (r_extract rfl rfl) ?_
      refine s_pu (d := some 5) (v := (.int .i64 y12)) rfl rfl rfl (r_assign rfl) ?_
      refine s_pu (d := some 6) (v := y13) rfl rfl rfl (r_assign rfl) ?_
      refine s_fin ?_
      show W _ _ _ _ _ _ _ _
      refine W_seq ?_
      refine W_region (.pu 0 (.pu 1 (.pu 2 (.pu 3 (.pu 4 (.pu 5 (.pu 6 (.pu 7 (.pu 8 (.pu 9 (.pu 10 (.pu 11 (.pu 12 (.pu 13 (.pu 14 .fin))))))))))))))) rfl rfl ?_
      refine s_pu (d := some 28) (v := y11) rfl rfl rfl (r_move rfl) ?_
      obtain ⟨e14, H⟩ := H
      refine s_pu (d := some 29) (v := (.bool (isNil y11))) rfl rfl rfl (r_nilI Try.underlying26 rfl e14 rfl) ?_
      refine s_pu (d := some 30) (v := (.bool (isNil y11))) rfl rfl rfl (r_move rfl) ?_
      obtain ⟨e16, H⟩ := H
      refine S_meet (l := [(3, (.int .i64 y10)), (5, (.int .i64 y12)), (33, (.bool ((isNil y11) && (isNil y13))))]) (i := 3) ?_ (fun HJ => ?_)
      · intro b
        show S _ _ _ _ _ _
        refine s_pu (d := some 34) (v := (.bool ((isNil y11) && (isNil y13)))) rfl rfl rfl (r_move rfl) ?_
        refine S_meet (l := [(5, (.int .i64 y12)), (37, (.bool (((isNil y11) && (isNil y13)) && (decide (y10 = 8)))))]) (i := 3) ?_ (fun HJ => ?_)
        · intro b
          show S _ _ _ _ _ _
          refine s_pu (d := some 38) (v := (.bool (((isNil y11) && (isNil y13)) && (decide (y10 = 8))))) rfl rfl rfl (r_move rfl) ?_
          refine S_meet (l := [(41, (.bool ((((isNil y11) && (isNil y13)) && (decide (y10 = 8))) && (decide (y12 = 3)))))]) (i := 3) ?_ (fun HJ => ?_)
          · intro b
            show S _ _ _ _ _ _
            obtain ⟨x25, e26⟩ : ∃ x : Bool, x = ((((isNil y11) && (isNil y13)) && (decide (y10 = 8))) && (decide (y12 = 3))) := ⟨_, rfl⟩
            have H := H x25 e26
            refine s_pu (d := some 0) (v := (.bool x25)) rfl rfl rfl (r_assign (congrArg Value.bool e26.symm)) ?_
            refine s_fin ?_
            show W _ _ _ _ _ _ _ _
            refine W_ret ?_
            exact ⟨[(.bool x25)], ⟨_, _, rfl, rfl, rfl⟩, x25, rfl, H⟩
          · rcases Bool.eq_false_or_eq_true (((isNil y11) && (isNil y13)) && (decide (y10 = 8))) with g22 | g22
            · refine s_pu (d := some 39) (v := (.int .i64 y12)) rfl rfl (wants_yes rfl rfl rfl rfl g22) (r_move rfl) ?_
              refine s_pu (d := some 40) (v := (.bool (decide (y12 = 3)))) rfl rfl (wants_yes rfl rfl rfl rfl g22) (r_eql rfl rfl) ?_
              refine s_pu (d := some 41) (v := (.bool (decide (y12 = 3)))) rfl rfl rfl (r_pick1 rfl g22 rfl) ?_
              exact S_mk (l := [(41, (.bool ((((isNil y11) && (isNil y13)) && (decide (y10 = 8))) && (decide (y12 = 3)))))]) HJ ⟨(by rw [g22]; rfl), trivial⟩
            · refine s_sk (d := some 39) rfl rfl (wants_no rfl rfl rfl rfl g22) ?_
              refine s_sk (d := some 40) rfl rfl (wants_no rfl rfl rfl rfl g22) ?_
              refine s_pu (d := some 41) (v := (.bool false)) rfl rfl rfl (r_pick0 rfl g22 rfl) ?_
              exact S_mk (l := [(41, (.bool ((((isNil y11) && (isNil y13)) && (decide (y10 = 8))) && (decide (y12 = 3)))))]) HJ ⟨(by rw [g22]; rfl), trivial⟩
        · rcases Bool.eq_false_or_eq_true ((isNil y11) && (isNil y13)) with g19 | g19
          · refine s_pu (d := some 35) (v := (.int .i64 y10)) rfl rfl (wants_yes rfl rfl rfl rfl g19) (r_move rfl) ?_
            refine s_pu (d := some 36) (v := (.bool (decide (y10 = 8)))) rfl rfl (wants_yes rfl rfl rfl rfl g19) (r_eql rfl rfl) ?_
            refine s_pu (d := some 37) (v := (.bool (decide (y10 = 8)))) rfl rfl rfl (r_pick1 rfl g19 rfl) ?_
            exact S_mk (l := [(5, (.int .i64 y12)), (37, (.bool (((isNil y11) && (isNil y13)) && (decide (y10 = 8)))))]) HJ ⟨rfl, (by rw [g19]; rfl), trivial⟩
          · refine s_sk (d := some 35) rfl rfl (wants_no rfl rfl rfl rfl g19) ?_
            refine s_sk (d := some 36) rfl rfl (wants_no rfl rfl rfl rfl g19) ?_
            refine s_pu (d := some 37) (v := (.bool false)) rfl rfl rfl (r_pick0 rfl g19 rfl) ?_
            exact S_mk (l := [(5, (.int .i64 y12)), (37, (.bool (((isNil y11) && (isNil y13)) && (decide (y10 = 8)))))]) HJ ⟨rfl, (by rw [g19]; rfl), trivial⟩
      · rcases Bool.eq_false_or_eq_true (isNil y11) with g15 | g15
        · refine s_pu (d := some 31) (v := y13) rfl rfl (wants_yes rfl rfl rfl rfl g15) (r_move rfl) ?_
          refine s_pu (d := some 32) (v := (.bool (isNil y13))) rfl rfl (wants_yes rfl rfl rfl rfl g15) (r_nilI Try.underlying26 rfl e16 rfl) ?_
          refine s_pu (d := some 33) (v := (.bool (isNil y13))) rfl rfl rfl (r_pick1 rfl g15 rfl) ?_
          exact S_mk (l := [(3, (.int .i64 y10)), (5, (.int .i64 y12)), (33, (.bool ((isNil y11) && (isNil y13))))]) HJ ⟨rfl, rfl, (by rw [g15]; rfl), trivial⟩
        · refine s_sk (d := some 31) rfl rfl (wants_no rfl rfl rfl rfl g15) ?_
          refine s_sk (d := some 32) rfl rfl (wants_no rfl rfl rfl rfl g15) ?_
          refine s_pu (d := some 33) (v := (.bool false)) rfl rfl rfl (r_pick0 rfl g15 rfl) ?_
          exact S_mk (l := [(3, (.int .i64 y10)), (5, (.int .i64 y12)), (33, (.bool ((isNil y11) && (isNil y13))))]) HJ ⟨rfl, rfl, (by rw [g15]; rfl), trivial⟩
  · rcases Bool.eq_false_or_eq_true (!(isNil y5)) with g7 | g7
    · refine s_sk (d := some 15) rfl rfl (wants_no rfl rfl rfl rfl g7) ?_
      refine s_sk (d := some 16) rfl rfl (wants_no rfl rfl rfl rfl g7) ?_
      refine s_pu (d := some 17) (v := (.bool true)) rfl rfl rfl (r_pick1 rfl g7 rfl) ?_
      exact S_mk (l := [(1, (.pointer y4)), (17, (.bool ((!(isNil y5)) || (Option.isNone y4))))]) HJ ⟨rfl, (by rw [g7]; rfl), trivial⟩
    · refine s_pu (d := some 15) (v := (.pointer y4)) rfl rfl (wants_yes rfl rfl rfl rfl g7) (r_move rfl) ?_
      refine s_pu (d := some 16) (v := (.bool (Option.isNone y4))) rfl rfl (wants_yes rfl rfl rfl rfl g7) (r_nilP Try.underlying45 rfl rfl) ?_
      refine s_pu (d := some 17) (v := (.bool (Option.isNone y4))) rfl rfl rfl (r_pick0 rfl g7 rfl) ?_
      exact S_mk (l := [(1, (.pointer y4)), (17, (.bool ((!(isNil y5)) || (Option.isNone y4))))]) HJ ⟨rfl, (by rw [g7]; rfl), trivial⟩

/-! ### law5_within -/

def law5_within_F (r : World) (n1 : Int) (i2 : Int) (j3 : Int) (h : Heap) (R : Bool → Heap → Prop) : Prop :=
  ∀ x10 : Bool, x10 = (((decide (0 ≤ i2)) && (decide (i2 ≤ j3))) && (decide (j3 ≤ n1))) →
  R x10 h

set_option maxRecDepth 100000 in
theorem law5_within_of {r : World} {n1 : Int} {i2 : Int} {j3 : Int} {h : Heap} {R : Bool → Heap → Prop} (H : law5_within_F r n1 i2 j3 h R) : law5_within r n1 i2 j3 h R := by
  unfold law5_within_F at H
  refine calls_of 19 [.tmp 6] Try.func24 rfl rfl rfl rfl rfl ?_
  refine W_seq ?_
  refine W_region (.pu 0 .fin) rfl rfl ?_
  refine s_pu (d := some 6) (v := (.bool false)) rfl rfl rfl (r_assign rfl) ?_
  refine s_fin ?_
  show W _ _ _ _ _ _ _ _
  refine W_seq ?_
  refine W_region (.pu 0 (.pu 1 (.pu 2 (.pu 3 (.pu 4 (.pu 5 (.pu 6 (.pu 7 (.pu 8 (.pu 9 (.pu 10 (.pu 11 (.pu 12 .fin))))))))))))) rfl rfl ?_
  refine s_pu (d := some 7) (v := (.int .i64 i2)) rfl rfl rfl (r_move rfl) ?_
  refine s_pu (d := some 8) (v := (.bool (decide (0 ≤ i2)))) rfl rfl rfl (r_geq rfl rfl) ?_
  refine s_pu (d := some 9) (v := (.bool (decide (0 ≤ i2)))) rfl rfl rfl (r_move rfl) ?_
  refine S_meet (l := [(0, (.int .i64 n1)), (2, (.int .i64 j3)), (13, (.bool ((decide (0 ≤ i2)) && (decide (i2 ≤ j3)))))]) (i := 4) ?_ (fun HJ => ?_)
  · intro b
    show S _ _ _ _ _ _
    refine s_pu (d := some 14) (v := (.bool ((decide (0 ≤ i2)) && (decide (i2 ≤ j3))))) rfl rfl rfl (r_move rfl) ?_
    refine S_meet (l := [(18, (.bool (((decide (0 ≤ i2)) && (decide (i2 ≤ j3))) && (decide (j3 ≤ n1)))))]) (i := 4) ?_ (fun HJ => ?_)
    · intro b
      show S _ _ _ _ _ _
      obtain ⟨x10, e11⟩ : ∃ x : Bool, x = (((decide (0 ≤ i2)) && (decide (i2 ≤ j3))) && (decide (j3 ≤ n1))) := ⟨_, rfl⟩
      have H := H x10 e11
      refine s_pu (d := some 6) (v := (.bool x10)) rfl rfl rfl (r_assign (congrArg Value.bool e11.symm)) ?_
      refine s_fin ?_
      show W _ _ _ _ _ _ _ _
      refine W_ret ?_
      exact ⟨[(.bool x10)], ⟨_, _, rfl, rfl, rfl⟩, x10, rfl, H⟩
    · rcases Bool.eq_false_or_eq_true ((decide (0 ≤ i2)) && (decide (i2 ≤ j3))) with g7 | g7
      · refine s_pu (d := some 15) (v := (.int .i64 j3)) rfl rfl (wants_yes rfl rfl rfl rfl g7) (r_move rfl) ?_
        refine s_pu (d := some 16) (v := (.int .i64 n1)) rfl rfl (wants_yes rfl rfl rfl rfl g7) (r_move rfl) ?_
        refine s_pu (d := some 17) (v := (.bool (decide (j3 ≤ n1)))) rfl rfl (wants_yes rfl rfl rfl rfl g7) (r_leq rfl rfl) ?_
        refine s_pu (d := some 18) (v := (.bool (decide (j3 ≤ n1)))) rfl rfl rfl (r_pick1 rfl g7 rfl) ?_
        exact S_mk (l := [(18, (.bool (((decide (0 ≤ i2)) && (decide (i2 ≤ j3))) && (decide (j3 ≤ n1)))))]) HJ ⟨(by rw [g7]; rfl), trivial⟩
      · refine s_sk (d := some 15) rfl rfl (wants_no rfl rfl rfl rfl g7) ?_
        refine s_sk (d := some 16) rfl rfl (wants_no rfl rfl rfl rfl g7) ?_
        refine s_sk (d := some 17) rfl rfl (wants_no rfl rfl rfl rfl g7) ?_
        refine s_pu (d := some 18) (v := (.bool false)) rfl rfl rfl (r_pick0 rfl g7 rfl) ?_
        exact S_mk (l := [(18, (.bool (((decide (0 ≤ i2)) && (decide (i2 ≤ j3))) && (decide (j3 ≤ n1)))))]) HJ ⟨(by rw [g7]; rfl), trivial⟩
  · rcases Bool.eq_false_or_eq_true (decide (0 ≤ i2)) with g4 | g4
    · refine s_pu (d := some 10) (v := (.int .i64 i2)) rfl rfl (wants_yes rfl rfl rfl rfl g4) (r_move rfl) ?_
      refine s_pu (d := some 11) (v := (.int .i64 j3)) rfl rfl (wants_yes rfl rfl rfl rfl g4) (r_move rfl) ?_
      refine s_pu (d := some 12) (v := (.bool (decide (i2 ≤ j3)))) rfl rfl (wants_yes rfl rfl rfl rfl g4) (r_leq rfl rfl) ?_
      refine s_pu (d := some 13) (v := (.bool (decide (i2 ≤ j3)))) rfl rfl rfl (r_pick1 rfl g4 rfl) ?_
      exact S_mk (l := [(0, (.int .i64 n1)), (2, (.int .i64 j3)), (13, (.bool ((decide (0 ≤ i2)) && (decide (i2 ≤ j3)))))]) HJ ⟨rfl, rfl, (by rw [g4]; rfl), trivial⟩
    · refine s_sk (d := some 10) rfl rfl (wants_no rfl rfl rfl rfl g4) ?_
      refine s_sk (d := some 11) rfl rfl (wants_no rfl rfl rfl rfl g4) ?_
      refine s_sk (d := some 12) rfl rfl (wants_no rfl rfl rfl rfl g4) ?_
      refine s_pu (d := some 13) (v := (.bool false)) rfl rfl rfl (r_pick0 rfl g4 rfl) ?_
      exact S_mk (l := [(0, (.int .i64 n1)), (2, (.int .i64 j3)), (13, (.bool ((decide (0 ≤ i2)) && (decide (i2 ≤ j3)))))]) HJ ⟨rfl, rfl, (by rw [g4]; rfl), trivial⟩

/-! ### law5_SegParts -/

def law5_SegParts_F (r : World) (l1 : Sl) (i2 : Int) (j3 : Int) (k4 : Int) (x5 : Int) (h : Heap) (R : Bool → Heap → Prop) : Prop :=
  law5_segged r h fun y6 h1 =>
  seg_New r l1 h1 fun y7 y8 h2 =>
  Br (!y6) (
    R false h2) (
    (isIface y8 = true) ∧
    Br (((!(isNil y8)) || (Option.isNone y7)) || (decide (200 < ((l1.len : Int))))) (
      (isIface y8 = true) ∧
      R ((!(isNil y8)) || (!(Option.isNone y7))) h2) (
      seg_Seg_Add r y7 i2 k4 x5 h2 fun y21 h3 =>
      (isIface y21 = true) ∧
      Br (((decide (j3 ≤ i2)) || (decide (k4 ≤ j3))) || (!(isNil y21))) (
        ∀ J30 : Bool → Heap → Prop, (∀ (x29 : Bool) (h4 : Heap),
          (R x29 h4) →
          J30 x29 h4) →
        (isIface y21 = true) ∧
        Br (isNil y21) (
          J30 true h3) (
          law5_within r ((l1.len : Int)) i2 k4 h3 fun y34 h5 =>
          J30 (!y34) h5)) (
        seg_Seg_Sum r y7 i2 j3 h3 fun y35 y36 h6 =>
        seg_Seg_Sum r y7 j3 k4 h6 fun y37 y38 h7 =>
        seg_Seg_Sum r y7 i2 k4 h7 fun y39 y40 h8 =>
        seg_Seg_Least r y7 i2 j3 h8 fun y41 y42 h9 =>
        seg_Seg_Least r y7 j3 k4 h9 fun y43 y44 h10 =>
        seg_Seg_Least r y7 i2 k4 h10 fun y45 y46 h11 =>
        seg_Seg_Most r y7 i2 j3 h11 fun y47 y48 h12 =>
        seg_Seg_Most r y7 j3 k4 h12 fun y49 y50 h13 =>
        seg_Seg_Most r y7 i2 k4 h13 fun y51 y52 h14 =>
        (isIface y36 = true) ∧
        (isIface y38 = true) ∧
        (isIface y40 = true) ∧
        (isIface y42 = true) ∧
        (isIface y44 = true) ∧
        (isIface y46 = true) ∧
        (isIface y48 = true) ∧
        (isIface y50 = true) ∧
        (isIface y52 = true) ∧
        Br (((((((((!(isNil y36)) || (!(isNil y38))) || (!(isNil y40))) || (!(isNil y42))) || (!(isNil y44))) || (!(isNil y46))) || (!(isNil y48))) || (!(isNil y50))) || (!(isNil y52))) (
          R false h14) (
          ∀ x92 : Bool, x92 = (((decide (y39 = (w64 (y35 + y37)))) && (decide (y45 = (min y41 y43)))) && (decide (y51 = (max y47 y49)))) →
          R x92 h14))))

set_option maxRecDepth 100000 in
theorem law5_SegParts_of {r : World} {l1 : Sl} {i2 : Int} {j3 : Int} {k4 : Int} {x5 : Int} {h : Heap} {R : Bool → Heap → Prop} (H : law5_SegParts_F r l1 i2 j3 k4 x5 h R) : law5_SegParts r l1 i2 j3 k4 x5 h R := by
  unfold law5_SegParts_F at H
  refine calls_of 201 [.tmp 10] Try.func5 rfl rfl rfl rfl rfl ?_
  refine W_seq ?_
  refine W_region (.pu 0 .fin) rfl rfl ?_
  refine s_pu (d := some 10) (v := (.bool false)) rfl rfl rfl (r_assign rfl) ?_
  refine s_fin ?_
  show W _ _ _ _ _ _ _ _
  refine W_seq ?_
  refine W_region (.ef 0 [] (.pu 1 .fin) .no) rfl rfl ?_
  refine s_ef (d := some 33) rfl rfl rfl (fun dr => r_call Try.call21 rfl rfl H) ?_ trivial
  rintro _ h1 ⟨y6, rfl, H⟩
  refine ⟨trivial, ?_⟩
  refine s_pu (d := some 11) (v := (.bool y6)) rfl rfl rfl (r_assign rfl) ?_
  refine s_fin ?_
  show W _ _ _ _ _ _ _ _
  refine W_seq ?_
  refine W_region (.pu 0 (.ef 1 [] (.pu 2 (.pu 3 (.pu 4 (.pu 5 (.pu 6 .fin))))) .no)) rfl rfl ?_
  refine s_pu (d := some 35) (v := (Sl.v l1)) rfl rfl rfl (r_move rfl) ?_
  refine s_ef (d := some 36) rfl rfl rfl (fun dr => r_call Try.call22 rfl rfl H) ?_ trivial
  rintro _ h2 ⟨y7, y8, rfl, H⟩
  refine ⟨trivial, ?_⟩
  refine s_pu (d := some 34) (v := (.tuple #[(.pointer y7), y8])) rfl rfl rfl (r_move rfl) ?_
  refine s_pu (d := some 37) (v := (.pointer y7)) rfl rfl rfl (r_extract rfl rfl) ?_
  refine s_pu (d := some 38) (v := y8) rfl rfl rfl (r_extract rfl rfl) ?_
  refine s_pu (d := some 12) (v := (.pointer y7)) rfl rfl rfl (r_assign rfl) ?_
  refine s_pu (d := some 13) (v := y8) rfl rfl rfl (r_assign rfl) ?_
  refine s_fin ?_
  show W _ _ _ _ _ _ _ _
  refine W_seq ?_
  refine W_seq ?_
  refine W_region (.pu 0 (.pu 1 .fin)) rfl rfl ?_
  refine s_pu (d := some 39) (v := (.bool y6)) rfl rfl rfl (r_move rfl) ?_
  refine s_pu (d := some 40) (v := (.bool (!y6))) rfl rfl rfl (r_not rfl) ?_
  refine s_fin ?_
  show W _ _ _ _ _ _ _ _
  refine W_if (!y6) rfl (fun g111 => ?_) (fun g111 => ?_)
  · have H := H.1 g111
    refine W_seq ?_
    refine W_region (.pu 0 .fin) rfl rfl ?_
    refine s_pu (d := some 10) (v := (.bool false)) rfl rfl rfl (r_assign rfl) ?_
    refine s_fin ?_
    show W _ _ _ _ _ _ _ _
    refine W_ret ?_
    exact ⟨[(.bool false)], ⟨_, _, rfl, rfl, rfl⟩, false, rfl, H⟩
  · have H := H.2 g111
    refine W_skip ?_
    show W _ _ _ _ _ _ _ _
    refine W_seq ?_
    refine W_seq ?_
    refine W_region (.pu 0 (.pu 1 (.pu 2 (.pu 3 (.pu 4 (.pu 5 (.pu 6 (.pu 7 (.pu 8 (.pu 9 (.pu 10 .fin))))))))))) rfl rfl ?_
    refine s_pu (d := some 41) (v := y8) rfl rfl rfl (r_move rfl) ?_
    obtain ⟨e9, H⟩ := H
    refine s_pu (d := some 42) (v := (.bool (!(isNil y8)))) rfl rfl rfl (r_notNilI Try.underlying26 rfl e9 rfl) ?_
    refine s_pu (d := some 43) (v := (.bool (!(isNil y8)))) rfl rfl rfl (r_move rfl) ?_
    refine S_meet (l := [(0, (Sl.v l1)), (1, (.int .i64 i2)), (2, (.int .i64 j3)), (3, (.int .i64 k4)), (4, (.int .i64 x5)), (12, (.pointer y7)), (13, y8), (46, (.bool ((!(isNil y8)) || (Option.isNone y7))))]) (i := 3) ?_ (fun HJ => ?_)
    · intro b
      show S _ _ _ _ _ _
      refine s_pu (d := some 47) (v := (.bool ((!(isNil y8)) || (Option.isNone y7)))) rfl rfl rfl (r_move rfl) ?_
      refine S_meet (l := [(0, (Sl.v l1)), (1, (.int .i64 i2)), (2, (.int .i64 j3)), (3, (.int .i64 k4)), (4, (.int .i64 x5)), (12, (.pointer y7)), (13, y8), (51, (.bool (((!(isNil y8)) || (Option.isNone y7)) || (decide (200 < ((l1.len : Int)))))))]) (i := 4) ?_ (fun HJ => ?_)
      · intro b
        show S _ _ _ _ _ _
        refine s_fin ?_
        show W _ _ _ _ _ _ _ _
        refine W_if (((!(isNil y8)) || (Option.isNone y7)) || (decide (200 < ((l1.len : Int))))) rfl (fun g108 => ?_) (fun g108 => ?_)
        · have H := H.1 g108
          refine W_seq ?_
          refine W_region (.pu 0 (.pu 1 (.pu 2 (.pu 3 (.pu 4 (.pu 5 (.pu 6 .fin))))))) rfl rfl ?_
          refine s_pu (d := some 52) (v := y8) rfl rfl rfl (r_move rfl) ?_
          obtain ⟨e16, H⟩ := H
          refine s_pu (d := some 53) (v := (.bool (!(isNil y8)))) rfl rfl rfl (r_notNilI Try.underlying26 rfl e16 rfl) ?_
          refine s_pu (d := some 54) (v := (.bool (!(isNil y8)))) rfl rfl rfl (r_move rfl) ?_
          refine S_meet (l := [(57, (.bool ((!(isNil y8)) || (!(Option.isNone y7)))))]) (i := 3) ?_ (fun HJ => ?_)
          · intro b
            show S _ _ _ _ _ _
            refine s_pu (d := some 10) (v := (.bool ((!(isNil y8)) || (!(Option.isNone y7))))) rfl rfl rfl (r_assign rfl) ?_
            refine s_fin ?_
            show W _ _ _ _ _ _ _ _
            refine W_ret ?_
            exact ⟨[(.bool ((!(isNil y8)) || (!(Option.isNone y7))))], ⟨_, _, rfl, rfl, rfl⟩, ((!(isNil y8)) || (!(Option.isNone y7))), rfl, H⟩
          · rcases Bool.eq_false_or_eq_true (!(isNil y8)) with g17 | g17
            · refine s_sk (d := some 55) rfl rfl (wants_no rfl rfl rfl rfl g17) ?_
              refine s_sk (d := some 56) rfl rfl (wants_no rfl rfl rfl rfl g17) ?_
              refine s_pu (d := some 57) (v := (.bool true)) rfl rfl rfl (r_pick1 rfl g17 rfl) ?_
              exact S_mk (l := [(57, (.bool ((!(isNil y8)) || (!(Option.isNone y7)))))]) HJ ⟨(by rw [g17]; rfl), trivial⟩
            · refine s_pu (d := some 55) (v := (.pointer y7)) rfl rfl (wants_yes rfl rfl rfl rfl g17) (r_move rfl) ?_
              refine s_pu (d := some 56) (v := (.bool (!(Option.isNone y7)))) rfl rfl (wants_yes rfl rfl rfl rfl g17) (r_notNilP Try.underlying45 rfl rfl) ?_
              refine s_pu (d := some 57) (v := (.bool (!(Option.isNone y7)))) rfl rfl rfl (r_pick0 rfl g17 rfl) ?_
              exact S_mk (l := [(57, (.bool ((!(isNil y8)) || (!(Option.isNone y7)))))]) HJ ⟨(by rw [g17]; rfl), trivial⟩
        · have H := H.2 g108
          refine W_skip ?_
          show W _ _ _ _ _ _ _ _
          refine W_seq ?_
          refine W_region (.pu 0 (.pu 1 (.pu 2 (.pu 3 (.ef 4 [] (.pu 5 .fin) .no))))) rfl rfl ?_
          refine s_pu (d := some 58) (v := (.pointer y7)) rfl rfl rfl (r_move rfl) ?_
          refine s_pu (d := some 59) (v := (.int .i64 i2)) rfl rfl rfl (r_move rfl) ?_
          refine s_pu (d := some 60) (v := (.int .i64 k4)) rfl rfl rfl (r_move rfl) ?_
          refine s_pu (d := some 61) (v := (.int .i64 x5)) rfl rfl rfl (r_move rfl) ?_
          refine s_ef (d := some 62) rfl rfl rfl (fun dr => r_call Try.call23 rfl rfl H) ?_ trivial
          rintro y21 h3 H
          refine ⟨trivial, ?_⟩
          refine s_pu (d := some 14) (v := y21) rfl rfl rfl (r_assign rfl) ?_
          refine s_fin ?_
          show W _ _ _ _ _ _ _ _
          refine W_seq ?_
          refine W_seq ?_
          refine W_region (.pu 0 (.pu 1 (.pu 2 (.pu 3 (.pu 4 (.pu 5 (.pu 6 (.pu 7 (.pu 8 (.pu 9 (.pu 10 (.pu 11 .fin)))))))))))) rfl rfl ?_
          refine s_pu (d := some 63) (v := (.int .i64 i2)) rfl rfl rfl (r_move rfl) ?_
          refine s_pu (d := some 64) (v := (.int .i64 j3)) rfl rfl rfl (r_move rfl) ?_
          refine s_pu (d := some 65) (v := (.bool (decide (j3 ≤ i2)))) rfl rfl rfl (r_geq rfl rfl) ?_
          refine s_pu (d := some 66) (v := (.bool (decide (j3 ≤ i2)))) rfl rfl rfl (r_move rfl) ?_
          refine S_meet (l := [(0, (Sl.v l1)), (1, (.int .i64 i2)), (2, (.int .i64 j3)), (3, (.int .i64 k4)), (12, (.pointer y7)), (14, y21), (70, (.bool ((decide (j3 ≤ i2)) || (decide (k4 ≤ j3)))))]) (i := 4) ?_ (fun HJ => ?_)
          · intro b
            show S _ _ _ _ _ _
            refine s_pu (d := some 71) (v := (.bool ((decide (j3 ≤ i2)) || (decide (k4 ≤ j3))))) rfl rfl rfl (r_move rfl) ?_
            obtain ⟨e26, H⟩ := H
            refine S_meet (l := [(0, (Sl.v l1)), (1, (.int .i64 i2)), (2, (.int .i64 j3)), (3, (.int .i64 k4)), (12, (.pointer y7)), (14, y21), (74, (.bool (((decide (j3 ≤ i2)) || (decide (k4 ≤ j3))) || (!(isNil y21)))))]) (i := 3) ?_ (fun HJ => ?_)
            · intro b
              show S _ _ _ _ _ _
              refine s_fin ?_
              show W _ _ _ _ _ _ _ _
              refine W_if (((decide (j3 ≤ i2)) || (decide (k4 ≤ j3))) || (!(isNil y21))) rfl (fun g105 => ?_) (fun g105 => ?_)
              · have H := H.1 g105
                refine W_seq ?_
                refine W_set ?_
                intro N31 eN31
                have H := H (fun (x29 : Bool) (h4 : Heap) => ∀ b, N31 [] (mkE [(10, (.bool x29))] b) h4) (by
                  intro x29 h4 H b
                  rw [eN31]
                  show W _ _ _ _ _ _ _ _
                  refine W_ret ?_
                  exact ⟨[(.bool x29)], ⟨_, _, rfl, rfl, rfl⟩, x29, rfl, H⟩)
                clear eN31
                refine W_region (.pu 0 (.pu 1 (.pu 2 (.pu 3 (.pu 4 (.pu 5 (.pu 6 (.ef 7 [] (.pu 8 (.pu 9 (.pu 10 .fin))) .no)))))))) rfl rfl ?_
                refine s_pu (d := some 75) (v := y21) rfl rfl rfl (r_move rfl) ?_
                obtain ⟨e32, H⟩ := H
                refine s_pu (d := some 76) (v := (.bool (isNil y21))) rfl rfl rfl (r_nilI Try.underlying26 rfl e32 rfl) ?_
                refine s_pu (d := some 77) (v := (.bool (isNil y21))) rfl rfl rfl (r_move rfl) ?_
                rcases Bool.eq_false_or_eq_true (isNil y21) with g33 | g33
                · have H := H.1 g33
                  refine s_sk (d := some 78) rfl rfl (wants_no rfl rfl rfl rfl g33) ?_
                  refine s_sk (d := some 79) rfl rfl (wants_no rfl rfl rfl rfl g33) ?_
                  refine s_sk (d := some 80) rfl rfl (wants_no rfl rfl rfl rfl g33) ?_
                  refine s_sk (d := some 81) rfl rfl (wants_no rfl rfl rfl rfl g33) ?_
                  refine s_skf (d := some 82) rfl rfl (wants_no rfl rfl rfl rfl g33) trivial ?_ trivial
                  refine s_sk (d := some 83) rfl rfl (wants_no rfl rfl rfl rfl g33) ?_
                  refine s_pu (d := some 84) (v := (.bool true)) rfl rfl rfl (r_pick1 rfl g33 rfl) ?_
                  refine s_pu (d := some 10) (v := (.bool true)) rfl rfl rfl (r_assign rfl) ?_
                  refine s_fin ?_
                  exact N_mk (l := [(10, (.bool true))]) H ⟨rfl, trivial⟩
                · have H := H.2 g33
                  refine s_pu (d := some 78) (v := (Sl.v l1)) rfl rfl (wants_yes rfl rfl rfl rfl g33) (r_move rfl) ?_
                  refine s_pu (d := some 79) (v := (.int .i64 ((l1.len : Int)))) rfl rfl (wants_yes rfl rfl rfl rfl g33) (r_len Try.underlying22 rfl) ?_
                  refine s_pu (d := some 80) (v := (.int .i64 i2)) rfl rfl (wants_yes rfl rfl rfl rfl g33) (r_move rfl) ?_
                  refine s_pu (d := some 81) (v := (.int .i64 k4)) rfl rfl (wants_yes rfl rfl rfl rfl g33) (r_move rfl) ?_
                  refine s_ef (d := some 82) rfl rfl (wants_yes rfl rfl rfl rfl g33) (fun dr => r_call Try.call24 rfl rfl H) ?_ trivial
                  rintro _ h5 ⟨y34, rfl, H⟩
                  refine ⟨trivial, ?_⟩
                  refine s_pu (d := some 83) (v := (.bool (!y34))) rfl rfl (wants_yes rfl rfl rfl rfl g33) (r_not rfl) ?_
                  refine s_pu (d := some 84) (v := (.bool (!y34))) rfl rfl rfl (r_pick0 rfl g33 rfl) ?_
                  refine s_pu (d := some 10) (v := (.bool (!y34))) rfl rfl rfl (r_assign rfl) ?_
                  refine s_fin ?_
                  exact N_mk (l := [(10, (.bool (!y34)))]) H ⟨rfl, trivial⟩
              · have H := H.2 g105
                refine W_skip ?_
                show W _ _ _ _ _ _ _ _
                refine W_seq ?_
                refine W_region (.pu 0 (.pu 1 (.pu 2 (.ef 3 [] (.pu 4 (.pu 5 (.pu 6 (.pu 7 (.pu 8 .fin))))) .no)))) rfl rfl ?_
                refine s_pu (d := some 86) (v := (.pointer y7)) rfl rfl rfl (r_move rfl) ?_
                refine s_pu (d := some 87) (v := (.int .i64 i2)) rfl rfl rfl (r_move rfl) ?_
                refine s_pu (d := some 88) (v := (.int .i64 j3)) rfl rfl rfl (r_move rfl) ?_
                refine s_ef (d := some 89) rfl rfl rfl (fun dr => r_call Try.call25 rfl rfl H) ?_ trivial
                rintro _ h6 ⟨y35, y36, rfl, H⟩
                refine ⟨trivial, ?_⟩
                refine s_pu (d := some 85) (v := (.tuple #[(.int .i64 y35), y36])) rfl rfl rfl (r_move rfl) ?_
                refine s_pu (d := some 90) (v := (.int .i64 y35)) rfl rfl rfl (r_extract rfl rfl) ?_
                refine s_pu (d := some 91) (v := y36) rfl rfl rfl (r_extract rfl rfl) ?_
                refine s_pu (d := some 15) (v := (.int .i64 y35)) rfl rfl rfl (r_assign rfl) ?_
                refine s_pu (d := some 16) (v := y36) rfl rfl rfl (r_assign rfl) ?_
                refine s_fin ?_
                show W _ _ _ _ _ _ _ _
                refine W_seq ?_
                refine W_region (.pu 0 (.pu 1 (.pu 2 (.ef 3 [] (.pu 4 (.pu 5 (.pu 6 (.pu 7 (.pu 8 .fin))))) .no)))) rfl rfl ?_
                refine s_pu (d := some 93) (v := (.pointer y7)) rfl rfl rfl (r_move rfl) ?_
                refine s_pu (d := some 94) (v := (.int .i64 j3)) rfl rfl rfl (r_move rfl) ?_
                refine s_pu (d := some 95) (v := (.int .i64 k4)) rfl rfl rfl (r_move rfl) ?_
                refine s_ef (d := some 96) rfl rfl rfl (fun dr => r_call Try.call25 rfl rfl H) ?_ trivial
                rintro _ h7 ⟨y37, y38, rfl, H⟩
                refine ⟨trivial, ?_⟩
                refine s_pu (d := some 92) (v := (.tuple #[(.int .i64 y37), y38])) rfl rfl rfl (r_move rfl) ?_
                refine s_pu (d := some 97) (v := (.int .i64 y37)) rfl rfl rfl (r_extract rfl rfl) ?_
                refine s_pu (d := some 98) (v := y38) rfl rfl rfl (r_extract rfl rfl) ?_
                refine s_pu (d := some 17) (v := (.int .i64 y37)) rfl rfl rfl (r_assign rfl) ?_
                refine s_pu (d := some 18) (v := y38) rfl rfl rfl (r_assign rfl) ?_
                refine s_fin ?_
                show W _ _ _ _ _ _ _ _
                refine W_seq ?_
                refine W_region (.pu 0 (.pu 1 (.pu 2 (.ef 3 [] (.pu 4 (.pu 5 (.pu 6 (.pu 7 (.pu 8 .fin))))) .no)))) rfl rfl ?_
                refine s_pu (d := some 100) (v := (.pointer y7)) rfl rfl rfl (r_move rfl) ?_
                refine s_pu (d := some 101) (v := (.int .i64 i2)) rfl rfl rfl (r_move rfl) ?_
                refine s_pu (d := some 102) (v := (.int .i64 k4)) rfl rfl rfl (r_move rfl) ?_
                refine s_ef (d := some 103) rfl rfl rfl (fun dr => r_call Try.call25 rfl rfl H) ?_ trivial
                rintro _ h8 ⟨y39, y40, rfl, H⟩
                refine ⟨trivial, ?_⟩
                refine s_pu (d := some 99) (v := (.tuple #[(.int .i64 y39), y40])) rfl rfl rfl (r_move rfl) ?_
                refine s_pu (d := some 104) (v := (.int .i64 y39)) rfl rfl rfl (r_extract rfl rfl) ?_
                refine s_pu (d := some 105) (v := y40) rfl rfl rfl (r_extract rfl rfl) ?_
                refine s_pu (d := some 19) (v := (.int .i64 y39)) rfl rfl rfl (r_assign rfl) ?_
                refine s_pu (d := some 20) (v := y40) rfl rfl rfl (r_assign rfl) ?_
                refine s_fin ?_
                show W _ _ _ _ _ _ _ _
                refine W_seq ?_
                refine W_region (.pu 0 (.pu 1 (.pu 2 (.ef 3 [] (.pu 4 (.pu 5 (.pu 6 (.pu 7 (.pu 8 .fin))))) .no)))) rfl rfl ?_
                refine s_pu (d := some 107) (v := (.pointer y7)) rfl rfl rfl (r_move rfl) ?_
                refine s_pu (d := some 108) (v := (.int .i64 i2)) rfl rfl rfl (r_move rfl) ?_
                refine s_pu (d := some 109) (v := (.int .i64 j3)) rfl rfl rfl (r_move rfl) ?_
                refine s_ef (d := some 110) rfl rfl rfl (fun dr => r_call Try.call26 rfl rfl H) ?_ trivial
                rintro _ h9 ⟨y41, y42, rfl, H⟩
                refine ⟨trivial, ?_⟩
                refine s_pu (d := some 106) (v := (.tuple #[(.int .i64 y41), y42])) rfl rfl rfl (r_move rfl) ?_
                refine s_pu (d := some 111) (v := (.int .i64 y41)) rfl rfl rfl (r_extract rfl rfl) ?_
                refine s_pu (d := some 112) (v := y42) rfl rfl rfl (r_extract rfl rfl) ?_
                refine s_pu (d := some 21) (v := (.int .i64 y41)) rfl rfl rfl (r_assign rfl) ?_
                refine s_pu (d := some 22) (v := y42) rfl rfl rfl (r_assign rfl) ?_
                refine s_fin ?_
                show W _ _ _ _ _ _ _ _
                refine W_seq ?_
                refine W_region (.pu 0 (.pu 1 (.pu 2 (.ef 3 [] (.pu 4 (.pu 5 (.pu 6 (.pu 7 (.pu 8 .fin))))) .no)))) rfl rfl ?_
                refine s_pu (d := some 114) (v := (.pointer y7)) rfl rfl rfl (r_move rfl) ?_
                refine s_pu (d := some 115) (v := (.int .i64 j3)) rfl rfl rfl (r_move rfl) ?_
                refine s_pu (d := some 116) (v := (.int .i64 k4)) rfl rfl rfl (r_move rfl) ?_
                refine s_ef (d := some 117) rfl rfl rfl (fun dr => r_call Try.call26 rfl rfl H) ?_ trivial
                rintro _ h10 ⟨y43, y44, rfl, H⟩
                refine ⟨trivial, ?_⟩
                refine s_pu (d := some 113) (v := (.tuple #[(.int .i64 y43), y44])) rfl rfl rfl (r_move rfl) ?_
                refine s_pu (d := some 118) (v := (.int .i64 y43)) rfl rfl rfl (r_extract rfl rfl) ?_
                refine s_pu (d := some 119) (v := y44) rfl rfl rfl (r_extract rfl rfl) ?_
                refine s_pu (d := some 23) (v := (.int .i64 y43)) rfl rfl rfl (r_assign rfl) ?_
                refine s_pu (d := some 24) (v := y44) rfl rfl rfl (r_assign rfl) ?_
                refine s_fin ?_
                show W _ _ _ _ _ _ _ _
                refine W_seq ?_
                refine W_region (.pu 0 (.pu 1 (.pu 2 (.ef 3 [] (.pu 4 (.pu 5 (.pu 6 (.pu 7 (.pu 8 .fin))))) .no)))) rfl rfl ?_
                refine s_pu (d := some 121) (v := (.pointer y7)) rfl rfl rfl (r_move rfl) ?_
                refine s_pu (d := some 122) (v := (.int .i64 i2)) rfl rfl rfl (r_move rfl) ?_
                refine s_pu (d := some 123) (v := (.int .i64 k4)) rfl rfl rfl (r_move rfl) ?_
                refine s_ef (d := some 124) rfl rfl rfl (fun dr => r_call Try.call26 rfl rfl H) ?_ trivial
                rintro _ h11 ⟨y45, y46, rfl, H⟩
                refine ⟨trivial, ?_⟩
                refine s_pu (d := some 120) (v := (.tuple #[(.int .i64 y45), y46])) rfl rfl rfl (r_move rfl) ?_
                refine s_pu (d := some 125) (v := (.int .i64 y45)) rfl rfl rfl (r_extract rfl rfl) ?_
                refine s_pu (d := some 126) (v := y46) rfl rfl rfl (r_extract rfl rfl) ?_
                refine s_pu (d := some 25) (v := (.int .i64 y45)) rfl rfl rfl (r_assign rfl) ?_
                refine s_pu (d := some 26) (v := y46) rfl rfl rfl (r_assign rfl) ?_
                refine s_fin ?_
                show W _ _ _ _ _ _ _ _
                refine W_seq ?_
                refine W_region (.pu 0 (.pu 1 (.pu 2 (.ef 3 [] (.pu 4 (.pu 5 (.pu 6 (.pu 7 (.pu 8 .fin))))) .no)))) rfl rfl ?_
                refine s_pu (d := some 128) (v := (.pointer y7)) rfl rfl rfl (r_move rfl) ?_
                refine s_pu (d := some 129) (v := (.int .i64 i2)) rfl rfl rfl (r_move rfl) ?_
                refine s_pu (d := some 130) (v := (.int .i64 j3)) rfl rfl rfl (r_move rfl) ?_
                refine s_ef (d := some 131) rfl rfl rfl (fun dr => r_call Try.call27 rfl rfl H) ?_ trivial
                rintro _ h12 ⟨y47, y48, rfl, H⟩
                refine ⟨trivial, ?_⟩
                refine s_pu (d := some 127) (v := (.tuple #[(.int .i64 y47), y48])) rfl rfl rfl (r_move rfl) ?_
                refine s_pu (d := some 132) (v := (.int .i64 y47)) rfl rfl rfl (r_extract rfl rfl) ?_
                refine s_pu (d := some 133) (v := y48) rfl rfl rfl (r_extract rfl rfl) ?_
                refine s_pu (d := some 27) (v := (.int .i64 y47)) rfl rfl rfl (r_assign rfl) ?_
                refine s_pu (d := some 28) (v := y48) rfl rfl rfl (r_assign rfl) ?_
                refine s_fin ?_
                show W _ _ _ _ _ _ _ _
                refine W_seq ?_
                refine W_region (.pu 0 (.pu 1 (.pu 2 (.ef 3 [] (.pu 4 (.pu 5 (.pu 6 (.pu 7 (.pu 8 .fin))))) .no)))) rfl rfl ?_
                refine s_pu (d := some 135) (v := (.pointer y7)) rfl rfl rfl (r_move rfl) ?_
                refine s_pu (d := some 136) (v := (.int .i64 j3)) rfl rfl rfl (r_move rfl) ?_
                refine s_pu (d := some 137) (v := (.int .i64 k4)) rfl rfl rfl (r_move rfl) ?_
                refine s_ef (d := some 138) rfl rfl rfl (fun dr => r_call Try.call27 rfl rfl H) ?_ trivial
                rintro _ h13 ⟨y49, y50, rfl, H⟩
                refine ⟨trivial, ?_⟩
                refine s_pu (d := some 134) (v := (.tuple #[(.int .i64 y49), y50])) rfl rfl rfl (r_move rfl) ?_
                refine s_pu (d := some 139) (v := (.int .i64 y49)) rfl rfl rfl (r_extract rfl rfl) ?_
                refine s_pu (d := some 140) (v := y50) rfl rfl rfl (r_extract rfl rfl) ?_
                refine s_pu (d := some 29) (v := (.int .i64 y49)) rfl rfl rfl (r_assign rfl) ?_
                refine s_pu (d := some 30) (v := y50) rfl rfl rfl (r_assign rfl) ?_
                refine s_fin ?_
                show W _ _ _ _ _ _ _ _
                refine W_seq ?_
                refine W_region (.pu 0 (.pu 1 (.pu 2 (.ef 3 [] (.pu 4 (.pu 5 (.pu 6 (.pu 7 (.pu 8 .fin))))) .no)))) rfl rfl ?_
                refine s_pu (d := some 142) (v := (.pointer y7)) rfl rfl rfl (r_move rfl) ?_
                refine s_pu (d := some 143) (v := (.int .i64 i2)) rfl rfl rfl (r_move rfl) ?_
                refine s_pu (d := some 144) (v := (.int .i64 k4)) rfl rfl rfl (r_move rfl) ?_
                refine s_ef (d := some 145) rfl rfl rfl (fun dr => r_call Try.call27 rfl rfl H) ?_ trivial
                rintro _ h14 ⟨y51, y52, rfl, H⟩
                refine ⟨trivial, ?_⟩
                refine s_pu (d := some 141) (v := (.tuple #[(.int .i64 y51), y52])) rfl rfl rfl (r_move rfl) ?_
                refine s_pu (d := some 146) (v := (.int .i64 y51)) rfl rfl rfl (r_extract rfl rfl) ?_
                refine s_pu (d := some 147) (v := y52) rfl rfl rfl (r_extract rfl rfl) ?_
                refine s_pu (d := some 31) (v := (.int .i64 y51)) rfl rfl rfl (r_assign rfl) ?_
                refine s_pu (d := some 32) (v := y52) rfl rfl rfl (r_assign rfl) ?_
                refine s_fin ?_
                show W _ _ _ _ _ _ _ _
                refine W_seq ?_
                refine W_seq ?_
                refine W_region (.pu 0 (.pu 1 (.pu 2 (.pu 3 (.pu 4 (.pu 5 (.pu 6 (.pu 7 (.pu 8 (.pu 9 (.pu 10 (.pu 11 (.pu 12 (.pu 13 (.pu 14 (.pu 15 (.pu 16 (.pu 17 (.pu 18 (.pu 19 (.pu 20 (.pu 21 (.pu 22 (.pu 23 (.pu 24 (.pu 25 (.pu 26 (.pu 27 (.pu 28 (.pu 29 (.pu 30 (.pu 31 (.pu 32 (.pu 33 .fin)))))))))))))))))))))))))))))))))) rfl rfl ?_
                refine s_pu (d := some 148) (v := y36) rfl rfl rfl (r_move rfl) ?_
                obtain ⟨e53, H⟩ := H
                refine s_pu (d := some 149) (v := (.bool (!(isNil y36)))) rfl rfl rfl (r_notNilI Try.underlying26 rfl e53 rfl) ?_
                refine s_pu (d := some 150) (v := (.bool (!(isNil y36)))) rfl rfl rfl (r_move rfl) ?_
                obtain ⟨e55, H⟩ := H
                refine S_meet (l := [(15, (.int .i64 y35)), (17, (.int .i64 y37)), (19, (.int .i64 y39)), (20, y40), (21, (.int .i64 y41)), (22, y42), (23, (.int .i64 y43)), (24, y44), (25, (.int .i64 y45)), (26, y46), (27, (.int .i64 y47)), (28, y48), (29, (.int .i64 y49)), (30, y50), (31, (.int .i64 y51)), (32, y52), (153, (.bool ((!(isNil y36)) || (!(isNil y38)))))]) (i := 3) ?_ (fun HJ => ?_)
                · intro b
                  show S _ _ _ _ _ _
                  refine s_pu (d := some 154) (v := (.bool ((!(isNil y36)) || (!(isNil y38))))) rfl rfl rfl (r_move rfl) ?_
                  obtain ⟨e59, H⟩ := H
                  refine S_meet (l := [(15, (.int .i64 y35)), (17, (.int .i64 y37)), (19, (.int .i64 y39)), (21, (.int .i64 y41)), (22, y42), (23, (.int .i64 y43)), (24, y44), (25, (.int .i64 y45)), (26, y46), (27, (.int .i64 y47)), (28, y48), (29, (.int .i64 y49)), (30, y50), (31, (.int .i64 y51)), (32, y52), (157, (.bool (((!(isNil y36)) || (!(isNil y38))) || (!(isNil y40)))))]) (i := 3) ?_ (fun HJ => ?_)
                  · intro b
                    show S _ _ _ _ _ _
                    refine s_pu (d := some 158) (v := (.bool (((!(isNil y36)) || (!(isNil y38))) || (!(isNil y40))))) rfl rfl rfl (r_move rfl) ?_
                    obtain ⟨e63, H⟩ := H
                    refine S_meet (l := [(15, (.int .i64 y35)), (17, (.int .i64 y37)), (19, (.int .i64 y39)), (21, (.int .i64 y41)), (23, (.int .i64 y43)), (24, y44), (25, (.int .i64 y45)), (26, y46), (27, (.int .i64 y47)), (28, y48), (29, (.int .i64 y49)), (30, y50), (31, (.int .i64 y51)), (32, y52), (161, (.bool ((((!(isNil y36)) || (!(isNil y38))) || (!(isNil y40))) || (!(isNil y42)))))]) (i := 3) ?_ (fun HJ => ?_)
                    · intro b
                      show S _ _ _ _ _ _
                      refine s_pu (d := some 162) (v := (.bool ((((!(isNil y36)) || (!(isNil y38))) || (!(isNil y40))) || (!(isNil y42))))) rfl rfl rfl (r_move rfl) ?_
                      obtain ⟨e67, H⟩ := H
                      refine S_meet (l := [(15, (.int .i64 y35)), (17, (.int .i64 y37)), (19, (.int .i64 y39)), (21, (.int .i64 y41)), (23, (.int .i64 y43)), (25, (.int .i64 y45)), (26, y46), (27, (.int .i64 y47)), (28, y48), (29, (.int .i64 y49)), (30, y50), (31, (.int .i64 y51)), (32, y52), (165, (.bool (((((!(isNil y36)) || (!(isNil y38))) || (!(isNil y40))) || (!(isNil y42))) || (!(isNil y44)))))]) (i := 3) ?_ (fun HJ => ?_)
                      · intro b
                        show S _ _ _ _ _ _
                        refine s_pu (d := some 166) (v := (.bool (((((!(isNil y36)) || (!(isNil y38))) || (!(isNil y40))) || (!(isNil y42))) || (!(isNil y44))))) rfl rfl rfl (r_move rfl) ?_
                        obtain ⟨e71, H⟩ := H
                        refine S_meet (l := [(15, (.int .i64 y35)), (17, (.int .i64 y37)), (19, (.int .i64 y39)), (21, (.int .i64 y41)), (23, (.int .i64 y43)), (25, (.int .i64 y45)), (27, (.int .i64 y47)), (28, y48), (29, (.int .i64 y49)), (30, y50), (31, (.int .i64 y51)), (32, y52), (169, (.bool ((((((!(isNil y36)) || (!(isNil y38))) || (!(isNil y40))) || (!(isNil y42))) || (!(isNil y44))) || (!(isNil y46)))))]) (i := 3) ?_ (fun HJ => ?_)
                        · intro b
                          show S _ _ _ _ _ _
                          refine s_pu (d := some 170) (v := (.bool ((((((!(isNil y36)) || (!(isNil y38))) || (!(isNil y40))) || (!(isNil y42))) || (!(isNil y44))) || (!(isNil y46))))) rfl rfl rfl (r_move rfl) ?_
                          obtain ⟨e75, H⟩ := H
                          refine S_meet (l := [(15, (.int .i64 y35)), (17, (.int .i64 y37)), (19, (.int .i64 y39)), (21, (.int .i64 y41)), (23, (.int .i64 y43)), (25, (.int .i64 y45)), (27, (.int .i64 y47)), (29, (.int .i64 y49)), (30, y50), (31, (.int .i64 y51)), (32, y52), (173, (.bool (((((((!(isNil y36)) || (!(isNil y38))) || (!(isNil y40))) || (!(isNil y42))) || (!(isNil y44))) || (!(isNil y46))) || (!(isNil y48)))))]) (i := 3) ?_ (fun HJ => ?_)
                          · intro b
                            show S _ _ _ _ _ _
                            refine s_pu (d := some 174) (v := (.bool (((((((!(isNil y36)) || (!(isNil y38))) || (!(isNil y40))) || (!(isNil y42))) || (!(isNil y44))) || (!(isNil y46))) || (!(isNil y48))))) rfl rfl rfl (r_move rfl) ?_
                            obtain ⟨e79, H⟩ := H
                            refine S_meet (l := [(15, (.int .i64 y35)), (17, (.int .i64 y37)), (19, (.int .i64 y39)), (21, (.int .i64 y41)), (23, (.int .i64 y43)), (25, (.int .i64 y45)), (27, (.int .i64 y47)), (29, (.int .i64 y49)), (31, (.int .i64 y51)), (32, y52), (177, (.bool ((((((((!(isNil y36)) || (!(isNil y38))) || (!(isNil y40))) || (!(isNil y42))) || (!(isNil y44))) || (!(isNil y46))) || (!(isNil y48))) || (!(isNil y50)))))]) (i := 3) ?_ (fun HJ => ?_)
                            · intro b
                              show S _ _ _ _ _ _
                              refine s_pu (d := some 178) (v := (.bool ((((((((!(isNil y36)) || (!(isNil y38))) || (!(isNil y40))) || (!(isNil y42))) || (!(isNil y44))) || (!(isNil y46))) || (!(isNil y48))) || (!(isNil y50))))) rfl rfl rfl (r_move rfl) ?_
                              obtain ⟨e83, H⟩ := H
                              refine S_meet (l := [(15, (.int .i64 y35)), (17, (.int .i64 y37)), (19, (.int .i64 y39)), (21, (.int .i64 y41)), (23, (.int .i64 y43)), (25, (.int .i64 y45)), (27, (.int .i64 y47)), (29, (.int .i64 y49)), (31, (.int .i64 y51)), (181, (.bool (((((((((!(isNil y36)) || (!(isNil y38))) || (!(isNil y40))) || (!(isNil y42))) || (!(isNil y44))) || (!(isNil y46))) || (!(isNil y48))) || (!(isNil y50))) || (!(isNil y52)))))]) (i := 3) ?_ (fun HJ => ?_)
                              · intro b
                                show S _ _ _ _ _ _
                                refine s_fin ?_
                                show W _ _ _ _ _ _ _ _
                                refine W_if (((((((((!(isNil y36)) || (!(isNil y38))) || (!(isNil y40))) || (!(isNil y42))) || (!(isNil y44))) || (!(isNil y46))) || (!(isNil y48))) || (!(isNil y50))) || (!(isNil y52))) rfl (fun g96 => ?_) (fun g96 => ?_)
                                · have H := H.1 g96
                                  refine W_seq ?_
                                  refine W_region (.pu 0 .fin) rfl rfl ?_
                                  refine s_pu (d := some 10) (v := (.bool false)) rfl rfl rfl (r_assign rfl) ?_
                                  refine s_fin ?_
                                  show W _ _ _ _ _ _ _ _
                                  refine W_ret ?_
                                  exact ⟨[(.bool false)], ⟨_, _, rfl, rfl, rfl⟩, false, rfl, H⟩
                                · have H := H.2 g96
                                  refine W_skip ?_
                                  show W _ _ _ _ _ _ _ _
                                  refine W_seq ?_
                                  refine W_region (.pu 0 (.pu 1 (.pu 2 (.pu 3 (.pu 4 (.pu 5 (.pu 6 (.pu 7 (.pu 8 (.pu 9 (.pu 10 (.pu 11 (.pu 12 (.pu 13 (.pu 14 (.pu 15 (.pu 16 (.pu 17 (.pu 18 (.pu 19 .fin)))))))))))))))))))) rfl rfl ?_
                                  refine s_pu (d := some 182) (v := (.int .i64 y39)) rfl rfl rfl (r_move rfl) ?_
                                  refine s_pu (d := some 183) (v := (.int .i64 y35)) rfl rfl rfl (r_move rfl) ?_
                                  refine s_pu (d := some 184) (v := (.int .i64 y37)) rfl rfl rfl (r_move rfl) ?_
                                  refine s_pu (d := some 185) (v := (.int .i64 (w64 (y35 + y37)))) rfl rfl rfl (r_add rfl rfl) ?_
                                  refine s_pu (d := some 186) (v := (.bool (decide (y39 = (w64 (y35 + y37)))))) rfl rfl rfl (r_eql rfl rfl) ?_
                                  refine s_pu (d := some 187) (v := (.bool (decide (y39 = (w64 (y35 + y37)))))) rfl rfl rfl (r_move rfl) ?_
                                  refine S_meet (l := [(27, (.int .i64 y47)), (29, (.int .i64 y49)), (31, (.int .i64 y51)), (193, (.bool ((decide (y39 = (w64 (y35 + y37)))) && (decide (y45 = (min y41 y43))))))]) (i := 6) ?_ (fun HJ => ?_)
                                  · intro b
                                    show S _ _ _ _ _ _
                                    refine s_pu (d := some 194) (v := (.bool ((decide (y39 = (w64 (y35 + y37)))) && (decide (y45 = (min y41 y43)))))) rfl rfl rfl (r_move rfl) ?_
                                    refine S_meet (l := [(200, (.bool (((decide (y39 = (w64 (y35 + y37)))) && (decide (y45 = (min y41 y43)))) && (decide (y51 = (max y47 y49))))))]) (i := 6) ?_ (fun HJ => ?_)
                                    · intro b
                                      show S _ _ _ _ _ _
                                      obtain ⟨x92, e93⟩ : ∃ x : Bool, x = (((decide (y39 = (w64 (y35 + y37)))) && (decide (y45 = (min y41 y43)))) && (decide (y51 = (max y47 y49)))) := ⟨_, rfl⟩
                                      have H := H x92 e93
                                      refine s_pu (d := some 10) (v := (.bool x92)) rfl rfl rfl (r_assign (congrArg Value.bool e93.symm)) ?_
                                      refine s_fin ?_
                                      show W _ _ _ _ _ _ _ _
                                      refine W_ret ?_
                                      exact ⟨[(.bool x92)], ⟨_, _, rfl, rfl, rfl⟩, x92, rfl, H⟩
                                    · rcases Bool.eq_false_or_eq_true ((decide (y39 = (w64 (y35 + y37)))) && (decide (y45 = (min y41 y43)))) with g89 | g89
                                      · refine s_pu (d := some 195) (v := (.int .i64 y51)) rfl rfl (wants_yes rfl rfl rfl rfl g89) (r_move rfl) ?_
                                        refine s_pu (d := some 196) (v := (.int .i64 y47)) rfl rfl (wants_yes rfl rfl rfl rfl g89) (r_move rfl) ?_
                                        refine s_pu (d := some 197) (v := (.int .i64 y49)) rfl rfl (wants_yes rfl rfl rfl rfl g89) (r_move rfl) ?_
                                        refine s_pu (d := some 198) (v := (.int .i64 (max y47 y49))) rfl rfl (wants_yes rfl rfl rfl rfl g89) (r_max rfl rfl) ?_
                                        refine s_pu (d := some 199) (v := (.bool (decide (y51 = (max y47 y49))))) rfl rfl (wants_yes rfl rfl rfl rfl g89) (r_eql rfl rfl) ?_
                                        refine s_pu (d := some 200) (v := (.bool (decide (y51 = (max y47 y49))))) rfl rfl rfl (r_pick1 rfl g89 rfl) ?_
                                        exact S_mk (l := [(200, (.bool (((decide (y39 = (w64 (y35 + y37)))) && (decide (y45 = (min y41 y43)))) && (decide (y51 = (max y47 y49))))))]) HJ ⟨(by rw [g89]; rfl), trivial⟩
                                      · refine s_sk (d := some 195) rfl rfl (wants_no rfl rfl rfl rfl g89) ?_
                                        refine s_sk (d := some 196) rfl rfl (wants_no rfl rfl rfl rfl g89) ?_
                                        refine s_sk (d := some 197) rfl rfl (wants_no rfl rfl rfl rfl g89) ?_
                                        refine s_sk (d := some 198) rfl rfl (wants_no rfl rfl rfl rfl g89) ?_
                                        refine s_sk (d := some 199) rfl rfl (wants_no rfl rfl rfl rfl g89) ?_
                                        refine s_pu (d := some 200) (v := (.bool false)) rfl rfl rfl (r_pick0 rfl g89 rfl) ?_
                                        exact S_mk (l := [(200, (.bool (((decide (y39 = (w64 (y35 + y37)))) && (decide (y45 = (min y41 y43)))) && (decide (y51 = (max y47 y49))))))]) HJ ⟨(by rw [g89]; rfl), trivial⟩
                                  · rcases Bool.eq_false_or_eq_true (decide (y39 = (w64 (y35 + y37)))) with g86 | g86
                                    · refine s_pu (d := some 188) (v := (.int .i64 y45)) rfl rfl (wants_yes rfl rfl rfl rfl g86) (r_move rfl) ?_
                                      refine s_pu (d := some 189) (v := (.int .i64 y41)) rfl rfl (wants_yes rfl rfl rfl rfl g86) (r_move rfl) ?_
                                      refine s_pu (d := some 190) (v := (.int .i64 y43)) rfl rfl (wants_yes rfl rfl rfl rfl g86) (r_move rfl) ?_
                                      refine s_pu (d := some 191) (v := (.int .i64 (min y41 y43))) rfl rfl (wants_yes rfl rfl rfl rfl g86) (r_min rfl rfl) ?_
                                      refine s_pu (d := some 192) (v := (.bool (decide (y45 = (min y41 y43))))) rfl rfl (wants_yes rfl rfl rfl rfl g86) (r_eql rfl rfl) ?_
                                      refine s_pu (d := some 193) (v := (.bool (decide (y45 = (min y41 y43))))) rfl rfl rfl (r_pick1 rfl g86 rfl) ?_
                                      exact S_mk (l := [(27, (.int .i64 y47)), (29, (.int .i64 y49)), (31, (.int .i64 y51)), (193, (.bool ((decide (y39 = (w64 (y35 + y37)))) && (decide (y45 = (min y41 y43))))))]) HJ ⟨rfl, rfl, rfl, (by rw [g86]; rfl), trivial⟩
                                    · refine s_sk (d := some 188) rfl rfl (wants_no rfl rfl rfl rfl g86) ?_
                                      refine s_sk (d := some 189) rfl rfl (wants_no rfl rfl rfl rfl g86) ?_
                                      refine s_sk (d := some 190) rfl rfl (wants_no rfl rfl rfl rfl g86) ?_
                                      refine s_sk (d := some 191) rfl rfl (wants_no rfl rfl rfl rfl g86) ?_
                                      refine s_sk (d := some 192) rfl rfl (wants_no rfl rfl rfl rfl g86) ?_
                                      refine s_pu (d := some 193) (v := (.bool false)) rfl rfl rfl (r_pick0 rfl g86 rfl) ?_
                                      exact S_mk (l := [(27, (.int .i64 y47)), (29, (.int .i64 y49)), (31, (.int .i64 y51)), (193, (.bool ((decide (y39 = (w64 (y35 + y37)))) && (decide (y45 = (min y41 y43))))))]) HJ ⟨rfl, rfl, rfl, (by rw [g86]; rfl), trivial⟩
                              · rcases Bool.eq_false_or_eq_true ((((((((!(isNil y36)) || (!(isNil y38))) || (!(isNil y40))) || (!(isNil y42))) || (!(isNil y44))) || (!(isNil y46))) || (!(isNil y48))) || (!(isNil y50))) with g82 | g82
                                · refine s_sk (d := some 179) rfl rfl (wants_no rfl rfl rfl rfl g82) ?_
                                  refine s_sk (d := some 180) rfl rfl (wants_no rfl rfl rfl rfl g82) ?_
                                  refine s_pu (d := some 181) (v := (.bool true)) rfl rfl rfl (r_pick1 rfl g82 rfl) ?_
                                  exact S_mk (l := [(15, (.int .i64 y35)), (17, (.int .i64 y37)), (19, (.int .i64 y39)), (21, (.int .i64 y41)), (23, (.int .i64 y43)), (25, (.int .i64 y45)), (27, (.int .i64 y47)), (29, (.int .i64 y49)), (31, (.int .i64 y51)), (181, (.bool (((((((((!(isNil y36)) || (!(isNil y38))) || (!(isNil y40))) || (!(isNil y42))) || (!(isNil y44))) || (!(isNil y46))) || (!(isNil y48))) || (!(isNil y50))) || (!(isNil y52)))))]) HJ ⟨rfl, rfl, rfl, rfl, rfl, rfl, rfl, rfl, rfl, (by rw [g82]; rfl), trivial⟩
                                · refine s_pu (d := some 179) (v := y52) rfl rfl (wants_yes rfl rfl rfl rfl g82) (r_move rfl) ?_
                                  refine s_pu (d := some 180) (v := (.bool (!(isNil y52)))) rfl rfl (wants_yes rfl rfl rfl rfl g82) (r_notNilI Try.underlying26 rfl e83 rfl) ?_
                                  refine s_pu (d := some 181) (v := (.bool (!(isNil y52)))) rfl rfl rfl (r_pick0 rfl g82 rfl) ?_
                                  exact S_mk (l := [(15, (.int .i64 y35)), (17, (.int .i64 y37)), (19, (.int .i64 y39)), (21, (.int .i64 y41)), (23, (.int .i64 y43)), (25, (.int .i64 y45)), (27, (.int .i64 y47)), (29, (.int .i64 y49)), (31, (.int .i64 y51)), (181, (.bool (((((((((!(isNil y36)) || (!(isNil y38))) || (!(isNil y40))) || (!(isNil y42))) || (!(isNil y44))) || (!(isNil y46))) || (!(isNil y48))) || (!(isNil y50))) || (!(isNil y52)))))]) HJ ⟨rfl, rfl, rfl, rfl, rfl, rfl, rfl, rfl, rfl, (by rw [g82]; rfl), trivial⟩
                            · rcases Bool.eq_false_or_eq_true (((((((!(isNil y36)) || (!(isNil y38))) || (!(isNil y40))) || (!(isNil y42))) || (!(isNil y44))) || (!(isNil y46))) || (!(isNil y48))) with g78 | g78
                              · refine s_sk (d := some 175) rfl rfl (wants_no rfl rfl rfl rfl g78) ?_
                                refine s_sk (d := some 176) rfl rfl (wants_no rfl rfl rfl rfl g78) ?_
                                refine s_pu (d := some 177) (v := (.bool true)) rfl rfl rfl (r_pick1 rfl g78 rfl) ?_
                                exact S_mk (l := [(15, (.int .i64 y35)), (17, (.int .i64 y37)), (19, (.int .i64 y39)), (21, (.int .i64 y41)), (23, (.int .i64 y43)), (25, (.int .i64 y45)), (27, (.int .i64 y47)), (29, (.int .i64 y49)), (31, (.int .i64 y51)), (32, y52), (177, (.bool ((((((((!(isNil y36)) || (!(isNil y38))) || (!(isNil y40))) || (!(isNil y42))) || (!(isNil y44))) || (!(isNil y46))) || (!(isNil y48))) || (!(isNil y50)))))]) HJ ⟨rfl, rfl, rfl, rfl, rfl, rfl, rfl, rfl, rfl, rfl, (by rw [g78]; rfl), trivial⟩
                              · refine s_pu (d := some 175) (v := y50) rfl rfl (wants_yes rfl rfl rfl rfl g78) (r_move rfl) ?_
                                refine s_pu (d := some 176) (v := (.bool (!(isNil y50)))) rfl rfl (wants_yes rfl rfl rfl rfl g78) (r_notNilI Try.underlying26 rfl e79 rfl) ?_
                                refine s_pu (d := some 177) (v := (.bool (!(isNil y50)))) rfl rfl rfl (r_pick0 rfl g78 rfl) ?_
                                exact S_mk (l := [(15, (.int .i64 y35)), (17, (.int .i64 y37)), (19, (.int .i64 y39)), (21, (.int .i64 y41)), (23, (.int .i64 y43)), (25, (.int .i64 y45)), (27, (.int .i64 y47)), (29, (.int .i64 y49)), (31, (.int .i64 y51)), (32, y52), (177, (.bool ((((((((!(isNil y36)) || (!(isNil y38))) || (!(isNil y40))) || (!(isNil y42))) || (!(isNil y44))) || (!(isNil y46))) || (!(isNil y48))) || (!(isNil y50)))))]) HJ ⟨rfl, rfl, rfl, rfl, rfl, rfl, rfl, rfl, rfl, rfl, (by rw [g78]; rfl), trivial⟩
                          · rcases Bool.eq_false_or_eq_true ((((((!(isNil y36)) || (!(isNil y38))) || (!(isNil y40))) || (!(isNil y42))) || (!(isNil y44))) || (!(isNil y46))) with g74 | g74
                            · refine s_sk (d := some 171) rfl rfl (wants_no rfl rfl rfl rfl g74) ?_
                              refine s_sk (d := some 172) rfl rfl (wants_no rfl rfl rfl rfl g74) ?_
                              refine s_pu (d := some 173) (v := (.bool true)) rfl rfl rfl (r_pick1 rfl g74 rfl) ?_
                              exact S_mk (l := [(15, (.int .i64 y35)), (17, (.int .i64 y37)), (19, (.int .i64 y39)), (21, (.int .i64 y41)), (23, (.int .i64 y43)), (25, (.int .i64 y45)), (27, (.int .i64 y47)), (29, (.int .i64 y49)), (30, y50), (31, (.int .i64 y51)), (32, y52), (173, (.bool (((((((!(isNil y36)) || (!(isNil y38))) || (!(isNil y40))) || (!(isNil y42))) || (!(isNil y44))) || (!(isNil y46))) || (!(isNil y48)))))]) HJ ⟨rfl, rfl, rfl, rfl, rfl, rfl, rfl, rfl, rfl, rfl, rfl, (by rw [g74]; rfl), trivial⟩
                            · refine s_pu (d := some 171) (v := y48) rfl rfl (wants_yes rfl rfl rfl rfl g74) (r_move rfl) ?_
                              refine s_pu (d := some 172) (v := (.bool (!(isNil y48)))) rfl rfl (wants_yes rfl rfl rfl rfl g74) (r_notNilI Try.underlying26 rfl e75 rfl) ?_
                              refine s_pu (d := some 173) (v := (.bool (!(isNil y48)))) rfl rfl rfl (r_pick0 rfl g74 rfl) ?_
                              exact S_mk (l := [(15, (.int .i64 y35)), (17, (.int .i64 y37)), (19, (.int .i64 y39)), (21, (.int .i64 y41)), (23, (.int .i64 y43)), (25, (.int .i64 y45)), (27, (.int .i64 y47)), (29, (.int .i64 y49)), (30, y50), (31, (.int .i64 y51)), (32, y52), (173, (.bool (((((((!(isNil y36)) || (!(isNil y38))) || (!(isNil y40))) || (!(isNil y42))) || (!(isNil y44))) || (!(isNil y46))) || (!(isNil y48)))))]) HJ ⟨rfl, rfl, rfl, rfl, rfl, rfl, rfl, rfl, rfl, rfl, rfl, (by rw [g74]; rfl), trivial⟩
                        · rcases Bool.eq_false_or_eq_true (((((!(isNil y36)) || (!(isNil y38))) || (!(isNil y40))) || (!(isNil y42))) || (!(isNil y44))) with g70 | g70
                          · refine s_sk (d := some 167) rfl rfl (wants_no rfl rfl rfl rfl g70) ?_
                            refine s_sk (d := some 168) rfl rfl (wants_no rfl rfl rfl rfl g70) ?_
                            refine s_pu (d := some 169) (v := (.bool true)) rfl rfl rfl (r_pick1 rfl g70 rfl) ?_
                            exact S_mk (l := [(15, (.int .i64 y35)), (17, (.int .i64 y37)), (19, (.int .i64 y39)), (21, (.int .i64 y41)), (23, (.int .i64 y43)), (25, (.int .i64 y45)), (27, (.int .i64 y47)), (28, y48), (29, (.int .i64 y49)), (30, y50), (31, (.int .i64 y51)), (32, y52), (169, (.bool ((((((!(isNil y36)) || (!(isNil y38))) || (!(isNil y40))) || (!(isNil y42))) || (!(isNil y44))) || (!(isNil y46)))))]) HJ ⟨rfl, rfl, rfl, rfl, rfl, rfl, rfl, rfl, rfl, rfl, rfl, rfl, (by rw [g70]; rfl), trivial⟩
                          · refine s_pu (d := some 167) (v := y46) rfl rfl (wants_yes rfl rfl rfl rfl g70) (r_move rfl) ?_
                            refine s_pu (d := some 168) (v := (.bool (!(isNil y46)))) rfl rfl (wants_yes rfl rfl rfl rfl g70) (r_notNilI Try.underlying26 rfl e71 rfl) ?_
                            refine s_pu (d := some 169) (v := (.bool (!(isNil y46)))) rfl rfl rfl (r_pick0 rfl g70 rfl) ?_
                            exact S_mk (l := [(15, (.int .i64 y35)), (17, (.int .i64 y37)), (19, (.int .i64 y39)), (21, (.int .i64 y41)), (23, (.int .i64 y43)), (25, (.int .i64 y45)), (27, (.int .i64 y47)), (28, y48), (29, (.int .i64 y49)), (30, y50), (31, (.int .i64 y51)), (32, y52), (169, (.bool ((((((!(isNil y36)) || (!(isNil y38))) || (!(isNil y40))) || (!(isNil y42))) || (!(isNil y44))) || (!(isNil y46)))))]) HJ ⟨rfl, rfl, rfl, rfl, rfl, rfl, rfl, rfl, rfl, rfl, rfl, rfl, (by rw [g70]; rfl), trivial⟩
                      · rcases Bool.eq_false_or_eq_true ((((!(isNil y36)) || (!(isNil y38))) || (!(isNil y40))) || (!(isNil y42))) with g66 | g66
                        · refine s_sk (d := some 163) rfl rfl (wants_no rfl rfl rfl rfl g66) ?_
                          refine s_sk (d := some 164) rfl rfl (wants_no rfl rfl rfl rfl g66) ?_
                          refine s_pu (d := some 165) (v := (.bool true)) rfl rfl rfl (r_pick1 rfl g66 rfl) ?_
                          exact S_mk (l := [(15, (.int .i64 y35)), (17, (.int .i64 y37)), (19, (.int .i64 y39)), (21, (.int .i64 y41)), (23, (.int .i64 y43)), (25, (.int .i64 y45)), (26, y46), (27, (.int .i64 y47)), (28, y48), (29, (.int .i64 y49)), (30, y50), (31, (.int .i64 y51)), (32, y52), (165, (.bool (((((!(isNil y36)) || (!(isNil y38))) || (!(isNil y40))) || (!(isNil y42))) || (!(isNil y44)))))]) HJ ⟨rfl, rfl, rfl, rfl, rfl, rfl, rfl, rfl, rfl, rfl, rfl, rfl, rfl, (by rw [g66]; rfl), trivial⟩
                        · refine s_pu (d := some 163) (v := y44) rfl rfl (wants_yes rfl rfl rfl rfl g66) (r_move rfl) ?_
                          refine s_pu (d := some 164) (v := (.bool (!(isNil y44)))) rfl rfl (wants_yes rfl rfl rfl rfl g66) (r_notNilI Try.underlying26 rfl e67 rfl) ?_
                          refine s_pu (d := some 165) (v := (.bool (!(isNil y44)))) rfl rfl rfl (r_pick0 rfl g66 rfl) ?_
                          exact S_mk (l := [(15, (.int .i64 y35)), (17, (.int .i64 y37)), (19, (.int .i64 y39)), (21, (.int .i64 y41)), (23, (.int .i64 y43)), (25, (.int .i64 y45)), (26, y46), (27, (.int .i64 y47)), (28, y48), (29, (.int .i64 y49)), (30, y50), (31, (.int .i64 y51)), (32, y52), (165, (.bool (((((!(isNil y36)) || (!(isNil y38))) || (!(isNil y40))) || (!(isNil y42))) || (!(isNil y44)))))]) HJ ⟨rfl, rfl, rfl, rfl, rfl, rfl, rfl, rfl, rfl, rfl, rfl, rfl, rfl, (by rw [g66]; rfl), trivial⟩
                    · rcases Bool.eq_false_or_eq_true (((!(isNil y36)) || (!(isNil y38))) || (!(isNil y40))) with g62 | g62
                      · refine s_sk (d := some 159) rfl rfl (wants_no rfl rfl rfl rfl g62) ?_
                        refine s_sk (d := some 160) rfl rfl (wants_no rfl rfl rfl rfl g62) ?_
                        refine s_pu (d := some 161) (v := (.bool true)) rfl rfl rfl (r_pick1 rfl g62 rfl) ?_
                        exact S_mk (l := [(15, (.int .i64 y35)), (17, (.int .i64 y37)), (19, (.int .i64 y39)), (21, (.int .i64 y41)), (23, (.int .i64 y43)), (24, y44), (25, (.int .i64 y45)), (26, y46), (27, (.int .i64 y47)), (28, y48), (29, (.int .i64 y49)), (30, y50), (31, (.int .i64 y51)), (32, y52), (161, (.bool ((((!(isNil y36)) || (!(isNil y38))) || (!(isNil y40))) || (!(isNil y42)))))]) HJ ⟨rfl, rfl, rfl, rfl, rfl, rfl, rfl, rfl, rfl, rfl, rfl, rfl, rfl, rfl, (by rw [g62]; rfl), trivial⟩
                      · refine s_pu (d := some 159) (v := y42) rfl rfl (wants_yes rfl rfl rfl rfl g62) (r_move rfl) ?_
                        refine s_pu (d := some 160) (v := (.bool (!(isNil y42)))) rfl rfl (wants_yes rfl rfl rfl rfl g62) (r_notNilI Try.underlying26 rfl e63 rfl) ?_
                        refine s_pu (d := some 161) (v := (.bool (!(isNil y42)))) rfl rfl rfl (r_pick0 rfl g62 rfl) ?_
                        exact S_mk (l := [(15, (.int .i64 y35)), (17, (.int .i64 y37)), (19, (.int .i64 y39)), (21, (.int .i64 y41)), (23, (.int .i64 y43)), (24, y44), (25, (.int .i64 y45)), (26, y46), (27, (.int .i64 y47)), (28, y48), (29, (.int .i64 y49)), (30, y50), (31, (.int .i64 y51)), (32, y52), (161, (.bool ((((!(isNil y36)) || (!(isNil y38))) || (!(isNil y40))) || (!(isNil y42)))))]) HJ ⟨rfl, rfl, rfl, rfl, rfl, rfl, rfl, rfl, rfl, rfl, rfl, rfl, rfl, rfl, (by rw [g62]; rfl), trivial⟩
                  · rcases Bool.eq_false_or_eq_true ((!(isNil y36)) || (!(isNil y38))) with g58 | g58
                    · refine s_sk (d := some 155) rfl rfl (wants_no rfl rfl rfl rfl g58) ?_
                      refine s_sk (d := some 156) rfl rfl (wants_no rfl rfl rfl rfl g58) ?_
                      refine s_pu (d := some 157) (v := (.bool true)) rfl rfl rfl (r_pick1 rfl g58 rfl) ?_
                      exact S_mk (l := [(15, (.int .i64 y35)), (17, (.int .i64 y37)), (19, (.int .i64 y39)), (21, (.int .i64 y41)), (22, y42), (23, (.int .i64 y43)), (24, y44), (25, (.int .i64 y45)), (26, y46), (27, (.int .i64 y47)), (28, y48), (29, (.int .i64 y49)), (30, y50), (31, (.int .i64 y51)), (32, y52), (157, (.bool (((!(isNil y36)) || (!(isNil y38))) || (!(isNil y40)))))]) HJ ⟨rfl, rfl, rfl, rfl, rfl, rfl, rfl, rfl, rfl, rfl, rfl, rfl, rfl, rfl, rfl, (by rw [g58]; rfl), trivial⟩
                    · refine s_pu (d := some 155) (v := y40) rfl rfl (wants_yes rfl rfl rfl rfl g58) (r_move rfl) ?_
                      refine s_pu (d := some 156) (v := (.bool (!(isNil y40)))) rfl rfl (wants_yes rfl rfl rfl rfl g58) (r_notNilI Try.underlying26 rfl e59 rfl) ?_
                      refine s_pu (d := some 157) (v := (.bool (!(isNil y40)))) rfl rfl rfl (r_pick0 rfl g58 rfl) ?_
                      exact S_mk (l := [(15, (.int .i64 y35)), (17, (.int .i64 y37)), (19, (.int .i64 y39)), (21, (.int .i64 y41)), (22, y42), (23, (.int .i64 y43)), (24, y44), (25, (.int .i64 y45)), (26, y46), (27, (.int .i64 y47)), (28, y48), (29, (.int .i64 y49)), (30, y50), (31, (.int .i64 y51)), (32, y52), (157, (.bool (((!(isNil y36)) || (!(isNil y38))) || (!(isNil y40)))))]) HJ ⟨rfl, rfl, rfl, rfl, rfl, rfl, rfl, rfl, rfl, rfl, rfl, rfl, rfl, rfl, rfl, (by rw [g58]; rfl), trivial⟩
                · rcases Bool.eq_false_or_eq_true (!(isNil y36)) with g54 | g54
                  · refine s_sk (d := some 151) rfl rfl (wants_no rfl rfl rfl rfl g54) ?_
                    refine s_sk (d := some 152) rfl rfl (wants_no rfl rfl rfl rfl g54) ?_
                    refine s_pu (d := some 153) (v := (.bool true)) rfl rfl rfl (r_pick1 rfl g54 rfl) ?_
                    exact S_mk (l := [(15, (.int .i64 y35)), (17, (.int .i64 y37)), (19, (.int .i64 y39)), (20, y40), (21, (.int .i64 y41)), (22, y42), (23, (.int .i64 y43)), (24, y44), (25, (.int .i64 y45)), (26, y46), (27, (.int .i64 y47)), (28, y48), (29, (.int .i64 y49)), (30, y50), (31, (.int .i64 y51)), (32, y52), (153, (.bool ((!(isNil y36)) || (!(isNil y38)))))]) HJ ⟨rfl, rfl, rfl, rfl, rfl, rfl, rfl, rfl, rfl, rfl, rfl, rfl, rfl, rfl, rfl, rfl, (by rw [g54]; rfl), trivial⟩
                  · refine s_pu (d := some 151) (v := y38) rfl rfl (wants_yes rfl rfl rfl rfl g54) (r_move rfl) ?_
                    refine s_pu (d := some 152) (v := (.bool (!(isNil y38)))) rfl rfl (wants_yes rfl rfl rfl rfl g54) (r_notNilI Try.underlying26 rfl e55 rfl) ?_
                    refine s_pu (d := some 153) (v := (.bool (!(isNil y38)))) rfl rfl rfl (r_pick0 rfl g54 rfl) ?_
                    exact S_mk (l := [(15, (.int .i64 y35)), (17, (.int .i64 y37)), (19, (.int .i64 y39)), (20, y40), (21, (.int .i64 y41)), (22, y42), (23, (.int .i64 y43)), (24, y44), (25, (.int .i64 y45)), (26, y46), (27, (.int .i64 y47)), (28, y48), (29, (.int .i64 y49)), (30, y50), (31, (.int .i64 y51)), (32, y52), (153, (.bool ((!(isNil y36)) || (!(isNil y38)))))]) HJ ⟨rfl, rfl, rfl, rfl, rfl, rfl, rfl, rfl, rfl, rfl, rfl, rfl, rfl, rfl, rfl, rfl, (by rw [g54]; rfl), trivial⟩
            · rcases Bool.eq_false_or_eq_true ((decide (j3 ≤ i2)) || (decide (k4 ≤ j3))) with g25 | g25
              · refine s_sk (d := some 72) rfl rfl (wants_no rfl rfl rfl rfl g25) ?_
                refine s_sk (d := some 73) rfl rfl (wants_no rfl rfl rfl rfl g25) ?_
                refine s_pu (d := some 74) (v := (.bool true)) rfl rfl rfl (r_pick1 rfl g25 rfl) ?_
                exact S_mk (l := [(0, (Sl.v l1)), (1, (.int .i64 i2)), (2, (.int .i64 j3)), (3, (.int .i64 k4)), (12, (.pointer y7)), (14, y21), (74, (.bool (((decide (j3 ≤ i2)) || (decide (k4 ≤ j3))) || (!(isNil y21)))))]) HJ ⟨rfl, rfl, rfl, rfl, rfl, rfl, (by rw [g25]; rfl), trivial⟩
              · refine s_pu (d := some 72) (v := y21) rfl rfl (wants_yes rfl rfl rfl rfl g25) (r_move rfl) ?_
                refine s_pu (d := some 73) (v := (.bool (!(isNil y21)))) rfl rfl (wants_yes rfl rfl rfl rfl g25) (r_notNilI Try.underlying26 rfl e26 rfl) ?_
                refine s_pu (d := some 74) (v := (.bool (!(isNil y21)))) rfl rfl rfl (r_pick0 rfl g25 rfl) ?_
                exact S_mk (l := [(0, (Sl.v l1)), (1, (.int .i64 i2)), (2, (.int .i64 j3)), (3, (.int .i64 k4)), (12, (.pointer y7)), (14, y21), (74, (.bool (((decide (j3 ≤ i2)) || (decide (k4 ≤ j3))) || (!(isNil y21)))))]) HJ ⟨rfl, rfl, rfl, rfl, rfl, rfl, (by rw [g25]; rfl), trivial⟩
          · rcases Bool.eq_false_or_eq_true (decide (j3 ≤ i2)) with g22 | g22
            · refine s_sk (d := some 67) rfl rfl (wants_no rfl rfl rfl rfl g22) ?_
              refine s_sk (d := some 68) rfl rfl (wants_no rfl rfl rfl rfl g22) ?_
              refine s_sk (d := some 69) rfl rfl (wants_no rfl rfl rfl rfl g22) ?_
              refine s_pu (d := some 70) (v := (.bool true)) rfl rfl rfl (r_pick1 rfl g22 rfl) ?_
              exact S_mk (l := [(0, (Sl.v l1)), (1, (.int .i64 i2)), (2, (.int .i64 j3)), (3, (.int .i64 k4)), (12, (.pointer y7)), (14, y21), (70, (.bool ((decide (j3 ≤ i2)) || (decide (k4 ≤ j3)))))]) HJ ⟨rfl, rfl, rfl, rfl, rfl, rfl, (by rw [g22]; rfl), trivial⟩
            · refine s_pu (d := some 67) (v := (.int .i64 j3)) rfl rfl (wants_yes rfl rfl rfl rfl g22) (r_move rfl) ?_
              refine s_pu (d := some 68) (v := (.int .i64 k4)) rfl rfl (wants_yes rfl rfl rfl rfl g22) (r_move rfl) ?_
              refine s_pu (d := some 69) (v := (.bool (decide (k4 ≤ j3)))) rfl rfl (wants_yes rfl rfl rfl rfl g22) (r_geq rfl rfl) ?_
              refine s_pu (d := some 70) (v := (.bool (decide (k4 ≤ j3)))) rfl rfl rfl (r_pick0 rfl g22 rfl) ?_
              exact S_mk (l := [(0, (Sl.v l1)), (1, (.int .i64 i2)), (2, (.int .i64 j3)), (3, (.int .i64 k4)), (12, (.pointer y7)), (14, y21), (70, (.bool ((decide (j3 ≤ i2)) || (decide (k4 ≤ j3)))))]) HJ ⟨rfl, rfl, rfl, rfl, rfl, rfl, (by rw [g22]; rfl), trivial⟩
      · rcases Bool.eq_false_or_eq_true ((!(isNil y8)) || (Option.isNone y7)) with g13 | g13
        · refine s_sk (d := some 48) rfl rfl (wants_no rfl rfl rfl rfl g13) ?_
          refine s_sk (d := some 49) rfl rfl (wants_no rfl rfl rfl rfl g13) ?_
          refine s_sk (d := some 50) rfl rfl (wants_no rfl rfl rfl rfl g13) ?_
          refine s_pu (d := some 51) (v := (.bool true)) rfl rfl rfl (r_pick1 rfl g13 rfl) ?_
          exact S_mk (l := [(0, (Sl.v l1)), (1, (.int .i64 i2)), (2, (.int .i64 j3)), (3, (.int .i64 k4)), (4, (.int .i64 x5)), (12, (.pointer y7)), (13, y8), (51, (.bool (((!(isNil y8)) || (Option.isNone y7)) || (decide (200 < ((l1.len : Int)))))))]) HJ ⟨rfl, rfl, rfl, rfl, rfl, rfl, rfl, (by rw [g13]; rfl), trivial⟩
        · refine s_pu (d := some 48) (v := (Sl.v l1)) rfl rfl (wants_yes rfl rfl rfl rfl g13) (r_move rfl) ?_
          refine s_pu (d := some 49) (v := (.int .i64 ((l1.len : Int)))) rfl rfl (wants_yes rfl rfl rfl rfl g13) (r_len Try.underlying22 rfl) ?_
          refine s_pu (d := some 50) (v := (.bool (decide (200 < ((l1.len : Int)))))) rfl rfl (wants_yes rfl rfl rfl rfl g13) (r_gtr rfl rfl) ?_
          refine s_pu (d := some 51) (v := (.bool (decide (200 < ((l1.len : Int)))))) rfl rfl rfl (r_pick0 rfl g13 rfl) ?_
          exact S_mk (l := [(0, (Sl.v l1)), (1, (.int .i64 i2)), (2, (.int .i64 j3)), (3, (.int .i64 k4)), (4, (.int .i64 x5)), (12, (.pointer y7)), (13, y8), (51, (.bool (((!(isNil y8)) || (Option.isNone y7)) || (decide (200 < ((l1.len : Int)))))))]) HJ ⟨rfl, rfl, rfl, rfl, rfl, rfl, rfl, (by rw [g13]; rfl), trivial⟩
    · rcases Bool.eq_false_or_eq_true (!(isNil y8)) with g10 | g10
      · refine s_sk (d := some 44) rfl rfl (wants_no rfl rfl rfl rfl g10) ?_
        refine s_sk (d := some 45) rfl rfl (wants_no rfl rfl rfl rfl g10) ?_
        refine s_pu (d := some 46) (v := (.bool true)) rfl rfl rfl (r_pick1 rfl g10 rfl) ?_
        exact S_mk (l := [(0, (Sl.v l1)), (1, (.int .i64 i2)), (2, (.int .i64 j3)), (3, (.int .i64 k4)), (4, (.int .i64 x5)), (12, (.pointer y7)), (13, y8), (46, (.bool ((!(isNil y8)) || (Option.isNone y7))))]) HJ ⟨rfl, rfl, rfl, rfl, rfl, rfl, rfl, (by rw [g10]; rfl), trivial⟩
      · refine s_pu (d := some 44) (v := (.pointer y7)) rfl rfl (wants_yes rfl rfl rfl rfl g10) (r_move rfl) ?_
        refine s_pu (d := some 45) (v := (.bool (Option.isNone y7))) rfl rfl (wants_yes rfl rfl rfl rfl g10) (r_nilP Try.underlying45 rfl rfl) ?_
        refine s_pu (d := some 46) (v := (.bool (Option.isNone y7))) rfl rfl rfl (r_pick0 rfl g10 rfl) ?_
        exact S_mk (l := [(0, (Sl.v l1)), (1, (.int .i64 i2)), (2, (.int .i64 j3)), (3, (.int .i64 k4)), (4, (.int .i64 x5)), (12, (.pointer y7)), (13, y8), (46, (.bool ((!(isNil y8)) || (Option.isNone y7))))]) HJ ⟨rfl, rfl, rfl, rfl, rfl, rfl, rfl, (by rw [g10]; rfl), trivial⟩

/-! ### law5_SegAdds -/

def law5_SegAdds_F (r : World) (l1 : Sl) (i2 : Int) (j3 : Int) (x4 : Int) (y5 : Int) (h : Heap) (R : Bool → Heap → Prop) : Prop :=
  law5_segged r h fun y6 h1 =>
  seg_New r l1 h1 fun y7 y8 h2 =>
  seg_New r l1 h2 fun y9 y10 h3 =>
  Br (!y6) (
    R false h3) (
    (isIface y8 = true) ∧
    (isIface y10 = true) ∧
    Br (((((!(isNil y8)) || (!(isNil y10))) || (Option.isNone y7)) || (Option.isNone y9)) || (decide (200 < ((l1.len : Int))))) (
      (isIface y8 = true) ∧
      R ((isNil y8) == (!(Option.isNone y7))) h3) (
      seg_Seg_Add r y7 i2 j3 x4 h3 fun y26 h4 =>
      seg_Seg_Add r y7 i2 j3 y5 h4 fun y27 h5 =>
      seg_Seg_Add r y9 i2 j3 (w64 (x4 + y5)) h5 fun y28 h6 =>
      seg_Seg_Ints r y7 h6 fun y29 h7 =>
      seg_Seg_Ints r y9 h7 fun y30 h8 =>
      same_Ints r y29 y30 h8 fun y31 h9 =>
      ∀ J33 : Bool → Heap → Prop, (∀ (x32 : Bool) (h10 : Heap),
        (Br x32 (
          R false h10) (
          seg_Seg_Add r y9 i2 j3 (w64 ((w64 (0 - x4)) - y5)) h10 fun y35 h11 =>
          seg_Seg_Ints r y9 h11 fun y36 h12 =>
          same_Ints r y36 l1 h12 fun y37 h13 =>
          seg_Seg_Put r y7 i2 j3 x4 h13 fun y38 h14 =>
          seg_Seg_Sum r y7 i2 j3 h14 fun y39 y40 h15 =>
          ∀ J44 : Bool → Prop, (∀ (x43 : Bool),
            (R x43 h15) →
            J44 x43) →
          Br y37 (
            (isIface y26 = true) ∧
            Br (!(isNil y26)) (
              J44 true) (
              (isIface y40 = true) ∧
              Br (isNil y40) (
                J44 (decide (y39 = (w64 (x4 * (w64 (j3 - i2))))))) (
                J44 false))) (
            J44 false))) →
        J33 x32 h10) →
      Br (!y31) (
        J33 true h9) (
        (isIface y26 = true) ∧
        law5_within r ((l1.len : Int)) i2 j3 h9 fun y56 h16 =>
        Br ((isNil y26) != y56) (
          J33 true h16) (
          (isIface y27 = true) ∧
          (isIface y26 = true) ∧
          Br ((isNil y27) != (isNil y26)) (
            J33 true h16) (
            (isIface y28 = true) ∧
            (isIface y26 = true) ∧
            J33 ((isNil y28) != (isNil y26)) h16)))))

set_option maxRecDepth 100000 in
theorem law5_SegAdds_of {r : World} {l1 : Sl} {i2 : Int} {j3 : Int} {x4 : Int} {y5 : Int} {h : Heap} {R : Bool → Heap → Prop} (H : law5_SegAdds_F r l1 i2 j3 x4 y5 h R) : law5_SegAdds r l1 i2 j3 x4 y5 h R := by
  unfold law5_SegAdds_F at H
  refine calls_of 150 [.tmp 10] Try.func8 rfl rfl rfl rfl rfl ?_
  refine W_seq ?_
  refine W_region (.pu 0 .fin) rfl rfl ?_
  refine s_pu (d := some 10) (v := (.bool false)) rfl rfl rfl (r_assign rfl) ?_
  refine s_fin ?_
  show W _ _ _ _ _ _ _ _
  refine W_seq ?_
  refine W_region (.ef 0 [] (.pu 1 .fin) .no) rfl rfl ?_
  refine s_ef (d := some 23) rfl rfl rfl (fun dr => r_call Try.call21 rfl rfl H) ?_ trivial
  rintro _ h1 ⟨y6, rfl, H⟩
  refine ⟨trivial, ?_⟩
  refine s_pu (d := some 11) (v := (.bool y6)) rfl rfl rfl (r_assign rfl) ?_
  refine s_fin ?_
  show W _ _ _ _ _ _ _ _
  refine W_seq ?_
  refine W_region (.pu 0 (.ef 1 [] (.pu 2 (.pu 3 (.pu 4 (.pu 5 (.pu 6 .fin))))) .no)) rfl rfl ?_
  refine s_pu (d := some 25) (v := (Sl.v l1)) rfl rfl rfl (r_move rfl) ?_
  refine s_ef (d := some 26) rfl rfl rfl (fun dr => r_call Try.call22 rfl rfl H) ?_ trivial
  rintro _ h2 ⟨y7, y8, rfl, H⟩
  refine ⟨trivial, ?_⟩
  refine s_pu (d := some 24) (v := (.tuple #[(.pointer y7), y8])) rfl rfl rfl (r_move rfl) ?_
  refine s_pu (d := some 27) (v := (.pointer y7)) rfl rfl rfl (r_extract rfl rfl) ?_
  refine s_pu (d := some 28) (v := y8) rfl rfl rfl (r_extract rfl rfl) ?_
  refine s_pu (d := some 12) (v := (.pointer y7)) rfl rfl rfl (r_assign rfl) ?_
  refine s_pu (d := some 13) (v := y8) rfl rfl rfl (r_assign rfl) ?_
  refine s_fin ?_
  show W _ _ _ _ _ _ _ _
  refine W_seq ?_
  refine W_region (.pu 0 (.ef 1 [] (.pu 2 (.pu 3 (.pu 4 (.pu 5 (.pu 6 .fin))))) .no)) rfl rfl ?_
  refine s_pu (d := some 30) (v := (Sl.v l1)) rfl rfl rfl (r_move rfl) ?_
  refine s_ef (d := some 31) rfl rfl rfl (fun dr => r_call Try.call22 rfl rfl H) ?_ trivial
  rintro _ h3 ⟨y9, y10, rfl, H⟩
  refine ⟨trivial, ?_⟩
  refine s_pu (d := some 29) (v := (.tuple #[(.pointer y9), y10])) rfl rfl rfl (r_move rfl) ?_
  refine s_pu (d := some 32) (v := (.pointer y9)) rfl rfl rfl (r_extract rfl rfl) ?_
  refine s_pu (d := some 33) (v := y10) rfl rfl rfl (r_extract rfl rfl) ?_
  refine s_pu (d := some 14) (v := (.pointer y9)) rfl rfl rfl (r_assign rfl) ?_
  refine s_pu (d := some 15) (v := y10) rfl rfl rfl (r_assign rfl) ?_
  refine s_fin ?_
  show W _ _ _ _ _ _ _ _
  refine W_seq ?_
  refine W_seq ?_
  refine W_region (.pu 0 (.pu 1 .fin)) rfl rfl ?_
  refine s_pu (d := some 34) (v := (.bool y6)) rfl rfl rfl (r_move rfl) ?_
  refine s_pu (d := some 35) (v := (.bool (!y6))) rfl rfl rfl (r_not rfl) ?_
  refine s_fin ?_
  show W _ _ _ _ _ _ _ _
  refine W_if (!y6) rfl (fun g68 => ?_) (fun g68 => ?_)
  · have H := H.1 g68
    refine W_seq ?_
    refine W_region (.pu 0 .fin) rfl rfl ?_
    refine s_pu (d := some 10) (v := (.bool false)) rfl rfl rfl (r_assign rfl) ?_
    refine s_fin ?_
    show W _ _ _ _ _ _ _ _
    refine W_ret ?_
    exact ⟨[(.bool false)], ⟨_, _, rfl, rfl, rfl⟩, false, rfl, H⟩
  · have H := H.2 g68
    refine W_skip ?_
    show W _ _ _ _ _ _ _ _
    refine W_seq ?_
    refine W_seq ?_
    refine W_region (.pu 0 (.pu 1 (.pu 2 (.pu 3 (.pu 4 (.pu 5 (.pu 6 (.pu 7 (.pu 8 (.pu 9 (.pu 10 (.pu 11 (.pu 12 (.pu 13 (.pu 14 (.pu 15 (.pu 16 (.pu 17 (.pu 18 .fin))))))))))))))))))) rfl rfl ?_
    refine s_pu (d := some 36) (v := y8) rfl rfl rfl (r_move rfl) ?_
    obtain ⟨e11, H⟩ := H
    refine s_pu (d := some 37) (v := (.bool (!(isNil y8)))) rfl rfl rfl (r_notNilI Try.underlying26 rfl e11 rfl) ?_
    refine s_pu (d := some 38) (v := (.bool (!(isNil y8)))) rfl rfl rfl (r_move rfl) ?_
    obtain ⟨e13, H⟩ := H
    refine S_meet (l := [(0, (Sl.v l1)), (1, (.int .i64 i2)), (2, (.int .i64 j3)), (3, (.int .i64 x4)), (4, (.int .i64 y5)), (12, (.pointer y7)), (13, y8), (14, (.pointer y9)), (41, (.bool ((!(isNil y8)) || (!(isNil y10)))))]) (i := 3) ?_ (fun HJ => ?_)
    · intro b
      show S _ _ _ _ _ _
      refine s_pu (d := some 42) (v := (.bool ((!(isNil y8)) || (!(isNil y10))))) rfl rfl rfl (r_move rfl) ?_
      refine S_meet (l := [(0, (Sl.v l1)), (1, (.int .i64 i2)), (2, (.int .i64 j3)), (3, (.int .i64 x4)), (4, (.int .i64 y5)), (12, (.pointer y7)), (13, y8), (14, (.pointer y9)), (45, (.bool (((!(isNil y8)) || (!(isNil y10))) || (Option.isNone y7))))]) (i := 3) ?_ (fun HJ => ?_)
      · intro b
        show S _ _ _ _ _ _
        refine s_pu (d := some 46) (v := (.bool (((!(isNil y8)) || (!(isNil y10))) || (Option.isNone y7)))) rfl rfl rfl (r_move rfl) ?_
        refine S_meet (l := [(0, (Sl.v l1)), (1, (.int .i64 i2)), (2, (.int .i64 j3)), (3, (.int .i64 x4)), (4, (.int .i64 y5)), (12, (.pointer y7)), (13, y8), (14, (.pointer y9)), (49, (.bool ((((!(isNil y8)) || (!(isNil y10))) || (Option.isNone y7)) || (Option.isNone y9))))]) (i := 3) ?_ (fun HJ => ?_)
        · intro b
          show S _ _ _ _ _ _
          refine s_pu (d := some 50) (v := (.bool ((((!(isNil y8)) || (!(isNil y10))) || (Option.isNone y7)) || (Option.isNone y9)))) rfl rfl rfl (r_move rfl) ?_
          refine S_meet (l := [(0, (Sl.v l1)), (1, (.int .i64 i2)), (2, (.int .i64 j3)), (3, (.int .i64 x4)), (4, (.int .i64 y5)), (12, (.pointer y7)), (13, y8), (14, (.pointer y9)), (54, (.bool (((((!(isNil y8)) || (!(isNil y10))) || (Option.isNone y7)) || (Option.isNone y9)) || (decide (200 < ((l1.len : Int)))))))]) (i := 4) ?_ (fun HJ => ?_)
          · intro b
            show S _ _ _ _ _ _
            refine s_fin ?_
            show W _ _ _ _ _ _ _ _
            refine W_if (((((!(isNil y8)) || (!(isNil y10))) || (Option.isNone y7)) || (Option.isNone y9)) || (decide (200 < ((l1.len : Int))))) rfl (fun g63 => ?_) (fun g63 => ?_)
            · have H := H.1 g63
              refine W_seq ?_
              refine W_region (.pu 0 (.pu 1 (.pu 2 (.pu 3 (.pu 4 (.pu 5 .fin)))))) rfl rfl ?_
              refine s_pu (d := some 55) (v := y8) rfl rfl rfl (r_move rfl) ?_
              obtain ⟨e25, H⟩ := H
              refine s_pu (d := some 56) (v := (.bool (isNil y8))) rfl rfl rfl (r_nilI Try.underlying26 rfl e25 rfl) ?_
              refine s_pu (d := some 57) (v := (.pointer y7)) rfl rfl rfl (r_move rfl) ?_
              refine s_pu (d := some 58) (v := (.bool (!(Option.isNone y7)))) rfl rfl rfl (r_notNilP Try.underlying45 rfl rfl) ?_
              refine s_pu (d := some 59) (v := (.bool ((isNil y8) == (!(Option.isNone y7))))) rfl rfl rfl (r_eqlB Try.underlying4 rfl rfl) ?_
              refine s_pu (d := some 10) (v := (.bool ((isNil y8) == (!(Option.isNone y7))))) rfl rfl rfl (r_assign rfl) ?_
              refine s_fin ?_
              show W _ _ _ _ _ _ _ _
              refine W_ret ?_
              exact ⟨[(.bool ((isNil y8) == (!(Option.isNone y7))))], ⟨_, _, rfl, rfl, rfl⟩, ((isNil y8) == (!(Option.isNone y7))), rfl, H⟩
            · have H := H.2 g63
              refine W_skip ?_
              show W _ _ _ _ _ _ _ _
              refine W_seq ?_
              refine W_region (.pu 0 (.pu 1 (.pu 2 (.pu 3 (.ef 4 [] (.pu 5 .fin) .no))))) rfl rfl ?_
              refine s_pu (d := some 60) (v := (.pointer y7)) rfl rfl rfl (r_move rfl) ?_
              refine s_pu (d := some 61) (v := (.int .i64 i2)) rfl rfl rfl (r_move rfl) ?_
              refine s_pu (d := some 62) (v := (.int .i64 j3)) rfl rfl rfl (r_move rfl) ?_
              refine s_pu (d := some 63) (v := (.int .i64 x4)) rfl rfl rfl (r_move rfl) ?_
              refine s_ef (d := some 64) rfl rfl rfl (fun dr => r_call Try.call23 rfl rfl H) ?_ trivial
              rintro y26 h4 H
              refine ⟨trivial, ?_⟩
              refine s_pu (d := some 16) (v := y26) rfl rfl rfl (r_assign rfl) ?_
              refine s_fin ?_
              show W _ _ _ _ _ _ _ _
              refine W_seq ?_
              refine W_region (.pu 0 (.pu 1 (.pu 2 (.pu 3 (.ef 4 [] (.pu 5 .fin) .no))))) rfl rfl ?_
              refine s_pu (d := some 65) (v := (.pointer y7)) rfl rfl rfl (r_move rfl) ?_
              refine s_pu (d := some 66) (v := (.int .i64 i2)) rfl rfl rfl (r_move rfl) ?_
              refine s_pu (d := some 67) (v := (.int .i64 j3)) rfl rfl rfl (r_move rfl) ?_
              refine s_pu (d := some 68) (v := (.int .i64 y5)) rfl rfl rfl (r_move rfl) ?_
              refine s_ef (d := some 69) rfl rfl rfl (fun dr => r_call Try.call23 rfl rfl H) ?_ trivial
              rintro y27 h5 H
              refine ⟨trivial, ?_⟩
              refine s_pu (d := some 17) (v := y27) rfl rfl rfl (r_assign rfl) ?_
              refine s_fin ?_
              show W _ _ _ _ _ _ _ _
              refine W_seq ?_
              refine W_region (.pu 0 (.pu 1 (.pu 2 (.pu 3 (.pu 4 (.pu 5 (.ef 6 [] (.pu 7 .fin) .no))))))) rfl rfl ?_
              refine s_pu (d := some 70) (v := (.pointer y9)) rfl rfl rfl (r_move rfl) ?_
              refine s_pu (d := some 71) (v := (.int .i64 i2)) rfl rfl rfl (r_move rfl) ?_
              refine s_pu (d := some 72) (v := (.int .i64 j3)) rfl rfl rfl (r_move rfl) ?_
              refine s_pu (d := some 73) (v := (.int .i64 x4)) rfl rfl rfl (r_move rfl) ?_
              refine s_pu (d := some 74) (v := (.int .i64 y5)) rfl rfl rfl (r_move rfl) ?_
              refine s_pu (d := some 75) (v := (.int .i64 (w64 (x4 + y5)))) rfl rfl rfl (r_add rfl rfl) ?_
              refine s_ef (d := some 76) rfl rfl rfl (fun dr => r_call Try.call23 rfl rfl H) ?_ trivial
              rintro y28 h6 H
              refine ⟨trivial, ?_⟩
              refine s_pu (d := some 18) (v := y28) rfl rfl rfl (r_assign rfl) ?_
              refine s_fin ?_
              show W _ _ _ _ _ _ _ _
              refine W_seq ?_
              refine W_region (.pu 0 (.ef 1 [] (.pu 2 (.ef 3 [] (.ef 4 [] (.pu 5 .fin) .no) .no)) .no)) rfl rfl ?_
              refine s_pu (d := some 77) (v := (.pointer y7)) rfl rfl rfl (r_move rfl) ?_
              refine s_ef (d := some 78) rfl rfl rfl (fun dr => r_call Try.call36 rfl rfl H) ?_ trivial
              rintro _ h7 ⟨y29, rfl, H⟩
              refine ⟨trivial, ?_⟩
              refine s_pu (d := some 79) (v := (.pointer y9)) rfl rfl rfl (r_move rfl) ?_
              refine s_ef (d := some 80) rfl rfl rfl (fun dr => r_call Try.call36 rfl rfl H) ?_ trivial
              rintro _ h8 ⟨y30, rfl, H⟩
              refine ⟨trivial, ?_⟩
              refine s_ef (d := some 81) rfl rfl rfl (fun dr => r_call Try.call16 rfl rfl H) ?_ trivial
              rintro _ h9 ⟨y31, rfl, H⟩
              refine ⟨trivial, ?_⟩
              refine s_pu (d := some 19) (v := (.bool y31)) rfl rfl rfl (r_assign rfl) ?_
              refine s_fin ?_
              show W _ _ _ _ _ _ _ _
              refine W_seq ?_
              refine W_seq ?_
              refine W_set ?_
              intro N34 eN34
              have H := H (fun (x32 : Bool) (h10 : Heap) => ∀ b, N34 [] (mkE [(0, (Sl.v l1)), (1, (.int .i64 i2)), (2, (.int .i64 j3)), (3, (.int .i64 x4)), (4, (.int .i64 y5)), (12, (.pointer y7)), (14, (.pointer y9)), (16, y26), (107, (.bool x32))] b) h10) (by
                intro x32 h10 H b
                rw [eN34]
                show W _ _ _ _ _ _ _ _
                refine W_if x32 rfl (fun g53 => ?_) (fun g53 => ?_)
                · have H := H.1 g53
                  refine W_seq ?_
                  refine W_region (.pu 0 .fin) rfl rfl ?_
                  refine s_pu (d := some 10) (v := (.bool false)) rfl rfl rfl (r_assign rfl) ?_
                  refine s_fin ?_
                  show W _ _ _ _ _ _ _ _
                  refine W_ret ?_
                  exact ⟨[(.bool false)], ⟨_, _, rfl, rfl, rfl⟩, false, rfl, H⟩
                · have H := H.2 g53
                  refine W_skip ?_
                  show W _ _ _ _ _ _ _ _
                  refine W_seq ?_
                  refine W_region (.pu 0 (.pu 1 (.pu 2 (.pu 3 (.pu 4 (.pu 5 (.pu 6 (.ef 7 [] .fin .no)))))))) rfl rfl ?_
                  refine s_pu (d := some 108) (v := (.pointer y9)) rfl rfl rfl (r_move rfl) ?_
                  refine s_pu (d := some 109) (v := (.int .i64 i2)) rfl rfl rfl (r_move rfl) ?_
                  refine s_pu (d := some 110) (v := (.int .i64 j3)) rfl rfl rfl (r_move rfl) ?_
                  refine s_pu (d := some 111) (v := (.int .i64 x4)) rfl rfl rfl (r_move rfl) ?_
                  refine s_pu (d := some 112) (v := (.int .i64 (w64 (0 - x4)))) rfl rfl rfl (r_neg rfl) ?_
                  refine s_pu (d := some 113) (v := (.int .i64 y5)) rfl rfl rfl (r_move rfl) ?_
                  refine s_pu (d := some 114) (v := (.int .i64 (w64 ((w64 (0 - x4)) - y5)))) rfl rfl rfl (r_sub rfl rfl) ?_
                  refine s_ef (d := some 115) rfl rfl rfl (fun dr => r_call Try.call23 rfl rfl H) ?_ trivial
                  rintro y35 h11 H
                  refine ⟨trivial, ?_⟩
                  refine s_fin ?_
                  show W _ _ _ _ _ _ _ _
                  refine W_seq ?_
                  refine W_region (.pu 0 (.ef 1 [] (.pu 2 (.ef 3 [] (.pu 4 .fin) .no)) .no)) rfl rfl ?_
                  refine s_pu (d := some 116) (v := (.pointer y9)) rfl rfl rfl (r_move rfl) ?_
                  refine s_ef (d := some 117) rfl rfl rfl (fun dr => r_call Try.call36 rfl rfl H) ?_ trivial
                  rintro _ h12 ⟨y36, rfl, H⟩
                  refine ⟨trivial, ?_⟩
                  refine s_pu (d := some 118) (v := (Sl.v l1)) rfl rfl rfl (r_move rfl) ?_
                  refine s_ef (d := some 119) rfl rfl rfl (fun dr => r_call Try.call16 rfl rfl H) ?_ trivial
                  rintro _ h13 ⟨y37, rfl, H⟩
                  refine ⟨trivial, ?_⟩
                  refine s_pu (d := some 20) (v := (.bool y37)) rfl rfl rfl (r_assign rfl) ?_
                  refine s_fin ?_
                  show W _ _ _ _ _ _ _ _
                  refine W_seq ?_
                  refine W_region (.pu 0 (.pu 1 (.pu 2 (.pu 3 (.ef 4 [] .fin .no))))) rfl rfl ?_
                  refine s_pu (d := some 120) (v := (.pointer y7)) rfl rfl rfl (r_move rfl) ?_
                  refine s_pu (d := some 121) (v := (.int .i64 i2)) rfl rfl rfl (r_move rfl) ?_
                  refine s_pu (d := some 122) (v := (.int .i64 j3)) rfl rfl rfl (r_move rfl) ?_
                  refine s_pu (d := some 123) (v := (.int .i64 x4)) rfl rfl rfl (r_move rfl) ?_
                  refine s_ef (d := some 124) rfl rfl rfl (fun dr => r_call Try.call37 rfl rfl H) ?_ trivial
                  rintro y38 h14 H
                  refine ⟨trivial, ?_⟩
                  refine s_fin ?_
                  show W _ _ _ _ _ _ _ _
                  refine W_seq ?_
                  refine W_region (.pu 0 (.pu 1 (.pu 2 (.ef 3 [] (.pu 4 (.pu 5 (.pu 6 (.pu 7 (.pu 8 .fin))))) .no)))) rfl rfl ?_
                  refine s_pu (d := some 126) (v := (.pointer y7)) rfl rfl rfl (r_move rfl) ?_
                  refine s_pu (d := some 127) (v := (.int .i64 i2)) rfl rfl rfl (r_move rfl) ?_
                  refine s_pu (d := some 128) (v := (.int .i64 j3)) rfl rfl rfl (r_move rfl) ?_
                  refine s_ef (d := some 129) rfl rfl rfl (fun dr => r_call Try.call25 rfl rfl H) ?_ trivial
                  rintro _ h15 ⟨y39, y40, rfl, H⟩
                  refine ⟨trivial, ?_⟩
                  refine s_pu (d := some 125) (v := (.tuple #[(.int .i64 y39), y40])) rfl rfl rfl (r_move rfl) ?_
                  refine s_pu (d := some 130) (v := (.int .i64 y39)) rfl rfl rfl (r_extract rfl rfl) ?_
                  refine s_pu (d := some 131) (v := y40) rfl rfl rfl (r_extract rfl rfl) ?_
                  refine s_pu (d := some 21) (v := (.int .i64 y39)) rfl rfl rfl (r_assign rfl) ?_
                  refine s_pu (d := some 22) (v := y40) rfl rfl rfl (r_assign rfl) ?_
                  refine s_fin ?_
                  show W _ _ _ _ _ _ _ _
                  refine W_seq ?_
                  refine W_set ?_
                  intro N45 eN45
                  have H := H (fun (x43 : Bool) => ∀ b, N45 [] (mkE [(10, (.bool x43))] b) h15) (by
                    intro x43 H b
                    rw [eN45]
                    show W _ _ _ _ _ _ _ _
                    refine W_ret ?_
                    exact ⟨[(.bool x43)], ⟨_, _, rfl, rfl, rfl⟩, x43, rfl, H⟩)
                  clear eN45
                  refine W_region (.pu 0 (.pu 1 (.pu 2 (.pu 3 (.pu 4 (.pu 5 (.pu 6 (.pu 7 (.pu 8 (.pu 9 (.pu 10 (.pu 11 (.pu 12 (.pu 13 (.pu 14 (.pu 15 (.pu 16 (.pu 17 (.pu 18 .fin))))))))))))))))))) rfl rfl ?_
                  refine s_pu (d := some 132) (v := (.bool y37)) rfl rfl rfl (r_move rfl) ?_
                  refine s_pu (d := some 133) (v := (.bool y37)) rfl rfl rfl (r_move rfl) ?_
                  rcases Bool.eq_false_or_eq_true y37 with g48 | g48
                  · have H := H.1 g48
                    refine s_pu (d := some 134) (v := y26) rfl rfl (wants_yes rfl rfl rfl rfl g48) (r_move rfl) ?_
                    obtain ⟨e49, H⟩ := H
                    refine s_pu (d := some 135) (v := (.bool (!(isNil y26)))) rfl rfl (wants_yes rfl rfl rfl rfl g48) (r_notNilI Try.underlying26 rfl e49 rfl) ?_
                    refine s_pu (d := some 136) (v := (.bool (!(isNil y26)))) rfl rfl (wants_yes rfl rfl rfl rfl g48) (r_move rfl) ?_
                    rcases Bool.eq_false_or_eq_true (!(isNil y26)) with g50 | g50
                    · have H := H.1 g50
                      refine s_sk (d := some 137) rfl rfl (wants_no rfl rfl rfl rfl g50) ?_
                      refine s_sk (d := some 138) rfl rfl (wants_no rfl rfl rfl rfl g50) ?_
                      refine s_sk (d := some 139) rfl rfl (wants_no rfl rfl rfl rfl g50) ?_
                      refine s_sk (d := some 140) rfl rfl (wants_un rfl rfl rfl) ?_
                      refine s_sk (d := some 141) rfl rfl (wants_un rfl rfl rfl) ?_
                      refine s_sk (d := some 142) rfl rfl (wants_un rfl rfl rfl) ?_
                      refine s_sk (d := some 143) rfl rfl (wants_un rfl rfl rfl) ?_
                      refine s_sk (d := some 144) rfl rfl (wants_un rfl rfl rfl) ?_
                      refine s_sk (d := some 145) rfl rfl (wants_un rfl rfl rfl) ?_
                      refine s_sk (d := some 146) rfl rfl (wants_un rfl rfl rfl) ?_
                      refine s_sk (d := some 147) rfl rfl (wants_no rfl rfl rfl rfl g50) ?_
                      refine s_pu (d := some 148) (v := (.bool true)) rfl rfl (wants_yes rfl rfl rfl rfl g48) (r_pick1 rfl g50 rfl) ?_
                      refine s_pu (d := some 149) (v := (.bool true)) rfl rfl rfl (r_pick1 rfl g48 rfl) ?_
                      refine s_pu (d := some 10) (v := (.bool true)) rfl rfl rfl (r_assign rfl) ?_
                      refine s_fin ?_
                      exact N_mk (l := [(10, (.bool true))]) H ⟨rfl, trivial⟩
                    · have H := H.2 g50
                      refine s_pu (d := some 137) (v := y40) rfl rfl (wants_yes rfl rfl rfl rfl g50) (r_move rfl) ?_
                      obtain ⟨e51, H⟩ := H
                      refine s_pu (d := some 138) (v := (.bool (isNil y40))) rfl rfl (wants_yes rfl rfl rfl rfl g50) (r_nilI Try.underlying26 rfl e51 rfl) ?_
                      refine s_pu (d := some 139) (v := (.bool (isNil y40))) rfl rfl (wants_yes rfl rfl rfl rfl g50) (r_move rfl) ?_
                      rcases Bool.eq_false_or_eq_true (isNil y40) with g52 | g52
                      · have H := H.1 g52
                        refine s_pu (d := some 140) (v := (.int .i64 y39)) rfl rfl (wants_yes rfl rfl rfl rfl g52) (r_move rfl) ?_
                        refine s_pu (d := some 141) (v := (.int .i64 x4)) rfl rfl (wants_yes rfl rfl rfl rfl g52) (r_move rfl) ?_
                        refine s_pu (d := some 142) (v := (.int .i64 j3)) rfl rfl (wants_yes rfl rfl rfl rfl g52) (r_move rfl) ?_
                        refine s_pu (d := some 143) (v := (.int .i64 i2)) rfl rfl (wants_yes rfl rfl rfl rfl g52) (r_move rfl) ?_
                        refine s_pu (d := some 144) (v := (.int .i64 (w64 (j3 - i2)))) rfl rfl (wants_yes rfl rfl rfl rfl g52) (r_sub rfl rfl) ?_
                        refine s_pu (d := some 145) (v := (.int .i64 (w64 (x4 * (w64 (j3 - i2)))))) rfl rfl (wants_yes rfl rfl rfl rfl g52) (r_mul rfl rfl) ?_
                        refine s_pu (d := some 146) (v := (.bool (decide (y39 = (w64 (x4 * (w64 (j3 - i2)))))))) rfl rfl (wants_yes rfl rfl rfl rfl g52) (r_eql rfl rfl) ?_
                        refine s_pu (d := some 147) (v := (.bool (decide (y39 = (w64 (x4 * (w64 (j3 - i2)))))))) rfl rfl (wants_yes rfl rfl rfl rfl g50) (r_pick1 rfl g52 rfl) ?_
                        refine s_pu (d := some 148) (v := (.bool (decide (y39 = (w64 (x4 * (w64 (j3 - i2)))))))) rfl rfl (wants_yes rfl rfl rfl rfl g48) (r_pick0 rfl g50 rfl) ?_
                        refine s_pu (d := some 149) (v := (.bool (decide (y39 = (w64 (x4 * (w64 (j3 - i2)))))))) rfl rfl rfl (r_pick1 rfl g48 rfl) ?_
                        refine s_pu (d := some 10) (v := (.bool (decide (y39 = (w64 (x4 * (w64 (j3 - i2)))))))) rfl rfl rfl (r_assign rfl) ?_
                        refine s_fin ?_
                        exact N_mk (l := [(10, (.bool (decide (y39 = (w64 (x4 * (w64 (j3 - i2))))))))]) H ⟨rfl, trivial⟩
                      · have H := H.2 g52
                        refine s_sk (d := some 140) rfl rfl (wants_no rfl rfl rfl rfl g52) ?_
                        refine s_sk (d := some 141) rfl rfl (wants_no rfl rfl rfl rfl g52) ?_
                        refine s_sk (d := some 142) rfl rfl (wants_no rfl rfl rfl rfl g52) ?_
                        refine s_sk (d := some 143) rfl rfl (wants_no rfl rfl rfl rfl g52) ?_
                        refine s_sk (d := some 144) rfl rfl (wants_no rfl rfl rfl rfl g52) ?_
                        refine s_sk (d := some 145) rfl rfl (wants_no rfl rfl rfl rfl g52) ?_
                        refine s_sk (d := some 146) rfl rfl (wants_no rfl rfl rfl rfl g52) ?_
                        refine s_pu (d := some 147) (v := (.bool false)) rfl rfl (wants_yes rfl rfl rfl rfl g50) (r_pick0 rfl g52 rfl) ?_
                        refine s_pu (d := some 148) (v := (.bool false)) rfl rfl (wants_yes rfl rfl rfl rfl g48) (r_pick0 rfl g50 rfl) ?_
                        refine s_pu (d := some 149) (v := (.bool false)) rfl rfl rfl (r_pick1 rfl g48 rfl) ?_
                        refine s_pu (d := some 10) (v := (.bool false)) rfl rfl rfl (r_assign rfl) ?_
                        refine s_fin ?_
                        exact N_mk (l := [(10, (.bool false))]) H ⟨rfl, trivial⟩
                  · have H := H.2 g48
                    refine s_sk (d := some 134) rfl rfl (wants_no rfl rfl rfl rfl g48) ?_
                    refine s_sk (d := some 135) rfl rfl (wants_no rfl rfl rfl rfl g48) ?_
                    refine s_sk (d := some 136) rfl rfl (wants_no rfl rfl rfl rfl g48) ?_
                    refine s_sk (d := some 137) rfl rfl (wants_un rfl rfl rfl) ?_
                    refine s_sk (d := some 138) rfl rfl (wants_un rfl rfl rfl) ?_
                    refine s_sk (d := some 139) rfl rfl (wants_un rfl rfl rfl) ?_
                    refine s_sk (d := some 140) rfl rfl (wants_un rfl rfl rfl) ?_
                    refine s_sk (d := some 141) rfl rfl (wants_un rfl rfl rfl) ?_
                    refine s_sk (d := some 142) rfl rfl (wants_un rfl rfl rfl) ?_
                    refine s_sk (d := some 143) rfl rfl (wants_un rfl rfl rfl) ?_
                    refine s_sk (d := some 144) rfl rfl (wants_un rfl rfl rfl) ?_
                    refine s_sk (d := some 145) rfl rfl (wants_un rfl rfl rfl) ?_
                    refine s_sk (d := some 146) rfl rfl (wants_un rfl rfl rfl) ?_
                    refine s_sk (d := some 147) rfl rfl (wants_un rfl rfl rfl) ?_
                    refine s_sk (d := some 148) rfl rfl (wants_no rfl rfl rfl rfl g48) ?_
                    refine s_pu (d := some 149) (v := (.bool false)) rfl rfl rfl (r_pick0 rfl g48 rfl) ?_
                    refine s_pu (d := some 10) (v := (.bool false)) rfl rfl rfl (r_assign rfl) ?_
                    refine s_fin ?_
                    exact N_mk (l := [(10, (.bool false))]) H ⟨rfl, trivial⟩)
              clear eN34
              refine W_draw [0, 1, 3, 7, 15, 7, 39, 7, 7, 487, 1023, 2047, 4095, 8191, 16383, 8191, 40959, 131071, 262143, 524287, 1048575, 2097151, 1048575, 5242879, 16777215, 33554431] (.pu 0 (.pu 1 (.pu 2 (.pu 3 (.pu 4 (.pu 5 (.pu 6 (.pu 7 (.pu 8 (.ef 9 [] (.pu 10 (.pu 11 (.pu 12 (.pu 13 (.pu 14 (.pu 15 (.pu 16 (.pu 17 (.pu 18 (.pu 19 (.pu 20 (.pu 21 (.pu 22 (.pu 23 (.pu 24 (.pu 25 .fin)))))))))))))))) .no)))))))))) (by kernel_rfl) (by kernel_rfl) ?_
              refine s_pu (d := some 82) (v := (.bool y31)) rfl rfl rfl (r_move rfl) ?_
              refine s_pu (d := some 83) (v := (.bool (!y31))) rfl rfl rfl (r_not rfl) ?_
              refine s_pu (d := some 84) (v := (.bool (!y31))) rfl rfl rfl (r_move rfl) ?_
              rcases Bool.eq_false_or_eq_true (!y31) with g54 | g54
              · have H := H.1 g54
                refine s_sk (d := some 85) rfl rfl (wants_no rfl rfl rfl rfl g54) ?_
                refine s_sk (d := some 86) rfl rfl (wants_no rfl rfl rfl rfl g54) ?_
                refine s_sk (d := some 87) rfl rfl (wants_no rfl rfl rfl rfl g54) ?_
                refine s_sk (d := some 88) rfl rfl (wants_no rfl rfl rfl rfl g54) ?_
                refine s_sk (d := some 89) rfl rfl (wants_no rfl rfl rfl rfl g54) ?_
                refine s_sk (d := some 90) rfl rfl (wants_no rfl rfl rfl rfl g54) ?_
                refine s_skf (d := some 91) rfl rfl (wants_no rfl rfl rfl rfl g54) trivial ?_ trivial
                refine s_sk (d := some 92) rfl rfl (wants_no rfl rfl rfl rfl g54) ?_
                refine s_pu (d := some 93) (v := (.bool true)) rfl rfl rfl (r_pick1 rfl g54 rfl) ?_
                refine s_pu (d := some 94) (v := (.bool true)) rfl rfl rfl (r_move rfl) ?_
                refine s_sk (d := some 95) rfl rfl (wants_no rfl rfl rfl rfl rfl) ?_
                refine s_sk (d := some 96) rfl rfl (wants_no rfl rfl rfl rfl rfl) ?_
                refine s_sk (d := some 97) rfl rfl (wants_no rfl rfl rfl rfl rfl) ?_
                refine s_sk (d := some 98) rfl rfl (wants_no rfl rfl rfl rfl rfl) ?_
                refine s_sk (d := some 99) rfl rfl (wants_no rfl rfl rfl rfl rfl) ?_
                refine s_pu (d := some 100) (v := (.bool true)) rfl rfl rfl (r_pick1 rfl rfl rfl) ?_
                refine s_pu (d := some 101) (v := (.bool true)) rfl rfl rfl (r_move rfl) ?_
                refine s_sk (d := some 102) rfl rfl (wants_no rfl rfl rfl rfl rfl) ?_
                refine s_sk (d := some 103) rfl rfl (wants_no rfl rfl rfl rfl rfl) ?_
                refine s_sk (d := some 104) rfl rfl (wants_no rfl rfl rfl rfl rfl) ?_
                refine s_sk (d := some 105) rfl rfl (wants_no rfl rfl rfl rfl rfl) ?_
                refine s_sk (d := some 106) rfl rfl (wants_no rfl rfl rfl rfl rfl) ?_
                refine s_pu (d := some 107) (v := (.bool true)) rfl rfl rfl (r_pick1 rfl rfl rfl) ?_
                refine s_fin ?_
                exact N_mk (l := [(0, (Sl.v l1)), (1, (.int .i64 i2)), (2, (.int .i64 j3)), (3, (.int .i64 x4)), (4, (.int .i64 y5)), (12, (.pointer y7)), (14, (.pointer y9)), (16, y26), (107, (.bool true))]) H ⟨rfl, rfl, rfl, rfl, rfl, rfl, rfl, rfl, rfl, trivial⟩
              · have H := H.2 g54
                refine s_pu (d := some 85) (v := y26) rfl rfl (wants_yes rfl rfl rfl rfl g54) (r_move rfl) ?_
                obtain ⟨e55, H⟩ := H
                refine s_pu (d := some 86) (v := (.bool (isNil y26))) rfl rfl (wants_yes rfl rfl rfl rfl g54) (r_nilI Try.underlying26 rfl e55 rfl) ?_
                refine s_pu (d := some 87) (v := (Sl.v l1)) rfl rfl (wants_yes rfl rfl rfl rfl g54) (r_move rfl) ?_
                refine s_pu (d := some 88) (v := (.int .i64 ((l1.len : Int)))) rfl rfl (wants_yes rfl rfl rfl rfl g54) (r_len Try.underlying22 rfl) ?_
                refine s_pu (d := some 89) (v := (.int .i64 i2)) rfl rfl (wants_yes rfl rfl rfl rfl g54) (r_move rfl) ?_
                refine s_pu (d := some 90) (v := (.int .i64 j3)) rfl rfl (wants_yes rfl rfl rfl rfl g54) (r_move rfl) ?_
                refine s_ef (d := some 91) rfl rfl (wants_yes rfl rfl rfl rfl g54) (fun dr => r_call Try.call24 rfl rfl H) ?_ trivial
                rintro _ h16 ⟨y56, rfl, H⟩
                refine ⟨trivial, ?_⟩
                refine s_pu (d := some 92) (v := (.bool ((isNil y26) != y56))) rfl rfl (wants_yes rfl rfl rfl rfl g54) (r_neqB Try.underlying4 rfl rfl) ?_
                refine s_pu (d := some 93) (v := (.bool ((isNil y26) != y56))) rfl rfl rfl (r_pick0 rfl g54 rfl) ?_
                refine s_pu (d := some 94) (v := (.bool ((isNil y26) != y56))) rfl rfl rfl (r_move rfl) ?_
                rcases Bool.eq_false_or_eq_true ((isNil y26) != y56) with g57 | g57
                · have H := H.1 g57
                  refine s_sk (d := some 95) rfl rfl (wants_no rfl rfl rfl rfl g57) ?_
                  refine s_sk (d := some 96) rfl rfl (wants_no rfl rfl rfl rfl g57) ?_
                  refine s_sk (d := some 97) rfl rfl (wants_no rfl rfl rfl rfl g57) ?_
                  refine s_sk (d := some 98) rfl rfl (wants_no rfl rfl rfl rfl g57) ?_
                  refine s_sk (d := some 99) rfl rfl (wants_no rfl rfl rfl rfl g57) ?_
                  refine s_pu (d := some 100) (v := (.bool true)) rfl rfl rfl (r_pick1 rfl g57 rfl) ?_
                  refine s_pu (d := some 101) (v := (.bool true)) rfl rfl rfl (r_move rfl) ?_
                  refine s_sk (d := some 102) rfl rfl (wants_no rfl rfl rfl rfl rfl) ?_
                  refine s_sk (d := some 103) rfl rfl (wants_no rfl rfl rfl rfl rfl) ?_
                  refine s_sk (d := some 104) rfl rfl (wants_no rfl rfl rfl rfl rfl) ?_
                  refine s_sk (d := some 105) rfl rfl (wants_no rfl rfl rfl rfl rfl) ?_
                  refine s_sk (d := some 106) rfl rfl (wants_no rfl rfl rfl rfl rfl) ?_
                  refine s_pu (d := some 107) (v := (.bool true)) rfl rfl rfl (r_pick1 rfl rfl rfl) ?_
                  refine s_fin ?_
                  exact N_mk (l := [(0, (Sl.v l1)), (1, (.int .i64 i2)), (2, (.int .i64 j3)), (3, (.int .i64 x4)), (4, (.int .i64 y5)), (12, (.pointer y7)), (14, (.pointer y9)), (16, y26), (107, (.bool true))]) H ⟨rfl, rfl, rfl, rfl, rfl, rfl, rfl, rfl, rfl, trivial⟩
                · have H := H.2 g57
                  refine s_pu (d := some 95) (v := y27) rfl rfl (wants_yes rfl rfl rfl rfl g57) (r_move rfl) ?_
                  obtain ⟨e58, H⟩ := H
                  refine s_pu (d := some 96) (v := (.bool (isNil y27))) rfl rfl (wants_yes rfl rfl rfl rfl g57) (r_nilI Try.underlying26 rfl e58 rfl) ?_
                  refine s_pu (d := some 97) (v := y26) rfl rfl (wants_yes rfl rfl rfl rfl g57) (r_move rfl) ?_
                  obtain ⟨e59, H⟩ := H
                  refine s_pu (d := some 98) (v := (.bool (isNil y26))) rfl rfl (wants_yes rfl rfl rfl rfl g57) (r_nilI Try.underlying26 rfl e59 rfl) ?_
                  refine s_pu (d := some 99) (v := (.bool ((isNil y27) != (isNil y26)))) rfl rfl (wants_yes rfl rfl rfl rfl g57) (r_neqB Try.underlying4 rfl rfl) ?_
                  refine s_pu (d := some 100) (v := (.bool ((isNil y27) != (isNil y26)))) rfl rfl rfl (r_pick0 rfl g57 rfl) ?_
                  refine s_pu (d := some 101) (v := (.bool ((isNil y27) != (isNil y26)))) rfl rfl rfl (r_move rfl) ?_
                  rcases Bool.eq_false_or_eq_true ((isNil y27) != (isNil y26)) with g60 | g60
                  · have H := H.1 g60
                    refine s_sk (d := some 102) rfl rfl (wants_no rfl rfl rfl rfl g60) ?_
                    refine s_sk (d := some 103) rfl rfl (wants_no rfl rfl rfl rfl g60) ?_
                    refine s_sk (d := some 104) rfl rfl (wants_no rfl rfl rfl rfl g60) ?_
                    refine s_sk (d := some 105) rfl rfl (wants_no rfl rfl rfl rfl g60) ?_
                    refine s_sk (d := some 106) rfl rfl (wants_no rfl rfl rfl rfl g60) ?_
                    refine s_pu (d := some 107) (v := (.bool true)) rfl rfl rfl (r_pick1 rfl g60 rfl) ?_
                    refine s_fin ?_
                    exact N_mk (l := [(0, (Sl.v l1)), (1, (.int .i64 i2)), (2, (.int .i64 j3)), (3, (.int .i64 x4)), (4, (.int .i64 y5)), (12, (.pointer y7)), (14, (.pointer y9)), (16, y26), (107, (.bool true))]) H ⟨rfl, rfl, rfl, rfl, rfl, rfl, rfl, rfl, rfl, trivial⟩
                  · have H := H.2 g60
                    refine s_pu (d := some 102) (v := y28) rfl rfl (wants_yes rfl rfl rfl rfl g60) (r_move rfl) ?_
                    obtain ⟨e61, H⟩ := H
                    refine s_pu (d := some 103) (v := (.bool (isNil y28))) rfl rfl (wants_yes rfl rfl rfl rfl g60) (r_nilI Try.underlying26 rfl e61 rfl) ?_
                    refine s_pu (d := some 104) (v := y26) rfl rfl (wants_yes rfl rfl rfl rfl g60) (r_move rfl) ?_
                    obtain ⟨e62, H⟩ := H
                    refine s_pu (d := some 105) (v := (.bool (isNil y26))) rfl rfl (wants_yes rfl rfl rfl rfl g60) (r_nilI Try.underlying26 rfl e62 rfl) ?_
                    refine s_pu (d := some 106) (v := (.bool ((isNil y28) != (isNil y26)))) rfl rfl (wants_yes rfl rfl rfl rfl g60) (r_neqB Try.underlying4 rfl rfl) ?_
                    refine s_pu (d := some 107) (v := (.bool ((isNil y28) != (isNil y26)))) rfl rfl rfl (r_pick0 rfl g60 rfl) ?_
                    refine s_fin ?_
                    exact N_mk (l := [(0, (Sl.v l1)), (1, (.int .i64 i2)), (2, (.int .i64 j3)), (3, (.int .i64 x4)), (4, (.int .i64 y5)), (12, (.pointer y7)), (14, (.pointer y9)), (16, y26), (107, (.bool ((isNil y28) != (isNil y26))))]) H ⟨rfl, rfl, rfl, rfl, rfl, rfl, rfl, rfl, rfl, trivial⟩
          · rcases Bool.eq_false_or_eq_true ((((!(isNil y8)) || (!(isNil y10))) || (Option.isNone y7)) || (Option.isNone y9)) with g22 | g22
            · refine s_sk (d := some 51) rfl rfl (wants_no rfl rfl rfl rfl g22) ?_
              refine s_sk (d := some 52) rfl rfl (wants_no rfl rfl rfl rfl g22) ?_
              refine s_sk (d := some 53) rfl rfl (wants_no rfl rfl rfl rfl g22) ?_
              refine s_pu (d := some 54) (v := (.bool true)) rfl rfl rfl (r_pick1 rfl g22 rfl) ?_
              exact S_mk (l := [(0, (Sl.v l1)), (1, (.int .i64 i2)), (2, (.int .i64 j3)), (3, (.int .i64 x4)), (4, (.int .i64 y5)), (12, (.pointer y7)), (13, y8), (14, (.pointer y9)), (54, (.bool (((((!(isNil y8)) || (!(isNil y10))) || (Option.isNone y7)) || (Option.isNone y9)) || (decide (200 < ((l1.len : Int)))))))]) HJ ⟨rfl, rfl, rfl, rfl, rfl, rfl, rfl, rfl, (by rw [g22]; rfl), trivial⟩
            · refine s_pu (d := some 51) (v := (Sl.v l1)) rfl rfl (wants_yes rfl rfl rfl rfl g22) (r_move rfl) ?_
              refine s_pu (d := some 52) (v := (.int .i64 ((l1.len : Int)))) rfl rfl (wants_yes rfl rfl rfl rfl g22) (r_len Try.underlying22 rfl) ?_
              refine s_pu (d := some 53) (v := (.bool (decide (200 < ((l1.len : Int)))))) rfl rfl (wants_yes rfl rfl rfl rfl g22) (r_gtr rfl rfl) ?_
              refine s_pu (d := some 54) (v := (.bool (decide (200 < ((l1.len : Int)))))) rfl rfl rfl (r_pick0 rfl g22 rfl) ?_
              exact S_mk (l := [(0, (Sl.v l1)), (1, (.int .i64 i2)), (2, (.int .i64 j3)), (3, (.int .i64 x4)), (4, (.int .i64 y5)), (12, (.pointer y7)), (13, y8), (14, (.pointer y9)), (54, (.bool (((((!(isNil y8)) || (!(isNil y10))) || (Option.isNone y7)) || (Option.isNone y9)) || (decide (200 < ((l1.len : Int)))))))]) HJ ⟨rfl, rfl, rfl, rfl, rfl, rfl, rfl, rfl, (by rw [g22]; rfl), trivial⟩
        · rcases Bool.eq_false_or_eq_true (((!(isNil y8)) || (!(isNil y10))) || (Option.isNone y7)) with g19 | g19
          · refine s_sk (d := some 47) rfl rfl (wants_no rfl rfl rfl rfl g19) ?_
            refine s_sk (d := some 48) rfl rfl (wants_no rfl rfl rfl rfl g19) ?_
            refine s_pu (d := some 49) (v := (.bool true)) rfl rfl rfl (r_pick1 rfl g19 rfl) ?_
            exact S_mk (l := [(0, (Sl.v l1)), (1, (.int .i64 i2)), (2, (.int .i64 j3)), (3, (.int .i64 x4)), (4, (.int .i64 y5)), (12, (.pointer y7)), (13, y8), (14, (.pointer y9)), (49, (.bool ((((!(isNil y8)) || (!(isNil y10))) || (Option.isNone y7)) || (Option.isNone y9))))]) HJ ⟨rfl, rfl, rfl, rfl, rfl, rfl, rfl, rfl, (by rw [g19]; rfl), trivial⟩
          · refine s_pu (d := some 47) (v := (.pointer y9)) rfl rfl (wants_yes rfl rfl rfl rfl g19) (r_move rfl) ?_
            refine s_pu (d := some 48) (v := (.bool (Option.isNone y9))) rfl rfl (wants_yes rfl rfl rfl rfl g19) (r_nilP Try.underlying45 rfl rfl) ?_
            refine s_pu (d := some 49) (v := (.bool (Option.isNone y9))) rfl rfl rfl (r_pick0 rfl g19 rfl) ?_
            exact S_mk (l := [(0, (Sl.v l1)), (1, (.int .i64 i2)), (2, (.int .i64 j3)), (3, (.int .i64 x4)), (4, (.int .i64 y5)), (12, (.pointer y7)), (13, y8), (14, (.pointer y9)), (49, (.bool ((((!(isNil y8)) || (!(isNil y10))) || (Option.isNone y7)) || (Option.isNone y9))))]) HJ ⟨rfl, rfl, rfl, rfl, rfl, rfl, rfl, rfl, (by rw [g19]; rfl), trivial⟩
      · rcases Bool.eq_false_or_eq_true ((!(isNil y8)) || (!(isNil y10))) with g16 | g16
        · refine s_sk (d := some 43) rfl rfl (wants_no rfl rfl rfl rfl g16) ?_
          refine s_sk (d := some 44) rfl rfl (wants_no rfl rfl rfl rfl g16) ?_
          refine s_pu (d := some 45) (v := (.bool true)) rfl rfl rfl (r_pick1 rfl g16 rfl) ?_
          exact S_mk (l := [(0, (Sl.v l1)), (1, (.int .i64 i2)), (2, (.int .i64 j3)), (3, (.int .i64 x4)), (4, (.int .i64 y5)), (12, (.pointer y7)), (13, y8), (14, (.pointer y9)), (45, (.bool (((!(isNil y8)) || (!(isNil y10))) || (Option.isNone y7))))]) HJ ⟨rfl, rfl, rfl, rfl, rfl, rfl, rfl, rfl, (by rw [g16]; rfl), trivial⟩
        · refine s_pu (d := some 43) (v := (.pointer y7)) rfl rfl (wants_yes rfl rfl rfl rfl g16) (r_move rfl) ?_
          refine s_pu (d := some 44) (v := (.bool (Option.isNone y7))) rfl rfl (wants_yes rfl rfl rfl rfl g16) (r_nilP Try.underlying45 rfl rfl) ?_
          refine s_pu (d := some 45) (v := (.bool (Option.isNone y7))) rfl rfl rfl (r_pick0 rfl g16 rfl) ?_
          exact S_mk (l := [(0, (Sl.v l1)), (1, (.int .i64 i2)), (2, (.int .i64 j3)), (3, (.int .i64 x4)), (4, (.int .i64 y5)), (12, (.pointer y7)), (13, y8), (14, (.pointer y9)), (45, (.bool (((!(isNil y8)) || (!(isNil y10))) || (Option.isNone y7))))]) HJ ⟨rfl, rfl, rfl, rfl, rfl, rfl, rfl, rfl, (by rw [g16]; rfl), trivial⟩
    · rcases Bool.eq_false_or_eq_true (!(isNil y8)) with g12 | g12
      · refine s_sk (d := some 39) rfl rfl (wants_no rfl rfl rfl rfl g12) ?_
        refine s_sk (d := some 40) rfl rfl (wants_no rfl rfl rfl rfl g12) ?_
        refine s_pu (d := some 41) (v := (.bool true)) rfl rfl rfl (r_pick1 rfl g12 rfl) ?_
        exact S_mk (l := [(0, (Sl.v l1)), (1, (.int .i64 i2)), (2, (.int .i64 j3)), (3, (.int .i64 x4)), (4, (.int .i64 y5)), (12, (.pointer y7)), (13, y8), (14, (.pointer y9)), (41, (.bool ((!(isNil y8)) || (!(isNil y10)))))]) HJ ⟨rfl, rfl, rfl, rfl, rfl, rfl, rfl, rfl, (by rw [g12]; rfl), trivial⟩
      · refine s_pu (d := some 39) (v := y10) rfl rfl (wants_yes rfl rfl rfl rfl g12) (r_move rfl) ?_
        refine s_pu (d := some 40) (v := (.bool (!(isNil y10)))) rfl rfl (wants_yes rfl rfl rfl rfl g12) (r_notNilI Try.underlying26 rfl e13 rfl) ?_
        refine s_pu (d := some 41) (v := (.bool (!(isNil y10)))) rfl rfl rfl (r_pick0 rfl g12 rfl) ?_
        exact S_mk (l := [(0, (Sl.v l1)), (1, (.int .i64 i2)), (2, (.int .i64 j3)), (3, (.int .i64 x4)), (4, (.int .i64 y5)), (12, (.pointer y7)), (13, y8), (14, (.pointer y9)), (41, (.bool ((!(isNil y8)) || (!(isNil y10)))))]) HJ ⟨rfl, rfl, rfl, rfl, rfl, rfl, rfl, rfl, (by rw [g12]; rfl), trivial⟩

end Go.Proofs.Ytgieabpckecjlaa
