/- Typed words of functions, and that they hold: printed by gen.py (an own tool of this claim) off the model's own form of each function. -/
import Derived.Test.YtikccpmhoioaeaaProg
import Derived.Test.YtikccpmhoioaeaaOOrd
import Derived.Test.YtikccpmhoioaeaaORef
namespace Go.Proofs.Ytikccpmhoioaeaa
open Go Go.RowKit Go.Tw
set_option linter.unusedVariables false

theorem slFOLaw_22 : SlF Try.prog 22 3 1 8 (.int .i64 0) := ⟨Try.underlying22, ⟨Try.t3, by kernel_rfl, rfl, rfl, rfl⟩, rfl, Try.sizeOf3, Try.zeroValue3⟩

/-! ### the calls -/

abbrev law3_ordered (r : World)  (h : Heap) (R : Bool → Heap → Prop) : Prop :=
  CallsH Try.prog r 11 [] h fun v h' => ∃ (y1 : Bool), v = (.bool y1) ∧ R y1 h'

theorem law3_ordered.mono {r : World}  {h : Heap} {R R' : Bool → Heap → Prop} (H : law3_ordered r  h R) (hr : ∀ y1 h, R y1 h → R' y1 h) : law3_ordered r  h R' :=
  CallsH.mono H fun _ _ hx => by
    obtain ⟨y1, hv, hR⟩ := hx
    exact ⟨y1, hv, hr _ _ hR⟩

abbrev law3_OrdBetween (r : World) (l1 : Sl) (a2 : Int) (vb3 : Int) (c4 : Int) (h : Heap) (R : Bool → Heap → Prop) : Prop :=
  CallsH Try.prog r 3 [(Sl.v l1), (.int .i64 a2), (.int .i64 vb3), (.int .i64 c4)] h fun v h' => ∃ (y5 : Bool), v = (.bool y5) ∧ R y5 h'

theorem law3_OrdBetween.mono {r : World} {l1 : Sl} {a2 : Int} {vb3 : Int} {c4 : Int} {h : Heap} {R R' : Bool → Heap → Prop} (H : law3_OrdBetween r l1 a2 vb3 c4 h R) (hr : ∀ y5 h, R y5 h → R' y5 h) : law3_OrdBetween r l1 a2 vb3 c4 h R' :=
  CallsH.mono H fun _ _ hx => by
    obtain ⟨y5, hv, hR⟩ := hx
    exact ⟨y5, hv, hr _ _ hR⟩

abbrev law3_OrdTells (r : World) (l1 : Sl) (x2 : Int) (low3 : Int) (high4 : Int) (h : Heap) (R : Bool → Heap → Prop) : Prop :=
  CallsH Try.prog r 6 [(Sl.v l1), (.int .i64 x2), (.int .i64 low3), (.int .i64 high4)] h fun v h' => ∃ (y5 : Bool), v = (.bool y5) ∧ R y5 h'

theorem law3_OrdTells.mono {r : World} {l1 : Sl} {x2 : Int} {low3 : Int} {high4 : Int} {h : Heap} {R R' : Bool → Heap → Prop} (H : law3_OrdTells r l1 x2 low3 high4 h R) (hr : ∀ y5 h, R y5 h → R' y5 h) : law3_OrdTells r l1 x2 low3 high4 h R' :=
  CallsH.mono H fun _ _ hx => by
    obtain ⟨y5, hv, hR⟩ := hx
    exact ⟨y5, hv, hr _ _ hR⟩

abbrev law3_OrdMerges (r : World) (a1 : Sl) (vb2 : Sl) (c3 : Sl) (x4 : Int) (h : Heap) (R : Bool → Heap → Prop) : Prop :=
  CallsH Try.prog r 9 [(Sl.v a1), (Sl.v vb2), (Sl.v c3), (.int .i64 x4)] h fun v h' => ∃ (y5 : Bool), v = (.bool y5) ∧ R y5 h'

theorem law3_OrdMerges.mono {r : World} {a1 : Sl} {vb2 : Sl} {c3 : Sl} {x4 : Int} {h : Heap} {R R' : Bool → Heap → Prop} (H : law3_OrdMerges r a1 vb2 c3 x4 h R) (hr : ∀ y5 h, R y5 h → R' y5 h) : law3_OrdMerges r a1 vb2 c3 x4 h R' :=
  CallsH.mono H fun _ _ hx => by
    obtain ⟨y5, hv, hR⟩ := hx
    exact ⟨y5, hv, hr _ _ hR⟩

/-! ### law3_ordered -/

def law3_ordered_F (r : World)  (h : Heap) (R : Bool → Heap → Prop) : Prop :=
  New h (.cells #[(.int .i64 5), (.int .i64 3), (.int .i64 5)] 3) fun p1 h1 =>
  ord_Of r ((⟨some p1, 3, 3⟩ : Sl)) h1 fun y4 h2 =>
  New h2 (.cells #[(.pointer none)] 28) fun p5 h3 =>
  St h3 p5 1 [(.pointer y4)] fun h4 =>
  ∀ J11 : Bool → Heap → Prop, (∀ (x10 : Bool) (h5 : Heap),
    (R x10 h5) →
    J11 x10 h5) →
  LdP h4 (Addr.add p5 0) fun x13 =>
  ord_Order_Count r x13 5 h4 fun y15 h6 =>
  Br (decide (y15 = 2)) (
    LdP h6 (Addr.add p5 0) fun x17 =>
    ord_Order_Count r x17 4 h6 fun y19 h7 =>
    J11 (decide (y19 = 0)) h7) (
    J11 false h6)

set_option maxRecDepth 100000 in
theorem law3_ordered_of {r : World}  {h : Heap} {R : Bool → Heap → Prop} (H : law3_ordered_F r  h R) : law3_ordered r  h R := by
  unfold law3_ordered_F at H
  refine calls_of 12 [.tmp 0] Try.func11 rfl rfl rfl rfl rfl ?_
  refine W_seq ?_
  refine W_region (.pu 0 .fin) rfl rfl ?_
  refine s_pu (d := some 0) (v := (.bool false)) rfl rfl rfl (r_assign rfl) ?_
  refine s_fin ?_
  show W _ _ _ _ _ _ _ _
  refine W_seq ?_
  refine W_region (.ef 0 [] (.ef 1 [] (.ef 2 [] (.ef 3 [] .fin .no) .no) .no) .no) rfl rfl ?_
  obtain ⟨p1, e2⟩ : ∃ p : Addr, p = ⟨h.size, 0, none⟩ := ⟨_, rfl⟩
  obtain ⟨h1, e3⟩ : ∃ hh : Heap, hh = h.push (.cells #[(.int .i64 5), (.int .i64 3), (.int .i64 5)] 3) := ⟨_, rfl⟩
  have H := H p1 h1 e2 e3
  refine s_ef1 (d := some 2) (v := (Sl.v ((⟨some p1, 3, 3⟩ : Sl)))) (h' := h1) rfl rfl rfl (fun dr => (slFOLaw_22.build (cells := #[(.int .i64 5), (.int .i64 3), (.int .i64 5)]) (by decide) rfl (by kernel_rfl)).trans (by rw [e2, e3]; rfl)) trivial ?_ trivial
  refine s_ef (d := some 3) rfl rfl rfl (fun dr => r_call Try.call12 rfl rfl H) ?_ trivial
  rintro _ h2 ⟨y4, rfl, H⟩
  refine ⟨trivial, ?_⟩
  obtain ⟨p5, e6⟩ : ∃ p : Addr, p = ⟨h2.size, 0, none⟩ := ⟨_, rfl⟩
  obtain ⟨h3, e7⟩ : ∃ hh : Heap, hh = h2.push (.cells #[(.pointer none)] 28) := ⟨_, rfl⟩
  have H := H p5 h3 e6 e7
  refine s_ef1 (d := some 1) (v := (.pointer (some p5))) (h' := h3) rfl rfl rfl (fun dr => (r_alloc Try.zeroValue28).trans (by rw [e6, e7]; rfl)) trivial ?_ trivial
  obtain ⟨e9, H⟩ := H
  obtain ⟨h4, e8⟩ : ∃ hh : Heap, hh = hsets h3 p5 0 [(.pointer y4)] := ⟨_, rfl⟩
  have H := H h4 e8
  refine s_st (d := none) (h' := h4) rfl rfl rfl (fun dr => (r_store (v := (.agg #[(.pointer y4)])) Try.sizeOf28 rfl rfl rfl (one_all rfl) e9).trans (by rw [e8]; rfl)) trivial ?_ trivial
  refine s_fin ?_
  show W _ _ _ _ _ _ _ _
  refine W_seq ?_
  refine W_set ?_
  intro N12 eN12
  have H := H (fun (x10 : Bool) (h5 : Heap) => ∀ b, N12 [] (mkE [(0, (.bool x10))] b) h5) (by
    intro x10 h5 H b
    rw [eN12]
    show W _ _ _ _ _ _ _ _
    refine W_ret ?_
    exact ⟨[(.bool x10)], ⟨_, _, rfl, rfl, rfl⟩, x10, rfl, H⟩)
  clear eN12
  refine W_region (.rl 0 (.ef 1 [] (.pu 2 (.pu 3 (.rl 4 (.ef 5 [] (.pu 6 (.pu 7 (.pu 8 .fin))) .no)))) .no)) rfl rfl ?_
  obtain ⟨x13, e14, H⟩ := H
  refine s_rl (d := some 4) (v := (.agg #[(.pointer x13)])) rfl rfl rfl (fun dr => r_loadN Try.isAgg28 Try.sizeOf28 (vs := [(.pointer x13)]) rfl rfl ⟨e14, trivial⟩) ?_
  refine s_ef (d := some 5) rfl rfl rfl (fun dr => r_call Try.call16 rfl rfl H) ?_ trivial
  rintro _ h6 ⟨y15, rfl, H⟩
  refine ⟨trivial, ?_⟩
  refine s_pu (d := some 6) (v := (.bool (decide (y15 = 2)))) rfl rfl rfl (r_eql rfl rfl) ?_
  refine s_pu (d := some 7) (v := (.bool (decide (y15 = 2)))) rfl rfl rfl (r_move rfl) ?_
  rcases Bool.eq_false_or_eq_true (decide (y15 = 2)) with g16 | g16
  · have H := H.1 g16
    obtain ⟨x17, e18, H⟩ := H
    refine s_rl (d := some 8) (v := (.agg #[(.pointer x17)])) rfl rfl (wants_yes rfl rfl rfl rfl g16) (fun dr => r_loadN Try.isAgg28 Try.sizeOf28 (vs := [(.pointer x17)]) rfl rfl ⟨e18, trivial⟩) ?_
    refine s_ef (d := some 9) rfl rfl (wants_yes rfl rfl rfl rfl g16) (fun dr => r_call Try.call16 rfl rfl H) ?_ trivial
    rintro _ h7 ⟨y19, rfl, H⟩
    refine ⟨trivial, ?_⟩
    refine s_pu (d := some 10) (v := (.bool (decide (y19 = 0)))) rfl rfl (wants_yes rfl rfl rfl rfl g16) (r_eql rfl rfl) ?_
    refine s_pu (d := some 11) (v := (.bool (decide (y19 = 0)))) rfl rfl rfl (r_pick1 rfl g16 rfl) ?_
    refine s_pu (d := some 0) (v := (.bool (decide (y19 = 0)))) rfl rfl rfl (r_assign rfl) ?_
    refine s_fin ?_
    exact N_mk (l := [(0, (.bool (decide (y19 = 0))))]) H ⟨rfl, trivial⟩
  · have H := H.2 g16
    refine s_skl (d := some 8) rfl rfl (wants_no rfl rfl rfl rfl g16) ?_
    refine s_skf (d := some 9) rfl rfl (wants_no rfl rfl rfl rfl g16) trivial ?_ trivial
    refine s_sk (d := some 10) rfl rfl (wants_no rfl rfl rfl rfl g16) ?_
    refine s_pu (d := some 11) (v := (.bool false)) rfl rfl rfl (r_pick0 rfl g16 rfl) ?_
    refine s_pu (d := some 0) (v := (.bool false)) rfl rfl rfl (r_assign rfl) ?_
    refine s_fin ?_
    exact N_mk (l := [(0, (.bool false))]) H ⟨rfl, trivial⟩

/-! ### law3_OrdBetween -/

def law3_OrdBetween_F (r : World) (l1 : Sl) (a2 : Int) (vb3 : Int) (c4 : Int) (h : Heap) (R : Bool → Heap → Prop) : Prop :=
  law3_ordered r h fun y5 h1 =>
  Br (!y5) (
    R false h1) (
    Br ((decide (vb3 < a2)) || (decide (c4 ≤ vb3))) (
      R true h1) (
      ord_Of r l1 h1 fun y9 h2 =>
      New h2 (.cells #[(.pointer none)] 28) fun p10 h3 =>
      St h3 p10 1 [(.pointer y9)] fun h4 =>
      LdP h4 (Addr.add p10 0) fun x15 =>
      LdP h4 (Addr.add p10 0) fun x17 =>
      LdP h4 (Addr.add p10 0) fun x19 =>
      ord_Order_Between r x15 a2 vb3 h4 fun y21 h5 =>
      (hcell h5 (Addr.add p10 0) = some (.pointer x19)) ∧
      (hcell h5 (Addr.add p10 0) = some (.pointer x17)) ∧
      ord_Order_Between r x17 (w64 (vb3 + 1)) c4 h5 fun y24 h6 =>
      (hcell h6 (Addr.add p10 0) = some (.pointer x19)) ∧
      ref1_Cat r y21 y24 h6 fun y26 h7 =>
      (hcell h7 (Addr.add p10 0) = some (.pointer x19)) ∧
      ord_Order_Between r x19 a2 c4 h7 fun y28 h8 =>
      same_Ints r y26 y28 h8 fun y29 h9 =>
      ∀ J31 : Bool → Heap → Prop, (∀ (x30 : Bool) (h10 : Heap),
        (R x30 h10) →
        J31 x30 h10) →
      Br y29 (
        LdP h9 (Addr.add p10 0) fun x34 =>
        LdP h9 (Addr.add p10 0) fun x36 =>
        ord_Order_Between r x34 a2 a2 h9 fun y38 h11 =>
        (hcell h11 (Addr.add p10 0) = some (.pointer x36)) ∧
        ord_Order_Count r x36 a2 h11 fun y40 h12 =>
        J31 (decide (((y38.len : Int)) = y40)) h12) (
        J31 false h9)))

set_option maxRecDepth 100000 in
theorem law3_OrdBetween_of {r : World} {l1 : Sl} {a2 : Int} {vb3 : Int} {c4 : Int} {h : Heap} {R : Bool → Heap → Prop} (H : law3_OrdBetween_F r l1 a2 vb3 c4 h R) : law3_OrdBetween r l1 a2 vb3 c4 h R := by
  unfold law3_OrdBetween_F at H
  refine calls_of 52 [.tmp 8] Try.func3 rfl rfl rfl rfl rfl ?_
  refine W_seq ?_
  refine W_region (.pu 0 .fin) rfl rfl ?_
  refine s_pu (d := some 8) (v := (.bool false)) rfl rfl rfl (r_assign rfl) ?_
  refine s_fin ?_
  show W _ _ _ _ _ _ _ _
  refine W_seq ?_
  refine W_region (.ef 0 [] (.pu 1 .fin) .no) rfl rfl ?_
  refine s_ef (d := some 12) rfl rfl rfl (fun dr => r_call Try.call11 rfl rfl H) ?_ trivial
  rintro _ h1 ⟨y5, rfl, H⟩
  refine ⟨trivial, ?_⟩
  refine s_pu (d := some 9) (v := (.bool y5)) rfl rfl rfl (r_assign rfl) ?_
  refine s_fin ?_
  show W _ _ _ _ _ _ _ _
  refine W_seq ?_
  refine W_seq ?_
  refine W_region (.pu 0 (.pu 1 .fin)) rfl rfl ?_
  refine s_pu (d := some 13) (v := (.bool y5)) rfl rfl rfl (r_move rfl) ?_
  refine s_pu (d := some 14) (v := (.bool (!y5))) rfl rfl rfl (r_not rfl) ?_
  refine s_fin ?_
  show W _ _ _ _ _ _ _ _
  refine W_if (!y5) rfl (fun g43 => ?_) (fun g43 => ?_)
  · have H := H.1 g43
    refine W_seq ?_
    refine W_region (.pu 0 .fin) rfl rfl ?_
    refine s_pu (d := some 8) (v := (.bool false)) rfl rfl rfl (r_assign rfl) ?_
    refine s_fin ?_
    show W _ _ _ _ _ _ _ _
    refine W_ret ?_
    exact ⟨[(.bool false)], ⟨_, _, rfl, rfl, rfl⟩, false, rfl, H⟩
  · have H := H.2 g43
    refine W_skip ?_
    show W _ _ _ _ _ _ _ _
    refine W_seq ?_
    refine W_seq ?_
    refine W_region (.pu 0 (.pu 1 (.pu 2 (.pu 3 (.pu 4 (.pu 5 (.pu 6 (.pu 7 .fin)))))))) rfl rfl ?_
    refine s_pu (d := some 15) (v := (.int .i64 a2)) rfl rfl rfl (r_move rfl) ?_
    refine s_pu (d := some 16) (v := (.int .i64 vb3)) rfl rfl rfl (r_move rfl) ?_
    refine s_pu (d := some 17) (v := (.bool (decide (vb3 < a2)))) rfl rfl rfl (r_gtr rfl rfl) ?_
    refine s_pu (d := some 18) (v := (.bool (decide (vb3 < a2)))) rfl rfl rfl (r_move rfl) ?_
    refine S_meet (l := [(0, (Sl.v l1)), (1, (.int .i64 a2)), (2, (.int .i64 vb3)), (3, (.int .i64 c4)), (22, (.bool ((decide (vb3 < a2)) || (decide (c4 ≤ vb3)))))]) (i := 4) ?_ (fun HJ => ?_)
    · intro b
      show S _ _ _ _ _ _
      refine s_fin ?_
      show W _ _ _ _ _ _ _ _
      refine W_if ((decide (vb3 < a2)) || (decide (c4 ≤ vb3))) rfl (fun g41 => ?_) (fun g41 => ?_)
      · have H := H.1 g41
        refine W_seq ?_
        refine W_region (.pu 0 .fin) rfl rfl ?_
        refine s_pu (d := some 8) (v := (.bool true)) rfl rfl rfl (r_assign rfl) ?_
        refine s_fin ?_
        show W _ _ _ _ _ _ _ _
        refine W_ret ?_
        exact ⟨[(.bool true)], ⟨_, _, rfl, rfl, rfl⟩, true, rfl, H⟩
      · have H := H.2 g41
        refine W_skip ?_
        show W _ _ _ _ _ _ _ _
        refine W_seq ?_
        refine W_region (.pu 0 (.ef 1 [] (.ef 2 [] (.ef 3 [] .fin .no) .no) .no)) rfl rfl ?_
        refine s_pu (d := some 23) (v := (Sl.v l1)) rfl rfl rfl (r_move rfl) ?_
        refine s_ef (d := some 24) rfl rfl rfl (fun dr => r_call Try.call12 rfl rfl H) ?_ trivial
        rintro _ h2 ⟨y9, rfl, H⟩
        refine ⟨trivial, ?_⟩
        obtain ⟨p10, e11⟩ : ∃ p : Addr, p = ⟨h2.size, 0, none⟩ := ⟨_, rfl⟩
        obtain ⟨h3, e12⟩ : ∃ hh : Heap, hh = h2.push (.cells #[(.pointer none)] 28) := ⟨_, rfl⟩
        have H := H p10 h3 e11 e12
        refine s_ef1 (d := some 10) (v := (.pointer (some p10))) (h' := h3) rfl rfl rfl (fun dr => (r_alloc Try.zeroValue28).trans (by rw [e11, e12]; rfl)) trivial ?_ trivial
        obtain ⟨e14, H⟩ := H
        obtain ⟨h4, e13⟩ : ∃ hh : Heap, hh = hsets h3 p10 0 [(.pointer y9)] := ⟨_, rfl⟩
        have H := H h4 e13
        refine s_st (d := none) (h' := h4) rfl rfl rfl (fun dr => (r_store (v := (.agg #[(.pointer y9)])) Try.sizeOf28 rfl rfl rfl (one_all rfl) e14).trans (by rw [e13]; rfl)) trivial ?_ trivial
        refine s_fin ?_
        show W _ _ _ _ _ _ _ _
        refine W_seq ?_
        refine W_draw [0, 0, 0, 7, 0, 0, 32, 0, 255, 511, 0, 0, 0, 8191, 16383, 32767] (.rd 0 (.pu 1 (.pu 2 (.rd 4 (.pu 5 (.pu 6 (.pu 7 (.rd 10 (.pu 11 (.pu 12 (.ef 3 [0] (.ef 8 [0, 4] (.ef 9 [0, 4] (.ef 13 [0, 4, 10] (.ef 14 [0, 4, 10] (.pu 15 .fin) .no) .no) .no) .no) .no))))))))))) (by kernel_rfl) (by kernel_rfl) ?_
        obtain ⟨x15, e16, H⟩ := H
        refine s_rd (d := some 25) (v := (.agg #[(.pointer x15)])) rfl rfl rfl (fun dr => r_loadN Try.isAgg28 Try.sizeOf28 (vs := [(.pointer x15)]) rfl rfl ⟨e16, trivial⟩) ?_
        refine s_pu (d := some 26) (v := (.int .i64 a2)) rfl rfl rfl (r_move rfl) ?_
        refine s_pu (d := some 27) (v := (.int .i64 vb3)) rfl rfl rfl (r_move rfl) ?_
        obtain ⟨x17, e18, H⟩ := H
        refine s_rd (d := some 29) (v := (.agg #[(.pointer x17)])) rfl rfl rfl (fun dr => r_loadN Try.isAgg28 Try.sizeOf28 (vs := [(.pointer x17)]) rfl rfl ⟨e18, trivial⟩) ?_
        refine s_pu (d := some 30) (v := (.int .i64 vb3)) rfl rfl rfl (r_move rfl) ?_
        refine s_pu (d := some 31) (v := (.int .i64 (w64 (vb3 + 1)))) rfl rfl rfl (r_add rfl rfl) ?_
        refine s_pu (d := some 32) (v := (.int .i64 c4)) rfl rfl rfl (r_move rfl) ?_
        obtain ⟨x19, e20, H⟩ := H
        refine s_rd (d := some 35) (v := (.agg #[(.pointer x19)])) rfl rfl rfl (fun dr => r_loadN Try.isAgg28 Try.sizeOf28 (vs := [(.pointer x19)]) rfl rfl ⟨e20, trivial⟩) ?_
        refine s_pu (d := some 36) (v := (.int .i64 a2)) rfl rfl rfl (r_move rfl) ?_
        refine s_pu (d := some 37) (v := (.int .i64 c4)) rfl rfl rfl (r_move rfl) ?_
        refine s_ef (d := some 28) rfl rfl rfl (fun dr => r_call Try.call15 rfl rfl H) ?_ trivial
        rintro _ h5 ⟨y21, rfl, H⟩
        obtain ⟨e22, H⟩ := H
        obtain ⟨e23, H⟩ := H
        refine ⟨⟨(.inl ⟨rfl, fun dr => r_loadN Try.isAgg28 Try.sizeOf28 (vs := [(.pointer x19)]) rfl rfl ⟨e22, trivial⟩⟩), (.inl ⟨rfl, fun dr => r_loadN Try.isAgg28 Try.sizeOf28 (vs := [(.pointer x17)]) rfl rfl ⟨e23, trivial⟩⟩), trivial, trivial⟩, ?_⟩
        refine s_ef (d := some 33) rfl rfl rfl (fun dr => r_call Try.call15 rfl rfl H) ?_ trivial
        rintro _ h6 ⟨y24, rfl, H⟩
        obtain ⟨e25, H⟩ := H
        refine ⟨⟨(.inl ⟨rfl, fun dr => r_loadN Try.isAgg28 Try.sizeOf28 (vs := [(.pointer x19)]) rfl rfl ⟨e25, trivial⟩⟩), trivial, trivial, trivial⟩, ?_⟩
        refine s_ef (d := some 34) rfl rfl rfl (fun dr => r_call Try.call14 rfl rfl H) ?_ trivial
        rintro _ h7 ⟨y26, rfl, H⟩
        obtain ⟨e27, H⟩ := H
        refine ⟨⟨(.inl ⟨rfl, fun dr => r_loadN Try.isAgg28 Try.sizeOf28 (vs := [(.pointer x19)]) rfl rfl ⟨e27, trivial⟩⟩), trivial, trivial, trivial⟩, ?_⟩
        refine s_ef (d := some 38) rfl rfl rfl (fun dr => r_call Try.call15 rfl rfl H) ?_ trivial
        rintro _ h8 ⟨y28, rfl, H⟩
        refine ⟨⟨trivial, trivial, trivial, trivial⟩, ?_⟩
        refine s_ef (d := some 39) rfl rfl rfl (fun dr => r_call Try.call13 rfl rfl H) ?_ trivial
        rintro _ h9 ⟨y29, rfl, H⟩
        refine ⟨⟨trivial, trivial, trivial, trivial⟩, ?_⟩
        refine s_pu (d := some 11) (v := (.bool y29)) rfl rfl rfl (r_assign rfl) ?_
        refine s_fin ?_
        show W _ _ _ _ _ _ _ _
        refine W_seq ?_
        refine W_set ?_
        intro N32 eN32
        have H := H (fun (x30 : Bool) (h10 : Heap) => ∀ b, N32 [] (mkE [(8, (.bool x30))] b) h10) (by
          intro x30 h10 H b
          rw [eN32]
          show W _ _ _ _ _ _ _ _
          refine W_ret ?_
          exact ⟨[(.bool x30)], ⟨_, _, rfl, rfl, rfl⟩, x30, rfl, H⟩)
        clear eN32
        refine W_draw [0, 1, 3, 3, 3, 31, 63, 3, 3, 447, 1023, 2047, 4095] (.pu 0 (.pu 1 (.rd 2 (.pu 3 (.pu 4 (.rd 7 (.pu 8 (.ef 5 [2] (.pu 6 (.ef 9 [2, 7] (.pu 10 (.pu 11 (.pu 12 .fin))) .no)) .no)))))))) (by kernel_rfl) (by kernel_rfl) ?_
        refine s_pu (d := some 40) (v := (.bool y29)) rfl rfl rfl (r_move rfl) ?_
        refine s_pu (d := some 41) (v := (.bool y29)) rfl rfl rfl (r_move rfl) ?_
        rcases Bool.eq_false_or_eq_true y29 with g33 | g33
        · have H := H.1 g33
          obtain ⟨x34, e35, H⟩ := H
          refine s_rd (d := some 42) (v := (.agg #[(.pointer x34)])) rfl rfl (wants_yes rfl rfl rfl rfl g33) (fun dr => r_loadN Try.isAgg28 Try.sizeOf28 (vs := [(.pointer x34)]) rfl rfl ⟨e35, trivial⟩) ?_
          refine s_pu (d := some 43) (v := (.int .i64 a2)) rfl rfl (wants_yes rfl rfl rfl rfl g33) (r_move rfl) ?_
          refine s_pu (d := some 44) (v := (.int .i64 a2)) rfl rfl (wants_yes rfl rfl rfl rfl g33) (r_move rfl) ?_
          obtain ⟨x36, e37, H⟩ := H
          refine s_rd (d := some 47) (v := (.agg #[(.pointer x36)])) rfl rfl (wants_yes rfl rfl rfl rfl g33) (fun dr => r_loadN Try.isAgg28 Try.sizeOf28 (vs := [(.pointer x36)]) rfl rfl ⟨e37, trivial⟩) ?_
          refine s_pu (d := some 48) (v := (.int .i64 a2)) rfl rfl (wants_yes rfl rfl rfl rfl g33) (r_move rfl) ?_
          refine s_ef (d := some 45) rfl rfl (wants_yes rfl rfl rfl rfl g33) (fun dr => r_call Try.call15 rfl rfl H) ?_ trivial
          rintro _ h11 ⟨y38, rfl, H⟩
          obtain ⟨e39, H⟩ := H
          refine ⟨⟨(.inl ⟨(wants_yes rfl rfl rfl rfl g33), fun dr => r_loadN Try.isAgg28 Try.sizeOf28 (vs := [(.pointer x36)]) rfl rfl ⟨e39, trivial⟩⟩), trivial, trivial⟩, ?_⟩
          refine s_pu (d := some 46) (v := (.int .i64 ((y38.len : Int)))) rfl rfl (wants_yes rfl rfl rfl rfl g33) (r_len Try.underlying22 rfl) ?_
          refine s_ef (d := some 49) rfl rfl (wants_yes rfl rfl rfl rfl g33) (fun dr => r_call Try.call16 rfl rfl H) ?_ trivial
          rintro _ h12 ⟨y40, rfl, H⟩
          refine ⟨⟨trivial, trivial, trivial⟩, ?_⟩
          refine s_pu (d := some 50) (v := (.bool (decide (((y38.len : Int)) = y40)))) rfl rfl (wants_yes rfl rfl rfl rfl g33) (r_eql rfl rfl) ?_
          refine s_pu (d := some 51) (v := (.bool (decide (((y38.len : Int)) = y40)))) rfl rfl rfl (r_pick1 rfl g33 rfl) ?_
          refine s_pu (d := some 8) (v := (.bool (decide (((y38.len : Int)) = y40)))) rfl rfl rfl (r_assign rfl) ?_
          refine s_fin ?_
          exact N_mk (l := [(8, (.bool (decide (((y38.len : Int)) = y40))))]) H ⟨rfl, trivial⟩
        · have H := H.2 g33
          refine s_skd (d := some 42) rfl rfl (wants_no rfl rfl rfl rfl g33) ?_
          refine s_sk (d := some 43) rfl rfl (wants_no rfl rfl rfl rfl g33) ?_
          refine s_sk (d := some 44) rfl rfl (wants_no rfl rfl rfl rfl g33) ?_
          refine s_skd (d := some 47) rfl rfl (wants_no rfl rfl rfl rfl g33) ?_
          refine s_sk (d := some 48) rfl rfl (wants_no rfl rfl rfl rfl g33) ?_
          refine s_skf (d := some 45) rfl rfl (wants_no rfl rfl rfl rfl g33) ⟨(.inr ⟨wants_no rfl rfl rfl rfl g33, rfl⟩), trivial, trivial⟩ ?_ trivial
          refine s_sk (d := some 46) rfl rfl (wants_no rfl rfl rfl rfl g33) ?_
          refine s_skf (d := some 49) rfl rfl (wants_no rfl rfl rfl rfl g33) ⟨trivial, trivial, trivial⟩ ?_ trivial
          refine s_sk (d := some 50) rfl rfl (wants_no rfl rfl rfl rfl g33) ?_
          refine s_pu (d := some 51) (v := (.bool false)) rfl rfl rfl (r_pick0 rfl g33 rfl) ?_
          refine s_pu (d := some 8) (v := (.bool false)) rfl rfl rfl (r_assign rfl) ?_
          refine s_fin ?_
          exact N_mk (l := [(8, (.bool false))]) H ⟨rfl, trivial⟩
    · rcases Bool.eq_false_or_eq_true (decide (vb3 < a2)) with g6 | g6
      · refine s_sk (d := some 19) rfl rfl (wants_no rfl rfl rfl rfl g6) ?_
        refine s_sk (d := some 20) rfl rfl (wants_no rfl rfl rfl rfl g6) ?_
        refine s_sk (d := some 21) rfl rfl (wants_no rfl rfl rfl rfl g6) ?_
        refine s_pu (d := some 22) (v := (.bool true)) rfl rfl rfl (r_pick1 rfl g6 rfl) ?_
        exact S_mk (l := [(0, (Sl.v l1)), (1, (.int .i64 a2)), (2, (.int .i64 vb3)), (3, (.int .i64 c4)), (22, (.bool ((decide (vb3 < a2)) || (decide (c4 ≤ vb3)))))]) HJ ⟨rfl, rfl, rfl, rfl, (by rw [g6]; rfl), trivial⟩
      · refine s_pu (d := some 19) (v := (.int .i64 vb3)) rfl rfl (wants_yes rfl rfl rfl rfl g6) (r_move rfl) ?_
        refine s_pu (d := some 20) (v := (.int .i64 c4)) rfl rfl (wants_yes rfl rfl rfl rfl g6) (r_move rfl) ?_
        refine s_pu (d := some 21) (v := (.bool (decide (c4 ≤ vb3)))) rfl rfl (wants_yes rfl rfl rfl rfl g6) (r_geq rfl rfl) ?_
        refine s_pu (d := some 22) (v := (.bool (decide (c4 ≤ vb3)))) rfl rfl rfl (r_pick0 rfl g6 rfl) ?_
        exact S_mk (l := [(0, (Sl.v l1)), (1, (.int .i64 a2)), (2, (.int .i64 vb3)), (3, (.int .i64 c4)), (22, (.bool ((decide (vb3 < a2)) || (decide (c4 ≤ vb3)))))]) HJ ⟨rfl, rfl, rfl, rfl, (by rw [g6]; rfl), trivial⟩

/-! ### law3_OrdTells -/

def law3_OrdTells_F (r : World) (l1 : Sl) (x2 : Int) (low3 : Int) (high4 : Int) (h : Heap) (R : Bool → Heap → Prop) : Prop :=
  law3_ordered r h fun y5 h1 =>
  Br (!y5) (
    R false h1) (
    ord_Of r l1 h1 fun y6 h2 =>
    New h2 (.cells #[(.pointer none)] 28) fun p7 h3 =>
    St h3 p7 1 [(.pointer y6)] fun h4 =>
    LdP h4 (Addr.add p7 0) fun x12 =>
    ord_Order_Ints r x12 h4 fun y14 h5 =>
    ref1_Sorted r l1 h5 fun y15 h6 =>
    same_Ints r y14 y15 h6 fun y16 h7 =>
    LdP h7 (Addr.add p7 0) fun x17 =>
    ord_Order_Insert r x17 x2 h7 fun y19 h8 =>
    ord_Order_Ints r y19 h8 fun y20 h9 =>
    ref1_Cat r l1 Sl.nil h9 fun y21 h10 =>
    New h10 (.cells #[(.int .i64 x2)] 3) fun p22 h11 =>
    App 3 1 8 (.int .i64 0) y21 ((⟨some p22, 1, 1⟩ : Sl)) h11 fun s25 h12 =>
    ref1_Sorted r s25 h12 fun y26 h13 =>
    same_Ints r y20 y26 h13 fun y27 h14 =>
    LdP h14 (Addr.add p7 0) fun x28 =>
    ord_Order_Drop r x28 x2 h14 fun y30 h15 =>
    ord_Order_Ints r y30 h15 fun y31 h16 =>
    New h16 (.cells #[(.int .i64 x2)] 3) fun p32 h17 =>
    ref1_Sifted r l1 ((⟨some p32, 1, 1⟩ : Sl)) false h17 fun y35 h18 =>
    ref1_Sorted r y35 h18 fun y36 h19 =>
    same_Ints r y31 y36 h19 fun y37 h20 =>
    ∀ X40 : Sl → Int → Heap → Prop, (∀ (vs38 : Sl) (i39 : Int) (h21 : Heap),
      (Br (decide (i39 < ((l1.len : Int)))) (
        ∀ J42 : Sl → Heap → Prop, (∀ (vs41 : Sl) (h22 : Heap),
          (X40 vs41 (w64 (i39 + 1)) h22) →
          J42 vs41 h22) →
        ∀ J45 : Bool → Prop, (∀ (x44 : Bool),
          (Br x44 (
            Ix l1 i39 1 fun q51 =>
            LdI h21 q51 fun x53 =>
            New h21 (.cells #[(.int .i64 x53)] 3) fun p55 h23 =>
            App 3 1 8 (.int .i64 0) vs38 ((⟨some p55, 1, 1⟩ : Sl)) h23 fun s58 h24 =>
            J42 s58 h24) (
            J42 vs38 h21)) →
          J45 x44) →
        Ix l1 i39 1 fun q64 =>
        LdI h21 q64 fun x66 =>
        Br (decide (low3 ≤ x66)) (
          Ix l1 i39 1 fun q73 =>
          LdI h21 q73 fun x75 =>
          J45 (decide (x75 ≤ high4))) (
          J45 false)) (
        LdP h21 (Addr.add p7 0) fun x77 =>
        ord_Order_Between r x77 low3 high4 h21 fun y79 h25 =>
        ref1_Sorted r vs38 h25 fun y80 h26 =>
        same_Ints r y79 y80 h26 fun y81 h27 =>
        ∀ J83 : Bool → Heap → Prop, (∀ (x82 : Bool) (h28 : Heap),
          (R x82 h28) →
          J83 x82 h28) →
        Br y16 (
          Br y27 (
            Br y37 (
              Br y81 (
                LdP h27 (Addr.add p7 0) fun x89 =>
                ord_Order_Count r x89 x2 h27 fun y91 h29 =>
                ref1_Often r l1 x2 h29 fun y92 h30 =>
                J83 (decide (y91 = y92)) h30) (
                J83 false h27)) (
              J83 false h27)) (
            J83 false h27)) (
          J83 false h27))) →
      X40 vs38 i39 h21) →
    X40 Sl.nil 0 h20)

set_option maxRecDepth 100000 in
theorem law3_OrdTells_of {r : World} {l1 : Sl} {x2 : Int} {low3 : Int} {high4 : Int} {h : Heap} {R : Bool → Heap → Prop} (H : law3_OrdTells_F r l1 x2 low3 high4 h R) : law3_OrdTells r l1 x2 low3 high4 h R := by
  unfold law3_OrdTells_F at H
  refine calls_of 101 [.tmp 8] Try.func6 rfl rfl rfl rfl rfl ?_
  refine W_seq ?_
  refine W_region (.pu 0 .fin) rfl rfl ?_
  refine s_pu (d := some 8) (v := (.bool false)) rfl rfl rfl (r_assign rfl) ?_
  refine s_fin ?_
  show W _ _ _ _ _ _ _ _
  refine W_seq ?_
  refine W_region (.ef 0 [] (.pu 1 .fin) .no) rfl rfl ?_
  refine s_ef (d := some 17) rfl rfl rfl (fun dr => r_call Try.call11 rfl rfl H) ?_ trivial
  rintro _ h1 ⟨y5, rfl, H⟩
  refine ⟨trivial, ?_⟩
  refine s_pu (d := some 9) (v := (.bool y5)) rfl rfl rfl (r_assign rfl) ?_
  refine s_fin ?_
  show W _ _ _ _ _ _ _ _
  refine W_seq ?_
  refine W_seq ?_
  refine W_region (.pu 0 (.pu 1 .fin)) rfl rfl ?_
  refine s_pu (d := some 18) (v := (.bool y5)) rfl rfl rfl (r_move rfl) ?_
  refine s_pu (d := some 19) (v := (.bool (!y5))) rfl rfl rfl (r_not rfl) ?_
  refine s_fin ?_
  show W _ _ _ _ _ _ _ _
  refine W_if (!y5) rfl (fun g94 => ?_) (fun g94 => ?_)
  · have H := H.1 g94
    refine W_seq ?_
    refine W_region (.pu 0 .fin) rfl rfl ?_
    refine s_pu (d := some 8) (v := (.bool false)) rfl rfl rfl (r_assign rfl) ?_
    refine s_fin ?_
    show W _ _ _ _ _ _ _ _
    refine W_ret ?_
    exact ⟨[(.bool false)], ⟨_, _, rfl, rfl, rfl⟩, false, rfl, H⟩
  · have H := H.2 g94
    refine W_skip ?_
    show W _ _ _ _ _ _ _ _
    refine W_seq ?_
    refine W_region (.pu 0 (.ef 1 [] (.ef 2 [] (.ef 3 [] .fin .no) .no) .no)) rfl rfl ?_
    refine s_pu (d := some 20) (v := (Sl.v l1)) rfl rfl rfl (r_move rfl) ?_
    refine s_ef (d := some 21) rfl rfl rfl (fun dr => r_call Try.call12 rfl rfl H) ?_ trivial
    rintro _ h2 ⟨y6, rfl, H⟩
    refine ⟨trivial, ?_⟩
    obtain ⟨p7, e8⟩ : ∃ p : Addr, p = ⟨h2.size, 0, none⟩ := ⟨_, rfl⟩
    obtain ⟨h3, e9⟩ : ∃ hh : Heap, hh = h2.push (.cells #[(.pointer none)] 28) := ⟨_, rfl⟩
    have H := H p7 h3 e8 e9
    refine s_ef1 (d := some 10) (v := (.pointer (some p7))) (h' := h3) rfl rfl rfl (fun dr => (r_alloc Try.zeroValue28).trans (by rw [e8, e9]; rfl)) trivial ?_ trivial
    obtain ⟨e11, H⟩ := H
    obtain ⟨h4, e10⟩ : ∃ hh : Heap, hh = hsets h3 p7 0 [(.pointer y6)] := ⟨_, rfl⟩
    have H := H h4 e10
    refine s_st (d := none) (h' := h4) rfl rfl rfl (fun dr => (r_store (v := (.agg #[(.pointer y6)])) Try.sizeOf28 rfl rfl rfl (one_all rfl) e11).trans (by rw [e10]; rfl)) trivial ?_ trivial
    refine s_fin ?_
    show W _ _ _ _ _ _ _ _
    refine W_seq ?_
    refine W_region (.rl 0 (.ef 1 [] (.pu 2 (.ef 3 [] (.ef 4 [] (.pu 5 .fin) .no) .no)) .no)) rfl rfl ?_
    obtain ⟨x12, e13, H⟩ := H
    refine s_rl (d := some 22) (v := (.agg #[(.pointer x12)])) rfl rfl rfl (fun dr => r_loadN Try.isAgg28 Try.sizeOf28 (vs := [(.pointer x12)]) rfl rfl ⟨e13, trivial⟩) ?_
    refine s_ef (d := some 23) rfl rfl rfl (fun dr => r_call Try.call25 rfl rfl H) ?_ trivial
    rintro _ h5 ⟨y14, rfl, H⟩
    refine ⟨trivial, ?_⟩
    refine s_pu (d := some 24) (v := (Sl.v l1)) rfl rfl rfl (r_move rfl) ?_
    refine s_ef (d := some 25) rfl rfl rfl (fun dr => r_call Try.call26 rfl rfl H) ?_ trivial
    rintro _ h6 ⟨y15, rfl, H⟩
    refine ⟨trivial, ?_⟩
    refine s_ef (d := some 26) rfl rfl rfl (fun dr => r_call Try.call13 rfl rfl H) ?_ trivial
    rintro _ h7 ⟨y16, rfl, H⟩
    refine ⟨trivial, ?_⟩
    refine s_pu (d := some 11) (v := (.bool y16)) rfl rfl rfl (r_assign rfl) ?_
    refine s_fin ?_
    show W _ _ _ _ _ _ _ _
    refine W_seq ?_
    refine W_region (.rl 0 (.pu 1 (.ef 2 [] (.ef 3 [] (.pu 4 (.ef 5 [] (.pu 6 (.ef 7 [] (.ef 8 [] (.ef 9 [] (.ef 10 [] (.pu 11 .fin) .no) .no) .no) .no)) .no)) .no) .no))) rfl rfl ?_
    obtain ⟨x17, e18, H⟩ := H
    refine s_rl (d := some 27) (v := (.agg #[(.pointer x17)])) rfl rfl rfl (fun dr => r_loadN Try.isAgg28 Try.sizeOf28 (vs := [(.pointer x17)]) rfl rfl ⟨e18, trivial⟩) ?_
    refine s_pu (d := some 28) (v := (.int .i64 x2)) rfl rfl rfl (r_move rfl) ?_
    refine s_ef (d := some 29) rfl rfl rfl (fun dr => r_call Try.call27 rfl rfl H) ?_ trivial
    rintro _ h8 ⟨y19, rfl, H⟩
    refine ⟨trivial, ?_⟩
    refine s_ef (d := some 30) rfl rfl rfl (fun dr => r_call Try.call25 rfl rfl H) ?_ trivial
    rintro _ h9 ⟨y20, rfl, H⟩
    refine ⟨trivial, ?_⟩
    refine s_pu (d := some 31) (v := (Sl.v l1)) rfl rfl rfl (r_move rfl) ?_
    refine s_ef (d := some 32) rfl rfl rfl (fun dr => r_call Try.call14 rfl rfl H) ?_ trivial
    rintro _ h10 ⟨y21, rfl, H⟩
    refine ⟨trivial, ?_⟩
    refine s_pu (d := some 33) (v := (.int .i64 x2)) rfl rfl rfl (r_move rfl) ?_
    obtain ⟨p22, e23⟩ : ∃ p : Addr, p = ⟨h10.size, 0, none⟩ := ⟨_, rfl⟩
    obtain ⟨h11, e24⟩ : ∃ hh : Heap, hh = h10.push (.cells #[(.int .i64 x2)] 3) := ⟨_, rfl⟩
    have H := H p22 h11 e23 e24
    refine s_ef1 (d := some 34) (v := (Sl.v ((⟨some p22, 1, 1⟩ : Sl)))) (h' := h11) rfl rfl rfl (fun dr => (slFOLaw_22.build (cells := #[(.int .i64 x2)]) (by decide) rfl (by kernel_rfl)).trans (by rw [e23, e24]; rfl)) trivial ?_ trivial
    refine s_ef (d := some 35) rfl rfl rfl (fun dr => slFOLaw_22.append rfl rfl H) ?_ trivial
    rintro _ h12 ⟨s25, rfl, H⟩
    refine ⟨trivial, ?_⟩
    refine s_ef (d := some 36) rfl rfl rfl (fun dr => r_call Try.call26 rfl rfl H) ?_ trivial
    rintro _ h13 ⟨y26, rfl, H⟩
    refine ⟨trivial, ?_⟩
    refine s_ef (d := some 37) rfl rfl rfl (fun dr => r_call Try.call13 rfl rfl H) ?_ trivial
    rintro _ h14 ⟨y27, rfl, H⟩
    refine ⟨trivial, ?_⟩
    refine s_pu (d := some 12) (v := (.bool y27)) rfl rfl rfl (r_assign rfl) ?_
    refine s_fin ?_
    show W _ _ _ _ _ _ _ _
    refine W_seq ?_
    refine W_region (.rl 0 (.pu 1 (.ef 2 [] (.ef 3 [] (.pu 4 (.pu 5 (.ef 6 [] (.ef 7 [] (.ef 8 [] (.ef 9 [] (.pu 10 .fin) .no) .no) .no) .no))) .no) .no))) rfl rfl ?_
    obtain ⟨x28, e29, H⟩ := H
    refine s_rl (d := some 38) (v := (.agg #[(.pointer x28)])) rfl rfl rfl (fun dr => r_loadN Try.isAgg28 Try.sizeOf28 (vs := [(.pointer x28)]) rfl rfl ⟨e29, trivial⟩) ?_
    refine s_pu (d := some 39) (v := (.int .i64 x2)) rfl rfl rfl (r_move rfl) ?_
    refine s_ef (d := some 40) rfl rfl rfl (fun dr => r_call Try.call28 rfl rfl H) ?_ trivial
    rintro _ h15 ⟨y30, rfl, H⟩
    refine ⟨trivial, ?_⟩
    refine s_ef (d := some 41) rfl rfl rfl (fun dr => r_call Try.call25 rfl rfl H) ?_ trivial
    rintro _ h16 ⟨y31, rfl, H⟩
    refine ⟨trivial, ?_⟩
    refine s_pu (d := some 42) (v := (Sl.v l1)) rfl rfl rfl (r_move rfl) ?_
    refine s_pu (d := some 43) (v := (.int .i64 x2)) rfl rfl rfl (r_move rfl) ?_
    obtain ⟨p32, e33⟩ : ∃ p : Addr, p = ⟨h16.size, 0, none⟩ := ⟨_, rfl⟩
    obtain ⟨h17, e34⟩ : ∃ hh : Heap, hh = h16.push (.cells #[(.int .i64 x2)] 3) := ⟨_, rfl⟩
    have H := H p32 h17 e33 e34
    refine s_ef1 (d := some 44) (v := (Sl.v ((⟨some p32, 1, 1⟩ : Sl)))) (h' := h17) rfl rfl rfl (fun dr => (slFOLaw_22.build (cells := #[(.int .i64 x2)]) (by decide) rfl (by kernel_rfl)).trans (by rw [e33, e34]; rfl)) trivial ?_ trivial
    refine s_ef (d := some 45) rfl rfl rfl (fun dr => r_call Try.call29 rfl rfl H) ?_ trivial
    rintro _ h18 ⟨y35, rfl, H⟩
    refine ⟨trivial, ?_⟩
    refine s_ef (d := some 46) rfl rfl rfl (fun dr => r_call Try.call26 rfl rfl H) ?_ trivial
    rintro _ h19 ⟨y36, rfl, H⟩
    refine ⟨trivial, ?_⟩
    refine s_ef (d := some 47) rfl rfl rfl (fun dr => r_call Try.call13 rfl rfl H) ?_ trivial
    rintro _ h20 ⟨y37, rfl, H⟩
    refine ⟨trivial, ?_⟩
    refine s_pu (d := some 13) (v := (.bool y37)) rfl rfl rfl (r_assign rfl) ?_
    refine s_fin ?_
    show W _ _ _ _ _ _ _ _
    refine W_seq ?_
    refine W_region (.pu 0 .fin) rfl rfl ?_
    refine s_pu (d := some 14) (v := (Sl.v Sl.nil)) rfl rfl rfl (r_assign rfl) ?_
    refine s_fin ?_
    show W _ _ _ _ _ _ _ _
    refine W_seq ?_
    refine W_seq ?_
    refine W_region (.pu 0 .fin) rfl rfl ?_
    refine s_pu (d := some 15) (v := (.int .i64 0)) rfl rfl rfl (r_assign rfl) ?_
    refine s_fin ?_
    show W _ _ _ _ _ _ _ _
    refine W_block ?_
    refine W_loop (WL_mk (l := [(0, (Sl.v l1)), (1, (.int .i64 x2)), (2, (.int .i64 low3)), (3, (.int .i64 high4)), (10, (.pointer (some p7))), (11, (.bool y16)), (12, (.bool y27)), (13, (.bool y37)), (14, (Sl.v Sl.nil)), (15, (.int .i64 0))]) ?_ ⟨rfl, rfl, rfl, rfl, rfl, rfl, rfl, rfl, rfl, rfl, trivial⟩)
    refine H (fun (vs38 : Sl) (i39 : Int) (h21 : Heap) => ∀ b, WL _ _ _ _ _ _ (mkE [(0, (Sl.v l1)), (1, (.int .i64 x2)), (2, (.int .i64 low3)), (3, (.int .i64 high4)), (10, (.pointer (some p7))), (11, (.bool y16)), (12, (.bool y27)), (13, (.bool y37)), (14, (Sl.v vs38)), (15, (.int .i64 i39))] b) h21) ?_
    intro vs38 i39 h21 H b
    refine WL_round ?_
    refine W_seq ?_
    refine W_seq ?_
    refine W_region (.pu 0 (.pu 1 (.pu 2 (.pu 3 .fin)))) rfl rfl ?_
    refine s_pu (d := some 48) (v := (.int .i64 i39)) rfl rfl rfl (r_move rfl) ?_
    refine s_pu (d := some 49) (v := (Sl.v l1)) rfl rfl rfl (r_move rfl) ?_
    refine s_pu (d := some 50) (v := (.int .i64 ((l1.len : Int)))) rfl rfl rfl (r_len Try.underlying22 rfl) ?_
    refine s_pu (d := some 51) (v := (.bool (decide (i39 < ((l1.len : Int)))))) rfl rfl rfl (r_lss rfl rfl) ?_
    refine s_fin ?_
    show W _ _ _ _ _ _ _ _
    refine W_if (decide (i39 < ((l1.len : Int)))) rfl (fun g93 => ?_) (fun g93 => ?_)
    · have H := H.1 g93
      refine W_skip ?_
      show W _ _ _ _ _ _ _ _
      refine W_seq ?_
      refine W_set ?_
      intro N43 eN43
      have H := H (fun (vs41 : Sl) (h22 : Heap) => ∀ b, N43 [] (mkE [(0, (Sl.v l1)), (1, (.int .i64 x2)), (2, (.int .i64 low3)), (3, (.int .i64 high4)), (10, (.pointer (some p7))), (11, (.bool y16)), (12, (.bool y27)), (13, (.bool y37)), (14, (Sl.v vs41)), (15, (.int .i64 i39))] b) h22) (by
        intro vs41 h22 H b
        rw [eN43]
        show W _ _ _ _ _ _ _ _
        refine W_region (.pu 0 (.pu 1 (.pu 2 .fin))) rfl rfl ?_
        refine s_pu (d := some 52) (v := (.int .i64 i39)) rfl rfl rfl (r_move rfl) ?_
        refine s_pu (d := some 53) (v := (.int .i64 (w64 (i39 + 1)))) rfl rfl rfl (r_add rfl rfl) ?_
        refine s_pu (d := some 15) (v := (.int .i64 (w64 (i39 + 1)))) rfl rfl rfl (r_assign rfl) ?_
        refine s_fin ?_
        exact WL_mk (l := [(0, (Sl.v l1)), (1, (.int .i64 x2)), (2, (.int .i64 low3)), (3, (.int .i64 high4)), (10, (.pointer (some p7))), (11, (.bool y16)), (12, (.bool y27)), (13, (.bool y37)), (14, (Sl.v vs41)), (15, (.int .i64 (w64 (i39 + 1))))]) H ⟨rfl, rfl, rfl, rfl, rfl, rfl, rfl, rfl, rfl, rfl, trivial⟩)
      clear eN43
      refine W_block ?_
      refine W_seq ?_
      refine W_set ?_
      intro N46 eN46
      have H := H (fun (x44 : Bool) => ∀ b, N46 [] (mkE [(0, (Sl.v l1)), (1, (.int .i64 x2)), (2, (.int .i64 low3)), (3, (.int .i64 high4)), (10, (.pointer (some p7))), (11, (.bool y16)), (12, (.bool y27)), (13, (.bool y37)), (14, (Sl.v vs38)), (15, (.int .i64 i39)), (67, (.bool x44))] b) h21) (by
        intro x44 H b
        rw [eN46]
        show W _ _ _ _ _ _ _ _
        refine W_if x44 rfl (fun g59 => ?_) (fun g59 => ?_)
        · have H := H.1 g59
          refine W_region (.pu 0 (.pu 1 (.pu 2 (.pu 3 (.rl 4 (.ef 5 [] (.ef 6 [] (.pu 7 .fin) .no) .no)))))) rfl rfl ?_
          refine s_pu (d := some 68) (v := (Sl.v vs38)) rfl rfl rfl (r_move rfl) ?_
          refine s_pu (d := some 69) (v := (Sl.v l1)) rfl rfl rfl (r_move rfl) ?_
          refine s_pu (d := some 70) (v := (.int .i64 i39)) rfl rfl rfl (r_move rfl) ?_
          obtain ⟨p47, e48, e49, e50, H⟩ := H
          obtain ⟨q51, e52⟩ : ∃ q : Addr, q = Addr.add p47 (Int.toNat i39 * 1) := ⟨_, rfl⟩
          rw [← e52] at H
          refine s_pu (d := some 71) (v := (.pointer (some q51))) rfl rfl rfl (fun w => (r_indexAddr Try.underlying22 Try.sizeOf3 rfl rfl e48 e49 e50 w).trans (by rw [e52])) ?_
          obtain ⟨x53, e54, H⟩ := H
          refine s_rl (d := some 72) (v := (.int .i64 x53)) rfl rfl rfl (fun dr => r_load1 Try.isAgg3 rfl e54) ?_
          obtain ⟨p55, e56⟩ : ∃ p : Addr, p = ⟨h21.size, 0, none⟩ := ⟨_, rfl⟩
          obtain ⟨h23, e57⟩ : ∃ hh : Heap, hh = h21.push (.cells #[(.int .i64 x53)] 3) := ⟨_, rfl⟩
          have H := H p55 h23 e56 e57
          refine s_ef1 (d := some 73) (v := (Sl.v ((⟨some p55, 1, 1⟩ : Sl)))) (h' := h23) rfl rfl rfl (fun dr => (slFOLaw_22.build (cells := #[(.int .i64 x53)]) (by decide) rfl (by kernel_rfl)).trans (by rw [e56, e57]; rfl)) trivial ?_ trivial
          refine s_ef (d := some 74) rfl rfl rfl (fun dr => slFOLaw_22.append rfl rfl H) ?_ trivial
          rintro _ h24 ⟨s58, rfl, H⟩
          refine ⟨trivial, ?_⟩
          refine s_pu (d := some 14) (v := (Sl.v s58)) rfl rfl rfl (r_assign rfl) ?_
          refine s_fin ?_
          exact N_mk (l := [(0, (Sl.v l1)), (1, (.int .i64 x2)), (2, (.int .i64 low3)), (3, (.int .i64 high4)), (10, (.pointer (some p7))), (11, (.bool y16)), (12, (.bool y27)), (13, (.bool y37)), (14, (Sl.v s58)), (15, (.int .i64 i39))]) H ⟨rfl, rfl, rfl, rfl, rfl, rfl, rfl, rfl, rfl, rfl, trivial⟩
        · have H := H.2 g59
          refine W_skip ?_
          exact N_mk (l := [(0, (Sl.v l1)), (1, (.int .i64 x2)), (2, (.int .i64 low3)), (3, (.int .i64 high4)), (10, (.pointer (some p7))), (11, (.bool y16)), (12, (.bool y27)), (13, (.bool y37)), (14, (Sl.v vs38)), (15, (.int .i64 i39))]) H ⟨rfl, rfl, rfl, rfl, rfl, rfl, rfl, rfl, rfl, rfl, trivial⟩)
      clear eN46
      refine W_region (.pu 0 (.pu 1 (.pu 2 (.rl 3 (.pu 4 (.pu 5 (.pu 6 (.pu 7 (.pu 8 (.pu 9 (.rl 10 (.pu 11 (.pu 12 (.pu 13 .fin)))))))))))))) rfl rfl ?_
      refine s_pu (d := some 54) (v := (Sl.v l1)) rfl rfl rfl (r_move rfl) ?_
      refine s_pu (d := some 55) (v := (.int .i64 i39)) rfl rfl rfl (r_move rfl) ?_
      obtain ⟨p60, e61, e62, e63, H⟩ := H
      obtain ⟨q64, e65⟩ : ∃ q : Addr, q = Addr.add p60 (Int.toNat i39 * 1) := ⟨_, rfl⟩
      rw [← e65] at H
      refine s_pu (d := some 56) (v := (.pointer (some q64))) rfl rfl rfl (fun w => (r_indexAddr Try.underlying22 Try.sizeOf3 rfl rfl e61 e62 e63 w).trans (by rw [e65])) ?_
      obtain ⟨x66, e67, H⟩ := H
      refine s_rl (d := some 57) (v := (.int .i64 x66)) rfl rfl rfl (fun dr => r_load1 Try.isAgg3 rfl e67) ?_
      refine s_pu (d := some 58) (v := (.int .i64 low3)) rfl rfl rfl (r_move rfl) ?_
      refine s_pu (d := some 59) (v := (.bool (decide (low3 ≤ x66)))) rfl rfl rfl (r_geq rfl rfl) ?_
      refine s_pu (d := some 60) (v := (.bool (decide (low3 ≤ x66)))) rfl rfl rfl (r_move rfl) ?_
      rcases Bool.eq_false_or_eq_true (decide (low3 ≤ x66)) with g68 | g68
      · have H := H.1 g68
        refine s_pu (d := some 61) (v := (Sl.v l1)) rfl rfl (wants_yes rfl rfl rfl rfl g68) (r_move rfl) ?_
        refine s_pu (d := some 62) (v := (.int .i64 i39)) rfl rfl (wants_yes rfl rfl rfl rfl g68) (r_move rfl) ?_
        obtain ⟨p69, e70, e71, e72, H⟩ := H
        obtain ⟨q73, e74⟩ : ∃ q : Addr, q = Addr.add p69 (Int.toNat i39 * 1) := ⟨_, rfl⟩
        rw [← e74] at H
        refine s_pu (d := some 63) (v := (.pointer (some q73))) rfl rfl (wants_yes rfl rfl rfl rfl g68) (fun w => (r_indexAddr Try.underlying22 Try.sizeOf3 rfl rfl e70 e71 e72 w).trans (by rw [e74])) ?_
        obtain ⟨x75, e76, H⟩ := H
        refine s_rl (d := some 64) (v := (.int .i64 x75)) rfl rfl (wants_yes rfl rfl rfl rfl g68) (fun dr => r_load1 Try.isAgg3 rfl e76) ?_
        refine s_pu (d := some 65) (v := (.int .i64 high4)) rfl rfl (wants_yes rfl rfl rfl rfl g68) (r_move rfl) ?_
        refine s_pu (d := some 66) (v := (.bool (decide (x75 ≤ high4)))) rfl rfl (wants_yes rfl rfl rfl rfl g68) (r_leq rfl rfl) ?_
        refine s_pu (d := some 67) (v := (.bool (decide (x75 ≤ high4)))) rfl rfl rfl (r_pick1 rfl g68 rfl) ?_
        refine s_fin ?_
        exact N_mk (l := [(0, (Sl.v l1)), (1, (.int .i64 x2)), (2, (.int .i64 low3)), (3, (.int .i64 high4)), (10, (.pointer (some p7))), (11, (.bool y16)), (12, (.bool y27)), (13, (.bool y37)), (14, (Sl.v vs38)), (15, (.int .i64 i39)), (67, (.bool (decide (x75 ≤ high4))))]) H ⟨rfl, rfl, rfl, rfl, rfl, rfl, rfl, rfl, rfl, rfl, rfl, trivial⟩
      · have H := H.2 g68
        refine s_sk (d := some 61) rfl rfl (wants_no rfl rfl rfl rfl g68) ?_
        refine s_sk (d := some 62) rfl rfl (wants_no rfl rfl rfl rfl g68) ?_
        refine s_sk (d := some 63) rfl rfl (wants_no rfl rfl rfl rfl g68) ?_
        refine s_skl (d := some 64) rfl rfl (wants_no rfl rfl rfl rfl g68) ?_
        refine s_sk (d := some 65) rfl rfl (wants_no rfl rfl rfl rfl g68) ?_
        refine s_sk (d := some 66) rfl rfl (wants_no rfl rfl rfl rfl g68) ?_
        refine s_pu (d := some 67) (v := (.bool false)) rfl rfl rfl (r_pick0 rfl g68 rfl) ?_
        refine s_fin ?_
        exact N_mk (l := [(0, (Sl.v l1)), (1, (.int .i64 x2)), (2, (.int .i64 low3)), (3, (.int .i64 high4)), (10, (.pointer (some p7))), (11, (.bool y16)), (12, (.bool y27)), (13, (.bool y37)), (14, (Sl.v vs38)), (15, (.int .i64 i39)), (67, (.bool false))]) H ⟨rfl, rfl, rfl, rfl, rfl, rfl, rfl, rfl, rfl, rfl, rfl, trivial⟩
    · have H := H.2 g93
      refine W_exit (inX_here ?_)
      show W _ _ _ _ _ _ _ _
      refine W_seq ?_
      refine W_region (.rl 0 (.pu 1 (.pu 2 (.ef 3 [] (.pu 4 (.ef 5 [] (.ef 6 [] (.pu 7 .fin) .no) .no)) .no)))) rfl rfl ?_
      obtain ⟨x77, e78, H⟩ := H
      refine s_rl (d := some 75) (v := (.agg #[(.pointer x77)])) rfl rfl rfl (fun dr => r_loadN Try.isAgg28 Try.sizeOf28 (vs := [(.pointer x77)]) rfl rfl ⟨e78, trivial⟩) ?_
      refine s_pu (d := some 76) (v := (.int .i64 low3)) rfl rfl rfl (r_move rfl) ?_
      refine s_pu (d := some 77) (v := (.int .i64 high4)) rfl rfl rfl (r_move rfl) ?_
      refine s_ef (d := some 78) rfl rfl rfl (fun dr => r_call Try.call15 rfl rfl H) ?_ trivial
      rintro _ h25 ⟨y79, rfl, H⟩
      refine ⟨trivial, ?_⟩
      refine s_pu (d := some 79) (v := (Sl.v vs38)) rfl rfl rfl (r_move rfl) ?_
      refine s_ef (d := some 80) rfl rfl rfl (fun dr => r_call Try.call26 rfl rfl H) ?_ trivial
      rintro _ h26 ⟨y80, rfl, H⟩
      refine ⟨trivial, ?_⟩
      refine s_ef (d := some 81) rfl rfl rfl (fun dr => r_call Try.call13 rfl rfl H) ?_ trivial
      rintro _ h27 ⟨y81, rfl, H⟩
      refine ⟨trivial, ?_⟩
      refine s_pu (d := some 16) (v := (.bool y81)) rfl rfl rfl (r_assign rfl) ?_
      refine s_fin ?_
      show W _ _ _ _ _ _ _ _
      refine W_seq ?_
      refine W_set ?_
      intro N84 eN84
      have H := H (fun (x82 : Bool) (h28 : Heap) => ∀ b, N84 [] (mkE [(8, (.bool x82))] b) h28) (by
        intro x82 h28 H b
        rw [eN84]
        show W _ _ _ _ _ _ _ _
        refine W_ret ?_
        exact ⟨[(.bool x82)], ⟨_, _, rfl, rfl, rfl⟩, x82, rfl, H⟩)
      clear eN84
      refine W_region (.pu 0 (.pu 1 (.pu 2 (.pu 3 (.pu 4 (.pu 5 (.pu 6 (.pu 7 (.pu 8 (.pu 9 (.pu 10 (.rl 11 (.pu 12 (.ef 13 [] (.pu 14 (.pu 15 (.ef 16 [] (.pu 17 (.pu 18 (.pu 19 .fin))) .no))) .no)))))))))))))) rfl rfl ?_
      refine s_pu (d := some 82) (v := (.bool y16)) rfl rfl rfl (r_move rfl) ?_
      refine s_pu (d := some 83) (v := (.bool y16)) rfl rfl rfl (r_move rfl) ?_
      rcases Bool.eq_false_or_eq_true y16 with g85 | g85
      · have H := H.1 g85
        refine s_pu (d := some 84) (v := (.bool y27)) rfl rfl (wants_yes rfl rfl rfl rfl g85) (r_move rfl) ?_
        refine s_pu (d := some 85) (v := (.bool y27)) rfl rfl rfl (r_pick1 rfl g85 rfl) ?_
        refine s_pu (d := some 86) (v := (.bool y27)) rfl rfl rfl (r_move rfl) ?_
        rcases Bool.eq_false_or_eq_true y27 with g86 | g86
        · have H := H.1 g86
          refine s_pu (d := some 87) (v := (.bool y37)) rfl rfl (wants_yes rfl rfl rfl rfl g86) (r_move rfl) ?_
          refine s_pu (d := some 88) (v := (.bool y37)) rfl rfl rfl (r_pick1 rfl g86 rfl) ?_
          refine s_pu (d := some 89) (v := (.bool y37)) rfl rfl rfl (r_move rfl) ?_
          rcases Bool.eq_false_or_eq_true y37 with g87 | g87
          · have H := H.1 g87
            refine s_pu (d := some 90) (v := (.bool y81)) rfl rfl (wants_yes rfl rfl rfl rfl g87) (r_move rfl) ?_
            refine s_pu (d := some 91) (v := (.bool y81)) rfl rfl rfl (r_pick1 rfl g87 rfl) ?_
            refine s_pu (d := some 92) (v := (.bool y81)) rfl rfl rfl (r_move rfl) ?_
            rcases Bool.eq_false_or_eq_true y81 with g88 | g88
            · have H := H.1 g88
              obtain ⟨x89, e90, H⟩ := H
              refine s_rl (d := some 93) (v := (.agg #[(.pointer x89)])) rfl rfl (wants_yes rfl rfl rfl rfl g88) (fun dr => r_loadN Try.isAgg28 Try.sizeOf28 (vs := [(.pointer x89)]) rfl rfl ⟨e90, trivial⟩) ?_
              refine s_pu (d := some 94) (v := (.int .i64 x2)) rfl rfl (wants_yes rfl rfl rfl rfl g88) (r_move rfl) ?_
              refine s_ef (d := some 95) rfl rfl (wants_yes rfl rfl rfl rfl g88) (fun dr => r_call Try.call16 rfl rfl H) ?_ trivial
              rintro _ h29 ⟨y91, rfl, H⟩
              refine ⟨trivial, ?_⟩
              refine s_pu (d := some 96) (v := (Sl.v l1)) rfl rfl (wants_yes rfl rfl rfl rfl g88) (r_move rfl) ?_
              refine s_pu (d := some 97) (v := (.int .i64 x2)) rfl rfl (wants_yes rfl rfl rfl rfl g88) (r_move rfl) ?_
              refine s_ef (d := some 98) rfl rfl (wants_yes rfl rfl rfl rfl g88) (fun dr => r_call Try.call30 rfl rfl H) ?_ trivial
              rintro _ h30 ⟨y92, rfl, H⟩
              refine ⟨trivial, ?_⟩
              refine s_pu (d := some 99) (v := (.bool (decide (y91 = y92)))) rfl rfl (wants_yes rfl rfl rfl rfl g88) (r_eql rfl rfl) ?_
              refine s_pu (d := some 100) (v := (.bool (decide (y91 = y92)))) rfl rfl rfl (r_pick1 rfl g88 rfl) ?_
              refine s_pu (d := some 8) (v := (.bool (decide (y91 = y92)))) rfl rfl rfl (r_assign rfl) ?_
              refine s_fin ?_
              exact N_mk (l := [(8, (.bool (decide (y91 = y92))))]) H ⟨rfl, trivial⟩
            · have H := H.2 g88
              refine s_skl (d := some 93) rfl rfl (wants_no rfl rfl rfl rfl g88) ?_
              refine s_sk (d := some 94) rfl rfl (wants_no rfl rfl rfl rfl g88) ?_
              refine s_skf (d := some 95) rfl rfl (wants_no rfl rfl rfl rfl g88) trivial ?_ trivial
              refine s_sk (d := some 96) rfl rfl (wants_no rfl rfl rfl rfl g88) ?_
              refine s_sk (d := some 97) rfl rfl (wants_no rfl rfl rfl rfl g88) ?_
              refine s_skf (d := some 98) rfl rfl (wants_no rfl rfl rfl rfl g88) trivial ?_ trivial
              refine s_sk (d := some 99) rfl rfl (wants_no rfl rfl rfl rfl g88) ?_
              refine s_pu (d := some 100) (v := (.bool false)) rfl rfl rfl (r_pick0 rfl g88 rfl) ?_
              refine s_pu (d := some 8) (v := (.bool false)) rfl rfl rfl (r_assign rfl) ?_
              refine s_fin ?_
              exact N_mk (l := [(8, (.bool false))]) H ⟨rfl, trivial⟩
          · have H := H.2 g87
            refine s_sk (d := some 90) rfl rfl (wants_no rfl rfl rfl rfl g87) ?_
            refine s_pu (d := some 91) (v := (.bool false)) rfl rfl rfl (r_pick0 rfl g87 rfl) ?_
            refine s_pu (d := some 92) (v := (.bool false)) rfl rfl rfl (r_move rfl) ?_
            refine s_skl (d := some 93) rfl rfl (wants_no rfl rfl rfl rfl rfl) ?_
            refine s_sk (d := some 94) rfl rfl (wants_no rfl rfl rfl rfl rfl) ?_
            refine s_skf (d := some 95) rfl rfl (wants_no rfl rfl rfl rfl rfl) trivial ?_ trivial
            refine s_sk (d := some 96) rfl rfl (wants_no rfl rfl rfl rfl rfl) ?_
            refine s_sk (d := some 97) rfl rfl (wants_no rfl rfl rfl rfl rfl) ?_
            refine s_skf (d := some 98) rfl rfl (wants_no rfl rfl rfl rfl rfl) trivial ?_ trivial
            refine s_sk (d := some 99) rfl rfl (wants_no rfl rfl rfl rfl rfl) ?_
            refine s_pu (d := some 100) (v := (.bool false)) rfl rfl rfl (r_pick0 rfl rfl rfl) ?_
            refine s_pu (d := some 8) (v := (.bool false)) rfl rfl rfl (r_assign rfl) ?_
            refine s_fin ?_
            exact N_mk (l := [(8, (.bool false))]) H ⟨rfl, trivial⟩
        · have H := H.2 g86
          refine s_sk (d := some 87) rfl rfl (wants_no rfl rfl rfl rfl g86) ?_
          refine s_pu (d := some 88) (v := (.bool false)) rfl rfl rfl (r_pick0 rfl g86 rfl) ?_
          refine s_pu (d := some 89) (v := (.bool false)) rfl rfl rfl (r_move rfl) ?_
          refine s_sk (d := some 90) rfl rfl (wants_no rfl rfl rfl rfl rfl) ?_
          refine s_pu (d := some 91) (v := (.bool false)) rfl rfl rfl (r_pick0 rfl rfl rfl) ?_
          refine s_pu (d := some 92) (v := (.bool false)) rfl rfl rfl (r_move rfl) ?_
          refine s_skl (d := some 93) rfl rfl (wants_no rfl rfl rfl rfl rfl) ?_
          refine s_sk (d := some 94) rfl rfl (wants_no rfl rfl rfl rfl rfl) ?_
          refine s_skf (d := some 95) rfl rfl (wants_no rfl rfl rfl rfl rfl) trivial ?_ trivial
          refine s_sk (d := some 96) rfl rfl (wants_no rfl rfl rfl rfl rfl) ?_
          refine s_sk (d := some 97) rfl rfl (wants_no rfl rfl rfl rfl rfl) ?_
          refine s_skf (d := some 98) rfl rfl (wants_no rfl rfl rfl rfl rfl) trivial ?_ trivial
          refine s_sk (d := some 99) rfl rfl (wants_no rfl rfl rfl rfl rfl) ?_
          refine s_pu (d := some 100) (v := (.bool false)) rfl rfl rfl (r_pick0 rfl rfl rfl) ?_
          refine s_pu (d := some 8) (v := (.bool false)) rfl rfl rfl (r_assign rfl) ?_
          refine s_fin ?_
          exact N_mk (l := [(8, (.bool false))]) H ⟨rfl, trivial⟩
      · have H := H.2 g85
        refine s_sk (d := some 84) rfl rfl (wants_no rfl rfl rfl rfl g85) ?_
        refine s_pu (d := some 85) (v := (.bool false)) rfl rfl rfl (r_pick0 rfl g85 rfl) ?_
        refine s_pu (d := some 86) (v := (.bool false)) rfl rfl rfl (r_move rfl) ?_
        refine s_sk (d := some 87) rfl rfl (wants_no rfl rfl rfl rfl rfl) ?_
        refine s_pu (d := some 88) (v := (.bool false)) rfl rfl rfl (r_pick0 rfl rfl rfl) ?_
        refine s_pu (d := some 89) (v := (.bool false)) rfl rfl rfl (r_move rfl) ?_
        refine s_sk (d := some 90) rfl rfl (wants_no rfl rfl rfl rfl rfl) ?_
        refine s_pu (d := some 91) (v := (.bool false)) rfl rfl rfl (r_pick0 rfl rfl rfl) ?_
        refine s_pu (d := some 92) (v := (.bool false)) rfl rfl rfl (r_move rfl) ?_
        refine s_skl (d := some 93) rfl rfl (wants_no rfl rfl rfl rfl rfl) ?_
        refine s_sk (d := some 94) rfl rfl (wants_no rfl rfl rfl rfl rfl) ?_
        refine s_skf (d := some 95) rfl rfl (wants_no rfl rfl rfl rfl rfl) trivial ?_ trivial
        refine s_sk (d := some 96) rfl rfl (wants_no rfl rfl rfl rfl rfl) ?_
        refine s_sk (d := some 97) rfl rfl (wants_no rfl rfl rfl rfl rfl) ?_
        refine s_skf (d := some 98) rfl rfl (wants_no rfl rfl rfl rfl rfl) trivial ?_ trivial
        refine s_sk (d := some 99) rfl rfl (wants_no rfl rfl rfl rfl rfl) ?_
        refine s_pu (d := some 100) (v := (.bool false)) rfl rfl rfl (r_pick0 rfl rfl rfl) ?_
        refine s_pu (d := some 8) (v := (.bool false)) rfl rfl rfl (r_assign rfl) ?_
        refine s_fin ?_
        exact N_mk (l := [(8, (.bool false))]) H ⟨rfl, trivial⟩

/-! ### law3_OrdMerges -/

def law3_OrdMerges_F (r : World) (a1 : Sl) (vb2 : Sl) (c3 : Sl) (x4 : Int) (h : Heap) (R : Bool → Heap → Prop) : Prop :=
  law3_ordered r h fun y5 h1 =>
  Br (!y5) (
    R false h1) (
    ord_Of r a1 h1 fun y6 h2 =>
    New h2 (.cells #[(.pointer none)] 28) fun p7 h3 =>
    St h3 p7 1 [(.pointer y6)] fun h4 =>
    ord_Of r vb2 h4 fun y12 h5 =>
    New h5 (.cells #[(.pointer none)] 28) fun p13 h6 =>
    St h6 p13 1 [(.pointer y12)] fun h7 =>
    ord_Of r c3 h7 fun y18 h8 =>
    New h8 (.cells #[(.pointer none)] 28) fun p19 h9 =>
    St h9 p19 1 [(.pointer y18)] fun h10 =>
    LdP h10 (Addr.add p7 0) fun x24 =>
    LdP h10 (Addr.add p13 0) fun x26 =>
    LdP h10 (Addr.add p13 0) fun x28 =>
    LdP h10 (Addr.add p7 0) fun x30 =>
    ord_Order_Merge r x24 x26 h10 fun y32 h11 =>
    (hcell h11 (Addr.add p7 0) = some (.pointer x30)) ∧
    (hcell h11 (Addr.add p13 0) = some (.pointer x28)) ∧
    ord_Order_Ints r y32 h11 fun y35 h12 =>
    (hcell h12 (Addr.add p7 0) = some (.pointer x30)) ∧
    (hcell h12 (Addr.add p13 0) = some (.pointer x28)) ∧
    ord_Order_Merge r x28 x30 h12 fun y38 h13 =>
    ord_Order_Ints r y38 h13 fun y39 h14 =>
    same_Ints r y35 y39 h14 fun y40 h15 =>
    LdP h15 (Addr.add p7 0) fun x41 =>
    LdP h15 (Addr.add p13 0) fun x43 =>
    LdP h15 (Addr.add p19 0) fun x45 =>
    LdP h15 (Addr.add p7 0) fun x47 =>
    LdP h15 (Addr.add p13 0) fun x49 =>
    LdP h15 (Addr.add p19 0) fun x51 =>
    ord_Order_Merge r x41 x43 h15 fun y53 h16 =>
    (hcell h16 (Addr.add p19 0) = some (.pointer x51)) ∧
    (hcell h16 (Addr.add p13 0) = some (.pointer x49)) ∧
    (hcell h16 (Addr.add p7 0) = some (.pointer x47)) ∧
    (hcell h16 (Addr.add p19 0) = some (.pointer x45)) ∧
    ord_Order_Merge r y53 x45 h16 fun y58 h17 =>
    (hcell h17 (Addr.add p19 0) = some (.pointer x51)) ∧
    (hcell h17 (Addr.add p13 0) = some (.pointer x49)) ∧
    (hcell h17 (Addr.add p7 0) = some (.pointer x47)) ∧
    ord_Order_Ints r y58 h17 fun y62 h18 =>
    (hcell h18 (Addr.add p19 0) = some (.pointer x51)) ∧
    (hcell h18 (Addr.add p13 0) = some (.pointer x49)) ∧
    (hcell h18 (Addr.add p7 0) = some (.pointer x47)) ∧
    ord_Order_Merge r x49 x51 h18 fun y66 h19 =>
    (hcell h19 (Addr.add p7 0) = some (.pointer x47)) ∧
    ord_Order_Merge r x47 y66 h19 fun y68 h20 =>
    ord_Order_Ints r y68 h20 fun y69 h21 =>
    same_Ints r y62 y69 h21 fun y70 h22 =>
    LdP h22 (Addr.add p7 0) fun x71 =>
    LdP h22 (Addr.add p13 0) fun x73 =>
    ord_Order_Merge r x71 x73 h22 fun y75 h23 =>
    ord_Order_Ints r y75 h23 fun y76 h24 =>
    ref1_Cat r a1 vb2 h24 fun y77 h25 =>
    ref1_Sorted r y77 h25 fun y78 h26 =>
    same_Ints r y76 y78 h26 fun y79 h27 =>
    ∀ J81 : Bool → Heap → Prop, (∀ (x80 : Bool) (h28 : Heap),
      (R x80 h28) →
      J81 x80 h28) →
    Br y40 (
      Br y70 (
        Br y79 (
          LdP h27 (Addr.add p7 0) fun x86 =>
          LdP h27 (Addr.add p13 0) fun x88 =>
          LdP h27 (Addr.add p7 0) fun x90 =>
          LdP h27 (Addr.add p13 0) fun x92 =>
          ord_Order_Merge r x86 x88 h27 fun y94 h29 =>
          (hcell h29 (Addr.add p13 0) = some (.pointer x92)) ∧
          (hcell h29 (Addr.add p7 0) = some (.pointer x90)) ∧
          ord_Order_Count r y94 x4 h29 fun y97 h30 =>
          (hcell h30 (Addr.add p13 0) = some (.pointer x92)) ∧
          (hcell h30 (Addr.add p7 0) = some (.pointer x90)) ∧
          ord_Order_Count r x90 x4 h30 fun y100 h31 =>
          (hcell h31 (Addr.add p13 0) = some (.pointer x92)) ∧
          ord_Order_Count r x92 x4 h31 fun y102 h32 =>
          J81 (decide (y97 = (w64 (y100 + y102)))) h32) (
          J81 false h27)) (
        J81 false h27)) (
      J81 false h27))

set_option maxRecDepth 100000 in
theorem law3_OrdMerges_of {r : World} {a1 : Sl} {vb2 : Sl} {c3 : Sl} {x4 : Int} {h : Heap} {R : Bool → Heap → Prop} (H : law3_OrdMerges_F r a1 vb2 c3 x4 h R) : law3_OrdMerges r a1 vb2 c3 x4 h R := by
  unfold law3_OrdMerges_F at H
  refine calls_of 78 [.tmp 8] Try.func9 rfl rfl rfl rfl rfl ?_
  refine W_seq ?_
  refine W_region (.pu 0 .fin) rfl rfl ?_
  refine s_pu (d := some 8) (v := (.bool false)) rfl rfl rfl (r_assign rfl) ?_
  refine s_fin ?_
  show W _ _ _ _ _ _ _ _
  refine W_seq ?_
  refine W_region (.ef 0 [] (.pu 1 .fin) .no) rfl rfl ?_
  refine s_ef (d := some 16) rfl rfl rfl (fun dr => r_call Try.call11 rfl rfl H) ?_ trivial
  rintro _ h1 ⟨y5, rfl, H⟩
  refine ⟨trivial, ?_⟩
  refine s_pu (d := some 9) (v := (.bool y5)) rfl rfl rfl (r_assign rfl) ?_
  refine s_fin ?_
  show W _ _ _ _ _ _ _ _
  refine W_seq ?_
  refine W_seq ?_
  refine W_region (.pu 0 (.pu 1 .fin)) rfl rfl ?_
  refine s_pu (d := some 17) (v := (.bool y5)) rfl rfl rfl (r_move rfl) ?_
  refine s_pu (d := some 18) (v := (.bool (!y5))) rfl rfl rfl (r_not rfl) ?_
  refine s_fin ?_
  show W _ _ _ _ _ _ _ _
  refine W_if (!y5) rfl (fun g103 => ?_) (fun g103 => ?_)
  · have H := H.1 g103
    refine W_seq ?_
    refine W_region (.pu 0 .fin) rfl rfl ?_
    refine s_pu (d := some 8) (v := (.bool false)) rfl rfl rfl (r_assign rfl) ?_
    refine s_fin ?_
    show W _ _ _ _ _ _ _ _
    refine W_ret ?_
    exact ⟨[(.bool false)], ⟨_, _, rfl, rfl, rfl⟩, false, rfl, H⟩
  · have H := H.2 g103
    refine W_skip ?_
    show W _ _ _ _ _ _ _ _
    refine W_seq ?_
    refine W_region (.pu 0 (.ef 1 [] (.ef 2 [] (.ef 3 [] .fin .no) .no) .no)) rfl rfl ?_
    refine s_pu (d := some 19) (v := (Sl.v a1)) rfl rfl rfl (r_move rfl) ?_
    refine s_ef (d := some 20) rfl rfl rfl (fun dr => r_call Try.call12 rfl rfl H) ?_ trivial
    rintro _ h2 ⟨y6, rfl, H⟩
    refine ⟨trivial, ?_⟩
    obtain ⟨p7, e8⟩ : ∃ p : Addr, p = ⟨h2.size, 0, none⟩ := ⟨_, rfl⟩
    obtain ⟨h3, e9⟩ : ∃ hh : Heap, hh = h2.push (.cells #[(.pointer none)] 28) := ⟨_, rfl⟩
    have H := H p7 h3 e8 e9
    refine s_ef1 (d := some 10) (v := (.pointer (some p7))) (h' := h3) rfl rfl rfl (fun dr => (r_alloc Try.zeroValue28).trans (by rw [e8, e9]; rfl)) trivial ?_ trivial
    obtain ⟨e11, H⟩ := H
    obtain ⟨h4, e10⟩ : ∃ hh : Heap, hh = hsets h3 p7 0 [(.pointer y6)] := ⟨_, rfl⟩
    have H := H h4 e10
    refine s_st (d := none) (h' := h4) rfl rfl rfl (fun dr => (r_store (v := (.agg #[(.pointer y6)])) Try.sizeOf28 rfl rfl rfl (one_all rfl) e11).trans (by rw [e10]; rfl)) trivial ?_ trivial
    refine s_fin ?_
    show W _ _ _ _ _ _ _ _
    refine W_seq ?_
    refine W_region (.pu 0 (.ef 1 [] (.ef 2 [] (.ef 3 [] .fin .no) .no) .no)) rfl rfl ?_
    refine s_pu (d := some 21) (v := (Sl.v vb2)) rfl rfl rfl (r_move rfl) ?_
    refine s_ef (d := some 22) rfl rfl rfl (fun dr => r_call Try.call12 rfl rfl H) ?_ trivial
    rintro _ h5 ⟨y12, rfl, H⟩
    refine ⟨trivial, ?_⟩
    obtain ⟨p13, e14⟩ : ∃ p : Addr, p = ⟨h5.size, 0, none⟩ := ⟨_, rfl⟩
    obtain ⟨h6, e15⟩ : ∃ hh : Heap, hh = h5.push (.cells #[(.pointer none)] 28) := ⟨_, rfl⟩
    have H := H p13 h6 e14 e15
    refine s_ef1 (d := some 11) (v := (.pointer (some p13))) (h' := h6) rfl rfl rfl (fun dr => (r_alloc Try.zeroValue28).trans (by rw [e14, e15]; rfl)) trivial ?_ trivial
    obtain ⟨e17, H⟩ := H
    obtain ⟨h7, e16⟩ : ∃ hh : Heap, hh = hsets h6 p13 0 [(.pointer y12)] := ⟨_, rfl⟩
    have H := H h7 e16
    refine s_st (d := none) (h' := h7) rfl rfl rfl (fun dr => (r_store (v := (.agg #[(.pointer y12)])) Try.sizeOf28 rfl rfl rfl (one_all rfl) e17).trans (by rw [e16]; rfl)) trivial ?_ trivial
    refine s_fin ?_
    show W _ _ _ _ _ _ _ _
    refine W_seq ?_
    refine W_region (.pu 0 (.ef 1 [] (.ef 2 [] (.ef 3 [] .fin .no) .no) .no)) rfl rfl ?_
    refine s_pu (d := some 23) (v := (Sl.v c3)) rfl rfl rfl (r_move rfl) ?_
    refine s_ef (d := some 24) rfl rfl rfl (fun dr => r_call Try.call12 rfl rfl H) ?_ trivial
    rintro _ h8 ⟨y18, rfl, H⟩
    refine ⟨trivial, ?_⟩
    obtain ⟨p19, e20⟩ : ∃ p : Addr, p = ⟨h8.size, 0, none⟩ := ⟨_, rfl⟩
    obtain ⟨h9, e21⟩ : ∃ hh : Heap, hh = h8.push (.cells #[(.pointer none)] 28) := ⟨_, rfl⟩
    have H := H p19 h9 e20 e21
    refine s_ef1 (d := some 12) (v := (.pointer (some p19))) (h' := h9) rfl rfl rfl (fun dr => (r_alloc Try.zeroValue28).trans (by rw [e20, e21]; rfl)) trivial ?_ trivial
    obtain ⟨e23, H⟩ := H
    obtain ⟨h10, e22⟩ : ∃ hh : Heap, hh = hsets h9 p19 0 [(.pointer y18)] := ⟨_, rfl⟩
    have H := H h10 e22
    refine s_st (d := none) (h' := h10) rfl rfl rfl (fun dr => (r_store (v := (.agg #[(.pointer y18)])) Try.sizeOf28 rfl rfl rfl (one_all rfl) e23).trans (by rw [e22]; rfl)) trivial ?_ trivial
    refine s_fin ?_
    show W _ _ _ _ _ _ _ _
    refine W_seq ?_
    refine W_draw [0, 0, 3, 7, 0, 0, 63, 127, 255, 511] (.rd 0 (.rd 1 (.rd 4 (.rd 5 (.ef 2 [0, 1] (.ef 3 [0, 1] (.ef 6 [0, 1, 4, 5] (.ef 7 [0, 1, 4, 5] (.ef 8 [0, 1, 4, 5] (.pu 9 .fin) .no) .no) .no) .no) .no))))) (by kernel_rfl) (by kernel_rfl) ?_
    obtain ⟨x24, e25, H⟩ := H
    refine s_rd (d := some 25) (v := (.agg #[(.pointer x24)])) rfl rfl rfl (fun dr => r_loadN Try.isAgg28 Try.sizeOf28 (vs := [(.pointer x24)]) rfl rfl ⟨e25, trivial⟩) ?_
    obtain ⟨x26, e27, H⟩ := H
    refine s_rd (d := some 26) (v := (.agg #[(.pointer x26)])) rfl rfl rfl (fun dr => r_loadN Try.isAgg28 Try.sizeOf28 (vs := [(.pointer x26)]) rfl rfl ⟨e27, trivial⟩) ?_
    obtain ⟨x28, e29, H⟩ := H
    refine s_rd (d := some 29) (v := (.agg #[(.pointer x28)])) rfl rfl rfl (fun dr => r_loadN Try.isAgg28 Try.sizeOf28 (vs := [(.pointer x28)]) rfl rfl ⟨e29, trivial⟩) ?_
    obtain ⟨x30, e31, H⟩ := H
    refine s_rd (d := some 30) (v := (.agg #[(.pointer x30)])) rfl rfl rfl (fun dr => r_loadN Try.isAgg28 Try.sizeOf28 (vs := [(.pointer x30)]) rfl rfl ⟨e31, trivial⟩) ?_
    refine s_ef (d := some 27) rfl rfl rfl (fun dr => r_call Try.call35 rfl rfl H) ?_ trivial
    rintro _ h11 ⟨y32, rfl, H⟩
    obtain ⟨e33, H⟩ := H
    obtain ⟨e34, H⟩ := H
    refine ⟨⟨(.inl ⟨rfl, fun dr => r_loadN Try.isAgg28 Try.sizeOf28 (vs := [(.pointer x30)]) rfl rfl ⟨e33, trivial⟩⟩), (.inl ⟨rfl, fun dr => r_loadN Try.isAgg28 Try.sizeOf28 (vs := [(.pointer x28)]) rfl rfl ⟨e34, trivial⟩⟩), trivial, trivial, trivial⟩, ?_⟩
    refine s_ef (d := some 28) rfl rfl rfl (fun dr => r_call Try.call25 rfl rfl H) ?_ trivial
    rintro _ h12 ⟨y35, rfl, H⟩
    obtain ⟨e36, H⟩ := H
    obtain ⟨e37, H⟩ := H
    refine ⟨⟨(.inl ⟨rfl, fun dr => r_loadN Try.isAgg28 Try.sizeOf28 (vs := [(.pointer x30)]) rfl rfl ⟨e36, trivial⟩⟩), (.inl ⟨rfl, fun dr => r_loadN Try.isAgg28 Try.sizeOf28 (vs := [(.pointer x28)]) rfl rfl ⟨e37, trivial⟩⟩), trivial, trivial, trivial⟩, ?_⟩
    refine s_ef (d := some 31) rfl rfl rfl (fun dr => r_call Try.call35 rfl rfl H) ?_ trivial
    rintro _ h13 ⟨y38, rfl, H⟩
    refine ⟨⟨trivial, trivial, trivial, trivial, trivial⟩, ?_⟩
    refine s_ef (d := some 32) rfl rfl rfl (fun dr => r_call Try.call25 rfl rfl H) ?_ trivial
    rintro _ h14 ⟨y39, rfl, H⟩
    refine ⟨⟨trivial, trivial, trivial, trivial, trivial⟩, ?_⟩
    refine s_ef (d := some 33) rfl rfl rfl (fun dr => r_call Try.call13 rfl rfl H) ?_ trivial
    rintro _ h15 ⟨y40, rfl, H⟩
    refine ⟨⟨trivial, trivial, trivial, trivial, trivial⟩, ?_⟩
    refine s_pu (d := some 13) (v := (.bool y40)) rfl rfl rfl (r_assign rfl) ?_
    refine s_fin ?_
    show W _ _ _ _ _ _ _ _
    refine W_seq ?_
    refine W_draw [0, 0, 3, 0, 15, 31, 0, 0, 0, 447, 1023, 2047, 4095, 8191] (.rd 0 (.rd 1 (.rd 3 (.rd 6 (.rd 7 (.rd 8 (.ef 2 [0, 1] (.ef 4 [0, 1, 3] (.ef 5 [0, 1, 3] (.ef 9 [0, 1, 3, 7, 8] (.ef 10 [0, 1, 3, 6, 7, 8] (.ef 11 [0, 1, 3, 6, 7, 8] (.ef 12 [0, 1, 3, 6, 7, 8] (.pu 13 .fin) .no) .no) .no) .no) .no) .no) .no))))))) (by kernel_rfl) (by kernel_rfl) ?_
    obtain ⟨x41, e42, H⟩ := H
    refine s_rd (d := some 34) (v := (.agg #[(.pointer x41)])) rfl rfl rfl (fun dr => r_loadN Try.isAgg28 Try.sizeOf28 (vs := [(.pointer x41)]) rfl rfl ⟨e42, trivial⟩) ?_
    obtain ⟨x43, e44, H⟩ := H
    refine s_rd (d := some 35) (v := (.agg #[(.pointer x43)])) rfl rfl rfl (fun dr => r_loadN Try.isAgg28 Try.sizeOf28 (vs := [(.pointer x43)]) rfl rfl ⟨e44, trivial⟩) ?_
    obtain ⟨x45, e46, H⟩ := H
    refine s_rd (d := some 37) (v := (.agg #[(.pointer x45)])) rfl rfl rfl (fun dr => r_loadN Try.isAgg28 Try.sizeOf28 (vs := [(.pointer x45)]) rfl rfl ⟨e46, trivial⟩) ?_
    obtain ⟨x47, e48, H⟩ := H
    refine s_rd (d := some 40) (v := (.agg #[(.pointer x47)])) rfl rfl rfl (fun dr => r_loadN Try.isAgg28 Try.sizeOf28 (vs := [(.pointer x47)]) rfl rfl ⟨e48, trivial⟩) ?_
    obtain ⟨x49, e50, H⟩ := H
    refine s_rd (d := some 41) (v := (.agg #[(.pointer x49)])) rfl rfl rfl (fun dr => r_loadN Try.isAgg28 Try.sizeOf28 (vs := [(.pointer x49)]) rfl rfl ⟨e50, trivial⟩) ?_
    obtain ⟨x51, e52, H⟩ := H
    refine s_rd (d := some 42) (v := (.agg #[(.pointer x51)])) rfl rfl rfl (fun dr => r_loadN Try.isAgg28 Try.sizeOf28 (vs := [(.pointer x51)]) rfl rfl ⟨e52, trivial⟩) ?_
    refine s_ef (d := some 36) rfl rfl rfl (fun dr => r_call Try.call35 rfl rfl H) ?_ trivial
    rintro _ h16 ⟨y53, rfl, H⟩
    obtain ⟨e54, H⟩ := H
    obtain ⟨e55, H⟩ := H
    obtain ⟨e56, H⟩ := H
    obtain ⟨e57, H⟩ := H
    refine ⟨⟨(.inl ⟨rfl, fun dr => r_loadN Try.isAgg28 Try.sizeOf28 (vs := [(.pointer x51)]) rfl rfl ⟨e54, trivial⟩⟩), (.inl ⟨rfl, fun dr => r_loadN Try.isAgg28 Try.sizeOf28 (vs := [(.pointer x49)]) rfl rfl ⟨e55, trivial⟩⟩), (.inl ⟨rfl, fun dr => r_loadN Try.isAgg28 Try.sizeOf28 (vs := [(.pointer x47)]) rfl rfl ⟨e56, trivial⟩⟩), (.inl ⟨rfl, fun dr => r_loadN Try.isAgg28 Try.sizeOf28 (vs := [(.pointer x45)]) rfl rfl ⟨e57, trivial⟩⟩), trivial, trivial, trivial⟩, ?_⟩
    refine s_ef (d := some 38) rfl rfl rfl (fun dr => r_call Try.call35 rfl rfl H) ?_ trivial
    rintro _ h17 ⟨y58, rfl, H⟩
    obtain ⟨e59, H⟩ := H
    obtain ⟨e60, H⟩ := H
    obtain ⟨e61, H⟩ := H
    refine ⟨⟨(.inl ⟨rfl, fun dr => r_loadN Try.isAgg28 Try.sizeOf28 (vs := [(.pointer x51)]) rfl rfl ⟨e59, trivial⟩⟩), (.inl ⟨rfl, fun dr => r_loadN Try.isAgg28 Try.sizeOf28 (vs := [(.pointer x49)]) rfl rfl ⟨e60, trivial⟩⟩), (.inl ⟨rfl, fun dr => r_loadN Try.isAgg28 Try.sizeOf28 (vs := [(.pointer x47)]) rfl rfl ⟨e61, trivial⟩⟩), trivial, trivial, trivial, trivial⟩, ?_⟩
    refine s_ef (d := some 39) rfl rfl rfl (fun dr => r_call Try.call25 rfl rfl H) ?_ trivial
    rintro _ h18 ⟨y62, rfl, H⟩
    obtain ⟨e63, H⟩ := H
    obtain ⟨e64, H⟩ := H
    obtain ⟨e65, H⟩ := H
    refine ⟨⟨(.inl ⟨rfl, fun dr => r_loadN Try.isAgg28 Try.sizeOf28 (vs := [(.pointer x51)]) rfl rfl ⟨e63, trivial⟩⟩), (.inl ⟨rfl, fun dr => r_loadN Try.isAgg28 Try.sizeOf28 (vs := [(.pointer x49)]) rfl rfl ⟨e64, trivial⟩⟩), (.inl ⟨rfl, fun dr => r_loadN Try.isAgg28 Try.sizeOf28 (vs := [(.pointer x47)]) rfl rfl ⟨e65, trivial⟩⟩), trivial, trivial, trivial, trivial⟩, ?_⟩
    refine s_ef (d := some 43) rfl rfl rfl (fun dr => r_call Try.call35 rfl rfl H) ?_ trivial
    rintro _ h19 ⟨y66, rfl, H⟩
    obtain ⟨e67, H⟩ := H
    refine ⟨⟨trivial, trivial, (.inl ⟨rfl, fun dr => r_loadN Try.isAgg28 Try.sizeOf28 (vs := [(.pointer x47)]) rfl rfl ⟨e67, trivial⟩⟩), trivial, trivial, trivial, trivial⟩, ?_⟩
    refine s_ef (d := some 44) rfl rfl rfl (fun dr => r_call Try.call35 rfl rfl H) ?_ trivial
    rintro _ h20 ⟨y68, rfl, H⟩
    refine ⟨⟨trivial, trivial, trivial, trivial, trivial, trivial, trivial⟩, ?_⟩
    refine s_ef (d := some 45) rfl rfl rfl (fun dr => r_call Try.call25 rfl rfl H) ?_ trivial
    rintro _ h21 ⟨y69, rfl, H⟩
    refine ⟨⟨trivial, trivial, trivial, trivial, trivial, trivial, trivial⟩, ?_⟩
    refine s_ef (d := some 46) rfl rfl rfl (fun dr => r_call Try.call13 rfl rfl H) ?_ trivial
    rintro _ h22 ⟨y70, rfl, H⟩
    refine ⟨⟨trivial, trivial, trivial, trivial, trivial, trivial, trivial⟩, ?_⟩
    refine s_pu (d := some 14) (v := (.bool y70)) rfl rfl rfl (r_assign rfl) ?_
    refine s_fin ?_
    show W _ _ _ _ _ _ _ _
    refine W_seq ?_
    refine W_region (.rl 0 (.rl 1 (.ef 2 [] (.ef 3 [] (.pu 4 (.pu 5 (.ef 6 [] (.ef 7 [] (.ef 8 [] (.pu 9 .fin) .no) .no) .no))) .no) .no))) rfl rfl ?_
    obtain ⟨x71, e72, H⟩ := H
    refine s_rl (d := some 47) (v := (.agg #[(.pointer x71)])) rfl rfl rfl (fun dr => r_loadN Try.isAgg28 Try.sizeOf28 (vs := [(.pointer x71)]) rfl rfl ⟨e72, trivial⟩) ?_
    obtain ⟨x73, e74, H⟩ := H
    refine s_rl (d := some 48) (v := (.agg #[(.pointer x73)])) rfl rfl rfl (fun dr => r_loadN Try.isAgg28 Try.sizeOf28 (vs := [(.pointer x73)]) rfl rfl ⟨e74, trivial⟩) ?_
    refine s_ef (d := some 49) rfl rfl rfl (fun dr => r_call Try.call35 rfl rfl H) ?_ trivial
    rintro _ h23 ⟨y75, rfl, H⟩
    refine ⟨trivial, ?_⟩
    refine s_ef (d := some 50) rfl rfl rfl (fun dr => r_call Try.call25 rfl rfl H) ?_ trivial
    rintro _ h24 ⟨y76, rfl, H⟩
    refine ⟨trivial, ?_⟩
    refine s_pu (d := some 51) (v := (Sl.v a1)) rfl rfl rfl (r_move rfl) ?_
    refine s_pu (d := some 52) (v := (Sl.v vb2)) rfl rfl rfl (r_move rfl) ?_
    refine s_ef (d := some 53) rfl rfl rfl (fun dr => r_call Try.call14 rfl rfl H) ?_ trivial
    rintro _ h25 ⟨y77, rfl, H⟩
    refine ⟨trivial, ?_⟩
    refine s_ef (d := some 54) rfl rfl rfl (fun dr => r_call Try.call26 rfl rfl H) ?_ trivial
    rintro _ h26 ⟨y78, rfl, H⟩
    refine ⟨trivial, ?_⟩
    refine s_ef (d := some 55) rfl rfl rfl (fun dr => r_call Try.call13 rfl rfl H) ?_ trivial
    rintro _ h27 ⟨y79, rfl, H⟩
    refine ⟨trivial, ?_⟩
    refine s_pu (d := some 15) (v := (.bool y79)) rfl rfl rfl (r_assign rfl) ?_
    refine s_fin ?_
    show W _ _ _ _ _ _ _ _
    refine W_seq ?_
    refine W_set ?_
    intro N82 eN82
    have H := H (fun (x80 : Bool) (h28 : Heap) => ∀ b, N82 [] (mkE [(8, (.bool x80))] b) h28) (by
      intro x80 h28 H b
      rw [eN82]
      show W _ _ _ _ _ _ _ _
      refine W_ret ?_
      exact ⟨[(.bool x80)], ⟨_, _, rfl, rfl, rfl⟩, x80, rfl, H⟩)
    clear eN82
    refine W_draw [0, 1, 3, 7, 15, 31, 63, 127, 255, 255, 1023, 255, 4095, 255, 255, 32767, 255, 255, 262143, 524287, 1048575, 2097151, 4194303] (.pu 0 (.pu 1 (.pu 2 (.pu 3 (.pu 4 (.pu 5 (.pu 6 (.pu 7 (.rd 8 (.rd 9 (.pu 11 (.rd 13 (.pu 14 (.rd 16 (.pu 17 (.ef 10 [8, 9] (.ef 12 [8, 9] (.ef 15 [8, 9, 13] (.ef 18 [8, 9, 13, 16] (.pu 19 (.pu 20 (.pu 21 (.pu 22 .fin)))) .no) .no) .no) .no)))))))))))))))) (by kernel_rfl) (by kernel_rfl) ?_
    refine s_pu (d := some 56) (v := (.bool y40)) rfl rfl rfl (r_move rfl) ?_
    refine s_pu (d := some 57) (v := (.bool y40)) rfl rfl rfl (r_move rfl) ?_
    rcases Bool.eq_false_or_eq_true y40 with g83 | g83
    · have H := H.1 g83
      refine s_pu (d := some 58) (v := (.bool y70)) rfl rfl (wants_yes rfl rfl rfl rfl g83) (r_move rfl) ?_
      refine s_pu (d := some 59) (v := (.bool y70)) rfl rfl rfl (r_pick1 rfl g83 rfl) ?_
      refine s_pu (d := some 60) (v := (.bool y70)) rfl rfl rfl (r_move rfl) ?_
      rcases Bool.eq_false_or_eq_true y70 with g84 | g84
      · have H := H.1 g84
        refine s_pu (d := some 61) (v := (.bool y79)) rfl rfl (wants_yes rfl rfl rfl rfl g84) (r_move rfl) ?_
        refine s_pu (d := some 62) (v := (.bool y79)) rfl rfl rfl (r_pick1 rfl g84 rfl) ?_
        refine s_pu (d := some 63) (v := (.bool y79)) rfl rfl rfl (r_move rfl) ?_
        rcases Bool.eq_false_or_eq_true y79 with g85 | g85
        · have H := H.1 g85
          obtain ⟨x86, e87, H⟩ := H
          refine s_rd (d := some 64) (v := (.agg #[(.pointer x86)])) rfl rfl (wants_yes rfl rfl rfl rfl g85) (fun dr => r_loadN Try.isAgg28 Try.sizeOf28 (vs := [(.pointer x86)]) rfl rfl ⟨e87, trivial⟩) ?_
          obtain ⟨x88, e89, H⟩ := H
          refine s_rd (d := some 65) (v := (.agg #[(.pointer x88)])) rfl rfl (wants_yes rfl rfl rfl rfl g85) (fun dr => r_loadN Try.isAgg28 Try.sizeOf28 (vs := [(.pointer x88)]) rfl rfl ⟨e89, trivial⟩) ?_
          refine s_pu (d := some 67) (v := (.int .i64 x4)) rfl rfl (wants_yes rfl rfl rfl rfl g85) (r_move rfl) ?_
          obtain ⟨x90, e91, H⟩ := H
          refine s_rd (d := some 69) (v := (.agg #[(.pointer x90)])) rfl rfl (wants_yes rfl rfl rfl rfl g85) (fun dr => r_loadN Try.isAgg28 Try.sizeOf28 (vs := [(.pointer x90)]) rfl rfl ⟨e91, trivial⟩) ?_
          refine s_pu (d := some 70) (v := (.int .i64 x4)) rfl rfl (wants_yes rfl rfl rfl rfl g85) (r_move rfl) ?_
          obtain ⟨x92, e93, H⟩ := H
          refine s_rd (d := some 72) (v := (.agg #[(.pointer x92)])) rfl rfl (wants_yes rfl rfl rfl rfl g85) (fun dr => r_loadN Try.isAgg28 Try.sizeOf28 (vs := [(.pointer x92)]) rfl rfl ⟨e93, trivial⟩) ?_
          refine s_pu (d := some 73) (v := (.int .i64 x4)) rfl rfl (wants_yes rfl rfl rfl rfl g85) (r_move rfl) ?_
          refine s_ef (d := some 66) rfl rfl (wants_yes rfl rfl rfl rfl g85) (fun dr => r_call Try.call35 rfl rfl H) ?_ trivial
          rintro _ h29 ⟨y94, rfl, H⟩
          obtain ⟨e95, H⟩ := H
          obtain ⟨e96, H⟩ := H
          refine ⟨⟨(.inl ⟨(wants_yes rfl rfl rfl rfl g85), fun dr => r_loadN Try.isAgg28 Try.sizeOf28 (vs := [(.pointer x92)]) rfl rfl ⟨e95, trivial⟩⟩), (.inl ⟨(wants_yes rfl rfl rfl rfl g85), fun dr => r_loadN Try.isAgg28 Try.sizeOf28 (vs := [(.pointer x90)]) rfl rfl ⟨e96, trivial⟩⟩), trivial, trivial, trivial⟩, ?_⟩
          refine s_ef (d := some 68) rfl rfl (wants_yes rfl rfl rfl rfl g85) (fun dr => r_call Try.call16 rfl rfl H) ?_ trivial
          rintro _ h30 ⟨y97, rfl, H⟩
          obtain ⟨e98, H⟩ := H
          obtain ⟨e99, H⟩ := H
          refine ⟨⟨(.inl ⟨(wants_yes rfl rfl rfl rfl g85), fun dr => r_loadN Try.isAgg28 Try.sizeOf28 (vs := [(.pointer x92)]) rfl rfl ⟨e98, trivial⟩⟩), (.inl ⟨(wants_yes rfl rfl rfl rfl g85), fun dr => r_loadN Try.isAgg28 Try.sizeOf28 (vs := [(.pointer x90)]) rfl rfl ⟨e99, trivial⟩⟩), trivial, trivial, trivial⟩, ?_⟩
          refine s_ef (d := some 71) rfl rfl (wants_yes rfl rfl rfl rfl g85) (fun dr => r_call Try.call16 rfl rfl H) ?_ trivial
          rintro _ h31 ⟨y100, rfl, H⟩
          obtain ⟨e101, H⟩ := H
          refine ⟨⟨(.inl ⟨(wants_yes rfl rfl rfl rfl g85), fun dr => r_loadN Try.isAgg28 Try.sizeOf28 (vs := [(.pointer x92)]) rfl rfl ⟨e101, trivial⟩⟩), trivial, trivial, trivial, trivial⟩, ?_⟩
          refine s_ef (d := some 74) rfl rfl (wants_yes rfl rfl rfl rfl g85) (fun dr => r_call Try.call16 rfl rfl H) ?_ trivial
          rintro _ h32 ⟨y102, rfl, H⟩
          refine ⟨⟨trivial, trivial, trivial, trivial, trivial⟩, ?_⟩
          refine s_pu (d := some 75) (v := (.int .i64 (w64 (y100 + y102)))) rfl rfl (wants_yes rfl rfl rfl rfl g85) (r_add rfl rfl) ?_
          refine s_pu (d := some 76) (v := (.bool (decide (y97 = (w64 (y100 + y102)))))) rfl rfl (wants_yes rfl rfl rfl rfl g85) (r_eql rfl rfl) ?_
          refine s_pu (d := some 77) (v := (.bool (decide (y97 = (w64 (y100 + y102)))))) rfl rfl rfl (r_pick1 rfl g85 rfl) ?_
          refine s_pu (d := some 8) (v := (.bool (decide (y97 = (w64 (y100 + y102)))))) rfl rfl rfl (r_assign rfl) ?_
          refine s_fin ?_
          exact N_mk (l := [(8, (.bool (decide (y97 = (w64 (y100 + y102))))))]) H ⟨rfl, trivial⟩
        · have H := H.2 g85
          refine s_skd (d := some 64) rfl rfl (wants_no rfl rfl rfl rfl g85) ?_
          refine s_skd (d := some 65) rfl rfl (wants_no rfl rfl rfl rfl g85) ?_
          refine s_sk (d := some 67) rfl rfl (wants_no rfl rfl rfl rfl g85) ?_
          refine s_skd (d := some 69) rfl rfl (wants_no rfl rfl rfl rfl g85) ?_
          refine s_sk (d := some 70) rfl rfl (wants_no rfl rfl rfl rfl g85) ?_
          refine s_skd (d := some 72) rfl rfl (wants_no rfl rfl rfl rfl g85) ?_
          refine s_sk (d := some 73) rfl rfl (wants_no rfl rfl rfl rfl g85) ?_
          refine s_skf (d := some 66) rfl rfl (wants_no rfl rfl rfl rfl g85) ⟨(.inr ⟨wants_no rfl rfl rfl rfl g85, rfl⟩), (.inr ⟨wants_no rfl rfl rfl rfl g85, rfl⟩), trivial, trivial, trivial⟩ ?_ trivial
          refine s_skf (d := some 68) rfl rfl (wants_no rfl rfl rfl rfl g85) ⟨(.inr ⟨wants_no rfl rfl rfl rfl g85, rfl⟩), (.inr ⟨wants_no rfl rfl rfl rfl g85, rfl⟩), trivial, trivial, trivial⟩ ?_ trivial
          refine s_skf (d := some 71) rfl rfl (wants_no rfl rfl rfl rfl g85) ⟨(.inr ⟨wants_no rfl rfl rfl rfl g85, rfl⟩), trivial, trivial, trivial, trivial⟩ ?_ trivial
          refine s_skf (d := some 74) rfl rfl (wants_no rfl rfl rfl rfl g85) ⟨trivial, trivial, trivial, trivial, trivial⟩ ?_ trivial
          refine s_sk (d := some 75) rfl rfl (wants_no rfl rfl rfl rfl g85) ?_
          refine s_sk (d := some 76) rfl rfl (wants_no rfl rfl rfl rfl g85) ?_
          refine s_pu (d := some 77) (v := (.bool false)) rfl rfl rfl (r_pick0 rfl g85 rfl) ?_
          refine s_pu (d := some 8) (v := (.bool false)) rfl rfl rfl (r_assign rfl) ?_
          refine s_fin ?_
          exact N_mk (l := [(8, (.bool false))]) H ⟨rfl, trivial⟩
      · have H := H.2 g84
        refine s_sk (d := some 61) rfl rfl (wants_no rfl rfl rfl rfl g84) ?_
        refine s_pu (d := some 62) (v := (.bool false)) rfl rfl rfl (r_pick0 rfl g84 rfl) ?_
        refine s_pu (d := some 63) (v := (.bool false)) rfl rfl rfl (r_move rfl) ?_
        refine s_skd (d := some 64) rfl rfl (wants_no rfl rfl rfl rfl rfl) ?_
        refine s_skd (d := some 65) rfl rfl (wants_no rfl rfl rfl rfl rfl) ?_
        refine s_sk (d := some 67) rfl rfl (wants_no rfl rfl rfl rfl rfl) ?_
        refine s_skd (d := some 69) rfl rfl (wants_no rfl rfl rfl rfl rfl) ?_
        refine s_sk (d := some 70) rfl rfl (wants_no rfl rfl rfl rfl rfl) ?_
        refine s_skd (d := some 72) rfl rfl (wants_no rfl rfl rfl rfl rfl) ?_
        refine s_sk (d := some 73) rfl rfl (wants_no rfl rfl rfl rfl rfl) ?_
        refine s_skf (d := some 66) rfl rfl (wants_no rfl rfl rfl rfl rfl) ⟨(.inr ⟨wants_no rfl rfl rfl rfl rfl, rfl⟩), (.inr ⟨wants_no rfl rfl rfl rfl rfl, rfl⟩), trivial, trivial, trivial⟩ ?_ trivial
        refine s_skf (d := some 68) rfl rfl (wants_no rfl rfl rfl rfl rfl) ⟨(.inr ⟨wants_no rfl rfl rfl rfl rfl, rfl⟩), (.inr ⟨wants_no rfl rfl rfl rfl rfl, rfl⟩), trivial, trivial, trivial⟩ ?_ trivial
        refine s_skf (d := some 71) rfl rfl (wants_no rfl rfl rfl rfl rfl) ⟨(.inr ⟨wants_no rfl rfl rfl rfl rfl, rfl⟩), trivial, trivial, trivial, trivial⟩ ?_ trivial
        refine s_skf (d := some 74) rfl rfl (wants_no rfl rfl rfl rfl rfl) ⟨trivial, trivial, trivial, trivial, trivial⟩ ?_ trivial
        refine s_sk (d := some 75) rfl rfl (wants_no rfl rfl rfl rfl rfl) ?_
        refine s_sk (d := some 76) rfl rfl (wants_no rfl rfl rfl rfl rfl) ?_
        refine s_pu (d := some 77) (v := (.bool false)) rfl rfl rfl (r_pick0 rfl rfl rfl) ?_
        refine s_pu (d := some 8) (v := (.bool false)) rfl rfl rfl (r_assign rfl) ?_
        refine s_fin ?_
        exact N_mk (l := [(8, (.bool false))]) H ⟨rfl, trivial⟩
    · have H := H.2 g83
      refine s_sk (d := some 58) rfl rfl (wants_no rfl rfl rfl rfl g83) ?_
      refine s_pu (d := some 59) (v := (.bool false)) rfl rfl rfl (r_pick0 rfl g83 rfl) ?_
      refine s_pu (d := some 60) (v := (.bool false)) rfl rfl rfl (r_move rfl) ?_
      refine s_sk (d := some 61) rfl rfl (wants_no rfl rfl rfl rfl rfl) ?_
      refine s_pu (d := some 62) (v := (.bool false)) rfl rfl rfl (r_pick0 rfl rfl rfl) ?_
      refine s_pu (d := some 63) (v := (.bool false)) rfl rfl rfl (r_move rfl) ?_
      refine s_skd (d := some 64) rfl rfl (wants_no rfl rfl rfl rfl rfl) ?_
      refine s_skd (d := some 65) rfl rfl (wants_no rfl rfl rfl rfl rfl) ?_
      refine s_sk (d := some 67) rfl rfl (wants_no rfl rfl rfl rfl rfl) ?_
      refine s_skd (d := some 69) rfl rfl (wants_no rfl rfl rfl rfl rfl) ?_
      refine s_sk (d := some 70) rfl rfl (wants_no rfl rfl rfl rfl rfl) ?_
      refine s_skd (d := some 72) rfl rfl (wants_no rfl rfl rfl rfl rfl) ?_
      refine s_sk (d := some 73) rfl rfl (wants_no rfl rfl rfl rfl rfl) ?_
      refine s_skf (d := some 66) rfl rfl (wants_no rfl rfl rfl rfl rfl) ⟨(.inr ⟨wants_no rfl rfl rfl rfl rfl, rfl⟩), (.inr ⟨wants_no rfl rfl rfl rfl rfl, rfl⟩), trivial, trivial, trivial⟩ ?_ trivial
      refine s_skf (d := some 68) rfl rfl (wants_no rfl rfl rfl rfl rfl) ⟨(.inr ⟨wants_no rfl rfl rfl rfl rfl, rfl⟩), (.inr ⟨wants_no rfl rfl rfl rfl rfl, rfl⟩), trivial, trivial, trivial⟩ ?_ trivial
      refine s_skf (d := some 71) rfl rfl (wants_no rfl rfl rfl rfl rfl) ⟨(.inr ⟨wants_no rfl rfl rfl rfl rfl, rfl⟩), trivial, trivial, trivial, trivial⟩ ?_ trivial
      refine s_skf (d := some 74) rfl rfl (wants_no rfl rfl rfl rfl rfl) ⟨trivial, trivial, trivial, trivial, trivial⟩ ?_ trivial
      refine s_sk (d := some 75) rfl rfl (wants_no rfl rfl rfl rfl rfl) ?_
      refine s_sk (d := some 76) rfl rfl (wants_no rfl rfl rfl rfl rfl) ?_
      refine s_pu (d := some 77) (v := (.bool false)) rfl rfl rfl (r_pick0 rfl rfl rfl) ?_
      refine s_pu (d := some 8) (v := (.bool false)) rfl rfl rfl (r_assign rfl) ?_
      refine s_fin ?_
      exact N_mk (l := [(8, (.bool false))]) H ⟨rfl, trivial⟩

end Go.Proofs.Ytikccpmhoioaeaa
