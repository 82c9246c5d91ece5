/- Typed words of functions, and that they hold: printed by gen.py (an own tool of this claim) off the model's own form of each function. -/
import Derived.Test.YtcafckgflpmfgaaDoorProg
import Derived.Test.YtcafckgflpmfgaaDoorDVInv
namespace Go.Proofs.YtcafckgflpmfgaaDoor
open Go Go.RowKit Go.Tw
set_option linter.unusedVariables false

theorem slFDVLaw_22 : SlF Tryd.prog 22 3 1 8 (.int .i64 0) := ⟨Tryd.underlying22, ⟨Tryd.t3, by kernel_rfl, rfl, rfl, rfl⟩, rfl, Tryd.sizeOf3, Tryd.zeroValue3⟩

/-! ### the calls -/

abbrev law5_sorted (r : World)  (h : Heap) (R : Bool → Heap → Prop) : Prop :=
  CallsH Tryd.prog r 57 [] h fun v h' => ∃ (y1 : Bool), v = (.bool y1) ∧ R y1 h'

theorem law5_sorted.mono {r : World}  {h : Heap} {R R' : Bool → Heap → Prop} (H : law5_sorted r  h R) (hr : ∀ y1 h, R y1 h → R' y1 h) : law5_sorted r  h R' :=
  CallsH.mono H fun _ _ hx => by
    obtain ⟨y1, hv, hR⟩ := hx
    exact ⟨y1, hv, hr _ _ hR⟩

abbrev ref1_Turned (r : World) (l1 : Sl) (h : Heap) (R : Int → Heap → Prop) : Prop :=
  CallsH Tryd.prog r 59 [(Sl.v l1)] h fun v h' => ∃ (y2 : Int), v = (.int .i64 y2) ∧ R y2 h'

theorem ref1_Turned.mono {r : World} {l1 : Sl} {h : Heap} {R R' : Int → Heap → Prop} (H : ref1_Turned r l1 h R) (hr : ∀ y2 h, R y2 h → R' y2 h) : ref1_Turned r l1 h R' :=
  CallsH.mono H fun _ _ hx => by
    obtain ⟨y2, hv, hR⟩ := hx
    exact ⟨y2, hv, hr _ _ hR⟩

abbrev ref1_OrderFault (r : World) (p1 : Sl) (h : Heap) (R : Int → Heap → Prop) : Prop :=
  CallsH Tryd.prog r 60 [(Sl.v p1)] h fun v h' => ∃ (y2 : Int), v = (.int .i64 y2) ∧ R y2 h'

theorem ref1_OrderFault.mono {r : World} {p1 : Sl} {h : Heap} {R R' : Int → Heap → Prop} (H : ref1_OrderFault r p1 h R) (hr : ∀ y2 h, R y2 h → R' y2 h) : ref1_OrderFault r p1 h R' :=
  CallsH.mono H fun _ _ hx => by
    obtain ⟨y2, hv, hR⟩ := hx
    exact ⟨y2, hv, hr _ _ hR⟩

abbrev ref1_LehmerOf (r : World) (p1 : Sl) (h : Heap) (R : Sl → Heap → Prop) : Prop :=
  CallsH Tryd.prog r 62 [(Sl.v p1)] h fun v h' => ∃ (y2 : Sl), v = (Sl.v y2) ∧ R y2 h'

theorem ref1_LehmerOf.mono {r : World} {p1 : Sl} {h : Heap} {R R' : Sl → Heap → Prop} (H : ref1_LehmerOf r p1 h R) (hr : ∀ y2 h, R y2 h → R' y2 h) : ref1_LehmerOf r p1 h R' :=
  CallsH.mono H fun _ _ hx => by
    obtain ⟨y2, hv, hR⟩ := hx
    exact ⟨y2, hv, hr _ _ hR⟩

abbrev ref1_RankOf (r : World) (p1 : Sl) (h : Heap) (R : Int → Heap → Prop) : Prop :=
  CallsH Tryd.prog r 63 [(Sl.v p1)] h fun v h' => ∃ (y2 : Int), v = (.int .i64 y2) ∧ R y2 h'

theorem ref1_RankOf.mono {r : World} {p1 : Sl} {h : Heap} {R R' : Int → Heap → Prop} (H : ref1_RankOf r p1 h R) (hr : ∀ y2 h, R y2 h → R' y2 h) : ref1_RankOf r p1 h R' :=
  CallsH.mono H fun _ _ hx => by
    obtain ⟨y2, hv, hR⟩ := hx
    exact ⟨y2, hv, hr _ _ hR⟩

abbrev ref1_OrderOf (r : World) (c1 : Sl) (h : Heap) (R : Sl → Int → Heap → Prop) : Prop :=
  CallsH Tryd.prog r 67 [(Sl.v c1)] h fun v h' => ∃ (y2 : Sl) (y3 : Int), v = (.tuple #[(Sl.v y2), (.int .i64 y3)]) ∧ R y2 y3 h'

theorem ref1_OrderOf.mono {r : World} {c1 : Sl} {h : Heap} {R R' : Sl → Int → Heap → Prop} (H : ref1_OrderOf r c1 h R) (hr : ∀ y2 y3 h, R y2 y3 h → R' y2 y3 h) : ref1_OrderOf r c1 h R' :=
  CallsH.mono H fun _ _ hx => by
    obtain ⟨y2, y3, hv, hR⟩ := hx
    exact ⟨y2, y3, hv, hr _ _ _ hR⟩

abbrev ref1_Orders (r : World) (n1 : Int) (h : Heap) (R : Int → Heap → Prop) : Prop :=
  CallsH Tryd.prog r 69 [(.int .i64 n1)] h fun v h' => ∃ (y2 : Int), v = (.int .i64 y2) ∧ R y2 h'

theorem ref1_Orders.mono {r : World} {n1 : Int} {h : Heap} {R R' : Int → Heap → Prop} (H : ref1_Orders r n1 h R) (hr : ∀ y2 h, R y2 h → R' y2 h) : ref1_Orders r n1 h R' :=
  CallsH.mono H fun _ _ hx => by
    obtain ⟨y2, hv, hR⟩ := hx
    exact ⟨y2, hv, hr _ _ hR⟩

abbrev law5_InvTells (r : World) (l1 : Sl) (p2 : Sl) (c3 : Sl) (n4 : Int) (rank5 : Int) (h : Heap) (R : Bool → Heap → Prop) : Prop :=
  CallsH Tryd.prog r 9 [(Sl.v l1), (Sl.v p2), (Sl.v c3), (.int .i64 n4), (.int .i64 rank5)] h fun v h' => ∃ (y6 : Bool), v = (.bool y6) ∧ R y6 h'

theorem law5_InvTells.mono {r : World} {l1 : Sl} {p2 : Sl} {c3 : Sl} {n4 : Int} {rank5 : Int} {h : Heap} {R R' : Bool → Heap → Prop} (H : law5_InvTells r l1 p2 c3 n4 rank5 h R) (hr : ∀ y6 h, R y6 h → R' y6 h) : law5_InvTells r l1 p2 c3 n4 rank5 h R' :=
  CallsH.mono H fun _ _ hx => by
    obtain ⟨y6, hv, hR⟩ := hx
    exact ⟨y6, hv, hr _ _ hR⟩

/-! ### law5_sorted -/

def law5_sorted_F (r : World)  (h : Heap) (R : Bool → Heap → Prop) : Prop :=
  New h (.cells #[(.int .i64 3), (.int .i64 1), (.int .i64 2)] 3) fun p1 h1 =>
  inv_Count r ((⟨some p1, 3, 3⟩ : Sl)) h1 fun y4 h2 =>
  New h2 (.cells #[(.int .i64 2), (.int .i64 0), (.int .i64 1)] 3) fun p5 h3 =>
  inv_Lehmer r ((⟨some p5, 3, 3⟩ : Sl)) h3 fun y8 y9 h4 =>
  New h4 (.cells #[(.int .i64 2), (.int .i64 0), (.int .i64 0)] 3) fun p10 h5 =>
  same_Ints r y8 ((⟨some p10, 3, 3⟩ : Sl)) h5 fun y13 h6 =>
  (isIface y9 = true) ∧
  R (((decide (y4 = 2)) && (isNil y9)) && y13) h6

set_option maxRecDepth 100000 in
theorem law5_sorted_of {r : World}  {h : Heap} {R : Bool → Heap → Prop} (H : law5_sorted_F r  h R) : law5_sorted r  h R := by
  unfold law5_sorted_F at H
  refine calls_of 24 [.tmp 0] Tryd.func57 rfl rfl rfl rfl rfl ?_
  refine W_seq ?_
  refine W_region (.pu 0 .fin) rfl rfl ?_
  refine s_pu (d := some 0) (v := (.bool false)) rfl rfl rfl (r_assign rfl) ?_
  refine s_fin ?_
  show W _ _ _ _ _ _ _ _
  refine W_seq ?_
  refine W_region (.ef 0 [] (.ef 1 [] (.pu 2 .fin) .no) .no) rfl rfl ?_
  obtain ⟨p1, e2⟩ : ∃ p : Addr, p = ⟨h.size, 0, none⟩ := ⟨_, rfl⟩
  obtain ⟨h1, e3⟩ : ∃ hh : Heap, hh = h.push (.cells #[(.int .i64 3), (.int .i64 1), (.int .i64 2)] 3) := ⟨_, rfl⟩
  have H := H p1 h1 e2 e3
  refine s_ef1 (d := some 5) (v := (Sl.v ((⟨some p1, 3, 3⟩ : Sl)))) (h' := h1) rfl rfl rfl (fun dr => (slFDVLaw_22.build (cells := #[(.int .i64 3), (.int .i64 1), (.int .i64 2)]) (by decide) rfl (by kernel_rfl)).trans (by rw [e2, e3]; rfl)) trivial ?_ trivial
  refine s_ef (d := some 6) rfl rfl rfl (fun dr => r_call Tryd.call58 rfl rfl H) ?_ trivial
  rintro _ h2 ⟨y4, rfl, H⟩
  refine ⟨trivial, ?_⟩
  refine s_pu (d := some 1) (v := (.int .i64 y4)) rfl rfl rfl (r_assign rfl) ?_
  refine s_fin ?_
  show W _ _ _ _ _ _ _ _
  refine W_seq ?_
  refine W_region (.ef 0 [] (.ef 1 [] (.pu 2 (.pu 3 (.pu 4 (.pu 5 (.pu 6 .fin))))) .no) .no) rfl rfl ?_
  obtain ⟨p5, e6⟩ : ∃ p : Addr, p = ⟨h2.size, 0, none⟩ := ⟨_, rfl⟩
  obtain ⟨h3, e7⟩ : ∃ hh : Heap, hh = h2.push (.cells #[(.int .i64 2), (.int .i64 0), (.int .i64 1)] 3) := ⟨_, rfl⟩
  have H := H p5 h3 e6 e7
  refine s_ef1 (d := some 8) (v := (Sl.v ((⟨some p5, 3, 3⟩ : Sl)))) (h' := h3) rfl rfl rfl (fun dr => (slFDVLaw_22.build (cells := #[(.int .i64 2), (.int .i64 0), (.int .i64 1)]) (by decide) rfl (by kernel_rfl)).trans (by rw [e6, e7]; rfl)) trivial ?_ trivial
  refine s_ef (d := some 9) rfl rfl rfl (fun dr => r_call Tryd.call64 rfl rfl H) ?_ trivial
  rintro _ h4 ⟨y8, y9, rfl, H⟩
  refine ⟨trivial, ?_⟩
  refine s_pu (d := some 7) (v := (.tuple #[(Sl.v y8), y9])) rfl rfl rfl (r_move rfl) ?_
  refine s_pu (d := some 10) (v := (Sl.v y8)) rfl rfl rfl (r_extract rfl rfl) ?_
  refine s_pu (d := some 11) (v := y9) rfl rfl rfl (r_extract rfl rfl) ?_
  refine s_pu (d := some 2) (v := (Sl.v y8)) rfl rfl rfl (r_assign rfl) ?_
  refine s_pu (d := some 3) (v := y9) rfl rfl rfl (r_assign rfl) ?_
  refine s_fin ?_
  show W _ _ _ _ _ _ _ _
  refine W_seq ?_
  refine W_region (.pu 0 (.ef 1 [] (.ef 2 [] (.pu 3 .fin) .no) .no)) rfl rfl ?_
  refine s_pu (d := some 12) (v := (Sl.v y8)) rfl rfl rfl (r_move rfl) ?_
  obtain ⟨p10, e11⟩ : ∃ p : Addr, p = ⟨h4.size, 0, none⟩ := ⟨_, rfl⟩
  obtain ⟨h5, e12⟩ : ∃ hh : Heap, hh = h4.push (.cells #[(.int .i64 2), (.int .i64 0), (.int .i64 0)] 3) := ⟨_, rfl⟩
  have H := H p10 h5 e11 e12
  refine s_ef1 (d := some 13) (v := (Sl.v ((⟨some p10, 3, 3⟩ : Sl)))) (h' := h5) rfl rfl rfl (fun dr => (slFDVLaw_22.build (cells := #[(.int .i64 2), (.int .i64 0), (.int .i64 0)]) (by decide) rfl (by kernel_rfl)).trans (by rw [e11, e12]; rfl)) trivial ?_ trivial
  refine s_ef (d := some 14) rfl rfl rfl (fun dr => r_call Tryd.call17 rfl rfl H) ?_ trivial
  rintro _ h6 ⟨y13, rfl, H⟩
  refine ⟨trivial, ?_⟩
  refine s_pu (d := some 4) (v := (.bool y13)) rfl rfl rfl (r_assign rfl) ?_
  refine s_fin ?_
  show W _ _ _ _ _ _ _ _
  refine W_seq ?_
  refine W_region (.pu 0 (.pu 1 (.pu 2 (.pu 3 (.pu 4 (.pu 5 (.pu 6 (.pu 7 (.pu 8 (.pu 9 .fin)))))))))) rfl rfl ?_
  refine s_pu (d := some 15) (v := (.int .i64 y4)) rfl rfl rfl (r_move rfl) ?_
  refine s_pu (d := some 16) (v := (.bool (decide (y4 = 2)))) rfl rfl rfl (r_eql rfl rfl) ?_
  refine s_pu (d := some 17) (v := (.bool (decide (y4 = 2)))) rfl rfl rfl (r_move rfl) ?_
  obtain ⟨e15, H⟩ := H
  refine S_meet (l := [(4, (.bool y13)), (20, (.bool ((decide (y4 = 2)) && (isNil y9))))]) (i := 3) ?_ (fun HJ => ?_)
  · intro b
    show S _ _ _ _ _ _
    refine s_pu (d := some 21) (v := (.bool ((decide (y4 = 2)) && (isNil y9)))) rfl rfl rfl (r_move rfl) ?_
    refine S_meet (l := [(23, (.bool (((decide (y4 = 2)) && (isNil y9)) && y13)))]) (i := 2) ?_ (fun HJ => ?_)
    · intro b
      show S _ _ _ _ _ _
      refine s_pu (d := some 0) (v := (.bool (((decide (y4 = 2)) && (isNil y9)) && y13))) rfl rfl rfl (r_assign rfl) ?_
      refine s_fin ?_
      show W _ _ _ _ _ _ _ _
      refine W_ret ?_
      exact ⟨[(.bool (((decide (y4 = 2)) && (isNil y9)) && y13))], ⟨_, _, rfl, rfl, rfl⟩, (((decide (y4 = 2)) && (isNil y9)) && y13), rfl, H⟩
    · rcases Bool.eq_false_or_eq_true ((decide (y4 = 2)) && (isNil y9)) with g18 | g18
      · refine s_pu (d := some 22) (v := (.bool y13)) rfl rfl (wants_yes rfl rfl rfl rfl g18) (r_move rfl) ?_
        refine s_pu (d := some 23) (v := (.bool y13)) rfl rfl rfl (r_pick1 rfl g18 rfl) ?_
        exact S_mk (l := [(23, (.bool (((decide (y4 = 2)) && (isNil y9)) && y13)))]) HJ ⟨(by rw [g18]; rfl), trivial⟩
      · refine s_sk (d := some 22) rfl rfl (wants_no rfl rfl rfl rfl g18) ?_
        refine s_pu (d := some 23) (v := (.bool false)) rfl rfl rfl (r_pick0 rfl g18 rfl) ?_
        exact S_mk (l := [(23, (.bool (((decide (y4 = 2)) && (isNil y9)) && y13)))]) HJ ⟨(by rw [g18]; rfl), trivial⟩
  · rcases Bool.eq_false_or_eq_true (decide (y4 = 2)) with g14 | g14
    · refine s_pu (d := some 18) (v := y9) rfl rfl (wants_yes rfl rfl rfl rfl g14) (r_move rfl) ?_
      refine s_pu (d := some 19) (v := (.bool (isNil y9))) rfl rfl (wants_yes rfl rfl rfl rfl g14) (r_nilI Tryd.underlying26 rfl e15 rfl) ?_
      refine s_pu (d := some 20) (v := (.bool (isNil y9))) rfl rfl rfl (r_pick1 rfl g14 rfl) ?_
      exact S_mk (l := [(4, (.bool y13)), (20, (.bool ((decide (y4 = 2)) && (isNil y9))))]) HJ ⟨rfl, (by rw [g14]; rfl), trivial⟩
    · refine s_sk (d := some 18) rfl rfl (wants_no rfl rfl rfl rfl g14) ?_
      refine s_sk (d := some 19) rfl rfl (wants_no rfl rfl rfl rfl g14) ?_
      refine s_pu (d := some 20) (v := (.bool false)) rfl rfl rfl (r_pick0 rfl g14 rfl) ?_
      exact S_mk (l := [(4, (.bool y13)), (20, (.bool ((decide (y4 = 2)) && (isNil y9))))]) HJ ⟨rfl, (by rw [g14]; rfl), trivial⟩

/-! ### ref1_Turned -/

def ref1_Turned_F (r : World) (l1 : Sl) (h : Heap) (R : Int → Heap → Prop) : Prop :=
  ∀ X4 : Int → Int → Prop, (∀ (n2 : Int) (i3 : Int),
    (Br (decide (i3 < ((l1.len : Int)))) (
      ∀ X7 : Int → Int → Prop, (∀ (n5 : Int) (k6 : Int),
        (Br (decide (k6 < ((l1.len : Int)))) (
          ∀ J9 : Int → Prop, (∀ (n8 : Int),
            (X7 n8 (w64 (k6 + 1))) →
            J9 n8) →
          Ix l1 i3 1 fun q15 =>
          LdI h q15 fun x17 =>
          Ix l1 k6 1 fun q23 =>
          LdI h q23 fun x25 =>
          Br (decide (x25 < x17)) (
            J9 (w64 (n5 + 1))) (
            J9 n5)) (
          X4 n5 (w64 (i3 + 1)))) →
        X7 n5 k6) →
      X7 n2 (w64 (i3 + 1))) (
      R n2 h)) →
    X4 n2 i3) →
  X4 0 0

set_option maxRecDepth 100000 in
theorem ref1_Turned_of {r : World} {l1 : Sl} {h : Heap} {R : Int → Heap → Prop} (H : ref1_Turned_F r l1 h R) : ref1_Turned r l1 h R := by
  unfold ref1_Turned_F at H
  refine calls_of 32 [.tmp 2] Tryd.func59 rfl rfl rfl rfl rfl ?_
  refine W_seq ?_
  refine W_region (.pu 0 .fin) rfl rfl ?_
  refine s_pu (d := some 2) (v := (.int .i64 0)) rfl rfl rfl (r_assign rfl) ?_
  refine s_fin ?_
  show W _ _ _ _ _ _ _ _
  refine W_seq ?_
  refine W_region (.pu 0 .fin) rfl rfl ?_
  refine s_pu (d := some 3) (v := (.int .i64 0)) rfl rfl rfl (r_assign rfl) ?_
  refine s_fin ?_
  show W _ _ _ _ _ _ _ _
  refine W_seq ?_
  refine W_seq ?_
  refine W_region (.pu 0 .fin) rfl rfl ?_
  refine s_pu (d := some 4) (v := (.int .i64 0)) rfl rfl rfl (r_assign rfl) ?_
  refine s_fin ?_
  show W _ _ _ _ _ _ _ _
  refine W_block ?_
  refine W_loop (WL_mk (l := [(0, (Sl.v l1)), (3, (.int .i64 0)), (4, (.int .i64 0))]) ?_ ⟨rfl, rfl, rfl, trivial⟩)
  refine H (fun (n2 : Int) (i3 : Int) => ∀ b, WL _ _ _ _ _ _ (mkE [(0, (Sl.v l1)), (3, (.int .i64 n2)), (4, (.int .i64 i3))] b) h) ?_
  intro n2 i3 H b
  refine WL_round ?_
  refine W_seq ?_
  refine W_seq ?_
  refine W_region (.pu 0 (.pu 1 (.pu 2 (.pu 3 .fin)))) rfl rfl ?_
  refine s_pu (d := some 6) (v := (.int .i64 i3)) rfl rfl rfl (r_move rfl) ?_
  refine s_pu (d := some 7) (v := (Sl.v l1)) rfl rfl rfl (r_move rfl) ?_
  refine s_pu (d := some 8) (v := (.int .i64 ((l1.len : Int)))) rfl rfl rfl (r_len Tryd.underlying22 rfl) ?_
  refine s_pu (d := some 9) (v := (.bool (decide (i3 < ((l1.len : Int)))))) rfl rfl rfl (r_lss rfl rfl) ?_
  refine s_fin ?_
  show W _ _ _ _ _ _ _ _
  refine W_if (decide (i3 < ((l1.len : Int)))) rfl (fun g29 => ?_) (fun g29 => ?_)
  · have H := H.1 g29
    refine W_skip ?_
    show W _ _ _ _ _ _ _ _
    refine W_seq ?_
    refine W_block ?_
    refine W_seq ?_
    refine W_region (.pu 0 (.pu 1 (.pu 2 .fin))) rfl rfl ?_
    refine s_pu (d := some 12) (v := (.int .i64 i3)) rfl rfl rfl (r_move rfl) ?_
    refine s_pu (d := some 13) (v := (.int .i64 (w64 (i3 + 1)))) rfl rfl rfl (r_add rfl rfl) ?_
    refine s_pu (d := some 5) (v := (.int .i64 (w64 (i3 + 1)))) rfl rfl rfl (r_assign rfl) ?_
    refine s_fin ?_
    show W _ _ _ _ _ _ _ _
    refine W_block ?_
    refine W_loop (WL_mk (l := [(0, (Sl.v l1)), (3, (.int .i64 n2)), (4, (.int .i64 i3)), (5, (.int .i64 (w64 (i3 + 1))))]) ?_ ⟨rfl, rfl, rfl, rfl, trivial⟩)
    refine H (fun (n5 : Int) (k6 : Int) => ∀ b, WL _ _ _ _ _ _ (mkE [(0, (Sl.v l1)), (3, (.int .i64 n5)), (4, (.int .i64 i3)), (5, (.int .i64 k6))] b) h) ?_
    intro n5 k6 H b
    refine WL_round ?_
    refine W_seq ?_
    refine W_seq ?_
    refine W_region (.pu 0 (.pu 1 (.pu 2 (.pu 3 .fin)))) rfl rfl ?_
    refine s_pu (d := some 14) (v := (.int .i64 k6)) rfl rfl rfl (r_move rfl) ?_
    refine s_pu (d := some 15) (v := (Sl.v l1)) rfl rfl rfl (r_move rfl) ?_
    refine s_pu (d := some 16) (v := (.int .i64 ((l1.len : Int)))) rfl rfl rfl (r_len Tryd.underlying22 rfl) ?_
    refine s_pu (d := some 17) (v := (.bool (decide (k6 < ((l1.len : Int)))))) rfl rfl rfl (r_lss rfl rfl) ?_
    refine s_fin ?_
    show W _ _ _ _ _ _ _ _
    refine W_if (decide (k6 < ((l1.len : Int)))) rfl (fun g28 => ?_) (fun g28 => ?_)
    · have H := H.1 g28
      refine W_skip ?_
      show W _ _ _ _ _ _ _ _
      refine W_seq ?_
      refine W_set ?_
      intro N10 eN10
      have H := H (fun (n8 : Int) => ∀ b, N10 [] (mkE [(0, (Sl.v l1)), (3, (.int .i64 n8)), (4, (.int .i64 i3)), (5, (.int .i64 k6))] b) h) (by
        intro n8 H b
        rw [eN10]
        show W _ _ _ _ _ _ _ _
        refine W_region (.pu 0 (.pu 1 (.pu 2 .fin))) rfl rfl ?_
        refine s_pu (d := some 18) (v := (.int .i64 k6)) rfl rfl rfl (r_move rfl) ?_
        refine s_pu (d := some 19) (v := (.int .i64 (w64 (k6 + 1)))) rfl rfl rfl (r_add rfl rfl) ?_
        refine s_pu (d := some 5) (v := (.int .i64 (w64 (k6 + 1)))) rfl rfl rfl (r_assign rfl) ?_
        refine s_fin ?_
        exact WL_mk (l := [(0, (Sl.v l1)), (3, (.int .i64 n8)), (4, (.int .i64 i3)), (5, (.int .i64 (w64 (k6 + 1))))]) H ⟨rfl, rfl, rfl, rfl, trivial⟩)
      clear eN10
      refine W_block ?_
      refine W_seq ?_
      refine W_draw [0, 0, 3, 7, 0, 0, 48, 112, 255] (.pu 0 (.pu 1 (.pu 2 (.rd 3 (.pu 4 (.pu 5 (.pu 6 (.rd 7 (.pu 8 .fin))))))))) (by kernel_rfl) (by kernel_rfl) ?_
      refine s_pu (d := some 20) (v := (Sl.v l1)) rfl rfl rfl (r_move rfl) ?_
      refine s_pu (d := some 21) (v := (.int .i64 i3)) rfl rfl rfl (r_move rfl) ?_
      obtain ⟨p11, e12, e13, e14, H⟩ := H
      obtain ⟨q15, e16⟩ : ∃ q : Addr, q = Addr.add p11 (Int.toNat i3 * 1) := ⟨_, rfl⟩
      rw [← e16] at H
      refine s_pu (d := some 22) (v := (.pointer (some q15))) rfl rfl rfl (fun w => (r_indexAddr Tryd.underlying22 Tryd.sizeOf3 rfl rfl e12 e13 e14 w).trans (by rw [e16])) ?_
      obtain ⟨x17, e18, H⟩ := H
      refine s_rd (d := some 23) (v := (.int .i64 x17)) rfl rfl rfl (fun dr => r_load1 Tryd.isAgg3 rfl e18) ?_
      refine s_pu (d := some 24) (v := (Sl.v l1)) rfl rfl rfl (r_move rfl) ?_
      refine s_pu (d := some 25) (v := (.int .i64 k6)) rfl rfl rfl (r_move rfl) ?_
      obtain ⟨p19, e20, e21, e22, H⟩ := H
      obtain ⟨q23, e24⟩ : ∃ q : Addr, q = Addr.add p19 (Int.toNat k6 * 1) := ⟨_, rfl⟩
      rw [← e24] at H
      refine s_pu (d := some 26) (v := (.pointer (some q23))) rfl rfl rfl (fun w => (r_indexAddr Tryd.underlying22 Tryd.sizeOf3 rfl rfl e20 e21 e22 w).trans (by rw [e24])) ?_
      obtain ⟨x25, e26, H⟩ := H
      refine s_rd (d := some 27) (v := (.int .i64 x25)) rfl rfl rfl (fun dr => r_load1 Tryd.isAgg3 rfl e26) ?_
      refine s_pu (d := some 28) (v := (.bool (decide (x25 < x17)))) rfl rfl rfl (r_gtr rfl rfl) ?_
      refine s_fin ?_
      show W _ _ _ _ _ _ _ _
      refine W_if (decide (x25 < x17)) rfl (fun g27 => ?_) (fun g27 => ?_)
      · have H := H.1 g27
        refine W_region (.pu 0 (.pu 1 (.pu 2 .fin))) rfl rfl ?_
        refine s_pu (d := some 29) (v := (.int .i64 n5)) rfl rfl rfl (r_move rfl) ?_
        refine s_pu (d := some 30) (v := (.int .i64 (w64 (n5 + 1)))) rfl rfl rfl (r_add rfl rfl) ?_
        refine s_pu (d := some 3) (v := (.int .i64 (w64 (n5 + 1)))) rfl rfl rfl (r_assign rfl) ?_
        refine s_fin ?_
        exact N_mk (l := [(0, (Sl.v l1)), (3, (.int .i64 (w64 (n5 + 1)))), (4, (.int .i64 i3)), (5, (.int .i64 k6))]) H ⟨rfl, rfl, rfl, rfl, trivial⟩
      · have H := H.2 g27
        refine W_skip ?_
        exact N_mk (l := [(0, (Sl.v l1)), (3, (.int .i64 n5)), (4, (.int .i64 i3)), (5, (.int .i64 k6))]) H ⟨rfl, rfl, rfl, rfl, trivial⟩
    · have H := H.2 g28
      refine W_exit (inX_here ?_)
      show W _ _ _ _ _ _ _ _
      refine W_region (.pu 0 (.pu 1 (.pu 2 .fin))) rfl rfl ?_
      refine s_pu (d := some 10) (v := (.int .i64 i3)) rfl rfl rfl (r_move rfl) ?_
      refine s_pu (d := some 11) (v := (.int .i64 (w64 (i3 + 1)))) rfl rfl rfl (r_add rfl rfl) ?_
      refine s_pu (d := some 4) (v := (.int .i64 (w64 (i3 + 1)))) rfl rfl rfl (r_assign rfl) ?_
      refine s_fin ?_
      exact WL_mk (l := [(0, (Sl.v l1)), (3, (.int .i64 n5)), (4, (.int .i64 (w64 (i3 + 1))))]) H ⟨rfl, rfl, rfl, trivial⟩
  · have H := H.2 g29
    refine W_exit (inX_here ?_)
    show W _ _ _ _ _ _ _ _
    refine W_seq ?_
    refine W_region (.pu 0 (.pu 1 .fin)) rfl rfl ?_
    refine s_pu (d := some 31) (v := (.int .i64 n2)) rfl rfl rfl (r_move rfl) ?_
    refine s_pu (d := some 2) (v := (.int .i64 n2)) rfl rfl rfl (r_assign rfl) ?_
    refine s_fin ?_
    show W _ _ _ _ _ _ _ _
    refine W_ret ?_
    exact ⟨[(.int .i64 n2)], ⟨_, _, rfl, rfl, rfl⟩, n2, rfl, H⟩

/-! ### ref1_OrderFault -/

def ref1_OrderFault_F (r : World) (p1 : Sl) (h : Heap) (R : Int → Heap → Prop) : Prop :=
  Br (decide (20 < ((p1.len : Int)))) (
    R 4 h) (
    ∀ X3 : Int → Heap → Prop, (∀ (i2 : Int) (h1 : Heap),
      (Br (decide (i2 < ((p1.len : Int)))) (
        ∀ J5 : Bool → Heap → Prop, (∀ (x4 : Bool) (h2 : Heap),
          (Br x4 (
            R 3 h2) (
            X3 (w64 (i2 + 1)) h2)) →
          J5 x4 h2) →
        Ix p1 i2 1 fun q12 =>
        LdI h1 q12 fun x14 =>
        Br (decide (x14 < 0)) (
          J5 true h1) (
          Ix p1 i2 1 fun q21 =>
          LdI h1 q21 fun x23 =>
          Br (decide (((p1.len : Int)) ≤ x23)) (
            J5 true h1) (
            Sub p1 0 i2 ((p1.cap : Int)) 1 fun s26 =>
            Ix p1 i2 1 fun q36 =>
            LdI h1 q36 fun x38 =>
            ref1_Often r s26 x38 h1 fun y40 h3 =>
            J5 (decide (0 < y40)) h3))) (
        R 0 h1)) →
      X3 i2 h1) →
    X3 0 h)

set_option maxRecDepth 100000 in
theorem ref1_OrderFault_of {r : World} {p1 : Sl} {h : Heap} {R : Int → Heap → Prop} (H : ref1_OrderFault_F r p1 h R) : ref1_OrderFault r p1 h R := by
  unfold ref1_OrderFault_F at H
  refine calls_of 38 [.tmp 2] Tryd.func60 rfl rfl rfl rfl rfl ?_
  refine W_seq ?_
  refine W_region (.pu 0 .fin) rfl rfl ?_
  refine s_pu (d := some 2) (v := (.int .i64 0)) rfl rfl rfl (r_assign rfl) ?_
  refine s_fin ?_
  show W _ _ _ _ _ _ _ _
  refine W_seq ?_
  refine W_seq ?_
  refine W_region (.pu 0 (.pu 1 (.pu 2 .fin))) rfl rfl ?_
  refine s_pu (d := some 4) (v := (Sl.v p1)) rfl rfl rfl (r_move rfl) ?_
  refine s_pu (d := some 5) (v := (.int .i64 ((p1.len : Int)))) rfl rfl rfl (r_len Tryd.underlying22 rfl) ?_
  refine s_pu (d := some 6) (v := (.bool (decide (20 < ((p1.len : Int)))))) rfl rfl rfl (r_gtr rfl rfl) ?_
  refine s_fin ?_
  show W _ _ _ _ _ _ _ _
  refine W_if (decide (20 < ((p1.len : Int)))) rfl (fun g42 => ?_) (fun g42 => ?_)
  · have H := H.1 g42
    refine W_seq ?_
    refine W_region (.pu 0 .fin) rfl rfl ?_
    refine s_pu (d := some 2) (v := (.int .i64 4)) rfl rfl rfl (r_assign rfl) ?_
    refine s_fin ?_
    show W _ _ _ _ _ _ _ _
    refine W_ret ?_
    exact ⟨[(.int .i64 4)], ⟨_, _, rfl, rfl, rfl⟩, 4, rfl, H⟩
  · have H := H.2 g42
    refine W_skip ?_
    show W _ _ _ _ _ _ _ _
    refine W_seq ?_
    refine W_seq ?_
    refine W_region (.pu 0 .fin) rfl rfl ?_
    refine s_pu (d := some 3) (v := (.int .i64 0)) rfl rfl rfl (r_assign rfl) ?_
    refine s_fin ?_
    show W _ _ _ _ _ _ _ _
    refine W_block ?_
    refine W_loop (WL_mk (l := [(0, (Sl.v p1)), (3, (.int .i64 0))]) ?_ ⟨rfl, rfl, trivial⟩)
    refine H (fun (i2 : Int) (h1 : Heap) => ∀ b, WL _ _ _ _ _ _ (mkE [(0, (Sl.v p1)), (3, (.int .i64 i2))] b) h1) ?_
    intro i2 h1 H b
    refine WL_round ?_
    refine W_seq ?_
    refine W_seq ?_
    refine W_region (.pu 0 (.pu 1 (.pu 2 (.pu 3 .fin)))) rfl rfl ?_
    refine s_pu (d := some 7) (v := (.int .i64 i2)) rfl rfl rfl (r_move rfl) ?_
    refine s_pu (d := some 8) (v := (Sl.v p1)) rfl rfl rfl (r_move rfl) ?_
    refine s_pu (d := some 9) (v := (.int .i64 ((p1.len : Int)))) rfl rfl rfl (r_len Tryd.underlying22 rfl) ?_
    refine s_pu (d := some 10) (v := (.bool (decide (i2 < ((p1.len : Int)))))) rfl rfl rfl (r_lss rfl rfl) ?_
    refine s_fin ?_
    show W _ _ _ _ _ _ _ _
    refine W_if (decide (i2 < ((p1.len : Int)))) rfl (fun g41 => ?_) (fun g41 => ?_)
    · have H := H.1 g41
      refine W_skip ?_
      show W _ _ _ _ _ _ _ _
      refine W_seq ?_
      refine W_block ?_
      refine W_seq ?_
      refine W_set ?_
      intro N6 eN6
      have H := H (fun (x4 : Bool) (h2 : Heap) => ∀ b, N6 [] (mkE [(0, (Sl.v p1)), (3, (.int .i64 i2)), (37, (.bool x4))] b) h2) (by
        intro x4 h2 H b
        rw [eN6]
        show W _ _ _ _ _ _ _ _
        refine W_if x4 rfl (fun g7 => ?_) (fun g7 => ?_)
        · have H := H.1 g7
          refine W_seq ?_
          refine W_region (.pu 0 .fin) rfl rfl ?_
          refine s_pu (d := some 2) (v := (.int .i64 3)) rfl rfl rfl (r_assign rfl) ?_
          refine s_fin ?_
          show W _ _ _ _ _ _ _ _
          refine W_ret ?_
          exact ⟨[(.int .i64 3)], ⟨_, _, rfl, rfl, rfl⟩, 3, rfl, H⟩
        · have H := H.2 g7
          refine W_skip ?_
          show W _ _ _ _ _ _ _ _
          refine W_region (.pu 0 (.pu 1 (.pu 2 .fin))) rfl rfl ?_
          refine s_pu (d := some 11) (v := (.int .i64 i2)) rfl rfl rfl (r_move rfl) ?_
          refine s_pu (d := some 12) (v := (.int .i64 (w64 (i2 + 1)))) rfl rfl rfl (r_add rfl rfl) ?_
          refine s_pu (d := some 3) (v := (.int .i64 (w64 (i2 + 1)))) rfl rfl rfl (r_assign rfl) ?_
          refine s_fin ?_
          exact WL_mk (l := [(0, (Sl.v p1)), (3, (.int .i64 (w64 (i2 + 1))))]) H ⟨rfl, rfl, trivial⟩)
      clear eN6
      refine W_draw [0, 0, 3, 7, 15, 31, 63, 63, 255, 511, 63, 1087, 4095, 8191, 16383, 32767, 32767, 131071, 32767, 32767, 819199, 1867775, 4194303, 8388607, 16777215] (.pu 0 (.pu 1 (.pu 2 (.rd 3 (.pu 4 (.pu 5 (.pu 6 (.pu 7 (.pu 8 (.rd 9 (.pu 10 (.pu 11 (.pu 12 (.pu 13 (.pu 14 (.pu 15 (.pu 16 (.pu 17 (.pu 18 (.pu 19 (.pu 20 (.rd 21 (.ef 22 [3, 9, 21] (.pu 23 (.pu 24 .fin)) .no))))))))))))))))))))))) (by kernel_rfl) (by kernel_rfl) ?_
      refine s_pu (d := some 13) (v := (Sl.v p1)) rfl rfl rfl (r_move rfl) ?_
      refine s_pu (d := some 14) (v := (.int .i64 i2)) rfl rfl rfl (r_move rfl) ?_
      obtain ⟨p8, e9, e10, e11, H⟩ := H
      obtain ⟨q12, e13⟩ : ∃ q : Addr, q = Addr.add p8 (Int.toNat i2 * 1) := ⟨_, rfl⟩
      rw [← e13] at H
      refine s_pu (d := some 15) (v := (.pointer (some q12))) rfl rfl rfl (fun w => (r_indexAddr Tryd.underlying22 Tryd.sizeOf3 rfl rfl e9 e10 e11 w).trans (by rw [e13])) ?_
      obtain ⟨x14, e15, H⟩ := H
      refine s_rd (d := some 16) (v := (.int .i64 x14)) rfl rfl rfl (fun dr => r_load1 Tryd.isAgg3 rfl e15) ?_
      refine s_pu (d := some 17) (v := (.bool (decide (x14 < 0)))) rfl rfl rfl (r_lss rfl rfl) ?_
      refine s_pu (d := some 18) (v := (.bool (decide (x14 < 0)))) rfl rfl rfl (r_move rfl) ?_
      rcases Bool.eq_false_or_eq_true (decide (x14 < 0)) with g16 | g16
      · have H := H.1 g16
        refine s_sk (d := some 19) rfl rfl (wants_no rfl rfl rfl rfl g16) ?_
        refine s_sk (d := some 20) rfl rfl (wants_no rfl rfl rfl rfl g16) ?_
        refine s_sk (d := some 21) rfl rfl (wants_no rfl rfl rfl rfl g16) ?_
        refine s_skd (d := some 22) rfl rfl (wants_no rfl rfl rfl rfl g16) ?_
        refine s_sk (d := some 23) rfl rfl (wants_no rfl rfl rfl rfl g16) ?_
        refine s_sk (d := some 24) rfl rfl (wants_no rfl rfl rfl rfl g16) ?_
        refine s_sk (d := some 25) rfl rfl (wants_no rfl rfl rfl rfl g16) ?_
        refine s_pu (d := some 26) (v := (.bool true)) rfl rfl rfl (r_pick1 rfl g16 rfl) ?_
        refine s_pu (d := some 27) (v := (.bool true)) rfl rfl rfl (r_move rfl) ?_
        refine s_sk (d := some 28) rfl rfl (wants_no rfl rfl rfl rfl rfl) ?_
        refine s_sk (d := some 29) rfl rfl (wants_no rfl rfl rfl rfl rfl) ?_
        refine s_sk (d := some 30) rfl rfl (wants_no rfl rfl rfl rfl rfl) ?_
        refine s_sk (d := some 31) rfl rfl (wants_no rfl rfl rfl rfl rfl) ?_
        refine s_sk (d := some 32) rfl rfl (wants_no rfl rfl rfl rfl rfl) ?_
        refine s_sk (d := some 33) rfl rfl (wants_no rfl rfl rfl rfl rfl) ?_
        refine s_skd (d := some 34) rfl rfl (wants_no rfl rfl rfl rfl rfl) ?_
        refine s_skf (d := some 35) rfl rfl (wants_no rfl rfl rfl rfl rfl) ⟨trivial, trivial, trivial, trivial⟩ ?_ trivial
        refine s_sk (d := some 36) rfl rfl (wants_no rfl rfl rfl rfl rfl) ?_
        refine s_pu (d := some 37) (v := (.bool true)) rfl rfl rfl (r_pick1 rfl rfl rfl) ?_
        refine s_fin ?_
        exact N_mk (l := [(0, (Sl.v p1)), (3, (.int .i64 i2)), (37, (.bool true))]) H ⟨rfl, rfl, rfl, trivial⟩
      · have H := H.2 g16
        refine s_pu (d := some 19) (v := (Sl.v p1)) rfl rfl (wants_yes rfl rfl rfl rfl g16) (r_move rfl) ?_
        refine s_pu (d := some 20) (v := (.int .i64 i2)) rfl rfl (wants_yes rfl rfl rfl rfl g16) (r_move rfl) ?_
        obtain ⟨p17, e18, e19, e20, H⟩ := H
        obtain ⟨q21, e22⟩ : ∃ q : Addr, q = Addr.add p17 (Int.toNat i2 * 1) := ⟨_, rfl⟩
        rw [← e22] at H
        refine s_pu (d := some 21) (v := (.pointer (some q21))) rfl rfl (wants_yes rfl rfl rfl rfl g16) (fun w => (r_indexAddr Tryd.underlying22 Tryd.sizeOf3 rfl rfl e18 e19 e20 w).trans (by rw [e22])) ?_
        obtain ⟨x23, e24, H⟩ := H
        refine s_rd (d := some 22) (v := (.int .i64 x23)) rfl rfl (wants_yes rfl rfl rfl rfl g16) (fun dr => r_load1 Tryd.isAgg3 rfl e24) ?_
        refine s_pu (d := some 23) (v := (Sl.v p1)) rfl rfl (wants_yes rfl rfl rfl rfl g16) (r_move rfl) ?_
        refine s_pu (d := some 24) (v := (.int .i64 ((p1.len : Int)))) rfl rfl (wants_yes rfl rfl rfl rfl g16) (r_len Tryd.underlying22 rfl) ?_
        refine s_pu (d := some 25) (v := (.bool (decide (((p1.len : Int)) ≤ x23)))) rfl rfl (wants_yes rfl rfl rfl rfl g16) (r_geq rfl rfl) ?_
        refine s_pu (d := some 26) (v := (.bool (decide (((p1.len : Int)) ≤ x23)))) rfl rfl rfl (r_pick0 rfl g16 rfl) ?_
        refine s_pu (d := some 27) (v := (.bool (decide (((p1.len : Int)) ≤ x23)))) rfl rfl rfl (r_move rfl) ?_
        rcases Bool.eq_false_or_eq_true (decide (((p1.len : Int)) ≤ x23)) with g25 | g25
        · have H := H.1 g25
          refine s_sk (d := some 28) rfl rfl (wants_no rfl rfl rfl rfl g25) ?_
          refine s_sk (d := some 29) rfl rfl (wants_no rfl rfl rfl rfl g25) ?_
          refine s_sk (d := some 30) rfl rfl (wants_no rfl rfl rfl rfl g25) ?_
          refine s_sk (d := some 31) rfl rfl (wants_no rfl rfl rfl rfl g25) ?_
          refine s_sk (d := some 32) rfl rfl (wants_no rfl rfl rfl rfl g25) ?_
          refine s_sk (d := some 33) rfl rfl (wants_no rfl rfl rfl rfl g25) ?_
          refine s_skd (d := some 34) rfl rfl (wants_no rfl rfl rfl rfl g25) ?_
          refine s_skf (d := some 35) rfl rfl (wants_no rfl rfl rfl rfl g25) ⟨trivial, trivial, trivial, trivial⟩ ?_ trivial
          refine s_sk (d := some 36) rfl rfl (wants_no rfl rfl rfl rfl g25) ?_
          refine s_pu (d := some 37) (v := (.bool true)) rfl rfl rfl (r_pick1 rfl g25 rfl) ?_
          refine s_fin ?_
          exact N_mk (l := [(0, (Sl.v p1)), (3, (.int .i64 i2)), (37, (.bool true))]) H ⟨rfl, rfl, rfl, trivial⟩
        · have H := H.2 g25
          refine s_pu (d := some 28) (v := (Sl.v p1)) rfl rfl (wants_yes rfl rfl rfl rfl g25) (r_move rfl) ?_
          refine s_pu (d := some 29) (v := (.int .i64 i2)) rfl rfl (wants_yes rfl rfl rfl rfl g25) (r_move rfl) ?_
          obtain ⟨e27, e28, e29, e30, H⟩ := H
          obtain ⟨s26, e31⟩ : ∃ t : Sl, t = ⟨sliceA p1.a (Int.toNat ((p1.cap : Int))) (Int.toNat 0) 1, Int.toNat i2 - Int.toNat 0, Int.toNat ((p1.cap : Int)) - Int.toNat 0⟩ := ⟨_, rfl⟩
          have H := H s26 e31
          refine s_pu (d := some 30) (v := (Sl.v s26)) rfl rfl (wants_yes rfl rfl rfl rfl g25) (fun w => (r_slice (lo := .none) (hi := (.some (.tmp 29))) (mx := .none) Tryd.underlying22 Tryd.sizeOf3 rfl ((p1.cap : Int)) i2 0 rfl ⟨_, rfl⟩ rfl e27 e28 (.inr e29) e30 w).trans (by rw [e31]; rfl)) ?_
          refine s_pu (d := some 31) (v := (Sl.v p1)) rfl rfl (wants_yes rfl rfl rfl rfl g25) (r_move rfl) ?_
          refine s_pu (d := some 32) (v := (.int .i64 i2)) rfl rfl (wants_yes rfl rfl rfl rfl g25) (r_move rfl) ?_
          obtain ⟨p32, e33, e34, e35, H⟩ := H
          obtain ⟨q36, e37⟩ : ∃ q : Addr, q = Addr.add p32 (Int.toNat i2 * 1) := ⟨_, rfl⟩
          rw [← e37] at H
          refine s_pu (d := some 33) (v := (.pointer (some q36))) rfl rfl (wants_yes rfl rfl rfl rfl g25) (fun w => (r_indexAddr Tryd.underlying22 Tryd.sizeOf3 rfl rfl e33 e34 e35 w).trans (by rw [e37])) ?_
          obtain ⟨x38, e39, H⟩ := H
          refine s_rd (d := some 34) (v := (.int .i64 x38)) rfl rfl (wants_yes rfl rfl rfl rfl g25) (fun dr => r_load1 Tryd.isAgg3 rfl e39) ?_
          refine s_ef (d := some 35) rfl rfl (wants_yes rfl rfl rfl rfl g25) (fun dr => r_call Tryd.call96 rfl rfl H) ?_ trivial
          rintro _ h3 ⟨y40, rfl, H⟩
          refine ⟨⟨trivial, trivial, trivial, trivial⟩, ?_⟩
          refine s_pu (d := some 36) (v := (.bool (decide (0 < y40)))) rfl rfl (wants_yes rfl rfl rfl rfl g25) (r_gtr rfl rfl) ?_
          refine s_pu (d := some 37) (v := (.bool (decide (0 < y40)))) rfl rfl rfl (r_pick0 rfl g25 rfl) ?_
          refine s_fin ?_
          exact N_mk (l := [(0, (Sl.v p1)), (3, (.int .i64 i2)), (37, (.bool (decide (0 < y40))))]) H ⟨rfl, rfl, rfl, trivial⟩
    · have H := H.2 g41
      refine W_exit (inX_here ?_)
      show W _ _ _ _ _ _ _ _
      refine W_seq ?_
      refine W_region (.pu 0 .fin) rfl rfl ?_
      refine s_pu (d := some 2) (v := (.int .i64 0)) rfl rfl rfl (r_assign rfl) ?_
      refine s_fin ?_
      show W _ _ _ _ _ _ _ _
      refine W_ret ?_
      exact ⟨[(.int .i64 0)], ⟨_, _, rfl, rfl, rfl⟩, 0, rfl, H⟩

/-! ### ref1_LehmerOf -/

def ref1_LehmerOf_F (r : World) (p1 : Sl) (h : Heap) (R : Sl → Heap → Prop) : Prop :=
  ∀ X4 : Sl → Int → Heap → Prop, (∀ (out2 : Sl) (i3 : Int) (h1 : Heap),
    (Br (decide (i3 < ((p1.len : Int)))) (
      Sub p1 (w64 (i3 + 1)) ((p1.len : Int)) ((p1.cap : Int)) 1 fun s5 =>
      Ix p1 i3 1 fun q15 =>
      LdI h1 q15 fun x17 =>
      ref1_Below r s5 x17 h1 fun y19 h2 =>
      New h2 (.cells #[(.int .i64 y19)] 3) fun p20 h3 =>
      App 3 1 8 (.int .i64 0) out2 ((⟨some p20, 1, 1⟩ : Sl)) h3 fun s23 h4 =>
      X4 s23 (w64 (i3 + 1)) h4) (
      R out2 h1)) →
    X4 out2 i3 h1) →
  X4 Sl.nil 0 h

set_option maxRecDepth 100000 in
theorem ref1_LehmerOf_of {r : World} {p1 : Sl} {h : Heap} {R : Sl → Heap → Prop} (H : ref1_LehmerOf_F r p1 h R) : ref1_LehmerOf r p1 h R := by
  unfold ref1_LehmerOf_F at H
  refine calls_of 24 [.tmp 2] Tryd.func62 rfl rfl rfl rfl rfl ?_
  refine W_seq ?_
  refine W_region (.pu 0 .fin) rfl rfl ?_
  refine s_pu (d := some 2) (v := (Sl.v Sl.nil)) rfl rfl rfl (r_assign rfl) ?_
  refine s_fin ?_
  show W _ _ _ _ _ _ _ _
  refine W_seq ?_
  refine W_region (.pu 0 .fin) rfl rfl ?_
  refine s_pu (d := some 3) (v := (Sl.v Sl.nil)) rfl rfl rfl (r_assign rfl) ?_
  refine s_fin ?_
  show W _ _ _ _ _ _ _ _
  refine W_seq ?_
  refine W_seq ?_
  refine W_region (.pu 0 .fin) rfl rfl ?_
  refine s_pu (d := some 4) (v := (.int .i64 0)) rfl rfl rfl (r_assign rfl) ?_
  refine s_fin ?_
  show W _ _ _ _ _ _ _ _
  refine W_block ?_
  refine W_loop (WL_mk (l := [(0, (Sl.v p1)), (3, (Sl.v Sl.nil)), (4, (.int .i64 0))]) ?_ ⟨rfl, rfl, rfl, trivial⟩)
  refine H (fun (out2 : Sl) (i3 : Int) (h1 : Heap) => ∀ b, WL _ _ _ _ _ _ (mkE [(0, (Sl.v p1)), (3, (Sl.v out2)), (4, (.int .i64 i3))] b) h1) ?_
  intro out2 i3 h1 H b
  refine WL_round ?_
  refine W_seq ?_
  refine W_seq ?_
  refine W_region (.pu 0 (.pu 1 (.pu 2 (.pu 3 .fin)))) rfl rfl ?_
  refine s_pu (d := some 5) (v := (.int .i64 i3)) rfl rfl rfl (r_move rfl) ?_
  refine s_pu (d := some 6) (v := (Sl.v p1)) rfl rfl rfl (r_move rfl) ?_
  refine s_pu (d := some 7) (v := (.int .i64 ((p1.len : Int)))) rfl rfl rfl (r_len Tryd.underlying22 rfl) ?_
  refine s_pu (d := some 8) (v := (.bool (decide (i3 < ((p1.len : Int)))))) rfl rfl rfl (r_lss rfl rfl) ?_
  refine s_fin ?_
  show W _ _ _ _ _ _ _ _
  refine W_if (decide (i3 < ((p1.len : Int)))) rfl (fun g24 => ?_) (fun g24 => ?_)
  · have H := H.1 g24
    refine W_skip ?_
    show W _ _ _ _ _ _ _ _
    refine W_seq ?_
    refine W_block ?_
    refine W_draw [0, 0, 0, 4, 14, 0, 0, 96, 224, 510, 1022, 2047, 4095] (.pu 0 (.pu 1 (.pu 2 (.pu 3 (.pu 4 (.pu 5 (.pu 6 (.pu 7 (.rd 8 (.ef 9 [8] (.ef 10 [8] (.ef 11 [8] (.pu 12 .fin) .no) .no) .no)))))))))) (by kernel_rfl) (by kernel_rfl) ?_
    refine s_pu (d := some 11) (v := (Sl.v out2)) rfl rfl rfl (r_move rfl) ?_
    refine s_pu (d := some 12) (v := (Sl.v p1)) rfl rfl rfl (r_move rfl) ?_
    refine s_pu (d := some 13) (v := (.int .i64 i3)) rfl rfl rfl (r_move rfl) ?_
    refine s_pu (d := some 14) (v := (.int .i64 (w64 (i3 + 1)))) rfl rfl rfl (r_add rfl rfl) ?_
    obtain ⟨e6, e7, e8, e9, H⟩ := H
    obtain ⟨s5, e10⟩ : ∃ t : Sl, t = ⟨sliceA p1.a (Int.toNat ((p1.cap : Int))) (Int.toNat (w64 (i3 + 1))) 1, Int.toNat ((p1.len : Int)) - Int.toNat (w64 (i3 + 1)), Int.toNat ((p1.cap : Int)) - Int.toNat (w64 (i3 + 1))⟩ := ⟨_, rfl⟩
    have H := H s5 e10
    refine s_pu (d := some 15) (v := (Sl.v s5)) rfl rfl rfl (fun w => (r_slice (lo := (.some (.tmp 14))) (hi := .none) (mx := .none) Tryd.underlying22 Tryd.sizeOf3 rfl ((p1.cap : Int)) ((p1.len : Int)) (w64 (i3 + 1)) rfl ⟨rfl, rfl⟩ ⟨_, rfl⟩ e6 e7 (.inl rfl) e9 w).trans (by rw [e10]; rfl)) ?_
    refine s_pu (d := some 16) (v := (Sl.v p1)) rfl rfl rfl (r_move rfl) ?_
    refine s_pu (d := some 17) (v := (.int .i64 i3)) rfl rfl rfl (r_move rfl) ?_
    obtain ⟨p11, e12, e13, e14, H⟩ := H
    obtain ⟨q15, e16⟩ : ∃ q : Addr, q = Addr.add p11 (Int.toNat i3 * 1) := ⟨_, rfl⟩
    rw [← e16] at H
    refine s_pu (d := some 18) (v := (.pointer (some q15))) rfl rfl rfl (fun w => (r_indexAddr Tryd.underlying22 Tryd.sizeOf3 rfl rfl e12 e13 e14 w).trans (by rw [e16])) ?_
    obtain ⟨x17, e18, H⟩ := H
    refine s_rd (d := some 19) (v := (.int .i64 x17)) rfl rfl rfl (fun dr => r_load1 Tryd.isAgg3 rfl e18) ?_
    refine s_ef (d := some 20) rfl rfl rfl (fun dr => r_call Tryd.call98 rfl rfl H) ?_ trivial
    rintro _ h2 ⟨y19, rfl, H⟩
    refine ⟨⟨trivial, trivial⟩, ?_⟩
    obtain ⟨p20, e21⟩ : ∃ p : Addr, p = ⟨h2.size, 0, none⟩ := ⟨_, rfl⟩
    obtain ⟨h3, e22⟩ : ∃ hh : Heap, hh = h2.push (.cells #[(.int .i64 y19)] 3) := ⟨_, rfl⟩
    have H := H p20 h3 e21 e22
    refine s_ef1 (d := some 21) (v := (Sl.v ((⟨some p20, 1, 1⟩ : Sl)))) (h' := h3) rfl rfl rfl (fun dr => (slFDVLaw_22.build (cells := #[(.int .i64 y19)]) (by decide) rfl (by kernel_rfl)).trans (by rw [e21, e22]; rfl)) ⟨trivial, trivial⟩ ?_ trivial
    refine s_ef (d := some 22) rfl rfl rfl (fun dr => slFDVLaw_22.append rfl rfl H) ?_ trivial
    rintro _ h4 ⟨s23, rfl, H⟩
    refine ⟨⟨trivial, trivial⟩, ?_⟩
    refine s_pu (d := some 3) (v := (Sl.v s23)) rfl rfl rfl (r_assign rfl) ?_
    refine s_fin ?_
    show W _ _ _ _ _ _ _ _
    refine W_region (.pu 0 (.pu 1 (.pu 2 .fin))) rfl rfl ?_
    refine s_pu (d := some 9) (v := (.int .i64 i3)) rfl rfl rfl (r_move rfl) ?_
    refine s_pu (d := some 10) (v := (.int .i64 (w64 (i3 + 1)))) rfl rfl rfl (r_add rfl rfl) ?_
    refine s_pu (d := some 4) (v := (.int .i64 (w64 (i3 + 1)))) rfl rfl rfl (r_assign rfl) ?_
    refine s_fin ?_
    exact WL_mk (l := [(0, (Sl.v p1)), (3, (Sl.v s23)), (4, (.int .i64 (w64 (i3 + 1))))]) H ⟨rfl, rfl, rfl, trivial⟩
  · have H := H.2 g24
    refine W_exit (inX_here ?_)
    show W _ _ _ _ _ _ _ _
    refine W_seq ?_
    refine W_region (.pu 0 (.pu 1 .fin)) rfl rfl ?_
    refine s_pu (d := some 23) (v := (Sl.v out2)) rfl rfl rfl (r_move rfl) ?_
    refine s_pu (d := some 2) (v := (Sl.v out2)) rfl rfl rfl (r_assign rfl) ?_
    refine s_fin ?_
    show W _ _ _ _ _ _ _ _
    refine W_ret ?_
    exact ⟨[(Sl.v out2)], ⟨_, _, rfl, rfl, rfl⟩, out2, rfl, H⟩

/-! ### ref1_RankOf -/

def ref1_RankOf_F (r : World) (p1 : Sl) (h : Heap) (R : Int → Heap → Prop) : Prop :=
  ∀ X4 : Int → Int → Heap → Prop, (∀ (n2 : Int) (i3 : Int) (h1 : Heap),
    (Br (decide (i3 < ((p1.len : Int)))) (
      Sub p1 (w64 (i3 + 1)) ((p1.len : Int)) ((p1.cap : Int)) 1 fun s5 =>
      Ix p1 i3 1 fun q15 =>
      LdI h1 q15 fun x17 =>
      ref1_Below r s5 x17 h1 fun y19 h2 =>
      ref1_Orders r (w64 ((w64 (((p1.len : Int)) - 1)) - i3)) h2 fun y20 h3 =>
      X4 (w64 (n2 + (w64 (y19 * y20)))) (w64 (i3 + 1)) h3) (
      R n2 h1)) →
    X4 n2 i3 h1) →
  X4 0 0 h

set_option maxRecDepth 100000 in
theorem ref1_RankOf_of {r : World} {p1 : Sl} {h : Heap} {R : Int → Heap → Prop} (H : ref1_RankOf_F r p1 h R) : ref1_RankOf r p1 h R := by
  unfold ref1_RankOf_F at H
  refine calls_of 30 [.tmp 2] Tryd.func63 rfl rfl rfl rfl rfl ?_
  refine W_seq ?_
  refine W_region (.pu 0 .fin) rfl rfl ?_
  refine s_pu (d := some 2) (v := (.int .i64 0)) rfl rfl rfl (r_assign rfl) ?_
  refine s_fin ?_
  show W _ _ _ _ _ _ _ _
  refine W_seq ?_
  refine W_region (.pu 0 .fin) rfl rfl ?_
  refine s_pu (d := some 3) (v := (.int .i64 0)) rfl rfl rfl (r_assign rfl) ?_
  refine s_fin ?_
  show W _ _ _ _ _ _ _ _
  refine W_seq ?_
  refine W_seq ?_
  refine W_region (.pu 0 .fin) rfl rfl ?_
  refine s_pu (d := some 4) (v := (.int .i64 0)) rfl rfl rfl (r_assign rfl) ?_
  refine s_fin ?_
  show W _ _ _ _ _ _ _ _
  refine W_block ?_
  refine W_loop (WL_mk (l := [(0, (Sl.v p1)), (3, (.int .i64 0)), (4, (.int .i64 0))]) ?_ ⟨rfl, rfl, rfl, trivial⟩)
  refine H (fun (n2 : Int) (i3 : Int) (h1 : Heap) => ∀ b, WL _ _ _ _ _ _ (mkE [(0, (Sl.v p1)), (3, (.int .i64 n2)), (4, (.int .i64 i3))] b) h1) ?_
  intro n2 i3 h1 H b
  refine WL_round ?_
  refine W_seq ?_
  refine W_seq ?_
  refine W_region (.pu 0 (.pu 1 (.pu 2 (.pu 3 .fin)))) rfl rfl ?_
  refine s_pu (d := some 5) (v := (.int .i64 i3)) rfl rfl rfl (r_move rfl) ?_
  refine s_pu (d := some 6) (v := (Sl.v p1)) rfl rfl rfl (r_move rfl) ?_
  refine s_pu (d := some 7) (v := (.int .i64 ((p1.len : Int)))) rfl rfl rfl (r_len Tryd.underlying22 rfl) ?_
  refine s_pu (d := some 8) (v := (.bool (decide (i3 < ((p1.len : Int)))))) rfl rfl rfl (r_lss rfl rfl) ?_
  refine s_fin ?_
  show W _ _ _ _ _ _ _ _
  refine W_if (decide (i3 < ((p1.len : Int)))) rfl (fun g21 => ?_) (fun g21 => ?_)
  · have H := H.1 g21
    refine W_skip ?_
    show W _ _ _ _ _ _ _ _
    refine W_seq ?_
    refine W_block ?_
    refine W_draw [0, 0, 0, 4, 14, 0, 0, 96, 224, 510, 0, 1024, 3072, 0, 15360, 32766, 65534, 131071, 262143] (.pu 0 (.pu 1 (.pu 2 (.pu 3 (.pu 4 (.pu 5 (.pu 6 (.pu 7 (.rd 8 (.pu 10 (.pu 11 (.pu 12 (.pu 13 (.pu 14 (.ef 9 [8] (.ef 15 [8] (.pu 16 (.pu 17 (.pu 18 .fin))) .no) .no))))))))))))))) (by kernel_rfl) (by kernel_rfl) ?_
    refine s_pu (d := some 11) (v := (.int .i64 n2)) rfl rfl rfl (r_move rfl) ?_
    refine s_pu (d := some 12) (v := (Sl.v p1)) rfl rfl rfl (r_move rfl) ?_
    refine s_pu (d := some 13) (v := (.int .i64 i3)) rfl rfl rfl (r_move rfl) ?_
    refine s_pu (d := some 14) (v := (.int .i64 (w64 (i3 + 1)))) rfl rfl rfl (r_add rfl rfl) ?_
    obtain ⟨e6, e7, e8, e9, H⟩ := H
    obtain ⟨s5, e10⟩ : ∃ t : Sl, t = ⟨sliceA p1.a (Int.toNat ((p1.cap : Int))) (Int.toNat (w64 (i3 + 1))) 1, Int.toNat ((p1.len : Int)) - Int.toNat (w64 (i3 + 1)), Int.toNat ((p1.cap : Int)) - Int.toNat (w64 (i3 + 1))⟩ := ⟨_, rfl⟩
    have H := H s5 e10
    refine s_pu (d := some 15) (v := (Sl.v s5)) rfl rfl rfl (fun w => (r_slice (lo := (.some (.tmp 14))) (hi := .none) (mx := .none) Tryd.underlying22 Tryd.sizeOf3 rfl ((p1.cap : Int)) ((p1.len : Int)) (w64 (i3 + 1)) rfl ⟨rfl, rfl⟩ ⟨_, rfl⟩ e6 e7 (.inl rfl) e9 w).trans (by rw [e10]; rfl)) ?_
    refine s_pu (d := some 16) (v := (Sl.v p1)) rfl rfl rfl (r_move rfl) ?_
    refine s_pu (d := some 17) (v := (.int .i64 i3)) rfl rfl rfl (r_move rfl) ?_
    obtain ⟨p11, e12, e13, e14, H⟩ := H
    obtain ⟨q15, e16⟩ : ∃ q : Addr, q = Addr.add p11 (Int.toNat i3 * 1) := ⟨_, rfl⟩
    rw [← e16] at H
    refine s_pu (d := some 18) (v := (.pointer (some q15))) rfl rfl rfl (fun w => (r_indexAddr Tryd.underlying22 Tryd.sizeOf3 rfl rfl e12 e13 e14 w).trans (by rw [e16])) ?_
    obtain ⟨x17, e18, H⟩ := H
    refine s_rd (d := some 19) (v := (.int .i64 x17)) rfl rfl rfl (fun dr => r_load1 Tryd.isAgg3 rfl e18) ?_
    refine s_pu (d := some 21) (v := (Sl.v p1)) rfl rfl rfl (r_move rfl) ?_
    refine s_pu (d := some 22) (v := (.int .i64 ((p1.len : Int)))) rfl rfl rfl (r_len Tryd.underlying22 rfl) ?_
    refine s_pu (d := some 23) (v := (.int .i64 (w64 (((p1.len : Int)) - 1)))) rfl rfl rfl (r_sub rfl rfl) ?_
    refine s_pu (d := some 24) (v := (.int .i64 i3)) rfl rfl rfl (r_move rfl) ?_
    refine s_pu (d := some 25) (v := (.int .i64 (w64 ((w64 (((p1.len : Int)) - 1)) - i3)))) rfl rfl rfl (r_sub rfl rfl) ?_
    refine s_ef (d := some 20) rfl rfl rfl (fun dr => r_call Tryd.call98 rfl rfl H) ?_ trivial
    rintro _ h2 ⟨y19, rfl, H⟩
    refine ⟨⟨trivial, trivial⟩, ?_⟩
    refine s_ef (d := some 26) rfl rfl rfl (fun dr => r_call Tryd.call69 rfl rfl H) ?_ trivial
    rintro _ h3 ⟨y20, rfl, H⟩
    refine ⟨⟨trivial, trivial⟩, ?_⟩
    refine s_pu (d := some 27) (v := (.int .i64 (w64 (y19 * y20)))) rfl rfl rfl (r_mul rfl rfl) ?_
    refine s_pu (d := some 28) (v := (.int .i64 (w64 (n2 + (w64 (y19 * y20)))))) rfl rfl rfl (r_add rfl rfl) ?_
    refine s_pu (d := some 3) (v := (.int .i64 (w64 (n2 + (w64 (y19 * y20)))))) rfl rfl rfl (r_assign rfl) ?_
    refine s_fin ?_
    show W _ _ _ _ _ _ _ _
    refine W_region (.pu 0 (.pu 1 (.pu 2 .fin))) rfl rfl ?_
    refine s_pu (d := some 9) (v := (.int .i64 i3)) rfl rfl rfl (r_move rfl) ?_
    refine s_pu (d := some 10) (v := (.int .i64 (w64 (i3 + 1)))) rfl rfl rfl (r_add rfl rfl) ?_
    refine s_pu (d := some 4) (v := (.int .i64 (w64 (i3 + 1)))) rfl rfl rfl (r_assign rfl) ?_
    refine s_fin ?_
    exact WL_mk (l := [(0, (Sl.v p1)), (3, (.int .i64 (w64 (n2 + (w64 (y19 * y20)))))), (4, (.int .i64 (w64 (i3 + 1))))]) H ⟨rfl, rfl, rfl, trivial⟩
  · have H := H.2 g21
    refine W_exit (inX_here ?_)
    show W _ _ _ _ _ _ _ _
    refine W_seq ?_
    refine W_region (.pu 0 (.pu 1 .fin)) rfl rfl ?_
    refine s_pu (d := some 29) (v := (.int .i64 n2)) rfl rfl rfl (r_move rfl) ?_
    refine s_pu (d := some 2) (v := (.int .i64 n2)) rfl rfl rfl (r_assign rfl) ?_
    refine s_fin ?_
    show W _ _ _ _ _ _ _ _
    refine W_ret ?_
    exact ⟨[(.int .i64 n2)], ⟨_, _, rfl, rfl, rfl⟩, n2, rfl, H⟩

/-! ### ref1_OrderOf -/

def ref1_OrderOf_F (r : World) (c1 : Sl) (h : Heap) (R : Sl → Int → Heap → Prop) : Prop :=
  Br (decide (20 < ((c1.len : Int)))) (
    R Sl.nil 4 h) (
    ∀ X4 : Sl → Int → Heap → Prop, (∀ (left2 : Sl) (i3 : Int) (h1 : Heap),
      (Br (decide (i3 < ((c1.len : Int)))) (
        New h1 (.cells #[(.int .i64 i3)] 3) fun p5 h2 =>
        App 3 1 8 (.int .i64 0) left2 ((⟨some p5, 1, 1⟩ : Sl)) h2 fun s8 h3 =>
        X4 s8 (w64 (i3 + 1)) h3) (
        ∀ X12 : Sl → Sl → Int → Heap → Prop, (∀ (left9 : Sl) (out10 : Sl) (i11 : Int) (h4 : Heap),
          (Br (decide (i11 < ((c1.len : Int)))) (
            ∀ J14 : Bool → Prop, (∀ (x13 : Bool),
              (Br x13 (
                R Sl.nil 3 h4) (
                Ix c1 i11 1 fun q20 =>
                LdI h4 q20 fun x22 =>
                Ix left9 x22 1 fun q28 =>
                LdI h4 q28 fun x30 =>
                New h4 (.cells #[(.int .i64 x30)] 3) fun p32 h5 =>
                App 3 1 8 (.int .i64 0) out10 ((⟨some p32, 1, 1⟩ : Sl)) h5 fun s35 h6 =>
                Ix c1 i11 1 fun q40 =>
                LdI h6 q40 fun x42 =>
                ref1_Without r left9 x42 h6 fun y44 h7 =>
                X12 y44 s35 (w64 (i11 + 1)) h7)) →
              J14 x13) →
            Ix c1 i11 1 fun q50 =>
            LdI h4 q50 fun x52 =>
            Br (decide (x52 < 0)) (
              J14 true) (
              Ix c1 i11 1 fun q59 =>
              LdI h4 q59 fun x61 =>
              J14 (decide (((left9.len : Int)) ≤ x61)))) (
            R out10 0 h4)) →
          X12 left9 out10 i11 h4) →
        X12 left2 Sl.nil 0 h1)) →
      X4 left2 i3 h1) →
    X4 Sl.nil 0 h)

set_option maxRecDepth 100000 in
theorem ref1_OrderOf_of {r : World} {c1 : Sl} {h : Heap} {R : Sl → Int → Heap → Prop} (H : ref1_OrderOf_F r c1 h R) : ref1_OrderOf r c1 h R := by
  unfold ref1_OrderOf_F at H
  refine calls_of 58 [.tmp 2, .tmp 3] Tryd.func67 rfl rfl rfl rfl rfl ?_
  refine W_seq ?_
  refine W_region (.pu 0 (.pu 1 .fin)) rfl rfl ?_
  refine s_pu (d := some 2) (v := (Sl.v Sl.nil)) rfl rfl rfl (r_assign rfl) ?_
  refine s_pu (d := some 3) (v := (.int .i64 0)) rfl rfl rfl (r_assign rfl) ?_
  refine s_fin ?_
  show W _ _ _ _ _ _ _ _
  refine W_seq ?_
  refine W_seq ?_
  refine W_region (.pu 0 (.pu 1 (.pu 2 .fin))) rfl rfl ?_
  refine s_pu (d := some 8) (v := (Sl.v c1)) rfl rfl rfl (r_move rfl) ?_
  refine s_pu (d := some 9) (v := (.int .i64 ((c1.len : Int)))) rfl rfl rfl (r_len Tryd.underlying22 rfl) ?_
  refine s_pu (d := some 10) (v := (.bool (decide (20 < ((c1.len : Int)))))) rfl rfl rfl (r_gtr rfl rfl) ?_
  refine s_fin ?_
  show W _ _ _ _ _ _ _ _
  refine W_if (decide (20 < ((c1.len : Int)))) rfl (fun g65 => ?_) (fun g65 => ?_)
  · have H := H.1 g65
    refine W_seq ?_
    refine W_region (.pu 0 (.pu 1 .fin)) rfl rfl ?_
    refine s_pu (d := some 2) (v := (Sl.v Sl.nil)) rfl rfl rfl (r_assign rfl) ?_
    refine s_pu (d := some 3) (v := (.int .i64 4)) rfl rfl rfl (r_assign rfl) ?_
    refine s_fin ?_
    show W _ _ _ _ _ _ _ _
    refine W_ret ?_
    exact ⟨[(Sl.v Sl.nil), (.int .i64 4)], ⟨_, _, rfl, rfl, ⟨_, _, rfl, rfl, rfl⟩⟩, Sl.nil, 4, rfl, H⟩
  · have H := H.2 g65
    refine W_skip ?_
    show W _ _ _ _ _ _ _ _
    refine W_seq ?_
    refine W_region (.pu 0 .fin) rfl rfl ?_
    refine s_pu (d := some 4) (v := (Sl.v Sl.nil)) rfl rfl rfl (r_assign rfl) ?_
    refine s_fin ?_
    show W _ _ _ _ _ _ _ _
    refine W_seq ?_
    refine W_seq ?_
    refine W_region (.pu 0 .fin) rfl rfl ?_
    refine s_pu (d := some 5) (v := (.int .i64 0)) rfl rfl rfl (r_assign rfl) ?_
    refine s_fin ?_
    show W _ _ _ _ _ _ _ _
    refine W_block ?_
    refine W_loop (WL_mk (l := [(0, (Sl.v c1)), (4, (Sl.v Sl.nil)), (5, (.int .i64 0))]) ?_ ⟨rfl, rfl, rfl, trivial⟩)
    refine H (fun (left2 : Sl) (i3 : Int) (h1 : Heap) => ∀ b, WL _ _ _ _ _ _ (mkE [(0, (Sl.v c1)), (4, (Sl.v left2)), (5, (.int .i64 i3))] b) h1) ?_
    intro left2 i3 h1 H b
    refine WL_round ?_
    refine W_seq ?_
    refine W_seq ?_
    refine W_region (.pu 0 (.pu 1 (.pu 2 (.pu 3 .fin)))) rfl rfl ?_
    refine s_pu (d := some 11) (v := (.int .i64 i3)) rfl rfl rfl (r_move rfl) ?_
    refine s_pu (d := some 12) (v := (Sl.v c1)) rfl rfl rfl (r_move rfl) ?_
    refine s_pu (d := some 13) (v := (.int .i64 ((c1.len : Int)))) rfl rfl rfl (r_len Tryd.underlying22 rfl) ?_
    refine s_pu (d := some 14) (v := (.bool (decide (i3 < ((c1.len : Int)))))) rfl rfl rfl (r_lss rfl rfl) ?_
    refine s_fin ?_
    show W _ _ _ _ _ _ _ _
    refine W_if (decide (i3 < ((c1.len : Int)))) rfl (fun g64 => ?_) (fun g64 => ?_)
    · have H := H.1 g64
      refine W_skip ?_
      show W _ _ _ _ _ _ _ _
      refine W_seq ?_
      refine W_block ?_
      refine W_region (.pu 0 (.pu 1 (.ef 2 [] (.ef 3 [] (.pu 4 .fin) .no) .no))) rfl rfl ?_
      refine s_pu (d := some 17) (v := (Sl.v left2)) rfl rfl rfl (r_move rfl) ?_
      refine s_pu (d := some 18) (v := (.int .i64 i3)) rfl rfl rfl (r_move rfl) ?_
      obtain ⟨p5, e6⟩ : ∃ p : Addr, p = ⟨h1.size, 0, none⟩ := ⟨_, rfl⟩
      obtain ⟨h2, e7⟩ : ∃ hh : Heap, hh = h1.push (.cells #[(.int .i64 i3)] 3) := ⟨_, rfl⟩
      have H := H p5 h2 e6 e7
      refine s_ef1 (d := some 19) (v := (Sl.v ((⟨some p5, 1, 1⟩ : Sl)))) (h' := h2) rfl rfl rfl (fun dr => (slFDVLaw_22.build (cells := #[(.int .i64 i3)]) (by decide) rfl (by kernel_rfl)).trans (by rw [e6, e7]; rfl)) trivial ?_ trivial
      refine s_ef (d := some 20) rfl rfl rfl (fun dr => slFDVLaw_22.append rfl rfl H) ?_ trivial
      rintro _ h3 ⟨s8, rfl, H⟩
      refine ⟨trivial, ?_⟩
      refine s_pu (d := some 4) (v := (Sl.v s8)) rfl rfl rfl (r_assign rfl) ?_
      refine s_fin ?_
      show W _ _ _ _ _ _ _ _
      refine W_region (.pu 0 (.pu 1 (.pu 2 .fin))) rfl rfl ?_
      refine s_pu (d := some 15) (v := (.int .i64 i3)) rfl rfl rfl (r_move rfl) ?_
      refine s_pu (d := some 16) (v := (.int .i64 (w64 (i3 + 1)))) rfl rfl rfl (r_add rfl rfl) ?_
      refine s_pu (d := some 5) (v := (.int .i64 (w64 (i3 + 1)))) rfl rfl rfl (r_assign rfl) ?_
      refine s_fin ?_
      exact WL_mk (l := [(0, (Sl.v c1)), (4, (Sl.v s8)), (5, (.int .i64 (w64 (i3 + 1))))]) H ⟨rfl, rfl, rfl, trivial⟩
    · have H := H.2 g64
      refine W_exit (inX_here ?_)
      show W _ _ _ _ _ _ _ _
      refine W_seq ?_
      refine W_region (.pu 0 .fin) rfl rfl ?_
      refine s_pu (d := some 6) (v := (Sl.v Sl.nil)) rfl rfl rfl (r_assign rfl) ?_
      refine s_fin ?_
      show W _ _ _ _ _ _ _ _
      refine W_seq ?_
      refine W_seq ?_
      refine W_region (.pu 0 .fin) rfl rfl ?_
      refine s_pu (d := some 7) (v := (.int .i64 0)) rfl rfl rfl (r_assign rfl) ?_
      refine s_fin ?_
      show W _ _ _ _ _ _ _ _
      refine W_block ?_
      refine W_loop (WL_mk (l := [(0, (Sl.v c1)), (4, (Sl.v left2)), (6, (Sl.v Sl.nil)), (7, (.int .i64 0))]) ?_ ⟨rfl, rfl, rfl, rfl, trivial⟩)
      refine H (fun (left9 : Sl) (out10 : Sl) (i11 : Int) (h4 : Heap) => ∀ b, WL _ _ _ _ _ _ (mkE [(0, (Sl.v c1)), (4, (Sl.v left9)), (6, (Sl.v out10)), (7, (.int .i64 i11))] b) h4) ?_
      intro left9 out10 i11 h4 H b
      refine WL_round ?_
      refine W_seq ?_
      refine W_seq ?_
      refine W_region (.pu 0 (.pu 1 (.pu 2 (.pu 3 .fin)))) rfl rfl ?_
      refine s_pu (d := some 21) (v := (.int .i64 i11)) rfl rfl rfl (r_move rfl) ?_
      refine s_pu (d := some 22) (v := (Sl.v c1)) rfl rfl rfl (r_move rfl) ?_
      refine s_pu (d := some 23) (v := (.int .i64 ((c1.len : Int)))) rfl rfl rfl (r_len Tryd.underlying22 rfl) ?_
      refine s_pu (d := some 24) (v := (.bool (decide (i11 < ((c1.len : Int)))))) rfl rfl rfl (r_lss rfl rfl) ?_
      refine s_fin ?_
      show W _ _ _ _ _ _ _ _
      refine W_if (decide (i11 < ((c1.len : Int)))) rfl (fun g63 => ?_) (fun g63 => ?_)
      · have H := H.1 g63
        refine W_skip ?_
        show W _ _ _ _ _ _ _ _
        refine W_seq ?_
        refine W_block ?_
        refine W_seq ?_
        refine W_seq ?_
        refine W_set ?_
        intro N15 eN15
        have H := H (fun (x13 : Bool) => ∀ b, N15 [] (mkE [(0, (Sl.v c1)), (4, (Sl.v left9)), (6, (Sl.v out10)), (7, (.int .i64 i11)), (40, (.bool x13))] b) h4) (by
          intro x13 H b
          rw [eN15]
          show W _ _ _ _ _ _ _ _
          refine W_if x13 rfl (fun g45 => ?_) (fun g45 => ?_)
          · have H := H.1 g45
            refine W_seq ?_
            refine W_region (.pu 0 (.pu 1 .fin)) rfl rfl ?_
            refine s_pu (d := some 2) (v := (Sl.v Sl.nil)) rfl rfl rfl (r_assign rfl) ?_
            refine s_pu (d := some 3) (v := (.int .i64 3)) rfl rfl rfl (r_assign rfl) ?_
            refine s_fin ?_
            show W _ _ _ _ _ _ _ _
            refine W_ret ?_
            exact ⟨[(Sl.v Sl.nil), (.int .i64 3)], ⟨_, _, rfl, rfl, ⟨_, _, rfl, rfl, rfl⟩⟩, Sl.nil, 3, rfl, H⟩
          · have H := H.2 g45
            refine W_skip ?_
            show W _ _ _ _ _ _ _ _
            refine W_seq ?_
            refine W_region (.pu 0 (.pu 1 (.pu 2 (.pu 3 (.pu 4 (.rl 5 (.pu 6 (.rl 7 (.ef 8 [] (.ef 9 [] (.pu 10 .fin) .no) .no))))))))) rfl rfl ?_
            refine s_pu (d := some 41) (v := (Sl.v out10)) rfl rfl rfl (r_move rfl) ?_
            refine s_pu (d := some 42) (v := (Sl.v left9)) rfl rfl rfl (r_move rfl) ?_
            refine s_pu (d := some 43) (v := (Sl.v c1)) rfl rfl rfl (r_move rfl) ?_
            refine s_pu (d := some 44) (v := (.int .i64 i11)) rfl rfl rfl (r_move rfl) ?_
            obtain ⟨p16, e17, e18, e19, H⟩ := H
            obtain ⟨q20, e21⟩ : ∃ q : Addr, q = Addr.add p16 (Int.toNat i11 * 1) := ⟨_, rfl⟩
            rw [← e21] at H
            refine s_pu (d := some 45) (v := (.pointer (some q20))) rfl rfl rfl (fun w => (r_indexAddr Tryd.underlying22 Tryd.sizeOf3 rfl rfl e17 e18 e19 w).trans (by rw [e21])) ?_
            obtain ⟨x22, e23, H⟩ := H
            refine s_rl (d := some 46) (v := (.int .i64 x22)) rfl rfl rfl (fun dr => r_load1 Tryd.isAgg3 rfl e23) ?_
            obtain ⟨p24, e25, e26, e27, H⟩ := H
            obtain ⟨q28, e29⟩ : ∃ q : Addr, q = Addr.add p24 (Int.toNat x22 * 1) := ⟨_, rfl⟩
            rw [← e29] at H
            refine s_pu (d := some 47) (v := (.pointer (some q28))) rfl rfl rfl (fun w => (r_indexAddr Tryd.underlying22 Tryd.sizeOf3 rfl rfl e25 e26 e27 w).trans (by rw [e29])) ?_
            obtain ⟨x30, e31, H⟩ := H
            refine s_rl (d := some 48) (v := (.int .i64 x30)) rfl rfl rfl (fun dr => r_load1 Tryd.isAgg3 rfl e31) ?_
            obtain ⟨p32, e33⟩ : ∃ p : Addr, p = ⟨h4.size, 0, none⟩ := ⟨_, rfl⟩
            obtain ⟨h5, e34⟩ : ∃ hh : Heap, hh = h4.push (.cells #[(.int .i64 x30)] 3) := ⟨_, rfl⟩
            have H := H p32 h5 e33 e34
            refine s_ef1 (d := some 49) (v := (Sl.v ((⟨some p32, 1, 1⟩ : Sl)))) (h' := h5) rfl rfl rfl (fun dr => (slFDVLaw_22.build (cells := #[(.int .i64 x30)]) (by decide) rfl (by kernel_rfl)).trans (by rw [e33, e34]; rfl)) trivial ?_ trivial
            refine s_ef (d := some 50) rfl rfl rfl (fun dr => slFDVLaw_22.append rfl rfl H) ?_ trivial
            rintro _ h6 ⟨s35, rfl, H⟩
            refine ⟨trivial, ?_⟩
            refine s_pu (d := some 6) (v := (Sl.v s35)) rfl rfl rfl (r_assign rfl) ?_
            refine s_fin ?_
            show W _ _ _ _ _ _ _ _
            refine W_region (.pu 0 (.pu 1 (.pu 2 (.pu 3 (.rl 4 (.ef 5 [] (.pu 6 .fin) .no)))))) rfl rfl ?_
            refine s_pu (d := some 51) (v := (Sl.v left9)) rfl rfl rfl (r_move rfl) ?_
            refine s_pu (d := some 52) (v := (Sl.v c1)) rfl rfl rfl (r_move rfl) ?_
            refine s_pu (d := some 53) (v := (.int .i64 i11)) rfl rfl rfl (r_move rfl) ?_
            obtain ⟨p36, e37, e38, e39, H⟩ := H
            obtain ⟨q40, e41⟩ : ∃ q : Addr, q = Addr.add p36 (Int.toNat i11 * 1) := ⟨_, rfl⟩
            rw [← e41] at H
            refine s_pu (d := some 54) (v := (.pointer (some q40))) rfl rfl rfl (fun w => (r_indexAddr Tryd.underlying22 Tryd.sizeOf3 rfl rfl e37 e38 e39 w).trans (by rw [e41])) ?_
            obtain ⟨x42, e43, H⟩ := H
            refine s_rl (d := some 55) (v := (.int .i64 x42)) rfl rfl rfl (fun dr => r_load1 Tryd.isAgg3 rfl e43) ?_
            refine s_ef (d := some 56) rfl rfl rfl (fun dr => r_call Tryd.call103 rfl rfl H) ?_ trivial
            rintro _ h7 ⟨y44, rfl, H⟩
            refine ⟨trivial, ?_⟩
            refine s_pu (d := some 4) (v := (Sl.v y44)) rfl rfl rfl (r_assign rfl) ?_
            refine s_fin ?_
            show W _ _ _ _ _ _ _ _
            refine W_region (.pu 0 (.pu 1 (.pu 2 .fin))) rfl rfl ?_
            refine s_pu (d := some 25) (v := (.int .i64 i11)) rfl rfl rfl (r_move rfl) ?_
            refine s_pu (d := some 26) (v := (.int .i64 (w64 (i11 + 1)))) rfl rfl rfl (r_add rfl rfl) ?_
            refine s_pu (d := some 7) (v := (.int .i64 (w64 (i11 + 1)))) rfl rfl rfl (r_assign rfl) ?_
            refine s_fin ?_
            exact WL_mk (l := [(0, (Sl.v c1)), (4, (Sl.v y44)), (6, (Sl.v s35)), (7, (.int .i64 (w64 (i11 + 1))))]) H ⟨rfl, rfl, rfl, rfl, trivial⟩)
        clear eN15
        refine W_region (.pu 0 (.pu 1 (.pu 2 (.rl 3 (.pu 4 (.pu 5 (.pu 6 (.pu 7 (.pu 8 (.rl 9 (.pu 10 (.pu 11 (.pu 12 (.pu 13 .fin)))))))))))))) rfl rfl ?_
        refine s_pu (d := some 27) (v := (Sl.v c1)) rfl rfl rfl (r_move rfl) ?_
        refine s_pu (d := some 28) (v := (.int .i64 i11)) rfl rfl rfl (r_move rfl) ?_
        obtain ⟨p46, e47, e48, e49, H⟩ := H
        obtain ⟨q50, e51⟩ : ∃ q : Addr, q = Addr.add p46 (Int.toNat i11 * 1) := ⟨_, rfl⟩
        rw [← e51] at H
        refine s_pu (d := some 29) (v := (.pointer (some q50))) rfl rfl rfl (fun w => (r_indexAddr Tryd.underlying22 Tryd.sizeOf3 rfl rfl e47 e48 e49 w).trans (by rw [e51])) ?_
        obtain ⟨x52, e53, H⟩ := H
        refine s_rl (d := some 30) (v := (.int .i64 x52)) rfl rfl rfl (fun dr => r_load1 Tryd.isAgg3 rfl e53) ?_
        refine s_pu (d := some 31) (v := (.bool (decide (x52 < 0)))) rfl rfl rfl (r_lss rfl rfl) ?_
        refine s_pu (d := some 32) (v := (.bool (decide (x52 < 0)))) rfl rfl rfl (r_move rfl) ?_
        rcases Bool.eq_false_or_eq_true (decide (x52 < 0)) with g54 | g54
        · have H := H.1 g54
          refine s_sk (d := some 33) rfl rfl (wants_no rfl rfl rfl rfl g54) ?_
          refine s_sk (d := some 34) rfl rfl (wants_no rfl rfl rfl rfl g54) ?_
          refine s_sk (d := some 35) rfl rfl (wants_no rfl rfl rfl rfl g54) ?_
          refine s_skl (d := some 36) rfl rfl (wants_no rfl rfl rfl rfl g54) ?_
          refine s_sk (d := some 37) rfl rfl (wants_no rfl rfl rfl rfl g54) ?_
          refine s_sk (d := some 38) rfl rfl (wants_no rfl rfl rfl rfl g54) ?_
          refine s_sk (d := some 39) rfl rfl (wants_no rfl rfl rfl rfl g54) ?_
          refine s_pu (d := some 40) (v := (.bool true)) rfl rfl rfl (r_pick1 rfl g54 rfl) ?_
          refine s_fin ?_
          exact N_mk (l := [(0, (Sl.v c1)), (4, (Sl.v left9)), (6, (Sl.v out10)), (7, (.int .i64 i11)), (40, (.bool true))]) H ⟨rfl, rfl, rfl, rfl, rfl, trivial⟩
        · have H := H.2 g54
          refine s_pu (d := some 33) (v := (Sl.v c1)) rfl rfl (wants_yes rfl rfl rfl rfl g54) (r_move rfl) ?_
          refine s_pu (d := some 34) (v := (.int .i64 i11)) rfl rfl (wants_yes rfl rfl rfl rfl g54) (r_move rfl) ?_
          obtain ⟨p55, e56, e57, e58, H⟩ := H
          obtain ⟨q59, e60⟩ : ∃ q : Addr, q = Addr.add p55 (Int.toNat i11 * 1) := ⟨_, rfl⟩
          rw [← e60] at H
          refine s_pu (d := some 35) (v := (.pointer (some q59))) rfl rfl (wants_yes rfl rfl rfl rfl g54) (fun w => (r_indexAddr Tryd.underlying22 Tryd.sizeOf3 rfl rfl e56 e57 e58 w).trans (by rw [e60])) ?_
          obtain ⟨x61, e62, H⟩ := H
          refine s_rl (d := some 36) (v := (.int .i64 x61)) rfl rfl (wants_yes rfl rfl rfl rfl g54) (fun dr => r_load1 Tryd.isAgg3 rfl e62) ?_
          refine s_pu (d := some 37) (v := (Sl.v left9)) rfl rfl (wants_yes rfl rfl rfl rfl g54) (r_move rfl) ?_
          refine s_pu (d := some 38) (v := (.int .i64 ((left9.len : Int)))) rfl rfl (wants_yes rfl rfl rfl rfl g54) (r_len Tryd.underlying22 rfl) ?_
          refine s_pu (d := some 39) (v := (.bool (decide (((left9.len : Int)) ≤ x61)))) rfl rfl (wants_yes rfl rfl rfl rfl g54) (r_geq rfl rfl) ?_
          refine s_pu (d := some 40) (v := (.bool (decide (((left9.len : Int)) ≤ x61)))) rfl rfl rfl (r_pick0 rfl g54 rfl) ?_
          refine s_fin ?_
          exact N_mk (l := [(0, (Sl.v c1)), (4, (Sl.v left9)), (6, (Sl.v out10)), (7, (.int .i64 i11)), (40, (.bool (decide (((left9.len : Int)) ≤ x61))))]) H ⟨rfl, rfl, rfl, rfl, rfl, trivial⟩
      · have H := H.2 g63
        refine W_exit (inX_here ?_)
        show W _ _ _ _ _ _ _ _
        refine W_seq ?_
        refine W_region (.pu 0 (.pu 1 (.pu 2 .fin))) rfl rfl ?_
        refine s_pu (d := some 57) (v := (Sl.v out10)) rfl rfl rfl (r_move rfl) ?_
        refine s_pu (d := some 2) (v := (Sl.v out10)) rfl rfl rfl (r_assign rfl) ?_
        refine s_pu (d := some 3) (v := (.int .i64 0)) rfl rfl rfl (r_assign rfl) ?_
        refine s_fin ?_
        show W _ _ _ _ _ _ _ _
        refine W_ret ?_
        exact ⟨[(Sl.v out10), (.int .i64 0)], ⟨_, _, rfl, rfl, ⟨_, _, rfl, rfl, rfl⟩⟩, out10, 0, rfl, H⟩

/-! ### ref1_Orders -/

def ref1_Orders_F (r : World) (n1 : Int) (h : Heap) (R : Int → Heap → Prop) : Prop :=
  ∀ X4 : Int → Int → Prop, (∀ (out2 : Int) (i3 : Int),
    (Br (decide (i3 ≤ n1)) (
      X4 (w64 (out2 * i3)) (w64 (i3 + 1))) (
      R out2 h)) →
    X4 out2 i3) →
  X4 1 2

set_option maxRecDepth 100000 in
theorem ref1_Orders_of {r : World} {n1 : Int} {h : Heap} {R : Int → Heap → Prop} (H : ref1_Orders_F r n1 h R) : ref1_Orders r n1 h R := by
  unfold ref1_Orders_F at H
  refine calls_of 14 [.tmp 2] Tryd.func69 rfl rfl rfl rfl rfl ?_
  refine W_seq ?_
  refine W_region (.pu 0 .fin) rfl rfl ?_
  refine s_pu (d := some 2) (v := (.int .i64 0)) rfl rfl rfl (r_assign rfl) ?_
  refine s_fin ?_
  show W _ _ _ _ _ _ _ _
  refine W_seq ?_
  refine W_region (.pu 0 .fin) rfl rfl ?_
  refine s_pu (d := some 3) (v := (.int .i64 1)) rfl rfl rfl (r_assign rfl) ?_
  refine s_fin ?_
  show W _ _ _ _ _ _ _ _
  refine W_seq ?_
  refine W_seq ?_
  refine W_region (.pu 0 .fin) rfl rfl ?_
  refine s_pu (d := some 4) (v := (.int .i64 2)) rfl rfl rfl (r_assign rfl) ?_
  refine s_fin ?_
  show W _ _ _ _ _ _ _ _
  refine W_block ?_
  refine W_loop (WL_mk (l := [(0, (.int .i64 n1)), (3, (.int .i64 1)), (4, (.int .i64 2))]) ?_ ⟨rfl, rfl, rfl, trivial⟩)
  refine H (fun (out2 : Int) (i3 : Int) => ∀ b, WL _ _ _ _ _ _ (mkE [(0, (.int .i64 n1)), (3, (.int .i64 out2)), (4, (.int .i64 i3))] b) h) ?_
  intro out2 i3 H b
  refine WL_round ?_
  refine W_seq ?_
  refine W_seq ?_
  refine W_region (.pu 0 (.pu 1 (.pu 2 .fin))) rfl rfl ?_
  refine s_pu (d := some 5) (v := (.int .i64 i3)) rfl rfl rfl (r_move rfl) ?_
  refine s_pu (d := some 6) (v := (.int .i64 n1)) rfl rfl rfl (r_move rfl) ?_
  refine s_pu (d := some 7) (v := (.bool (decide (i3 ≤ n1)))) rfl rfl rfl (r_leq rfl rfl) ?_
  refine s_fin ?_
  show W _ _ _ _ _ _ _ _
  refine W_if (decide (i3 ≤ n1)) rfl (fun g5 => ?_) (fun g5 => ?_)
  · have H := H.1 g5
    refine W_skip ?_
    show W _ _ _ _ _ _ _ _
    refine W_seq ?_
    refine W_block ?_
    refine W_region (.pu 0 (.pu 1 (.pu 2 (.pu 3 .fin)))) rfl rfl ?_
    refine s_pu (d := some 10) (v := (.int .i64 out2)) rfl rfl rfl (r_move rfl) ?_
    refine s_pu (d := some 11) (v := (.int .i64 i3)) rfl rfl rfl (r_move rfl) ?_
    refine s_pu (d := some 12) (v := (.int .i64 (w64 (out2 * i3)))) rfl rfl rfl (r_mul rfl rfl) ?_
    refine s_pu (d := some 3) (v := (.int .i64 (w64 (out2 * i3)))) rfl rfl rfl (r_assign rfl) ?_
    refine s_fin ?_
    show W _ _ _ _ _ _ _ _
    refine W_region (.pu 0 (.pu 1 (.pu 2 .fin))) rfl rfl ?_
    refine s_pu (d := some 8) (v := (.int .i64 i3)) rfl rfl rfl (r_move rfl) ?_
    refine s_pu (d := some 9) (v := (.int .i64 (w64 (i3 + 1)))) rfl rfl rfl (r_add rfl rfl) ?_
    refine s_pu (d := some 4) (v := (.int .i64 (w64 (i3 + 1)))) rfl rfl rfl (r_assign rfl) ?_
    refine s_fin ?_
    exact WL_mk (l := [(0, (.int .i64 n1)), (3, (.int .i64 (w64 (out2 * i3)))), (4, (.int .i64 (w64 (i3 + 1))))]) H ⟨rfl, rfl, rfl, trivial⟩
  · have H := H.2 g5
    refine W_exit (inX_here ?_)
    show W _ _ _ _ _ _ _ _
    refine W_seq ?_
    refine W_region (.pu 0 (.pu 1 .fin)) rfl rfl ?_
    refine s_pu (d := some 13) (v := (.int .i64 out2)) rfl rfl rfl (r_move rfl) ?_
    refine s_pu (d := some 2) (v := (.int .i64 out2)) rfl rfl rfl (r_assign rfl) ?_
    refine s_fin ?_
    show W _ _ _ _ _ _ _ _
    refine W_ret ?_
    exact ⟨[(.int .i64 out2)], ⟨_, _, rfl, rfl, rfl⟩, out2, rfl, H⟩

/-! ### law5_InvTells -/

def law5_InvTells_F (r : World) (l1 : Sl) (p2 : Sl) (c3 : Sl) (n4 : Int) (rank5 : Int) (h : Heap) (R : Bool → Heap → Prop) : Prop :=
  law5_sorted r h fun y6 h1 =>
  ∀ J8 : Bool → Heap → Prop, (∀ (x7 : Bool) (h2 : Heap),
    (Br x7 (
      R false h2) (
      ref1_OrderFault r p2 h2 fun y10 h3 =>
      inv_Check r p2 h3 fun y11 h4 =>
      same_Error r y11 y10 h4 fun y12 h5 =>
      ∀ J16 : Sl → Int → Int → Heap → Prop, (∀ (codes13 : Sl) (place14 : Int) (sign15 : Int) (h6 : Heap),
        (inv_Lehmer r p2 h6 fun y18 y19 h7 =>
        same_Error r y19 y10 h7 fun y20 h8 =>
        same_Ints r y18 codes13 h8 fun y21 h9 =>
        inv_Rank r p2 h9 fun y22 y23 h10 =>
        same_Error r y23 y10 h10 fun y24 h11 =>
        inv_Sign r p2 h11 fun y25 y26 h12 =>
        same_Error r y26 y10 h12 fun y27 h13 =>
        Br (((((((!y12) || (!y20)) || (!y24)) || (!y27)) || (!y21)) || (!decide (y22 = place14))) || (!decide (y25 = sign15))) (
          R false h13) (
          ref1_OrderOf r c3 h13 fun y46 y47 h14 =>
          inv_Order r c3 h14 fun y48 y49 h15 =>
          same_Error r y49 y47 h15 fun y50 h16 =>
          same_Ints r y48 y46 h16 fun y51 h17 =>
          Br ((!y50) || (!y51)) (
            R false h17) (
            ∀ J56 : Bool → Heap → Prop, (∀ (x55 : Bool) (h18 : Heap),
              (∀ J59 : Int → Prop, (∀ (f58 : Int),
                (inv_Perm r n4 rank5 h18 fun y61 y62 h19 =>
                same_Error r y62 f58 h19 fun y63 h20 =>
                ∀ J66 : Bool → Prop, (∀ (x65 : Bool),
                  (Br x65 (
                    R false h20) (
                    ∀ J69 : Bool → Heap → Prop, (∀ (x68 : Bool) (h21 : Heap),
                      (R x68 h21) →
                      J69 x68 h21) →
                    Br (!decide (f58 = 0)) (
                      J69 true h20) (
                      ref1_OrderFault r y61 h20 fun y72 h22 =>
                      Br (decide (y72 = 0)) (
                        Br (decide (((y61.len : Int)) = n4)) (
                          ref1_RankOf r y61 h22 fun y75 h23 =>
                          J69 (decide (y75 = rank5)) h23) (
                          J69 false h22)) (
                        J69 false h22)))) →
                  J66 x65) →
                Br (!y63) (
                  J66 true) (
                  Br (!decide (f58 = 0)) (
                    J66 (decide (0 < ((y61.len : Int))))) (
                    J66 false))) →
                J59 f58) →
              Br x55 (
                J59 1) (
                J59 0)) →
              J56 x55 h18) →
            Br (decide (n4 < 0)) (
              J56 true h17) (
              Br (decide (20 < n4)) (
                J56 true h17) (
                Br (decide (rank5 < 0)) (
                  J56 true h17) (
                  ref1_Orders r n4 h17 fun y84 h24 =>
                  J56 (decide (y84 ≤ rank5)) h24)))))) →
        J16 codes13 place14 sign15 h6) →
      Br (decide (y10 = 0)) (
        ref1_LehmerOf r p2 h5 fun y94 h25 =>
        ref1_RankOf r p2 h25 fun y95 h26 =>
        ref1_Turned r p2 h26 fun y96 h27 =>
        J16 y94 y95 (w64 (1 - (w64 (2 * (Int.tmod y96 2))))) h27) (
        J16 Sl.nil 0 0 h5))) →
    J8 x7 h2) →
  Br (!y6) (
    J8 true h1) (
    inv_Count r l1 h1 fun y100 h28 =>
    ref1_Turned r l1 h28 fun y101 h29 =>
    J8 (!decide (y100 = y101)) h29)

set_option maxRecDepth 100000 in
theorem law5_InvTells_of {r : World} {l1 : Sl} {p2 : Sl} {c3 : Sl} {n4 : Int} {rank5 : Int} {h : Heap} {R : Bool → Heap → Prop} (H : law5_InvTells_F r l1 p2 c3 n4 rank5 h R) : law5_InvTells r l1 p2 c3 n4 rank5 h R := by
  unfold law5_InvTells_F at H
  refine calls_of 191 [.tmp 10] Tryd.func9 rfl rfl rfl rfl rfl ?_
  refine W_seq ?_
  refine W_region (.pu 0 .fin) rfl rfl ?_
  refine s_pu (d := some 10) (v := (.bool false)) rfl rfl rfl (r_assign rfl) ?_
  refine s_fin ?_
  show W _ _ _ _ _ _ _ _
  refine W_seq ?_
  refine W_region (.ef 0 [] (.pu 1 .fin) .no) rfl rfl ?_
  refine s_ef (d := some 32) rfl rfl rfl (fun dr => r_call Tryd.call57 rfl rfl H) ?_ trivial
  rintro _ h1 ⟨y6, rfl, H⟩
  refine ⟨trivial, ?_⟩
  refine s_pu (d := some 11) (v := (.bool y6)) rfl rfl rfl (r_assign rfl) ?_
  refine s_fin ?_
  show W _ _ _ _ _ _ _ _
  refine W_seq ?_
  refine W_seq ?_
  refine W_set ?_
  intro N9 eN9
  have H := H (fun (x7 : Bool) (h2 : Heap) => ∀ b, N9 [] (mkE [(1, (Sl.v p2)), (2, (Sl.v c3)), (3, (.int .i64 n4)), (4, (.int .i64 rank5)), (41, (.bool x7))] b) h2) (by
    intro x7 h2 H b
    rw [eN9]
    show W _ _ _ _ _ _ _ _
    refine W_if x7 rfl (fun g98 => ?_) (fun g98 => ?_)
    · have H := H.1 g98
      refine W_seq ?_
      refine W_region (.pu 0 .fin) rfl rfl ?_
      refine s_pu (d := some 10) (v := (.bool false)) rfl rfl rfl (r_assign rfl) ?_
      refine s_fin ?_
      show W _ _ _ _ _ _ _ _
      refine W_ret ?_
      exact ⟨[(.bool false)], ⟨_, _, rfl, rfl, rfl⟩, false, rfl, H⟩
    · have H := H.2 g98
      refine W_skip ?_
      show W _ _ _ _ _ _ _ _
      refine W_seq ?_
      refine W_region (.pu 0 (.ef 1 [] (.pu 2 .fin) .no)) rfl rfl ?_
      refine s_pu (d := some 42) (v := (Sl.v p2)) rfl rfl rfl (r_move rfl) ?_
      refine s_ef (d := some 43) rfl rfl rfl (fun dr => r_call Tryd.call60 rfl rfl H) ?_ trivial
      rintro _ h3 ⟨y10, rfl, H⟩
      refine ⟨trivial, ?_⟩
      refine s_pu (d := some 12) (v := (.int .i64 y10)) rfl rfl rfl (r_assign rfl) ?_
      refine s_fin ?_
      show W _ _ _ _ _ _ _ _
      refine W_seq ?_
      refine W_region (.pu 0 (.ef 1 [] (.pu 2 (.ef 3 [] (.pu 4 .fin) .no)) .no)) rfl rfl ?_
      refine s_pu (d := some 44) (v := (Sl.v p2)) rfl rfl rfl (r_move rfl) ?_
      refine s_ef (d := some 45) rfl rfl rfl (fun dr => r_call Tryd.call61 rfl rfl H) ?_ trivial
      rintro y11 h4 H
      refine ⟨trivial, ?_⟩
      refine s_pu (d := some 46) (v := (.int .i64 y10)) rfl rfl rfl (r_move rfl) ?_
      refine s_ef (d := some 47) rfl rfl rfl (fun dr => r_call Tryd.call12 rfl rfl H) ?_ trivial
      rintro _ h5 ⟨y12, rfl, H⟩
      refine ⟨trivial, ?_⟩
      refine s_pu (d := some 13) (v := (.bool y12)) rfl rfl rfl (r_assign rfl) ?_
      refine s_fin ?_
      show W _ _ _ _ _ _ _ _
      refine W_seq ?_
      refine W_region (.pu 0 .fin) rfl rfl ?_
      refine s_pu (d := some 14) (v := (Sl.v Sl.nil)) rfl rfl rfl (r_assign rfl) ?_
      refine s_fin ?_
      show W _ _ _ _ _ _ _ _
      refine W_seq ?_
      refine W_region (.pu 0 .fin) rfl rfl ?_
      refine s_pu (d := some 15) (v := (.int .i64 0)) rfl rfl rfl (r_assign rfl) ?_
      refine s_fin ?_
      show W _ _ _ _ _ _ _ _
      refine W_seq ?_
      refine W_region (.pu 0 .fin) rfl rfl ?_
      refine s_pu (d := some 16) (v := (.int .i64 0)) rfl rfl rfl (r_assign rfl) ?_
      refine s_fin ?_
      show W _ _ _ _ _ _ _ _
      refine W_seq ?_
      refine W_seq ?_
      refine W_region (.pu 0 (.pu 1 .fin)) rfl rfl ?_
      refine s_pu (d := some 48) (v := (.int .i64 y10)) rfl rfl rfl (r_move rfl) ?_
      refine s_pu (d := some 49) (v := (.bool (decide (y10 = 0)))) rfl rfl rfl (r_eql rfl rfl) ?_
      refine s_fin ?_
      show W _ _ _ _ _ _ _ _
      refine W_set ?_
      intro N17 eN17
      have H := H (fun (codes13 : Sl) (place14 : Int) (sign15 : Int) (h6 : Heap) => ∀ b, N17 [] (mkE [(1, (Sl.v p2)), (2, (Sl.v c3)), (3, (.int .i64 n4)), (4, (.int .i64 rank5)), (12, (.int .i64 y10)), (13, (.bool y12)), (14, (Sl.v codes13)), (15, (.int .i64 place14)), (16, (.int .i64 sign15))] b) h6) (by
        intro codes13 place14 sign15 h6 H b
        rw [eN17]
        show W _ _ _ _ _ _ _ _
        refine W_seq ?_
        refine W_region (.pu 0 (.ef 1 [] (.pu 2 (.pu 3 (.pu 4 (.pu 5 (.pu 6 .fin))))) .no)) rfl rfl ?_
        refine s_pu (d := some 60) (v := (Sl.v p2)) rfl rfl rfl (r_move rfl) ?_
        refine s_ef (d := some 61) rfl rfl rfl (fun dr => r_call Tryd.call64 rfl rfl H) ?_ trivial
        rintro _ h7 ⟨y18, y19, rfl, H⟩
        refine ⟨trivial, ?_⟩
        refine s_pu (d := some 59) (v := (.tuple #[(Sl.v y18), y19])) rfl rfl rfl (r_move rfl) ?_
        refine s_pu (d := some 62) (v := (Sl.v y18)) rfl rfl rfl (r_extract rfl rfl) ?_
        refine s_pu (d := some 63) (v := y19) rfl rfl rfl (r_extract rfl rfl) ?_
        refine s_pu (d := some 17) (v := (Sl.v y18)) rfl rfl rfl (r_assign rfl) ?_
        refine s_pu (d := some 18) (v := y19) rfl rfl rfl (r_assign rfl) ?_
        refine s_fin ?_
        show W _ _ _ _ _ _ _ _
        refine W_seq ?_
        refine W_region (.pu 0 (.pu 1 (.ef 2 [] (.pu 3 .fin) .no))) rfl rfl ?_
        refine s_pu (d := some 64) (v := y19) rfl rfl rfl (r_move rfl) ?_
        refine s_pu (d := some 65) (v := (.int .i64 y10)) rfl rfl rfl (r_move rfl) ?_
        refine s_ef (d := some 66) rfl rfl rfl (fun dr => r_call Tryd.call12 rfl rfl H) ?_ trivial
        rintro _ h8 ⟨y20, rfl, H⟩
        refine ⟨trivial, ?_⟩
        refine s_pu (d := some 19) (v := (.bool y20)) rfl rfl rfl (r_assign rfl) ?_
        refine s_fin ?_
        show W _ _ _ _ _ _ _ _
        refine W_seq ?_
        refine W_region (.pu 0 (.pu 1 (.ef 2 [] (.pu 3 .fin) .no))) rfl rfl ?_
        refine s_pu (d := some 67) (v := (Sl.v y18)) rfl rfl rfl (r_move rfl) ?_
        refine s_pu (d := some 68) (v := (Sl.v codes13)) rfl rfl rfl (r_move rfl) ?_
        refine s_ef (d := some 69) rfl rfl rfl (fun dr => r_call Tryd.call17 rfl rfl H) ?_ trivial
        rintro _ h9 ⟨y21, rfl, H⟩
        refine ⟨trivial, ?_⟩
        refine s_pu (d := some 20) (v := (.bool y21)) rfl rfl rfl (r_assign rfl) ?_
        refine s_fin ?_
        show W _ _ _ _ _ _ _ _
        refine W_seq ?_
        refine W_region (.pu 0 (.ef 1 [] (.pu 2 (.pu 3 (.pu 4 (.pu 5 (.pu 6 .fin))))) .no)) rfl rfl ?_
        refine s_pu (d := some 71) (v := (Sl.v p2)) rfl rfl rfl (r_move rfl) ?_
        refine s_ef (d := some 72) rfl rfl rfl (fun dr => r_call Tryd.call65 rfl rfl H) ?_ trivial
        rintro _ h10 ⟨y22, y23, rfl, H⟩
        refine ⟨trivial, ?_⟩
        refine s_pu (d := some 70) (v := (.tuple #[(.int .i64 y22), y23])) rfl rfl rfl (r_move rfl) ?_
        refine s_pu (d := some 73) (v := (.int .i64 y22)) rfl rfl rfl (r_extract rfl rfl) ?_
        refine s_pu (d := some 74) (v := y23) rfl rfl rfl (r_extract rfl rfl) ?_
        refine s_pu (d := some 21) (v := (.int .i64 y22)) rfl rfl rfl (r_assign rfl) ?_
        refine s_pu (d := some 18) (v := y23) rfl rfl rfl (r_assign rfl) ?_
        refine s_fin ?_
        show W _ _ _ _ _ _ _ _
        refine W_seq ?_
        refine W_region (.pu 0 (.pu 1 (.ef 2 [] (.pu 3 .fin) .no))) rfl rfl ?_
        refine s_pu (d := some 75) (v := y23) rfl rfl rfl (r_move rfl) ?_
        refine s_pu (d := some 76) (v := (.int .i64 y10)) rfl rfl rfl (r_move rfl) ?_
        refine s_ef (d := some 77) rfl rfl rfl (fun dr => r_call Tryd.call12 rfl rfl H) ?_ trivial
        rintro _ h11 ⟨y24, rfl, H⟩
        refine ⟨trivial, ?_⟩
        refine s_pu (d := some 22) (v := (.bool y24)) rfl rfl rfl (r_assign rfl) ?_
        refine s_fin ?_
        show W _ _ _ _ _ _ _ _
        refine W_seq ?_
        refine W_region (.pu 0 (.ef 1 [] (.pu 2 (.pu 3 (.pu 4 (.pu 5 (.pu 6 .fin))))) .no)) rfl rfl ?_
        refine s_pu (d := some 79) (v := (Sl.v p2)) rfl rfl rfl (r_move rfl) ?_
        refine s_ef (d := some 80) rfl rfl rfl (fun dr => r_call Tryd.call66 rfl rfl H) ?_ trivial
        rintro _ h12 ⟨y25, y26, rfl, H⟩
        refine ⟨trivial, ?_⟩
        refine s_pu (d := some 78) (v := (.tuple #[(.int .i64 y25), y26])) rfl rfl rfl (r_move rfl) ?_
        refine s_pu (d := some 81) (v := (.int .i64 y25)) rfl rfl rfl (r_extract rfl rfl) ?_
        refine s_pu (d := some 82) (v := y26) rfl rfl rfl (r_extract rfl rfl) ?_
        refine s_pu (d := some 23) (v := (.int .i64 y25)) rfl rfl rfl (r_assign rfl) ?_
        refine s_pu (d := some 18) (v := y26) rfl rfl rfl (r_assign rfl) ?_
        refine s_fin ?_
        show W _ _ _ _ _ _ _ _
        refine W_seq ?_
        refine W_region (.pu 0 (.pu 1 (.ef 2 [] (.pu 3 .fin) .no))) rfl rfl ?_
        refine s_pu (d := some 83) (v := y26) rfl rfl rfl (r_move rfl) ?_
        refine s_pu (d := some 84) (v := (.int .i64 y10)) rfl rfl rfl (r_move rfl) ?_
        refine s_ef (d := some 85) rfl rfl rfl (fun dr => r_call Tryd.call12 rfl rfl H) ?_ trivial
        rintro _ h13 ⟨y27, rfl, H⟩
        refine ⟨trivial, ?_⟩
        refine s_pu (d := some 24) (v := (.bool y27)) rfl rfl rfl (r_assign rfl) ?_
        refine s_fin ?_
        show W _ _ _ _ _ _ _ _
        refine W_seq ?_
        refine W_seq ?_
        refine W_region (.pu 0 (.pu 1 (.pu 2 (.pu 3 (.pu 4 (.pu 5 (.pu 6 (.pu 7 (.pu 8 (.pu 9 (.pu 10 (.pu 11 (.pu 12 (.pu 13 (.pu 14 (.pu 15 (.pu 16 (.pu 17 (.pu 18 (.pu 19 (.pu 20 (.pu 21 (.pu 22 (.pu 23 (.pu 24 (.pu 25 (.pu 26 (.pu 27 .fin)))))))))))))))))))))))))))) rfl rfl ?_
        refine s_pu (d := some 86) (v := (.bool y12)) rfl rfl rfl (r_move rfl) ?_
        refine s_pu (d := some 87) (v := (.bool (!y12))) rfl rfl rfl (r_not rfl) ?_
        refine s_pu (d := some 88) (v := (.bool (!y12))) rfl rfl rfl (r_move rfl) ?_
        refine S_meet (l := [(2, (Sl.v c3)), (3, (.int .i64 n4)), (4, (.int .i64 rank5)), (15, (.int .i64 place14)), (16, (.int .i64 sign15)), (20, (.bool y21)), (21, (.int .i64 y22)), (22, (.bool y24)), (23, (.int .i64 y25)), (24, (.bool y27)), (91, (.bool ((!y12) || (!y20))))]) (i := 3) ?_ (fun HJ => ?_)
        · intro b
          show S _ _ _ _ _ _
          refine s_pu (d := some 92) (v := (.bool ((!y12) || (!y20)))) rfl rfl rfl (r_move rfl) ?_
          refine S_meet (l := [(2, (Sl.v c3)), (3, (.int .i64 n4)), (4, (.int .i64 rank5)), (15, (.int .i64 place14)), (16, (.int .i64 sign15)), (20, (.bool y21)), (21, (.int .i64 y22)), (23, (.int .i64 y25)), (24, (.bool y27)), (95, (.bool (((!y12) || (!y20)) || (!y24))))]) (i := 3) ?_ (fun HJ => ?_)
          · intro b
            show S _ _ _ _ _ _
            refine s_pu (d := some 96) (v := (.bool (((!y12) || (!y20)) || (!y24)))) rfl rfl rfl (r_move rfl) ?_
            refine S_meet (l := [(2, (Sl.v c3)), (3, (.int .i64 n4)), (4, (.int .i64 rank5)), (15, (.int .i64 place14)), (16, (.int .i64 sign15)), (20, (.bool y21)), (21, (.int .i64 y22)), (23, (.int .i64 y25)), (99, (.bool ((((!y12) || (!y20)) || (!y24)) || (!y27))))]) (i := 3) ?_ (fun HJ => ?_)
            · intro b
              show S _ _ _ _ _ _
              refine s_pu (d := some 100) (v := (.bool ((((!y12) || (!y20)) || (!y24)) || (!y27)))) rfl rfl rfl (r_move rfl) ?_
              refine S_meet (l := [(2, (Sl.v c3)), (3, (.int .i64 n4)), (4, (.int .i64 rank5)), (15, (.int .i64 place14)), (16, (.int .i64 sign15)), (21, (.int .i64 y22)), (23, (.int .i64 y25)), (103, (.bool (((((!y12) || (!y20)) || (!y24)) || (!y27)) || (!y21))))]) (i := 3) ?_ (fun HJ => ?_)
              · intro b
                show S _ _ _ _ _ _
                refine s_pu (d := some 104) (v := (.bool (((((!y12) || (!y20)) || (!y24)) || (!y27)) || (!y21)))) rfl rfl rfl (r_move rfl) ?_
                refine S_meet (l := [(2, (Sl.v c3)), (3, (.int .i64 n4)), (4, (.int .i64 rank5)), (16, (.int .i64 sign15)), (23, (.int .i64 y25)), (108, (.bool ((((((!y12) || (!y20)) || (!y24)) || (!y27)) || (!y21)) || (!decide (y22 = place14)))))]) (i := 4) ?_ (fun HJ => ?_)
                · intro b
                  show S _ _ _ _ _ _
                  refine s_pu (d := some 109) (v := (.bool ((((((!y12) || (!y20)) || (!y24)) || (!y27)) || (!y21)) || (!decide (y22 = place14))))) rfl rfl rfl (r_move rfl) ?_
                  refine S_meet (l := [(2, (Sl.v c3)), (3, (.int .i64 n4)), (4, (.int .i64 rank5)), (113, (.bool (((((((!y12) || (!y20)) || (!y24)) || (!y27)) || (!y21)) || (!decide (y22 = place14))) || (!decide (y25 = sign15)))))]) (i := 4) ?_ (fun HJ => ?_)
                  · intro b
                    show S _ _ _ _ _ _
                    refine s_fin ?_
                    show W _ _ _ _ _ _ _ _
                    refine W_if (((((((!y12) || (!y20)) || (!y24)) || (!y27)) || (!y21)) || (!decide (y22 = place14))) || (!decide (y25 = sign15))) rfl (fun g87 => ?_) (fun g87 => ?_)
                    · have H := H.1 g87
                      refine W_seq ?_
                      refine W_region (.pu 0 .fin) rfl rfl ?_
                      refine s_pu (d := some 10) (v := (.bool false)) rfl rfl rfl (r_assign rfl) ?_
                      refine s_fin ?_
                      show W _ _ _ _ _ _ _ _
                      refine W_ret ?_
                      exact ⟨[(.bool false)], ⟨_, _, rfl, rfl, rfl⟩, false, rfl, H⟩
                    · have H := H.2 g87
                      refine W_skip ?_
                      show W _ _ _ _ _ _ _ _
                      refine W_seq ?_
                      refine W_region (.pu 0 (.ef 1 [] (.pu 2 (.pu 3 (.pu 4 (.pu 5 (.pu 6 .fin))))) .no)) rfl rfl ?_
                      refine s_pu (d := some 115) (v := (Sl.v c3)) rfl rfl rfl (r_move rfl) ?_
                      refine s_ef (d := some 116) rfl rfl rfl (fun dr => r_call Tryd.call67 rfl rfl H) ?_ trivial
                      rintro _ h14 ⟨y46, y47, rfl, H⟩
                      refine ⟨trivial, ?_⟩
                      refine s_pu (d := some 114) (v := (.tuple #[(Sl.v y46), (.int .i64 y47)])) rfl rfl rfl (r_move rfl) ?_
                      refine s_pu (d := some 117) (v := (Sl.v y46)) rfl rfl rfl (r_extract rfl rfl) ?_
                      refine s_pu (d := some 118) (v := (.int .i64 y47)) rfl rfl rfl (r_extract rfl rfl) ?_
                      refine s_pu (d := some 25) (v := (Sl.v y46)) rfl rfl rfl (r_assign rfl) ?_
                      refine s_pu (d := some 26) (v := (.int .i64 y47)) rfl rfl rfl (r_assign rfl) ?_
                      refine s_fin ?_
                      show W _ _ _ _ _ _ _ _
                      refine W_seq ?_
                      refine W_region (.pu 0 (.ef 1 [] (.pu 2 (.pu 3 (.pu 4 (.pu 5 (.pu 6 .fin))))) .no)) rfl rfl ?_
                      refine s_pu (d := some 120) (v := (Sl.v c3)) rfl rfl rfl (r_move rfl) ?_
                      refine s_ef (d := some 121) rfl rfl rfl (fun dr => r_call Tryd.call68 rfl rfl H) ?_ trivial
                      rintro _ h15 ⟨y48, y49, rfl, H⟩
                      refine ⟨trivial, ?_⟩
                      refine s_pu (d := some 119) (v := (.tuple #[(Sl.v y48), y49])) rfl rfl rfl (r_move rfl) ?_
                      refine s_pu (d := some 122) (v := (Sl.v y48)) rfl rfl rfl (r_extract rfl rfl) ?_
                      refine s_pu (d := some 123) (v := y49) rfl rfl rfl (r_extract rfl rfl) ?_
                      refine s_pu (d := some 27) (v := (Sl.v y48)) rfl rfl rfl (r_assign rfl) ?_
                      refine s_pu (d := some 18) (v := y49) rfl rfl rfl (r_assign rfl) ?_
                      refine s_fin ?_
                      show W _ _ _ _ _ _ _ _
                      refine W_seq ?_
                      refine W_region (.pu 0 (.pu 1 (.ef 2 [] (.pu 3 .fin) .no))) rfl rfl ?_
                      refine s_pu (d := some 124) (v := y49) rfl rfl rfl (r_move rfl) ?_
                      refine s_pu (d := some 125) (v := (.int .i64 y47)) rfl rfl rfl (r_move rfl) ?_
                      refine s_ef (d := some 126) rfl rfl rfl (fun dr => r_call Tryd.call12 rfl rfl H) ?_ trivial
                      rintro _ h16 ⟨y50, rfl, H⟩
                      refine ⟨trivial, ?_⟩
                      refine s_pu (d := some 28) (v := (.bool y50)) rfl rfl rfl (r_assign rfl) ?_
                      refine s_fin ?_
                      show W _ _ _ _ _ _ _ _
                      refine W_seq ?_
                      refine W_region (.pu 0 (.pu 1 (.ef 2 [] (.pu 3 .fin) .no))) rfl rfl ?_
                      refine s_pu (d := some 127) (v := (Sl.v y48)) rfl rfl rfl (r_move rfl) ?_
                      refine s_pu (d := some 128) (v := (Sl.v y46)) rfl rfl rfl (r_move rfl) ?_
                      refine s_ef (d := some 129) rfl rfl rfl (fun dr => r_call Tryd.call17 rfl rfl H) ?_ trivial
                      rintro _ h17 ⟨y51, rfl, H⟩
                      refine ⟨trivial, ?_⟩
                      refine s_pu (d := some 29) (v := (.bool y51)) rfl rfl rfl (r_assign rfl) ?_
                      refine s_fin ?_
                      show W _ _ _ _ _ _ _ _
                      refine W_seq ?_
                      refine W_seq ?_
                      refine W_region (.pu 0 (.pu 1 (.pu 2 (.pu 3 (.pu 4 (.pu 5 .fin)))))) rfl rfl ?_
                      refine s_pu (d := some 130) (v := (.bool y50)) rfl rfl rfl (r_move rfl) ?_
                      refine s_pu (d := some 131) (v := (.bool (!y50))) rfl rfl rfl (r_not rfl) ?_
                      refine s_pu (d := some 132) (v := (.bool (!y50))) rfl rfl rfl (r_move rfl) ?_
                      refine S_meet (l := [(3, (.int .i64 n4)), (4, (.int .i64 rank5)), (135, (.bool ((!y50) || (!y51))))]) (i := 3) ?_ (fun HJ => ?_)
                      · intro b
                        show S _ _ _ _ _ _
                        refine s_fin ?_
                        show W _ _ _ _ _ _ _ _
                        refine W_if ((!y50) || (!y51)) rfl (fun g85 => ?_) (fun g85 => ?_)
                        · have H := H.1 g85
                          refine W_seq ?_
                          refine W_region (.pu 0 .fin) rfl rfl ?_
                          refine s_pu (d := some 10) (v := (.bool false)) rfl rfl rfl (r_assign rfl) ?_
                          refine s_fin ?_
                          show W _ _ _ _ _ _ _ _
                          refine W_ret ?_
                          exact ⟨[(.bool false)], ⟨_, _, rfl, rfl, rfl⟩, false, rfl, H⟩
                        · have H := H.2 g85
                          refine W_skip ?_
                          show W _ _ _ _ _ _ _ _
                          refine W_seq ?_
                          refine W_region (.pu 0 .fin) rfl rfl ?_
                          refine s_pu (d := some 26) (v := (.int .i64 0)) rfl rfl rfl (r_assign rfl) ?_
                          refine s_fin ?_
                          show W _ _ _ _ _ _ _ _
                          refine W_seq ?_
                          refine W_seq ?_
                          refine W_set ?_
                          intro N57 eN57
                          have H := H (fun (x55 : Bool) (h18 : Heap) => ∀ b, N57 [] (mkE [(3, (.int .i64 n4)), (4, (.int .i64 rank5)), (26, (.int .i64 0)), (151, (.bool x55))] b) h18) (by
                            intro x55 h18 H b
                            rw [eN57]
                            show W _ _ _ _ _ _ _ _
                            refine W_set ?_
                            intro N60 eN60
                            have H := H (fun (f58 : Int) => ∀ b, N60 [] (mkE [(3, (.int .i64 n4)), (4, (.int .i64 rank5)), (26, (.int .i64 f58))] b) h18) (by
                              intro f58 H b
                              rw [eN60]
                              show W _ _ _ _ _ _ _ _
                              refine W_seq ?_
                              refine W_region (.pu 0 (.pu 1 (.ef 2 [] (.pu 3 (.pu 4 (.pu 5 (.pu 6 (.pu 7 .fin))))) .no))) rfl rfl ?_
                              refine s_pu (d := some 153) (v := (.int .i64 n4)) rfl rfl rfl (r_move rfl) ?_
                              refine s_pu (d := some 154) (v := (.int .i64 rank5)) rfl rfl rfl (r_move rfl) ?_
                              refine s_ef (d := some 155) rfl rfl rfl (fun dr => r_call Tryd.call70 rfl rfl H) ?_ trivial
                              rintro _ h19 ⟨y61, y62, rfl, H⟩
                              refine ⟨trivial, ?_⟩
                              refine s_pu (d := some 152) (v := (.tuple #[(Sl.v y61), y62])) rfl rfl rfl (r_move rfl) ?_
                              refine s_pu (d := some 156) (v := (Sl.v y61)) rfl rfl rfl (r_extract rfl rfl) ?_
                              refine s_pu (d := some 157) (v := y62) rfl rfl rfl (r_extract rfl rfl) ?_
                              refine s_pu (d := some 30) (v := (Sl.v y61)) rfl rfl rfl (r_assign rfl) ?_
                              refine s_pu (d := some 18) (v := y62) rfl rfl rfl (r_assign rfl) ?_
                              refine s_fin ?_
                              show W _ _ _ _ _ _ _ _
                              refine W_seq ?_
                              refine W_region (.pu 0 (.pu 1 (.ef 2 [] (.pu 3 .fin) .no))) rfl rfl ?_
                              refine s_pu (d := some 158) (v := y62) rfl rfl rfl (r_move rfl) ?_
                              refine s_pu (d := some 159) (v := (.int .i64 f58)) rfl rfl rfl (r_move rfl) ?_
                              refine s_ef (d := some 160) rfl rfl rfl (fun dr => r_call Tryd.call12 rfl rfl H) ?_ trivial
                              rintro _ h20 ⟨y63, rfl, H⟩
                              refine ⟨trivial, ?_⟩
                              refine s_pu (d := some 31) (v := (.bool y63)) rfl rfl rfl (r_assign rfl) ?_
                              refine s_fin ?_
                              show W _ _ _ _ _ _ _ _
                              refine W_seq ?_
                              refine W_seq ?_
                              refine W_set ?_
                              intro N67 eN67
                              have H := H (fun (x65 : Bool) => ∀ b, N67 [] (mkE [(3, (.int .i64 n4)), (4, (.int .i64 rank5)), (26, (.int .i64 f58)), (30, (Sl.v y61)), (171, (.bool x65))] b) h20) (by
                                intro x65 H b
                                rw [eN67]
                                show W _ _ _ _ _ _ _ _
                                refine W_if x65 rfl (fun g76 => ?_) (fun g76 => ?_)
                                · have H := H.1 g76
                                  refine W_seq ?_
                                  refine W_region (.pu 0 .fin) rfl rfl ?_
                                  refine s_pu (d := some 10) (v := (.bool false)) rfl rfl rfl (r_assign rfl) ?_
                                  refine s_fin ?_
                                  show W _ _ _ _ _ _ _ _
                                  refine W_ret ?_
                                  exact ⟨[(.bool false)], ⟨_, _, rfl, rfl, rfl⟩, false, rfl, H⟩
                                · have H := H.2 g76
                                  refine W_skip ?_
                                  show W _ _ _ _ _ _ _ _
                                  refine W_seq ?_
                                  refine W_set ?_
                                  intro N70 eN70
                                  have H := H (fun (x68 : Bool) (h21 : Heap) => ∀ b, N70 [] (mkE [(10, (.bool x68))] b) h21) (by
                                    intro x68 h21 H b
                                    rw [eN70]
                                    show W _ _ _ _ _ _ _ _
                                    refine W_ret ?_
                                    exact ⟨[(.bool x68)], ⟨_, _, rfl, rfl, rfl⟩, x68, rfl, H⟩)
                                  clear eN70
                                  refine W_region (.pu 0 (.pu 1 (.pu 2 (.pu 3 (.ef 4 [] (.pu 5 (.pu 6 (.pu 7 (.pu 8 (.pu 9 (.pu 10 (.pu 11 (.pu 12 (.pu 13 (.ef 14 [] (.pu 15 (.pu 16 (.pu 17 (.pu 18 (.pu 19 .fin))))) .no)))))))))) .no))))) rfl rfl ?_
                                  refine s_pu (d := some 172) (v := (.int .i64 f58)) rfl rfl rfl (r_move rfl) ?_
                                  refine s_pu (d := some 173) (v := (.bool (!decide (f58 = 0)))) rfl rfl rfl (r_neq rfl rfl) ?_
                                  refine s_pu (d := some 174) (v := (.bool (!decide (f58 = 0)))) rfl rfl rfl (r_move rfl) ?_
                                  rcases Bool.eq_false_or_eq_true (!decide (f58 = 0)) with g71 | g71
                                  · have H := H.1 g71
                                    refine s_sk (d := some 175) rfl rfl (wants_no rfl rfl rfl rfl g71) ?_
                                    refine s_skf (d := some 176) rfl rfl (wants_no rfl rfl rfl rfl g71) trivial ?_ trivial
                                    refine s_sk (d := some 177) rfl rfl (wants_no rfl rfl rfl rfl g71) ?_
                                    refine s_sk (d := some 178) rfl rfl (wants_no rfl rfl rfl rfl g71) ?_
                                    refine s_sk (d := some 179) rfl rfl (wants_un rfl rfl rfl) ?_
                                    refine s_sk (d := some 180) rfl rfl (wants_un rfl rfl rfl) ?_
                                    refine s_sk (d := some 181) rfl rfl (wants_un rfl rfl rfl) ?_
                                    refine s_sk (d := some 182) rfl rfl (wants_un rfl rfl rfl) ?_
                                    refine s_sk (d := some 183) rfl rfl (wants_no rfl rfl rfl rfl g71) ?_
                                    refine s_sk (d := some 184) rfl rfl (wants_no rfl rfl rfl rfl g71) ?_
                                    refine s_sk (d := some 185) rfl rfl (wants_un rfl rfl rfl) ?_
                                    refine s_skf (d := some 186) rfl rfl (wants_un rfl rfl rfl) trivial ?_ trivial
                                    refine s_sk (d := some 187) rfl rfl (wants_un rfl rfl rfl) ?_
                                    refine s_sk (d := some 188) rfl rfl (wants_un rfl rfl rfl) ?_
                                    refine s_sk (d := some 189) rfl rfl (wants_no rfl rfl rfl rfl g71) ?_
                                    refine s_pu (d := some 190) (v := (.bool true)) rfl rfl rfl (r_pick1 rfl g71 rfl) ?_
                                    refine s_pu (d := some 10) (v := (.bool true)) rfl rfl rfl (r_assign rfl) ?_
                                    refine s_fin ?_
                                    exact N_mk (l := [(10, (.bool true))]) H ⟨rfl, trivial⟩
                                  · have H := H.2 g71
                                    refine s_pu (d := some 175) (v := (Sl.v y61)) rfl rfl (wants_yes rfl rfl rfl rfl g71) (r_move rfl) ?_
                                    refine s_ef (d := some 176) rfl rfl (wants_yes rfl rfl rfl rfl g71) (fun dr => r_call Tryd.call60 rfl rfl H) ?_ trivial
                                    rintro _ h22 ⟨y72, rfl, H⟩
                                    refine ⟨trivial, ?_⟩
                                    refine s_pu (d := some 177) (v := (.bool (decide (y72 = 0)))) rfl rfl (wants_yes rfl rfl rfl rfl g71) (r_eql rfl rfl) ?_
                                    refine s_pu (d := some 178) (v := (.bool (decide (y72 = 0)))) rfl rfl (wants_yes rfl rfl rfl rfl g71) (r_move rfl) ?_
                                    rcases Bool.eq_false_or_eq_true (decide (y72 = 0)) with g73 | g73
                                    · have H := H.1 g73
                                      refine s_pu (d := some 179) (v := (Sl.v y61)) rfl rfl (wants_yes rfl rfl rfl rfl g73) (r_move rfl) ?_
                                      refine s_pu (d := some 180) (v := (.int .i64 ((y61.len : Int)))) rfl rfl (wants_yes rfl rfl rfl rfl g73) (r_len Tryd.underlying22 rfl) ?_
                                      refine s_pu (d := some 181) (v := (.int .i64 n4)) rfl rfl (wants_yes rfl rfl rfl rfl g73) (r_move rfl) ?_
                                      refine s_pu (d := some 182) (v := (.bool (decide (((y61.len : Int)) = n4)))) rfl rfl (wants_yes rfl rfl rfl rfl g73) (r_eql rfl rfl) ?_
                                      refine s_pu (d := some 183) (v := (.bool (decide (((y61.len : Int)) = n4)))) rfl rfl (wants_yes rfl rfl rfl rfl g71) (r_pick1 rfl g73 rfl) ?_
                                      refine s_pu (d := some 184) (v := (.bool (decide (((y61.len : Int)) = n4)))) rfl rfl (wants_yes rfl rfl rfl rfl g71) (r_move rfl) ?_
                                      rcases Bool.eq_false_or_eq_true (decide (((y61.len : Int)) = n4)) with g74 | g74
                                      · have H := H.1 g74
                                        refine s_pu (d := some 185) (v := (Sl.v y61)) rfl rfl (wants_yes rfl rfl rfl rfl g74) (r_move rfl) ?_
                                        refine s_ef (d := some 186) rfl rfl (wants_yes rfl rfl rfl rfl g74) (fun dr => r_call Tryd.call63 rfl rfl H) ?_ trivial
                                        rintro _ h23 ⟨y75, rfl, H⟩
                                        refine ⟨trivial, ?_⟩
                                        refine s_pu (d := some 187) (v := (.int .i64 rank5)) rfl rfl (wants_yes rfl rfl rfl rfl g74) (r_move rfl) ?_
                                        refine s_pu (d := some 188) (v := (.bool (decide (y75 = rank5)))) rfl rfl (wants_yes rfl rfl rfl rfl g74) (r_eql rfl rfl) ?_
                                        refine s_pu (d := some 189) (v := (.bool (decide (y75 = rank5)))) rfl rfl (wants_yes rfl rfl rfl rfl g71) (r_pick1 rfl g74 rfl) ?_
                                        refine s_pu (d := some 190) (v := (.bool (decide (y75 = rank5)))) rfl rfl rfl (r_pick0 rfl g71 rfl) ?_
                                        refine s_pu (d := some 10) (v := (.bool (decide (y75 = rank5)))) rfl rfl rfl (r_assign rfl) ?_
                                        refine s_fin ?_
                                        exact N_mk (l := [(10, (.bool (decide (y75 = rank5))))]) H ⟨rfl, trivial⟩
                                      · have H := H.2 g74
                                        refine s_sk (d := some 185) rfl rfl (wants_no rfl rfl rfl rfl g74) ?_
                                        refine s_skf (d := some 186) rfl rfl (wants_no rfl rfl rfl rfl g74) trivial ?_ trivial
                                        refine s_sk (d := some 187) rfl rfl (wants_no rfl rfl rfl rfl g74) ?_
                                        refine s_sk (d := some 188) rfl rfl (wants_no rfl rfl rfl rfl g74) ?_
                                        refine s_pu (d := some 189) (v := (.bool false)) rfl rfl (wants_yes rfl rfl rfl rfl g71) (r_pick0 rfl g74 rfl) ?_
                                        refine s_pu (d := some 190) (v := (.bool false)) rfl rfl rfl (r_pick0 rfl g71 rfl) ?_
                                        refine s_pu (d := some 10) (v := (.bool false)) rfl rfl rfl (r_assign rfl) ?_
                                        refine s_fin ?_
                                        exact N_mk (l := [(10, (.bool false))]) H ⟨rfl, trivial⟩
                                    · have H := H.2 g73
                                      refine s_sk (d := some 179) rfl rfl (wants_no rfl rfl rfl rfl g73) ?_
                                      refine s_sk (d := some 180) rfl rfl (wants_no rfl rfl rfl rfl g73) ?_
                                      refine s_sk (d := some 181) rfl rfl (wants_no rfl rfl rfl rfl g73) ?_
                                      refine s_sk (d := some 182) rfl rfl (wants_no rfl rfl rfl rfl g73) ?_
                                      refine s_pu (d := some 183) (v := (.bool false)) rfl rfl (wants_yes rfl rfl rfl rfl g71) (r_pick0 rfl g73 rfl) ?_
                                      refine s_pu (d := some 184) (v := (.bool false)) rfl rfl (wants_yes rfl rfl rfl rfl g71) (r_move rfl) ?_
                                      refine s_sk (d := some 185) rfl rfl (wants_no rfl rfl rfl rfl rfl) ?_
                                      refine s_skf (d := some 186) rfl rfl (wants_no rfl rfl rfl rfl rfl) trivial ?_ trivial
                                      refine s_sk (d := some 187) rfl rfl (wants_no rfl rfl rfl rfl rfl) ?_
                                      refine s_sk (d := some 188) rfl rfl (wants_no rfl rfl rfl rfl rfl) ?_
                                      refine s_pu (d := some 189) (v := (.bool false)) rfl rfl (wants_yes rfl rfl rfl rfl g71) (r_pick0 rfl rfl rfl) ?_
                                      refine s_pu (d := some 190) (v := (.bool false)) rfl rfl rfl (r_pick0 rfl g71 rfl) ?_
                                      refine s_pu (d := some 10) (v := (.bool false)) rfl rfl rfl (r_assign rfl) ?_
                                      refine s_fin ?_
                                      exact N_mk (l := [(10, (.bool false))]) H ⟨rfl, trivial⟩)
                              clear eN67
                              refine W_region (.pu 0 (.pu 1 (.pu 2 (.pu 3 (.pu 4 (.pu 5 (.pu 6 (.pu 7 (.pu 8 (.pu 9 (.pu 10 .fin))))))))))) rfl rfl ?_
                              refine s_pu (d := some 161) (v := (.bool y63)) rfl rfl rfl (r_move rfl) ?_
                              refine s_pu (d := some 162) (v := (.bool (!y63))) rfl rfl rfl (r_not rfl) ?_
                              refine s_pu (d := some 163) (v := (.bool (!y63))) rfl rfl rfl (r_move rfl) ?_
                              rcases Bool.eq_false_or_eq_true (!y63) with g78 | g78
                              · have H := H.1 g78
                                refine s_sk (d := some 164) rfl rfl (wants_no rfl rfl rfl rfl g78) ?_
                                refine s_sk (d := some 165) rfl rfl (wants_no rfl rfl rfl rfl g78) ?_
                                refine s_sk (d := some 166) rfl rfl (wants_no rfl rfl rfl rfl g78) ?_
                                refine s_sk (d := some 167) rfl rfl (wants_un rfl rfl rfl) ?_
                                refine s_sk (d := some 168) rfl rfl (wants_un rfl rfl rfl) ?_
                                refine s_sk (d := some 169) rfl rfl (wants_un rfl rfl rfl) ?_
                                refine s_sk (d := some 170) rfl rfl (wants_no rfl rfl rfl rfl g78) ?_
                                refine s_pu (d := some 171) (v := (.bool true)) rfl rfl rfl (r_pick1 rfl g78 rfl) ?_
                                refine s_fin ?_
                                exact N_mk (l := [(3, (.int .i64 n4)), (4, (.int .i64 rank5)), (26, (.int .i64 f58)), (30, (Sl.v y61)), (171, (.bool true))]) H ⟨rfl, rfl, rfl, rfl, rfl, trivial⟩
                              · have H := H.2 g78
                                refine s_pu (d := some 164) (v := (.int .i64 f58)) rfl rfl (wants_yes rfl rfl rfl rfl g78) (r_move rfl) ?_
                                refine s_pu (d := some 165) (v := (.bool (!decide (f58 = 0)))) rfl rfl (wants_yes rfl rfl rfl rfl g78) (r_neq rfl rfl) ?_
                                refine s_pu (d := some 166) (v := (.bool (!decide (f58 = 0)))) rfl rfl (wants_yes rfl rfl rfl rfl g78) (r_move rfl) ?_
                                rcases Bool.eq_false_or_eq_true (!decide (f58 = 0)) with g79 | g79
                                · have H := H.1 g79
                                  refine s_pu (d := some 167) (v := (Sl.v y61)) rfl rfl (wants_yes rfl rfl rfl rfl g79) (r_move rfl) ?_
                                  refine s_pu (d := some 168) (v := (.int .i64 ((y61.len : Int)))) rfl rfl (wants_yes rfl rfl rfl rfl g79) (r_len Tryd.underlying22 rfl) ?_
                                  refine s_pu (d := some 169) (v := (.bool (decide (0 < ((y61.len : Int)))))) rfl rfl (wants_yes rfl rfl rfl rfl g79) (r_gtr rfl rfl) ?_
                                  refine s_pu (d := some 170) (v := (.bool (decide (0 < ((y61.len : Int)))))) rfl rfl (wants_yes rfl rfl rfl rfl g78) (r_pick1 rfl g79 rfl) ?_
                                  refine s_pu (d := some 171) (v := (.bool (decide (0 < ((y61.len : Int)))))) rfl rfl rfl (r_pick0 rfl g78 rfl) ?_
                                  refine s_fin ?_
                                  exact N_mk (l := [(3, (.int .i64 n4)), (4, (.int .i64 rank5)), (26, (.int .i64 f58)), (30, (Sl.v y61)), (171, (.bool (decide (0 < ((y61.len : Int))))))]) H ⟨rfl, rfl, rfl, rfl, rfl, trivial⟩
                                · have H := H.2 g79
                                  refine s_sk (d := some 167) rfl rfl (wants_no rfl rfl rfl rfl g79) ?_
                                  refine s_sk (d := some 168) rfl rfl (wants_no rfl rfl rfl rfl g79) ?_
                                  refine s_sk (d := some 169) rfl rfl (wants_no rfl rfl rfl rfl g79) ?_
                                  refine s_pu (d := some 170) (v := (.bool false)) rfl rfl (wants_yes rfl rfl rfl rfl g78) (r_pick0 rfl g79 rfl) ?_
                                  refine s_pu (d := some 171) (v := (.bool false)) rfl rfl rfl (r_pick0 rfl g78 rfl) ?_
                                  refine s_fin ?_
                                  exact N_mk (l := [(3, (.int .i64 n4)), (4, (.int .i64 rank5)), (26, (.int .i64 f58)), (30, (Sl.v y61)), (171, (.bool false))]) H ⟨rfl, rfl, rfl, rfl, rfl, trivial⟩)
                            clear eN60
                            refine W_if x55 rfl (fun g80 => ?_) (fun g80 => ?_)
                            · have H := H.1 g80
                              refine W_region (.pu 0 .fin) rfl rfl ?_
                              refine s_pu (d := some 26) (v := (.int .i64 1)) rfl rfl rfl (r_assign rfl) ?_
                              refine s_fin ?_
                              exact N_mk (l := [(3, (.int .i64 n4)), (4, (.int .i64 rank5)), (26, (.int .i64 1))]) H ⟨rfl, rfl, rfl, trivial⟩
                            · have H := H.2 g80
                              refine W_skip ?_
                              exact N_mk (l := [(3, (.int .i64 n4)), (4, (.int .i64 rank5)), (26, (.int .i64 0))]) H ⟨rfl, rfl, rfl, trivial⟩)
                          clear eN57
                          refine W_region (.pu 0 (.pu 1 (.pu 2 (.pu 3 (.pu 4 (.pu 5 (.pu 6 (.pu 7 (.pu 8 (.pu 9 (.pu 10 (.pu 11 (.pu 12 (.ef 13 [] (.pu 14 (.pu 15 .fin)) .no)))))))))))))) rfl rfl ?_
                          refine s_pu (d := some 136) (v := (.int .i64 n4)) rfl rfl rfl (r_move rfl) ?_
                          refine s_pu (d := some 137) (v := (.bool (decide (n4 < 0)))) rfl rfl rfl (r_lss rfl rfl) ?_
                          refine s_pu (d := some 138) (v := (.bool (decide (n4 < 0)))) rfl rfl rfl (r_move rfl) ?_
                          rcases Bool.eq_false_or_eq_true (decide (n4 < 0)) with g81 | g81
                          · have H := H.1 g81
                            refine s_sk (d := some 139) rfl rfl (wants_no rfl rfl rfl rfl g81) ?_
                            refine s_sk (d := some 140) rfl rfl (wants_no rfl rfl rfl rfl g81) ?_
                            refine s_pu (d := some 141) (v := (.bool true)) rfl rfl rfl (r_pick1 rfl g81 rfl) ?_
                            refine s_pu (d := some 142) (v := (.bool true)) rfl rfl rfl (r_move rfl) ?_
                            refine s_sk (d := some 143) rfl rfl (wants_no rfl rfl rfl rfl rfl) ?_
                            refine s_sk (d := some 144) rfl rfl (wants_no rfl rfl rfl rfl rfl) ?_
                            refine s_pu (d := some 145) (v := (.bool true)) rfl rfl rfl (r_pick1 rfl rfl rfl) ?_
                            refine s_pu (d := some 146) (v := (.bool true)) rfl rfl rfl (r_move rfl) ?_
                            refine s_sk (d := some 147) rfl rfl (wants_no rfl rfl rfl rfl rfl) ?_
                            refine s_sk (d := some 148) rfl rfl (wants_no rfl rfl rfl rfl rfl) ?_
                            refine s_skf (d := some 149) rfl rfl (wants_no rfl rfl rfl rfl rfl) trivial ?_ trivial
                            refine s_sk (d := some 150) rfl rfl (wants_no rfl rfl rfl rfl rfl) ?_
                            refine s_pu (d := some 151) (v := (.bool true)) rfl rfl rfl (r_pick1 rfl rfl rfl) ?_
                            refine s_fin ?_
                            exact N_mk (l := [(3, (.int .i64 n4)), (4, (.int .i64 rank5)), (26, (.int .i64 0)), (151, (.bool true))]) H ⟨rfl, rfl, rfl, rfl, trivial⟩
                          · have H := H.2 g81
                            refine s_pu (d := some 139) (v := (.int .i64 n4)) rfl rfl (wants_yes rfl rfl rfl rfl g81) (r_move rfl) ?_
                            refine s_pu (d := some 140) (v := (.bool (decide (20 < n4)))) rfl rfl (wants_yes rfl rfl rfl rfl g81) (r_gtr rfl rfl) ?_
                            refine s_pu (d := some 141) (v := (.bool (decide (20 < n4)))) rfl rfl rfl (r_pick0 rfl g81 rfl) ?_
                            refine s_pu (d := some 142) (v := (.bool (decide (20 < n4)))) rfl rfl rfl (r_move rfl) ?_
                            rcases Bool.eq_false_or_eq_true (decide (20 < n4)) with g82 | g82
                            · have H := H.1 g82
                              refine s_sk (d := some 143) rfl rfl (wants_no rfl rfl rfl rfl g82) ?_
                              refine s_sk (d := some 144) rfl rfl (wants_no rfl rfl rfl rfl g82) ?_
                              refine s_pu (d := some 145) (v := (.bool true)) rfl rfl rfl (r_pick1 rfl g82 rfl) ?_
                              refine s_pu (d := some 146) (v := (.bool true)) rfl rfl rfl (r_move rfl) ?_
                              refine s_sk (d := some 147) rfl rfl (wants_no rfl rfl rfl rfl rfl) ?_
                              refine s_sk (d := some 148) rfl rfl (wants_no rfl rfl rfl rfl rfl) ?_
                              refine s_skf (d := some 149) rfl rfl (wants_no rfl rfl rfl rfl rfl) trivial ?_ trivial
                              refine s_sk (d := some 150) rfl rfl (wants_no rfl rfl rfl rfl rfl) ?_
                              refine s_pu (d := some 151) (v := (.bool true)) rfl rfl rfl (r_pick1 rfl rfl rfl) ?_
                              refine s_fin ?_
                              exact N_mk (l := [(3, (.int .i64 n4)), (4, (.int .i64 rank5)), (26, (.int .i64 0)), (151, (.bool true))]) H ⟨rfl, rfl, rfl, rfl, trivial⟩
                            · have H := H.2 g82
                              refine s_pu (d := some 143) (v := (.int .i64 rank5)) rfl rfl (wants_yes rfl rfl rfl rfl g82) (r_move rfl) ?_
                              refine s_pu (d := some 144) (v := (.bool (decide (rank5 < 0)))) rfl rfl (wants_yes rfl rfl rfl rfl g82) (r_lss rfl rfl) ?_
                              refine s_pu (d := some 145) (v := (.bool (decide (rank5 < 0)))) rfl rfl rfl (r_pick0 rfl g82 rfl) ?_
                              refine s_pu (d := some 146) (v := (.bool (decide (rank5 < 0)))) rfl rfl rfl (r_move rfl) ?_
                              rcases Bool.eq_false_or_eq_true (decide (rank5 < 0)) with g83 | g83
                              · have H := H.1 g83
                                refine s_sk (d := some 147) rfl rfl (wants_no rfl rfl rfl rfl g83) ?_
                                refine s_sk (d := some 148) rfl rfl (wants_no rfl rfl rfl rfl g83) ?_
                                refine s_skf (d := some 149) rfl rfl (wants_no rfl rfl rfl rfl g83) trivial ?_ trivial
                                refine s_sk (d := some 150) rfl rfl (wants_no rfl rfl rfl rfl g83) ?_
                                refine s_pu (d := some 151) (v := (.bool true)) rfl rfl rfl (r_pick1 rfl g83 rfl) ?_
                                refine s_fin ?_
                                exact N_mk (l := [(3, (.int .i64 n4)), (4, (.int .i64 rank5)), (26, (.int .i64 0)), (151, (.bool true))]) H ⟨rfl, rfl, rfl, rfl, trivial⟩
                              · have H := H.2 g83
                                refine s_pu (d := some 147) (v := (.int .i64 rank5)) rfl rfl (wants_yes rfl rfl rfl rfl g83) (r_move rfl) ?_
                                refine s_pu (d := some 148) (v := (.int .i64 n4)) rfl rfl (wants_yes rfl rfl rfl rfl g83) (r_move rfl) ?_
                                refine s_ef (d := some 149) rfl rfl (wants_yes rfl rfl rfl rfl g83) (fun dr => r_call Tryd.call69 rfl rfl H) ?_ trivial
                                rintro _ h24 ⟨y84, rfl, H⟩
                                refine ⟨trivial, ?_⟩
                                refine s_pu (d := some 150) (v := (.bool (decide (y84 ≤ rank5)))) rfl rfl (wants_yes rfl rfl rfl rfl g83) (r_geq rfl rfl) ?_
                                refine s_pu (d := some 151) (v := (.bool (decide (y84 ≤ rank5)))) rfl rfl rfl (r_pick0 rfl g83 rfl) ?_
                                refine s_fin ?_
                                exact N_mk (l := [(3, (.int .i64 n4)), (4, (.int .i64 rank5)), (26, (.int .i64 0)), (151, (.bool (decide (y84 ≤ rank5))))]) H ⟨rfl, rfl, rfl, rfl, trivial⟩
                      · rcases Bool.eq_false_or_eq_true (!y50) with g52 | g52
                        · refine s_sk (d := some 133) rfl rfl (wants_no rfl rfl rfl rfl g52) ?_
                          refine s_sk (d := some 134) rfl rfl (wants_no rfl rfl rfl rfl g52) ?_
                          refine s_pu (d := some 135) (v := (.bool true)) rfl rfl rfl (r_pick1 rfl g52 rfl) ?_
                          exact S_mk (l := [(3, (.int .i64 n4)), (4, (.int .i64 rank5)), (135, (.bool ((!y50) || (!y51))))]) HJ ⟨rfl, rfl, (by rw [g52]; rfl), trivial⟩
                        · refine s_pu (d := some 133) (v := (.bool y51)) rfl rfl (wants_yes rfl rfl rfl rfl g52) (r_move rfl) ?_
                          refine s_pu (d := some 134) (v := (.bool (!y51))) rfl rfl (wants_yes rfl rfl rfl rfl g52) (r_not rfl) ?_
                          refine s_pu (d := some 135) (v := (.bool (!y51))) rfl rfl rfl (r_pick0 rfl g52 rfl) ?_
                          exact S_mk (l := [(3, (.int .i64 n4)), (4, (.int .i64 rank5)), (135, (.bool ((!y50) || (!y51))))]) HJ ⟨rfl, rfl, (by rw [g52]; rfl), trivial⟩
                  · rcases Bool.eq_false_or_eq_true ((((((!y12) || (!y20)) || (!y24)) || (!y27)) || (!y21)) || (!decide (y22 = place14))) with g43 | g43
                    · refine s_sk (d := some 110) rfl rfl (wants_no rfl rfl rfl rfl g43) ?_
                      refine s_sk (d := some 111) rfl rfl (wants_no rfl rfl rfl rfl g43) ?_
                      refine s_sk (d := some 112) rfl rfl (wants_no rfl rfl rfl rfl g43) ?_
                      refine s_pu (d := some 113) (v := (.bool true)) rfl rfl rfl (r_pick1 rfl g43 rfl) ?_
                      exact S_mk (l := [(2, (Sl.v c3)), (3, (.int .i64 n4)), (4, (.int .i64 rank5)), (113, (.bool (((((((!y12) || (!y20)) || (!y24)) || (!y27)) || (!y21)) || (!decide (y22 = place14))) || (!decide (y25 = sign15)))))]) HJ ⟨rfl, rfl, rfl, (by rw [g43]; rfl), trivial⟩
                    · refine s_pu (d := some 110) (v := (.int .i64 y25)) rfl rfl (wants_yes rfl rfl rfl rfl g43) (r_move rfl) ?_
                      refine s_pu (d := some 111) (v := (.int .i64 sign15)) rfl rfl (wants_yes rfl rfl rfl rfl g43) (r_move rfl) ?_
                      refine s_pu (d := some 112) (v := (.bool (!decide (y25 = sign15)))) rfl rfl (wants_yes rfl rfl rfl rfl g43) (r_neq rfl rfl) ?_
                      refine s_pu (d := some 113) (v := (.bool (!decide (y25 = sign15)))) rfl rfl rfl (r_pick0 rfl g43 rfl) ?_
                      exact S_mk (l := [(2, (Sl.v c3)), (3, (.int .i64 n4)), (4, (.int .i64 rank5)), (113, (.bool (((((((!y12) || (!y20)) || (!y24)) || (!y27)) || (!y21)) || (!decide (y22 = place14))) || (!decide (y25 = sign15)))))]) HJ ⟨rfl, rfl, rfl, (by rw [g43]; rfl), trivial⟩
                · rcases Bool.eq_false_or_eq_true (((((!y12) || (!y20)) || (!y24)) || (!y27)) || (!y21)) with g40 | g40
                  · refine s_sk (d := some 105) rfl rfl (wants_no rfl rfl rfl rfl g40) ?_
                    refine s_sk (d := some 106) rfl rfl (wants_no rfl rfl rfl rfl g40) ?_
                    refine s_sk (d := some 107) rfl rfl (wants_no rfl rfl rfl rfl g40) ?_
                    refine s_pu (d := some 108) (v := (.bool true)) rfl rfl rfl (r_pick1 rfl g40 rfl) ?_
                    exact S_mk (l := [(2, (Sl.v c3)), (3, (.int .i64 n4)), (4, (.int .i64 rank5)), (16, (.int .i64 sign15)), (23, (.int .i64 y25)), (108, (.bool ((((((!y12) || (!y20)) || (!y24)) || (!y27)) || (!y21)) || (!decide (y22 = place14)))))]) HJ ⟨rfl, rfl, rfl, rfl, rfl, (by rw [g40]; rfl), trivial⟩
                  · refine s_pu (d := some 105) (v := (.int .i64 y22)) rfl rfl (wants_yes rfl rfl rfl rfl g40) (r_move rfl) ?_
                    refine s_pu (d := some 106) (v := (.int .i64 place14)) rfl rfl (wants_yes rfl rfl rfl rfl g40) (r_move rfl) ?_
                    refine s_pu (d := some 107) (v := (.bool (!decide (y22 = place14)))) rfl rfl (wants_yes rfl rfl rfl rfl g40) (r_neq rfl rfl) ?_
                    refine s_pu (d := some 108) (v := (.bool (!decide (y22 = place14)))) rfl rfl rfl (r_pick0 rfl g40 rfl) ?_
                    exact S_mk (l := [(2, (Sl.v c3)), (3, (.int .i64 n4)), (4, (.int .i64 rank5)), (16, (.int .i64 sign15)), (23, (.int .i64 y25)), (108, (.bool ((((((!y12) || (!y20)) || (!y24)) || (!y27)) || (!y21)) || (!decide (y22 = place14)))))]) HJ ⟨rfl, rfl, rfl, rfl, rfl, (by rw [g40]; rfl), trivial⟩
              · rcases Bool.eq_false_or_eq_true ((((!y12) || (!y20)) || (!y24)) || (!y27)) with g37 | g37
                · refine s_sk (d := some 101) rfl rfl (wants_no rfl rfl rfl rfl g37) ?_
                  refine s_sk (d := some 102) rfl rfl (wants_no rfl rfl rfl rfl g37) ?_
                  refine s_pu (d := some 103) (v := (.bool true)) rfl rfl rfl (r_pick1 rfl g37 rfl) ?_
                  exact S_mk (l := [(2, (Sl.v c3)), (3, (.int .i64 n4)), (4, (.int .i64 rank5)), (15, (.int .i64 place14)), (16, (.int .i64 sign15)), (21, (.int .i64 y22)), (23, (.int .i64 y25)), (103, (.bool (((((!y12) || (!y20)) || (!y24)) || (!y27)) || (!y21))))]) HJ ⟨rfl, rfl, rfl, rfl, rfl, rfl, rfl, (by rw [g37]; rfl), trivial⟩
                · refine s_pu (d := some 101) (v := (.bool y21)) rfl rfl (wants_yes rfl rfl rfl rfl g37) (r_move rfl) ?_
                  refine s_pu (d := some 102) (v := (.bool (!y21))) rfl rfl (wants_yes rfl rfl rfl rfl g37) (r_not rfl) ?_
                  refine s_pu (d := some 103) (v := (.bool (!y21))) rfl rfl rfl (r_pick0 rfl g37 rfl) ?_
                  exact S_mk (l := [(2, (Sl.v c3)), (3, (.int .i64 n4)), (4, (.int .i64 rank5)), (15, (.int .i64 place14)), (16, (.int .i64 sign15)), (21, (.int .i64 y22)), (23, (.int .i64 y25)), (103, (.bool (((((!y12) || (!y20)) || (!y24)) || (!y27)) || (!y21))))]) HJ ⟨rfl, rfl, rfl, rfl, rfl, rfl, rfl, (by rw [g37]; rfl), trivial⟩
            · rcases Bool.eq_false_or_eq_true (((!y12) || (!y20)) || (!y24)) with g34 | g34
              · refine s_sk (d := some 97) rfl rfl (wants_no rfl rfl rfl rfl g34) ?_
                refine s_sk (d := some 98) rfl rfl (wants_no rfl rfl rfl rfl g34) ?_
                refine s_pu (d := some 99) (v := (.bool true)) rfl rfl rfl (r_pick1 rfl g34 rfl) ?_
                exact S_mk (l := [(2, (Sl.v c3)), (3, (.int .i64 n4)), (4, (.int .i64 rank5)), (15, (.int .i64 place14)), (16, (.int .i64 sign15)), (20, (.bool y21)), (21, (.int .i64 y22)), (23, (.int .i64 y25)), (99, (.bool ((((!y12) || (!y20)) || (!y24)) || (!y27))))]) HJ ⟨rfl, rfl, rfl, rfl, rfl, rfl, rfl, rfl, (by rw [g34]; rfl), trivial⟩
              · refine s_pu (d := some 97) (v := (.bool y27)) rfl rfl (wants_yes rfl rfl rfl rfl g34) (r_move rfl) ?_
                refine s_pu (d := some 98) (v := (.bool (!y27))) rfl rfl (wants_yes rfl rfl rfl rfl g34) (r_not rfl) ?_
                refine s_pu (d := some 99) (v := (.bool (!y27))) rfl rfl rfl (r_pick0 rfl g34 rfl) ?_
                exact S_mk (l := [(2, (Sl.v c3)), (3, (.int .i64 n4)), (4, (.int .i64 rank5)), (15, (.int .i64 place14)), (16, (.int .i64 sign15)), (20, (.bool y21)), (21, (.int .i64 y22)), (23, (.int .i64 y25)), (99, (.bool ((((!y12) || (!y20)) || (!y24)) || (!y27))))]) HJ ⟨rfl, rfl, rfl, rfl, rfl, rfl, rfl, rfl, (by rw [g34]; rfl), trivial⟩
          · rcases Bool.eq_false_or_eq_true ((!y12) || (!y20)) with g31 | g31
            · refine s_sk (d := some 93) rfl rfl (wants_no rfl rfl rfl rfl g31) ?_
              refine s_sk (d := some 94) rfl rfl (wants_no rfl rfl rfl rfl g31) ?_
              refine s_pu (d := some 95) (v := (.bool true)) rfl rfl rfl (r_pick1 rfl g31 rfl) ?_
              exact S_mk (l := [(2, (Sl.v c3)), (3, (.int .i64 n4)), (4, (.int .i64 rank5)), (15, (.int .i64 place14)), (16, (.int .i64 sign15)), (20, (.bool y21)), (21, (.int .i64 y22)), (23, (.int .i64 y25)), (24, (.bool y27)), (95, (.bool (((!y12) || (!y20)) || (!y24))))]) HJ ⟨rfl, rfl, rfl, rfl, rfl, rfl, rfl, rfl, rfl, (by rw [g31]; rfl), trivial⟩
            · refine s_pu (d := some 93) (v := (.bool y24)) rfl rfl (wants_yes rfl rfl rfl rfl g31) (r_move rfl) ?_
              refine s_pu (d := some 94) (v := (.bool (!y24))) rfl rfl (wants_yes rfl rfl rfl rfl g31) (r_not rfl) ?_
              refine s_pu (d := some 95) (v := (.bool (!y24))) rfl rfl rfl (r_pick0 rfl g31 rfl) ?_
              exact S_mk (l := [(2, (Sl.v c3)), (3, (.int .i64 n4)), (4, (.int .i64 rank5)), (15, (.int .i64 place14)), (16, (.int .i64 sign15)), (20, (.bool y21)), (21, (.int .i64 y22)), (23, (.int .i64 y25)), (24, (.bool y27)), (95, (.bool (((!y12) || (!y20)) || (!y24))))]) HJ ⟨rfl, rfl, rfl, rfl, rfl, rfl, rfl, rfl, rfl, (by rw [g31]; rfl), trivial⟩
        · rcases Bool.eq_false_or_eq_true (!y12) with g28 | g28
          · refine s_sk (d := some 89) rfl rfl (wants_no rfl rfl rfl rfl g28) ?_
            refine s_sk (d := some 90) rfl rfl (wants_no rfl rfl rfl rfl g28) ?_
            refine s_pu (d := some 91) (v := (.bool true)) rfl rfl rfl (r_pick1 rfl g28 rfl) ?_
            exact S_mk (l := [(2, (Sl.v c3)), (3, (.int .i64 n4)), (4, (.int .i64 rank5)), (15, (.int .i64 place14)), (16, (.int .i64 sign15)), (20, (.bool y21)), (21, (.int .i64 y22)), (22, (.bool y24)), (23, (.int .i64 y25)), (24, (.bool y27)), (91, (.bool ((!y12) || (!y20))))]) HJ ⟨rfl, rfl, rfl, rfl, rfl, rfl, rfl, rfl, rfl, rfl, (by rw [g28]; rfl), trivial⟩
          · refine s_pu (d := some 89) (v := (.bool y20)) rfl rfl (wants_yes rfl rfl rfl rfl g28) (r_move rfl) ?_
            refine s_pu (d := some 90) (v := (.bool (!y20))) rfl rfl (wants_yes rfl rfl rfl rfl g28) (r_not rfl) ?_
            refine s_pu (d := some 91) (v := (.bool (!y20))) rfl rfl rfl (r_pick0 rfl g28 rfl) ?_
            exact S_mk (l := [(2, (Sl.v c3)), (3, (.int .i64 n4)), (4, (.int .i64 rank5)), (15, (.int .i64 place14)), (16, (.int .i64 sign15)), (20, (.bool y21)), (21, (.int .i64 y22)), (22, (.bool y24)), (23, (.int .i64 y25)), (24, (.bool y27)), (91, (.bool ((!y12) || (!y20))))]) HJ ⟨rfl, rfl, rfl, rfl, rfl, rfl, rfl, rfl, rfl, rfl, (by rw [g28]; rfl), trivial⟩)
      clear eN17
      refine W_if (decide (y10 = 0)) rfl (fun g97 => ?_) (fun g97 => ?_)
      · have H := H.1 g97
        refine W_seq ?_
        refine W_region (.pu 0 (.ef 1 [] (.pu 2 .fin) .no)) rfl rfl ?_
        refine s_pu (d := some 50) (v := (Sl.v p2)) rfl rfl rfl (r_move rfl) ?_
        refine s_ef (d := some 51) rfl rfl rfl (fun dr => r_call Tryd.call62 rfl rfl H) ?_ trivial
        rintro _ h25 ⟨y94, rfl, H⟩
        refine ⟨trivial, ?_⟩
        refine s_pu (d := some 14) (v := (Sl.v y94)) rfl rfl rfl (r_assign rfl) ?_
        refine s_fin ?_
        show W _ _ _ _ _ _ _ _
        refine W_seq ?_
        refine W_region (.pu 0 (.ef 1 [] (.pu 2 .fin) .no)) rfl rfl ?_
        refine s_pu (d := some 52) (v := (Sl.v p2)) rfl rfl rfl (r_move rfl) ?_
        refine s_ef (d := some 53) rfl rfl rfl (fun dr => r_call Tryd.call63 rfl rfl H) ?_ trivial
        rintro _ h26 ⟨y95, rfl, H⟩
        refine ⟨trivial, ?_⟩
        refine s_pu (d := some 15) (v := (.int .i64 y95)) rfl rfl rfl (r_assign rfl) ?_
        refine s_fin ?_
        show W _ _ _ _ _ _ _ _
        refine W_region (.pu 0 (.ef 1 [] (.pu 2 (.pu 3 (.pu 4 (.pu 5 .fin)))) .no)) rfl rfl ?_
        refine s_pu (d := some 54) (v := (Sl.v p2)) rfl rfl rfl (r_move rfl) ?_
        refine s_ef (d := some 55) rfl rfl rfl (fun dr => r_call Tryd.call59 rfl rfl H) ?_ trivial
        rintro _ h27 ⟨y96, rfl, H⟩
        refine ⟨trivial, ?_⟩
        refine s_pu (d := some 56) (v := (.int .i64 (Int.tmod y96 2))) rfl rfl rfl (r_rem rfl rfl (by decide)) ?_
        refine s_pu (d := some 57) (v := (.int .i64 (w64 (2 * (Int.tmod y96 2))))) rfl rfl rfl (r_mul rfl rfl) ?_
        refine s_pu (d := some 58) (v := (.int .i64 (w64 (1 - (w64 (2 * (Int.tmod y96 2))))))) rfl rfl rfl (r_sub rfl rfl) ?_
        refine s_pu (d := some 16) (v := (.int .i64 (w64 (1 - (w64 (2 * (Int.tmod y96 2))))))) rfl rfl rfl (r_assign rfl) ?_
        refine s_fin ?_
        exact N_mk (l := [(1, (Sl.v p2)), (2, (Sl.v c3)), (3, (.int .i64 n4)), (4, (.int .i64 rank5)), (12, (.int .i64 y10)), (13, (.bool y12)), (14, (Sl.v y94)), (15, (.int .i64 y95)), (16, (.int .i64 (w64 (1 - (w64 (2 * (Int.tmod y96 2)))))))]) H ⟨rfl, rfl, rfl, rfl, rfl, rfl, rfl, rfl, rfl, trivial⟩
      · have H := H.2 g97
        refine W_skip ?_
        exact N_mk (l := [(1, (Sl.v p2)), (2, (Sl.v c3)), (3, (.int .i64 n4)), (4, (.int .i64 rank5)), (12, (.int .i64 y10)), (13, (.bool y12)), (14, (Sl.v Sl.nil)), (15, (.int .i64 0)), (16, (.int .i64 0))]) H ⟨rfl, rfl, rfl, rfl, rfl, rfl, rfl, rfl, rfl, trivial⟩)
  clear eN9
  refine W_region (.pu 0 (.pu 1 (.pu 2 (.pu 3 (.ef 4 [] (.pu 5 (.ef 6 [] (.pu 7 (.pu 8 .fin)) .no)) .no))))) rfl rfl ?_
  refine s_pu (d := some 33) (v := (.bool y6)) rfl rfl rfl (r_move rfl) ?_
  refine s_pu (d := some 34) (v := (.bool (!y6))) rfl rfl rfl (r_not rfl) ?_
  refine s_pu (d := some 35) (v := (.bool (!y6))) rfl rfl rfl (r_move rfl) ?_
  rcases Bool.eq_false_or_eq_true (!y6) with g99 | g99
  · have H := H.1 g99
    refine s_sk (d := some 36) rfl rfl (wants_no rfl rfl rfl rfl g99) ?_
    refine s_skf (d := some 37) rfl rfl (wants_no rfl rfl rfl rfl g99) trivial ?_ trivial
    refine s_sk (d := some 38) rfl rfl (wants_no rfl rfl rfl rfl g99) ?_
    refine s_skf (d := some 39) rfl rfl (wants_no rfl rfl rfl rfl g99) trivial ?_ trivial
    refine s_sk (d := some 40) rfl rfl (wants_no rfl rfl rfl rfl g99) ?_
    refine s_pu (d := some 41) (v := (.bool true)) rfl rfl rfl (r_pick1 rfl g99 rfl) ?_
    refine s_fin ?_
    exact N_mk (l := [(1, (Sl.v p2)), (2, (Sl.v c3)), (3, (.int .i64 n4)), (4, (.int .i64 rank5)), (41, (.bool true))]) H ⟨rfl, rfl, rfl, rfl, rfl, trivial⟩
  · have H := H.2 g99
    refine s_pu (d := some 36) (v := (Sl.v l1)) rfl rfl (wants_yes rfl rfl rfl rfl g99) (r_move rfl) ?_
    refine s_ef (d := some 37) rfl rfl (wants_yes rfl rfl rfl rfl g99) (fun dr => r_call Tryd.call58 rfl rfl H) ?_ trivial
    rintro _ h28 ⟨y100, rfl, H⟩
    refine ⟨trivial, ?_⟩
    refine s_pu (d := some 38) (v := (Sl.v l1)) rfl rfl (wants_yes rfl rfl rfl rfl g99) (r_move rfl) ?_
    refine s_ef (d := some 39) rfl rfl (wants_yes rfl rfl rfl rfl g99) (fun dr => r_call Tryd.call59 rfl rfl H) ?_ trivial
    rintro _ h29 ⟨y101, rfl, H⟩
    refine ⟨trivial, ?_⟩
    refine s_pu (d := some 40) (v := (.bool (!decide (y100 = y101)))) rfl rfl (wants_yes rfl rfl rfl rfl g99) (r_neq rfl rfl) ?_
    refine s_pu (d := some 41) (v := (.bool (!decide (y100 = y101)))) rfl rfl rfl (r_pick0 rfl g99 rfl) ?_
    refine s_fin ?_
    exact N_mk (l := [(1, (Sl.v p2)), (2, (Sl.v c3)), (3, (.int .i64 n4)), (4, (.int .i64 rank5)), (41, (.bool (!decide (y100 = y101))))]) H ⟨rfl, rfl, rfl, rfl, rfl, trivial⟩

end Go.Proofs.YtcafckgflpmfgaaDoor
