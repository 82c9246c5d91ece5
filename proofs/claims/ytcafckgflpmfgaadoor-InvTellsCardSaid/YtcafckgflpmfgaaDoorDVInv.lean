/- Typed words of functions, and that they hold: printed by gen.py (an own tool of this claim) off the model's own form of each function. -/
import Derived.Test.YtcafckgflpmfgaaDoorProg
import Derived.Test.YtcafckgflpmfgaaDoorDVOOrd
import Derived.Test.YtcafckgflpmfgaaDoorDBas
import Derived.Test.YtcafckgflpmfgaaDoorDErr
namespace Go.Proofs.YtcafckgflpmfgaaDoor
open Go Go.RowKit Go.Tw
set_option linter.unusedVariables false

theorem slFDVInv_22 : SlF Tryd.prog 22 3 1 8 (.int .i64 0) := ⟨Tryd.underlying22, ⟨Tryd.t3, by kernel_rfl, rfl, rfl, rfl⟩, rfl, Tryd.sizeOf3, Tryd.zeroValue3⟩

/-! ### the calls -/

abbrev slices_Index_int_int (r : World) (s1 : Sl) (v2 : Int) (h : Heap) (R : Int → Heap → Prop) : Prop :=
  CallsH Tryd.prog r 122 [(Sl.v s1), (.int .i64 v2)] h fun v h' => ∃ (y3 : Int), v = (.int .i64 y3) ∧ R y3 h'

theorem slices_Index_int_int.mono {r : World} {s1 : Sl} {v2 : Int} {h : Heap} {R R' : Int → Heap → Prop} (H : slices_Index_int_int r s1 v2 h R) (hr : ∀ y3 h, R y3 h → R' y3 h) : slices_Index_int_int r s1 v2 h R' :=
  CallsH.mono H fun _ _ hx => by
    obtain ⟨y3, hv, hR⟩ := hx
    exact ⟨y3, hv, hr _ _ hR⟩

abbrev slices_Contains_int_int (r : World) (s1 : Sl) (v2 : Int) (h : Heap) (R : Bool → Heap → Prop) : Prop :=
  CallsH Tryd.prog r 97 [(Sl.v s1), (.int .i64 v2)] h fun v h' => ∃ (y3 : Bool), v = (.bool y3) ∧ R y3 h'

theorem slices_Contains_int_int.mono {r : World} {s1 : Sl} {v2 : Int} {h : Heap} {R R' : Bool → Heap → Prop} (H : slices_Contains_int_int r s1 v2 h R) (hr : ∀ y3 h, R y3 h → R' y3 h) : slices_Contains_int_int r s1 v2 h R' :=
  CallsH.mono H fun _ _ hx => by
    obtain ⟨y3, hv, hR⟩ := hx
    exact ⟨y3, hv, hr _ _ hR⟩

abbrev slices_Reverse_int_int (r : World) (s1 : Sl) (h : Heap) (R : Heap → Prop) : Prop :=
  CallsH Tryd.prog r 102 [(Sl.v s1)] h fun v h' => v = (.tuple #[]) ∧ R  h'

theorem slices_Reverse_int_int.mono {r : World} {s1 : Sl} {h : Heap} {R R' : Heap → Prop} (H : slices_Reverse_int_int r s1 h R) (hr : ∀  h, R  h → R'  h) : slices_Reverse_int_int r s1 h R' :=
  CallsH.mono H fun _ _ hx => by
    obtain ⟨hv, hR⟩ := hx
    exact ⟨hv, hr _ hR⟩

abbrev slices_Backward_int_int (r : World) (s1 : Sl) (h : Heap) (R : Value → Heap → Prop) : Prop :=
  CallsH Tryd.prog r 99 [(Sl.v s1)] h R

theorem slices_Backward_int_int.mono {r : World} {s1 : Sl} {h : Heap} {R R' : Value → Heap → Prop} (H : slices_Backward_int_int r s1 h R) (hr : ∀ y h, R y h → R' y h) : slices_Backward_int_int r s1 h R' := CallsH.mono H hr

abbrev slices_Backward_int_int_1 (r : World) (yield1 : Value) (c2 : Addr) (h : Heap) (R : Heap → Prop) : Prop :=
  CallsH Tryd.prog r 123 [yield1, (.pointer (some c2))] h fun v h' => v = (.tuple #[]) ∧ R  h'

theorem slices_Backward_int_int_1.mono {r : World} {yield1 : Value} {c2 : Addr} {h : Heap} {R R' : Heap → Prop} (H : slices_Backward_int_int_1 r yield1 c2 h R) (hr : ∀  h, R  h → R'  h) : slices_Backward_int_int_1 r yield1 c2 h R' :=
  CallsH.mono H fun _ _ hx => by
    obtain ⟨hv, hR⟩ := hx
    exact ⟨hv, hr _ hR⟩

abbrev slices_Delete_int_int (r : World) (s1 : Sl) (i2 : Int) (j3 : Int) (h : Heap) (R : Sl → Heap → Prop) : Prop :=
  CallsH Tryd.prog r 104 [(Sl.v s1), (.int .i64 i2), (.int .i64 j3)] h fun v h' => ∃ (y4 : Sl), v = (Sl.v y4) ∧ R y4 h'

theorem slices_Delete_int_int.mono {r : World} {s1 : Sl} {i2 : Int} {j3 : Int} {h : Heap} {R R' : Sl → Heap → Prop} (H : slices_Delete_int_int r s1 i2 j3 h R) (hr : ∀ y4 h, R y4 h → R' y4 h) : slices_Delete_int_int r s1 i2 j3 h R' :=
  CallsH.mono H fun _ _ hx => by
    obtain ⟨y4, hv, hR⟩ := hx
    exact ⟨y4, hv, hr _ _ hR⟩

abbrev inv_sorted (r : World) (l1 : Sl) (h : Heap) (R : Sl → Int → Heap → Prop) : Prop :=
  CallsH Tryd.prog r 95 [(Sl.v l1)] h fun v h' => ∃ (y2 : Sl) (y3 : Int), v = (.tuple #[(Sl.v y2), (.int .i64 y3)]) ∧ R y2 y3 h'

theorem inv_sorted.mono {r : World} {l1 : Sl} {h : Heap} {R R' : Sl → Int → Heap → Prop} (H : inv_sorted r l1 h R) (hr : ∀ y2 y3 h, R y2 y3 h → R' y2 y3 h) : inv_sorted r l1 h R' :=
  CallsH.mono H fun _ _ hx => by
    obtain ⟨y2, y3, hv, hR⟩ := hx
    exact ⟨y2, y3, hv, hr _ _ _ hR⟩

abbrev inv_Count (r : World) (l1 : Sl) (h : Heap) (R : Int → Heap → Prop) : Prop :=
  CallsH Tryd.prog r 58 [(Sl.v l1)] h fun v h' => ∃ (y2 : Int), v = (.int .i64 y2) ∧ R y2 h'

theorem inv_Count.mono {r : World} {l1 : Sl} {h : Heap} {R R' : Int → Heap → Prop} (H : inv_Count r l1 h R) (hr : ∀ y2 h, R y2 h → R' y2 h) : inv_Count r l1 h R' :=
  CallsH.mono H fun _ _ hx => by
    obtain ⟨y2, hv, hR⟩ := hx
    exact ⟨y2, hv, hr _ _ hR⟩

abbrev inv_Check (r : World) (p1 : Sl) (h : Heap) (R : Value → Heap → Prop) : Prop :=
  CallsH Tryd.prog r 61 [(Sl.v p1)] h R

theorem inv_Check.mono {r : World} {p1 : Sl} {h : Heap} {R R' : Value → Heap → Prop} (H : inv_Check r p1 h R) (hr : ∀ y h, R y h → R' y h) : inv_Check r p1 h R' := CallsH.mono H hr

abbrev inv_Lehmer (r : World) (p1 : Sl) (h : Heap) (R : Sl → Value → Heap → Prop) : Prop :=
  CallsH Tryd.prog r 64 [(Sl.v p1)] h fun v h' => ∃ (y2 : Sl) (y3 : Value), v = (.tuple #[(Sl.v y2), y3]) ∧ R y2 y3 h'

theorem inv_Lehmer.mono {r : World} {p1 : Sl} {h : Heap} {R R' : Sl → Value → Heap → Prop} (H : inv_Lehmer r p1 h R) (hr : ∀ y2 y3 h, R y2 y3 h → R' y2 y3 h) : inv_Lehmer r p1 h R' :=
  CallsH.mono H fun _ _ hx => by
    obtain ⟨y2, y3, hv, hR⟩ := hx
    exact ⟨y2, y3, hv, hr _ _ _ hR⟩

abbrev inv_Order (r : World) (c1 : Sl) (h : Heap) (R : Sl → Value → Heap → Prop) : Prop :=
  CallsH Tryd.prog r 68 [(Sl.v c1)] h fun v h' => ∃ (y2 : Sl) (y3 : Value), v = (.tuple #[(Sl.v y2), y3]) ∧ R y2 y3 h'

theorem inv_Order.mono {r : World} {c1 : Sl} {h : Heap} {R R' : Sl → Value → Heap → Prop} (H : inv_Order r c1 h R) (hr : ∀ y2 y3 h, R y2 y3 h → R' y2 y3 h) : inv_Order r c1 h R' :=
  CallsH.mono H fun _ _ hx => by
    obtain ⟨y2, y3, hv, hR⟩ := hx
    exact ⟨y2, y3, hv, hr _ _ _ hR⟩

abbrev inv_Rank (r : World) (p1 : Sl) (h : Heap) (R : Int → Value → Heap → Prop) : Prop :=
  CallsH Tryd.prog r 65 [(Sl.v p1)] h fun v h' => ∃ (y2 : Int) (y3 : Value), v = (.tuple #[(.int .i64 y2), y3]) ∧ R y2 y3 h'

theorem inv_Rank.mono {r : World} {p1 : Sl} {h : Heap} {R R' : Int → Value → Heap → Prop} (H : inv_Rank r p1 h R) (hr : ∀ y2 y3 h, R y2 y3 h → R' y2 y3 h) : inv_Rank r p1 h R' :=
  CallsH.mono H fun _ _ hx => by
    obtain ⟨y2, y3, hv, hR⟩ := hx
    exact ⟨y2, y3, hv, hr _ _ _ hR⟩

abbrev inv_Perm (r : World) (n1 : Int) (rank2 : Int) (h : Heap) (R : Sl → Value → Heap → Prop) : Prop :=
  CallsH Tryd.prog r 70 [(.int .i64 n1), (.int .i64 rank2)] h fun v h' => ∃ (y3 : Sl) (y4 : Value), v = (.tuple #[(Sl.v y3), y4]) ∧ R y3 y4 h'

theorem inv_Perm.mono {r : World} {n1 : Int} {rank2 : Int} {h : Heap} {R R' : Sl → Value → Heap → Prop} (H : inv_Perm r n1 rank2 h R) (hr : ∀ y3 y4 h, R y3 y4 h → R' y3 y4 h) : inv_Perm r n1 rank2 h R' :=
  CallsH.mono H fun _ _ hx => by
    obtain ⟨y3, y4, hv, hR⟩ := hx
    exact ⟨y3, y4, hv, hr _ _ _ hR⟩

abbrev inv_Sign (r : World) (p1 : Sl) (h : Heap) (R : Int → Value → Heap → Prop) : Prop :=
  CallsH Tryd.prog r 66 [(Sl.v p1)] h fun v h' => ∃ (y2 : Int) (y3 : Value), v = (.tuple #[(.int .i64 y2), y3]) ∧ R y2 y3 h'

theorem inv_Sign.mono {r : World} {p1 : Sl} {h : Heap} {R R' : Int → Value → Heap → Prop} (H : inv_Sign r p1 h R) (hr : ∀ y2 y3 h, R y2 y3 h → R' y2 y3 h) : inv_Sign r p1 h R' :=
  CallsH.mono H fun _ _ hx => by
    obtain ⟨y2, y3, hv, hR⟩ := hx
    exact ⟨y2, y3, hv, hr _ _ _ hR⟩

/-! ### slices_Index_int_int -/

def slices_Index_int_int_F (r : World) (s1 : Sl) (v2 : Int) (h : Heap) (R : Int → Heap → Prop) : Prop :=
  ∀ X4 : Int → Prop, (∀ (x3 : Int),
    (Br (decide (x3 < ((s1.len : Int)))) (
      Ix s1 x3 1 fun q9 =>
      LdI h q9 fun x11 =>
      Br (decide (v2 = x11)) (
        R x3 h) (
        X4 (w64 (x3 + 1)))) (
      R ((-1)) h)) →
    X4 x3) →
  X4 0

set_option maxRecDepth 100000 in
theorem slices_Index_int_int_of {r : World} {s1 : Sl} {v2 : Int} {h : Heap} {R : Int → Heap → Prop} (H : slices_Index_int_int_F r s1 v2 h R) : slices_Index_int_int r s1 v2 h R := by
  unfold slices_Index_int_int_F at H
  refine calls_of 19 [.tmp 4] Tryd.func122 rfl rfl rfl rfl rfl ?_
  refine W_seq ?_
  refine W_region (.pu 0 .fin) rfl rfl ?_
  refine s_pu (d := some 4) (v := (.int .i64 0)) rfl rfl rfl (r_assign rfl) ?_
  refine s_fin ?_
  show W _ _ _ _ _ _ _ _
  refine W_seq ?_
  refine W_seq ?_
  refine W_region (.pu 0 (.pu 1 (.pu 2 .fin))) rfl rfl ?_
  refine s_pu (d := some 6) (v := (Sl.v s1)) rfl rfl rfl (r_move rfl) ?_
  refine s_pu (d := some 7) (v := (.int .i64 ((s1.len : Int)))) rfl rfl rfl (r_len Tryd.underlying22 rfl) ?_
  refine s_pu (d := some 8) (v := (.int .i64 0)) rfl rfl rfl (r_move rfl) ?_
  refine s_fin ?_
  show W _ _ _ _ _ _ _ _
  refine W_block ?_
  refine W_loop (WL_mk (l := [(0, (Sl.v s1)), (1, (.int .i64 v2)), (7, (.int .i64 ((s1.len : Int)))), (8, (.int .i64 0))]) ?_ ⟨rfl, rfl, rfl, rfl, trivial⟩)
  refine H (fun (x3 : Int) => ∀ b, WL _ _ _ _ _ _ (mkE [(0, (Sl.v s1)), (1, (.int .i64 v2)), (7, (.int .i64 ((s1.len : Int)))), (8, (.int .i64 x3))] b) h) ?_
  intro x3 H b
  refine WL_round ?_
  refine W_seq ?_
  refine W_region (.pu 0 .fin) rfl rfl ?_
  refine s_pu (d := some 9) (v := (.bool (decide (x3 < ((s1.len : Int)))))) rfl rfl rfl (r_lss rfl rfl) ?_
  refine s_fin ?_
  show W _ _ _ _ _ _ _ _
  refine W_seq ?_
  refine W_if (decide (x3 < ((s1.len : Int)))) rfl (fun g14 => ?_) (fun g14 => ?_)
  · have H := H.1 g14
    refine W_skip ?_
    show W _ _ _ _ _ _ _ _
    refine W_seq ?_
    refine W_block ?_
    refine W_seq ?_
    refine W_region (.pu 0 (.pu 1 .fin)) rfl rfl ?_
    refine s_pu (d := some 10) (v := (.int .i64 x3)) rfl rfl rfl (r_move rfl) ?_
    refine s_pu (d := some 5) (v := (.int .i64 x3)) rfl rfl rfl (r_assign rfl) ?_
    refine s_fin ?_
    show W _ _ _ _ _ _ _ _
    refine W_seq ?_
    refine W_region (.pu 0 (.pu 1 (.pu 2 (.pu 3 (.rl 4 (.pu 5 .fin)))))) rfl rfl ?_
    refine s_pu (d := some 11) (v := (.int .i64 v2)) rfl rfl rfl (r_move rfl) ?_
    refine s_pu (d := some 12) (v := (Sl.v s1)) rfl rfl rfl (r_move rfl) ?_
    refine s_pu (d := some 13) (v := (.int .i64 x3)) rfl rfl rfl (r_move rfl) ?_
    obtain ⟨p5, e6, e7, e8, H⟩ := H
    obtain ⟨q9, e10⟩ : ∃ q : Addr, q = Addr.add p5 (Int.toNat x3 * 1) := ⟨_, rfl⟩
    rw [← e10] at H
    refine s_pu (d := some 14) (v := (.pointer (some q9))) rfl rfl rfl (fun w => (r_indexAddr Tryd.underlying22 Tryd.sizeOf3 rfl rfl e6 e7 e8 w).trans (by rw [e10])) ?_
    obtain ⟨x11, e12, H⟩ := H
    refine s_rl (d := some 15) (v := (.int .i64 x11)) rfl rfl rfl (fun dr => r_load1 Tryd.isAgg3 rfl e12) ?_
    refine s_pu (d := some 16) (v := (.bool (decide (v2 = x11)))) rfl rfl rfl (r_eql rfl rfl) ?_
    refine s_fin ?_
    show W _ _ _ _ _ _ _ _
    refine W_if (decide (v2 = x11)) rfl (fun g13 => ?_) (fun g13 => ?_)
    · have H := H.1 g13
      refine W_seq ?_
      refine W_region (.pu 0 (.pu 1 .fin)) rfl rfl ?_
      refine s_pu (d := some 17) (v := (.int .i64 x3)) rfl rfl rfl (r_move rfl) ?_
      refine s_pu (d := some 4) (v := (.int .i64 x3)) rfl rfl rfl (r_assign rfl) ?_
      refine s_fin ?_
      show W _ _ _ _ _ _ _ _
      refine W_ret ?_
      exact ⟨[(.int .i64 x3)], ⟨_, _, rfl, rfl, rfl⟩, x3, rfl, H⟩
    · have H := H.2 g13
      refine W_skip ?_
      show W _ _ _ _ _ _ _ _
      refine W_region (.pu 0 (.pu 1 .fin)) rfl rfl ?_
      refine s_pu (d := some 18) (v := (.int .i64 (w64 (x3 + 1)))) rfl rfl rfl (r_add rfl rfl) ?_
      refine s_pu (d := some 8) (v := (.int .i64 (w64 (x3 + 1)))) rfl rfl rfl (r_move rfl) ?_
      refine s_fin ?_
      exact WL_mk (l := [(0, (Sl.v s1)), (1, (.int .i64 v2)), (7, (.int .i64 ((s1.len : Int)))), (8, (.int .i64 (w64 (x3 + 1))))]) H ⟨rfl, rfl, rfl, rfl, trivial⟩
  · have H := H.2 g14
    refine W_exit (inX_here ?_)
    show W _ _ _ _ _ _ _ _
    refine W_seq ?_
    refine W_region (.pu 0 .fin) rfl rfl ?_
    refine s_pu (d := some 4) (v := (.int .i64 ((-1)))) rfl rfl rfl (r_assign rfl) ?_
    refine s_fin ?_
    show W _ _ _ _ _ _ _ _
    refine W_ret ?_
    exact ⟨[(.int .i64 ((-1)))], ⟨_, _, rfl, rfl, rfl⟩, ((-1)), rfl, H⟩

/-! ### slices_Contains_int_int -/

def slices_Contains_int_int_F (r : World) (s1 : Sl) (v2 : Int) (h : Heap) (R : Bool → Heap → Prop) : Prop :=
  slices_Index_int_int r s1 v2 h fun y3 h1 =>
  R (decide (0 ≤ y3)) h1

set_option maxRecDepth 100000 in
theorem slices_Contains_int_int_of {r : World} {s1 : Sl} {v2 : Int} {h : Heap} {R : Bool → Heap → Prop} (H : slices_Contains_int_int_F r s1 v2 h R) : slices_Contains_int_int r s1 v2 h R := by
  unfold slices_Contains_int_int_F at H
  refine calls_of 9 [.tmp 4] Tryd.func97 rfl rfl rfl rfl rfl ?_
  refine W_seq ?_
  refine W_region (.pu 0 .fin) rfl rfl ?_
  refine s_pu (d := some 4) (v := (.bool false)) rfl rfl rfl (r_assign rfl) ?_
  refine s_fin ?_
  show W _ _ _ _ _ _ _ _
  refine W_seq ?_
  refine W_region (.pu 0 (.pu 1 (.ef 2 [] (.pu 3 (.pu 4 .fin)) .no))) rfl rfl ?_
  refine s_pu (d := some 5) (v := (Sl.v s1)) rfl rfl rfl (r_move rfl) ?_
  refine s_pu (d := some 6) (v := (.int .i64 v2)) rfl rfl rfl (r_move rfl) ?_
  refine s_ef (d := some 7) rfl rfl rfl (fun dr => r_call Tryd.call122 rfl rfl H) ?_ trivial
  rintro _ h1 ⟨y3, rfl, H⟩
  refine ⟨trivial, ?_⟩
  refine s_pu (d := some 8) (v := (.bool (decide (0 ≤ y3)))) rfl rfl rfl (r_geq rfl rfl) ?_
  refine s_pu (d := some 4) (v := (.bool (decide (0 ≤ y3)))) rfl rfl rfl (r_assign rfl) ?_
  refine s_fin ?_
  show W _ _ _ _ _ _ _ _
  refine W_ret ?_
  exact ⟨[(.bool (decide (0 ≤ y3)))], ⟨_, _, rfl, rfl, rfl⟩, (decide (0 ≤ y3)), rfl, H⟩

/-! ### slices_Reverse_int_int -/

def slices_Reverse_int_int_F (r : World) (s1 : Sl) (h : Heap) (R : Heap → Prop) : Prop :=
  ∀ X4 : Int → Int → Heap → Prop, (∀ (i2 : Int) (j3 : Int) (h1 : Heap),
    (Br (decide (i2 < j3)) (
      Ix s1 j3 1 fun q9 =>
      LdI h1 q9 fun x11 =>
      Ix s1 i2 1 fun q17 =>
      LdI h1 q17 fun x19 =>
      Ix s1 i2 1 fun q25 =>
      St h1 q25 1 [(.int .i64 x11)] fun h2 =>
      Ix s1 j3 1 fun q33 =>
      St h2 q33 1 [(.int .i64 x19)] fun h3 =>
      X4 (w64 (i2 + 1)) (w64 (j3 - 1)) h3) (
      R h1)) →
    X4 i2 j3 h1) →
  X4 0 (w64 (((s1.len : Int)) - 1)) h

set_option maxRecDepth 100000 in
theorem slices_Reverse_int_int_of {r : World} {s1 : Sl} {h : Heap} {R : Heap → Prop} (H : slices_Reverse_int_int_F r s1 h R) : slices_Reverse_int_int r s1 h R := by
  unfold slices_Reverse_int_int_F at H
  refine calls_of 28 [] Tryd.func102 rfl rfl rfl rfl rfl ?_
  refine W_seq ?_
  refine W_region (.pu 0 (.pu 1 (.pu 2 (.pu 3 (.pu 4 .fin))))) rfl rfl ?_
  refine s_pu (d := some 4) (v := (Sl.v s1)) rfl rfl rfl (r_move rfl) ?_
  refine s_pu (d := some 5) (v := (.int .i64 ((s1.len : Int)))) rfl rfl rfl (r_len Tryd.underlying22 rfl) ?_
  refine s_pu (d := some 6) (v := (.int .i64 (w64 (((s1.len : Int)) - 1)))) rfl rfl rfl (r_sub rfl rfl) ?_
  refine s_pu (d := some 2) (v := (.int .i64 0)) rfl rfl rfl (r_assign rfl) ?_
  refine s_pu (d := some 3) (v := (.int .i64 (w64 (((s1.len : Int)) - 1)))) rfl rfl rfl (r_assign rfl) ?_
  refine s_fin ?_
  show W _ _ _ _ _ _ _ _
  refine W_block ?_
  refine W_loop (WL_mk (l := [(0, (Sl.v s1)), (2, (.int .i64 0)), (3, (.int .i64 (w64 (((s1.len : Int)) - 1))))]) ?_ ⟨rfl, rfl, rfl, trivial⟩)
  refine H (fun (i2 : Int) (j3 : Int) (h1 : Heap) => ∀ b, WL _ _ _ _ _ _ (mkE [(0, (Sl.v s1)), (2, (.int .i64 i2)), (3, (.int .i64 j3))] b) h1) ?_
  intro i2 j3 h1 H b
  refine WL_round ?_
  refine W_seq ?_
  refine W_seq ?_
  refine W_region (.pu 0 (.pu 1 (.pu 2 .fin))) rfl rfl ?_
  refine s_pu (d := some 7) (v := (.int .i64 i2)) rfl rfl rfl (r_move rfl) ?_
  refine s_pu (d := some 8) (v := (.int .i64 j3)) rfl rfl rfl (r_move rfl) ?_
  refine s_pu (d := some 9) (v := (.bool (decide (i2 < j3)))) rfl rfl rfl (r_lss rfl rfl) ?_
  refine s_fin ?_
  show W _ _ _ _ _ _ _ _
  refine W_if (decide (i2 < j3)) rfl (fun g37 => ?_) (fun g37 => ?_)
  · have H := H.1 g37
    refine W_skip ?_
    show W _ _ _ _ _ _ _ _
    refine W_seq ?_
    refine W_block ?_
    refine W_draw [0, 0, 0, 0, 0, 0, 48, 112, 0, 0, 768, 1792, 4083, 8179, 16383, 32767] (.pu 0 (.pu 1 (.pu 2 (.pu 3 (.pu 4 (.pu 5 (.pu 6 (.rd 7 (.pu 8 (.pu 9 (.pu 10 (.rd 11 (.pu 12 (.ef 13 [7, 11] (.pu 14 (.ef 15 [7, 11] .fin .no)) .no)))))))))))))) (by kernel_rfl) (by kernel_rfl) ?_
    refine s_pu (d := some 14) (v := (Sl.v s1)) rfl rfl rfl (r_move rfl) ?_
    refine s_pu (d := some 15) (v := (.int .i64 i2)) rfl rfl rfl (r_move rfl) ?_
    refine s_pu (d := some 16) (v := (Sl.v s1)) rfl rfl rfl (r_move rfl) ?_
    refine s_pu (d := some 17) (v := (.int .i64 j3)) rfl rfl rfl (r_move rfl) ?_
    refine s_pu (d := some 18) (v := (Sl.v s1)) rfl rfl rfl (r_move rfl) ?_
    refine s_pu (d := some 19) (v := (.int .i64 j3)) rfl rfl rfl (r_move rfl) ?_
    obtain ⟨p5, e6, e7, e8, H⟩ := H
    obtain ⟨q9, e10⟩ : ∃ q : Addr, q = Addr.add p5 (Int.toNat j3 * 1) := ⟨_, rfl⟩
    rw [← e10] at H
    refine s_pu (d := some 20) (v := (.pointer (some q9))) rfl rfl rfl (fun w => (r_indexAddr Tryd.underlying22 Tryd.sizeOf3 rfl rfl e6 e7 e8 w).trans (by rw [e10])) ?_
    obtain ⟨x11, e12, H⟩ := H
    refine s_rd (d := some 21) (v := (.int .i64 x11)) rfl rfl rfl (fun dr => r_load1 Tryd.isAgg3 rfl e12) ?_
    refine s_pu (d := some 22) (v := (Sl.v s1)) rfl rfl rfl (r_move rfl) ?_
    refine s_pu (d := some 23) (v := (.int .i64 i2)) rfl rfl rfl (r_move rfl) ?_
    obtain ⟨p13, e14, e15, e16, H⟩ := H
    obtain ⟨q17, e18⟩ : ∃ q : Addr, q = Addr.add p13 (Int.toNat i2 * 1) := ⟨_, rfl⟩
    rw [← e18] at H
    refine s_pu (d := some 24) (v := (.pointer (some q17))) rfl rfl rfl (fun w => (r_indexAddr Tryd.underlying22 Tryd.sizeOf3 rfl rfl e14 e15 e16 w).trans (by rw [e18])) ?_
    obtain ⟨x19, e20, H⟩ := H
    refine s_rd (d := some 25) (v := (.int .i64 x19)) rfl rfl rfl (fun dr => r_load1 Tryd.isAgg3 rfl e20) ?_
    obtain ⟨p21, e22, e23, e24, H⟩ := H
    obtain ⟨q25, e26⟩ : ∃ q : Addr, q = Addr.add p21 (Int.toNat i2 * 1) := ⟨_, rfl⟩
    rw [← e26] at H
    refine s_pu (d := some 26) (v := (.pointer (some q25))) rfl rfl rfl (fun w => (r_indexAddr Tryd.underlying22 Tryd.sizeOf3 rfl rfl e22 e23 e24 w).trans (by rw [e26])) ?_
    obtain ⟨e28, H⟩ := H
    obtain ⟨h2, e27⟩ : ∃ hh : Heap, hh = hsets h1 q25 0 [(.int .i64 x11)] := ⟨_, rfl⟩
    have H := H h2 e27
    refine s_st (d := none) (h' := h2) rfl rfl rfl (fun dr => (r_store (v := (.int .i64 x11)) Tryd.sizeOf3 rfl rfl rfl (one_all rfl) e28).trans (by rw [e27]; rfl)) ⟨trivial, trivial, trivial⟩ ?_ trivial
    obtain ⟨p29, e30, e31, e32, H⟩ := H
    obtain ⟨q33, e34⟩ : ∃ q : Addr, q = Addr.add p29 (Int.toNat j3 * 1) := ⟨_, rfl⟩
    rw [← e34] at H
    refine s_pu (d := some 27) (v := (.pointer (some q33))) rfl rfl rfl (fun w => (r_indexAddr Tryd.underlying22 Tryd.sizeOf3 rfl rfl e30 e31 e32 w).trans (by rw [e34])) ?_
    obtain ⟨e36, H⟩ := H
    obtain ⟨h3, e35⟩ : ∃ hh : Heap, hh = hsets h2 q33 0 [(.int .i64 x19)] := ⟨_, rfl⟩
    have H := H h3 e35
    refine s_st (d := none) (h' := h3) rfl rfl rfl (fun dr => (r_store (v := (.int .i64 x19)) Tryd.sizeOf3 rfl rfl rfl (one_all rfl) e36).trans (by rw [e35]; rfl)) ⟨trivial, trivial, trivial⟩ ?_ trivial
    refine s_fin ?_
    show W _ _ _ _ _ _ _ _
    refine W_region (.pu 0 (.pu 1 (.pu 2 (.pu 3 (.pu 4 (.pu 5 .fin)))))) rfl rfl ?_
    refine s_pu (d := some 10) (v := (.int .i64 i2)) rfl rfl rfl (r_move rfl) ?_
    refine s_pu (d := some 11) (v := (.int .i64 (w64 (i2 + 1)))) rfl rfl rfl (r_add rfl rfl) ?_
    refine s_pu (d := some 12) (v := (.int .i64 j3)) rfl rfl rfl (r_move rfl) ?_
    refine s_pu (d := some 13) (v := (.int .i64 (w64 (j3 - 1)))) rfl rfl rfl (r_sub rfl rfl) ?_
    refine s_pu (d := some 2) (v := (.int .i64 (w64 (i2 + 1)))) rfl rfl rfl (r_assign rfl) ?_
    refine s_pu (d := some 3) (v := (.int .i64 (w64 (j3 - 1)))) rfl rfl rfl (r_assign rfl) ?_
    refine s_fin ?_
    exact WL_mk (l := [(0, (Sl.v s1)), (2, (.int .i64 (w64 (i2 + 1)))), (3, (.int .i64 (w64 (j3 - 1))))]) H ⟨rfl, rfl, rfl, trivial⟩
  · have H := H.2 g37
    refine W_exit (inX_here ?_)
    exact ⟨[], rfl, rfl, H⟩

/-! ### slices_Backward_int_int -/

def slices_Backward_int_int_F (r : World) (s1 : Sl) (h : Heap) (R : Value → Heap → Prop) : Prop :=
  New h (.cells #[(Sl.v s1)] 22) fun p2 h1 =>
  R ((.func (.func 123) #[] #[(.pointer (some p2))])) h1

set_option maxRecDepth 100000 in
theorem slices_Backward_int_int_of {r : World} {s1 : Sl} {h : Heap} {R : Value → Heap → Prop} (H : slices_Backward_int_int_F r s1 h R) : slices_Backward_int_int r s1 h R := by
  unfold slices_Backward_int_int_F at H
  refine calls_of 4 [.tmp 2] Tryd.func99 rfl rfl rfl rfl rfl ?_
  refine W_seq ?_
  refine W_region (.ef 0 [] (.pu 1 .fin) .no) rfl rfl ?_
  obtain ⟨p2, e3⟩ : ∃ p : Addr, p = ⟨h.size, 0, none⟩ := ⟨_, rfl⟩
  obtain ⟨h1, e4⟩ : ∃ hh : Heap, hh = h.push (.cells #[(Sl.v s1)] 22) := ⟨_, rfl⟩
  have H := H p2 h1 e3 e4
  refine s_ef1 (d := some 1) (v := (.pointer (some p2))) (h' := h1) rfl rfl rfl (fun dr => (r_box (v := (Sl.v s1)) rfl).trans (by rw [e3, e4]; rfl)) trivial ?_ trivial
  refine s_pu (d := some 2) (v := .nilFunc) rfl rfl rfl (r_assign rfl) ?_
  refine s_fin ?_
  show W _ _ _ _ _ _ _ _
  refine W_seq ?_
  refine W_region (.pu 0 (.pu 1 .fin)) rfl rfl ?_
  refine s_pu (d := some 3) (v := ((.func (.func 123) #[] #[(.pointer (some p2))]))) rfl rfl rfl (r_makeFunc rfl rfl) ?_
  refine s_pu (d := some 2) (v := ((.func (.func 123) #[] #[(.pointer (some p2))]))) rfl rfl rfl (r_assign rfl) ?_
  refine s_fin ?_
  show W _ _ _ _ _ _ _ _
  refine W_ret ?_
  exact ⟨[((.func (.func 123) #[] #[(.pointer (some p2))]))], ⟨_, _, rfl, rfl, rfl⟩, H⟩

/-! ### slices_Backward_int_int_1 -/

def slices_Backward_int_int_1_F (r : World) (yield1 : Value) (c2 : Addr) (h : Heap) (R : Heap → Prop) : Prop :=
  LdS h c2 fun x3 =>
  ∀ X6 : Int → Heap → Prop, (∀ (i5 : Int) (h1 : Heap),
    (Br (decide (0 ≤ i5)) (
      LdS h1 c2 fun x7 =>
      Ix x7 i5 1 fun q13 =>
      LdI h1 q13 fun x15 =>
      CallV Tryd.prog r yield1 [(.int .i64 i5), (.int .i64 x15)] h1 fun v19 h2 => ∃ (y17 : Bool), v19 = (.bool y17) ∧
      Br (!y17) (
        R h2) (
        X6 (w64 (i5 - 1)) h2)) (
      R h1)) →
    X6 i5 h1) →
  X6 (w64 (((x3.len : Int)) - 1)) h

set_option maxRecDepth 100000 in
theorem slices_Backward_int_int_1_of {r : World} {yield1 : Value} {c2 : Addr} {h : Heap} {R : Heap → Prop} (H : slices_Backward_int_int_1_F r yield1 c2 h R) : slices_Backward_int_int_1 r yield1 c2 h R := by
  unfold slices_Backward_int_int_1_F at H
  refine calls_of 19 [] Tryd.func123 rfl rfl rfl rfl rfl ?_
  refine W_seq ?_
  refine W_region (.rl 0 (.pu 1 (.pu 2 (.pu 3 .fin)))) rfl rfl ?_
  obtain ⟨x3, e4, H⟩ := H
  refine s_rl (d := some 4) (v := (Sl.v x3)) rfl rfl rfl (fun dr => r_load1 Tryd.isAgg22 rfl e4) ?_
  refine s_pu (d := some 5) (v := (.int .i64 ((x3.len : Int)))) rfl rfl rfl (r_len Tryd.underlying22 rfl) ?_
  refine s_pu (d := some 6) (v := (.int .i64 (w64 (((x3.len : Int)) - 1)))) rfl rfl rfl (r_sub rfl rfl) ?_
  refine s_pu (d := some 3) (v := (.int .i64 (w64 (((x3.len : Int)) - 1)))) rfl rfl rfl (r_assign rfl) ?_
  refine s_fin ?_
  show W _ _ _ _ _ _ _ _
  refine W_block ?_
  refine W_loop (WL_mk (l := [(0, yield1), (1, (.pointer (some c2))), (3, (.int .i64 (w64 (((x3.len : Int)) - 1))))]) ?_ ⟨rfl, rfl, rfl, trivial⟩)
  refine H (fun (i5 : Int) (h1 : Heap) => ∀ b, WL _ _ _ _ _ _ (mkE [(0, yield1), (1, (.pointer (some c2))), (3, (.int .i64 i5))] b) h1) ?_
  intro i5 h1 H b
  refine WL_round ?_
  refine W_seq ?_
  refine W_seq ?_
  refine W_region (.pu 0 (.pu 1 .fin)) rfl rfl ?_
  refine s_pu (d := some 7) (v := (.int .i64 i5)) rfl rfl rfl (r_move rfl) ?_
  refine s_pu (d := some 8) (v := (.bool (decide (0 ≤ i5)))) rfl rfl rfl (r_geq rfl rfl) ?_
  refine s_fin ?_
  show W _ _ _ _ _ _ _ _
  refine W_if (decide (0 ≤ i5)) rfl (fun g20 => ?_) (fun g20 => ?_)
  · have H := H.1 g20
    refine W_skip ?_
    show W _ _ _ _ _ _ _ _
    refine W_seq ?_
    refine W_block ?_
    refine W_seq ?_
    refine W_region (.pu 0 (.pu 1 (.rl 2 (.pu 3 (.pu 4 (.rl 5 (.ef 6 [] (.pu 7 .fin) .no))))))) rfl rfl ?_
    refine s_pu (d := some 11) (v := yield1) rfl rfl rfl (r_move rfl) ?_
    refine s_pu (d := some 12) (v := (.int .i64 i5)) rfl rfl rfl (r_move rfl) ?_
    obtain ⟨x7, e8, H⟩ := H
    refine s_rl (d := some 13) (v := (Sl.v x7)) rfl rfl rfl (fun dr => r_load1 Tryd.isAgg22 rfl e8) ?_
    refine s_pu (d := some 14) (v := (.int .i64 i5)) rfl rfl rfl (r_move rfl) ?_
    obtain ⟨p9, e10, e11, e12, H⟩ := H
    obtain ⟨q13, e14⟩ : ∃ q : Addr, q = Addr.add p9 (Int.toNat i5 * 1) := ⟨_, rfl⟩
    rw [← e14] at H
    refine s_pu (d := some 15) (v := (.pointer (some q13))) rfl rfl rfl (fun w => (r_indexAddr Tryd.underlying22 Tryd.sizeOf3 rfl rfl e10 e11 e12 w).trans (by rw [e14])) ?_
    obtain ⟨x15, e16, H⟩ := H
    refine s_rl (d := some 16) (v := (.int .i64 x15)) rfl rfl rfl (fun dr => r_load1 Tryd.isAgg3 rfl e16) ?_
    refine s_ef (d := some 17) rfl rfl rfl (fun dr => r_callV rfl rfl H) ?_ trivial
    rintro _ h2 ⟨y17, rfl, H⟩
    refine ⟨trivial, ?_⟩
    refine s_pu (d := some 18) (v := (.bool (!y17))) rfl rfl rfl (r_not rfl) ?_
    refine s_fin ?_
    show W _ _ _ _ _ _ _ _
    refine W_if (!y17) rfl (fun g18 => ?_) (fun g18 => ?_)
    · have H := H.1 g18
      refine W_ret ?_
      exact ⟨[], rfl, rfl, H⟩
    · have H := H.2 g18
      refine W_skip ?_
      show W _ _ _ _ _ _ _ _
      refine W_region (.pu 0 (.pu 1 (.pu 2 .fin))) rfl rfl ?_
      refine s_pu (d := some 9) (v := (.int .i64 i5)) rfl rfl rfl (r_move rfl) ?_
      refine s_pu (d := some 10) (v := (.int .i64 (w64 (i5 - 1)))) rfl rfl rfl (r_sub rfl rfl) ?_
      refine s_pu (d := some 3) (v := (.int .i64 (w64 (i5 - 1)))) rfl rfl rfl (r_assign rfl) ?_
      refine s_fin ?_
      exact WL_mk (l := [(0, yield1), (1, (.pointer (some c2))), (3, (.int .i64 (w64 (i5 - 1))))]) H ⟨rfl, rfl, rfl, trivial⟩
  · have H := H.2 g20
    refine W_exit (inX_here ?_)
    exact ⟨[], rfl, rfl, H⟩

/-! ### slices_Delete_int_int -/

def slices_Delete_int_int_F (r : World) (s1 : Sl) (i2 : Int) (j3 : Int) (h : Heap) (R : Sl → Heap → Prop) : Prop :=
  Sub s1 i2 j3 ((s1.len : Int)) 1 fun s4 =>
  Br (decide (i2 = j3)) (
    R s1 h) (
    Sub s1 0 i2 ((s1.cap : Int)) 1 fun s10 =>
    Sub s1 j3 ((s1.len : Int)) ((s1.cap : Int)) 1 fun s16 =>
    App 3 1 8 (.int .i64 0) s10 s16 h fun s22 h1 =>
    Sub s22 ((s22.len : Int)) ((s1.len : Int)) ((s22.cap : Int)) 1 fun s23 =>
    Clr (.int .i64 0) s23 h1 fun h2 =>
    R s22 h2)

set_option maxRecDepth 100000 in
theorem slices_Delete_int_int_of {r : World} {s1 : Sl} {i2 : Int} {j3 : Int} {h : Heap} {R : Sl → Heap → Prop} (H : slices_Delete_int_int_F r s1 i2 j3 h R) : slices_Delete_int_int r s1 i2 j3 h R := by
  unfold slices_Delete_int_int_F at H
  refine calls_of 33 [.tmp 6] Tryd.func104 rfl rfl rfl rfl rfl ?_
  refine W_seq ?_
  refine W_region (.pu 0 .fin) rfl rfl ?_
  refine s_pu (d := some 6) (v := (Sl.v Sl.nil)) rfl rfl rfl (r_assign rfl) ?_
  refine s_fin ?_
  show W _ _ _ _ _ _ _ _
  refine W_seq ?_
  refine W_region (.pu 0 (.pu 1 (.pu 2 (.pu 3 (.pu 4 (.pu 5 .fin)))))) rfl rfl ?_
  refine s_pu (d := some 8) (v := (Sl.v s1)) rfl rfl rfl (r_move rfl) ?_
  refine s_pu (d := some 9) (v := (.int .i64 i2)) rfl rfl rfl (r_move rfl) ?_
  refine s_pu (d := some 10) (v := (.int .i64 j3)) rfl rfl rfl (r_move rfl) ?_
  refine s_pu (d := some 11) (v := (Sl.v s1)) rfl rfl rfl (r_move rfl) ?_
  refine s_pu (d := some 12) (v := (.int .i64 ((s1.len : Int)))) rfl rfl rfl (r_len Tryd.underlying22 rfl) ?_
  obtain ⟨e5, e6, e7, e8, H⟩ := H
  obtain ⟨s4, e9⟩ : ∃ t : Sl, t = ⟨sliceA s1.a (Int.toNat ((s1.len : Int))) (Int.toNat i2) 1, Int.toNat j3 - Int.toNat i2, Int.toNat ((s1.len : Int)) - Int.toNat i2⟩ := ⟨_, rfl⟩
  have H := H s4 e9
  refine s_pu (d := some 13) (v := (Sl.v s4)) rfl rfl rfl (fun w => (r_slice (lo := (.some (.tmp 9))) (hi := (.some (.tmp 10))) (mx := (.some (.tmp 12))) Tryd.underlying22 Tryd.sizeOf3 rfl ((s1.len : Int)) j3 i2 ⟨_, rfl⟩ ⟨_, rfl⟩ ⟨_, rfl⟩ e5 e6 (.inr e7) e8 w).trans (by rw [e9]; rfl)) ?_
  refine s_fin ?_
  show W _ _ _ _ _ _ _ _
  refine W_seq ?_
  refine W_seq ?_
  refine W_region (.pu 0 (.pu 1 (.pu 2 .fin))) rfl rfl ?_
  refine s_pu (d := some 14) (v := (.int .i64 i2)) rfl rfl rfl (r_move rfl) ?_
  refine s_pu (d := some 15) (v := (.int .i64 j3)) rfl rfl rfl (r_move rfl) ?_
  refine s_pu (d := some 16) (v := (.bool (decide (i2 = j3)))) rfl rfl rfl (r_eql rfl rfl) ?_
  refine s_fin ?_
  show W _ _ _ _ _ _ _ _
  refine W_if (decide (i2 = j3)) rfl (fun g29 => ?_) (fun g29 => ?_)
  · have H := H.1 g29
    refine W_seq ?_
    refine W_region (.pu 0 (.pu 1 .fin)) rfl rfl ?_
    refine s_pu (d := some 17) (v := (Sl.v s1)) rfl rfl rfl (r_move rfl) ?_
    refine s_pu (d := some 6) (v := (Sl.v s1)) rfl rfl rfl (r_assign rfl) ?_
    refine s_fin ?_
    show W _ _ _ _ _ _ _ _
    refine W_ret ?_
    exact ⟨[(Sl.v s1)], ⟨_, _, rfl, rfl, rfl⟩, s1, rfl, H⟩
  · have H := H.2 g29
    refine W_skip ?_
    show W _ _ _ _ _ _ _ _
    refine W_seq ?_
    refine W_region (.pu 0 (.pu 1 (.pu 2 .fin))) rfl rfl ?_
    refine s_pu (d := some 18) (v := (Sl.v s1)) rfl rfl rfl (r_move rfl) ?_
    refine s_pu (d := some 19) (v := (.int .i64 ((s1.len : Int)))) rfl rfl rfl (r_len Tryd.underlying22 rfl) ?_
    refine s_pu (d := some 7) (v := (.int .i64 ((s1.len : Int)))) rfl rfl rfl (r_assign rfl) ?_
    refine s_fin ?_
    show W _ _ _ _ _ _ _ _
    refine W_seq ?_
    refine W_draw [0, 0, 3, 0, 0, 24, 63, 127] (.pu 0 (.pu 1 (.pu 2 (.pu 3 (.pu 4 (.pu 5 (.ef 6 [] (.pu 7 .fin) .no))))))) (by kernel_rfl) (by kernel_rfl) ?_
    refine s_pu (d := some 20) (v := (Sl.v s1)) rfl rfl rfl (r_move rfl) ?_
    refine s_pu (d := some 21) (v := (.int .i64 i2)) rfl rfl rfl (r_move rfl) ?_
    obtain ⟨e11, e12, e13, e14, H⟩ := H
    obtain ⟨s10, e15⟩ : ∃ t : Sl, t = ⟨sliceA s1.a (Int.toNat ((s1.cap : Int))) (Int.toNat 0) 1, Int.toNat i2 - Int.toNat 0, Int.toNat ((s1.cap : Int)) - Int.toNat 0⟩ := ⟨_, rfl⟩
    have H := H s10 e15
    refine s_pu (d := some 22) (v := (Sl.v s10)) rfl rfl rfl (fun w => (r_slice (lo := .none) (hi := (.some (.tmp 21))) (mx := .none) Tryd.underlying22 Tryd.sizeOf3 rfl ((s1.cap : Int)) i2 0 rfl ⟨_, rfl⟩ rfl e11 e12 (.inr e13) e14 w).trans (by rw [e15]; rfl)) ?_
    refine s_pu (d := some 23) (v := (Sl.v s1)) rfl rfl rfl (r_move rfl) ?_
    refine s_pu (d := some 24) (v := (.int .i64 j3)) rfl rfl rfl (r_move rfl) ?_
    obtain ⟨e17, e18, e19, e20, H⟩ := H
    obtain ⟨s16, e21⟩ : ∃ t : Sl, t = ⟨sliceA s1.a (Int.toNat ((s1.cap : Int))) (Int.toNat j3) 1, Int.toNat ((s1.len : Int)) - Int.toNat j3, Int.toNat ((s1.cap : Int)) - Int.toNat j3⟩ := ⟨_, rfl⟩
    have H := H s16 e21
    refine s_pu (d := some 25) (v := (Sl.v s16)) rfl rfl rfl (fun w => (r_slice (lo := (.some (.tmp 24))) (hi := .none) (mx := .none) Tryd.underlying22 Tryd.sizeOf3 rfl ((s1.cap : Int)) ((s1.len : Int)) j3 rfl ⟨rfl, rfl⟩ ⟨_, rfl⟩ e17 e18 (.inl rfl) e20 w).trans (by rw [e21]; rfl)) ?_
    refine s_ef (d := some 26) rfl rfl rfl (fun dr => slFDVInv_22.append rfl rfl H) ?_ trivial
    rintro _ h1 ⟨s22, rfl, H⟩
    refine ⟨trivial, ?_⟩
    refine s_pu (d := some 0) (v := (Sl.v s22)) rfl rfl rfl (r_assign rfl) ?_
    refine s_fin ?_
    show W _ _ _ _ _ _ _ _
    refine W_seq ?_
    refine W_region (.pu 0 (.pu 1 (.pu 2 (.pu 3 (.pu 4 (.ef 5 [] .fin .no)))))) rfl rfl ?_
    refine s_pu (d := some 27) (v := (Sl.v s22)) rfl rfl rfl (r_move rfl) ?_
    refine s_pu (d := some 28) (v := (Sl.v s22)) rfl rfl rfl (r_move rfl) ?_
    refine s_pu (d := some 29) (v := (.int .i64 ((s22.len : Int)))) rfl rfl rfl (r_len Tryd.underlying22 rfl) ?_
    refine s_pu (d := some 30) (v := (.int .i64 ((s1.len : Int)))) rfl rfl rfl (r_move rfl) ?_
    obtain ⟨e24, e25, e26, e27, H⟩ := H
    obtain ⟨s23, e28⟩ : ∃ t : Sl, t = ⟨sliceA s22.a (Int.toNat ((s22.cap : Int))) (Int.toNat ((s22.len : Int))) 1, Int.toNat ((s1.len : Int)) - Int.toNat ((s22.len : Int)), Int.toNat ((s22.cap : Int)) - Int.toNat ((s22.len : Int))⟩ := ⟨_, rfl⟩
    have H := H s23 e28
    refine s_pu (d := some 31) (v := (Sl.v s23)) rfl rfl rfl (fun w => (r_slice (lo := (.some (.tmp 29))) (hi := (.some (.tmp 30))) (mx := .none) Tryd.underlying22 Tryd.sizeOf3 rfl ((s22.cap : Int)) ((s1.len : Int)) ((s22.len : Int)) rfl ⟨_, rfl⟩ ⟨_, rfl⟩ e24 e25 (.inr e26) e27 w).trans (by rw [e28]; rfl)) ?_
    refine s_ef (d := none) rfl rfl rfl (fun dr => slFDVInv_22.clear rfl H) ?_ trivial
    rintro _ h2 ⟨rfl, H⟩
    refine ⟨trivial, ?_⟩
    refine s_fin ?_
    show W _ _ _ _ _ _ _ _
    refine W_seq ?_
    refine W_region (.pu 0 (.pu 1 .fin)) rfl rfl ?_
    refine s_pu (d := some 32) (v := (Sl.v s22)) rfl rfl rfl (r_move rfl) ?_
    refine s_pu (d := some 6) (v := (Sl.v s22)) rfl rfl rfl (r_assign rfl) ?_
    refine s_fin ?_
    show W _ _ _ _ _ _ _ _
    refine W_ret ?_
    exact ⟨[(Sl.v s22)], ⟨_, _, rfl, rfl, rfl⟩, s22, rfl, H⟩

/-! ### inv_sorted -/

def inv_sorted_F (r : World) (l1 : Sl) (h : Heap) (R : Sl → Int → Heap → Prop) : Prop :=
  Br (decide (((l1.len : Int)) < 2)) (
    slices_Clone_int_int r l1 h fun y2 h1 =>
    R y2 0 h1) (
    Sub l1 0 (w64 (Int.tdiv ((l1.len : Int)) 2)) ((l1.cap : Int)) 1 fun s3 =>
    inv_sorted r s3 h fun y9 y10 h2 =>
    Sub l1 (w64 (Int.tdiv ((l1.len : Int)) 2)) ((l1.len : Int)) ((l1.cap : Int)) 1 fun s11 =>
    inv_sorted r s11 h2 fun y17 y18 h3 =>
    ∀ X23 : Sl → Sl → Int → Sl → Heap → Prop, (∀ (a19 : Sl) (vb20 : Sl) (n21 : Int) (out22 : Sl) (h4 : Heap),
      (Br ((decide (0 < ((a19.len : Int)))) || (decide (0 < ((vb20.len : Int))))) (
        ∀ J28 : Bool → Prop, (∀ (x27 : Bool),
          (Br x27 (
            Ix a19 0 1 fun q34 =>
            LdI h4 q34 fun x36 =>
            Sub a19 1 ((a19.len : Int)) ((a19.cap : Int)) 1 fun s38 =>
            New h4 (.cells #[(.int .i64 x36)] 3) fun p44 h5 =>
            App 3 1 8 (.int .i64 0) out22 ((⟨some p44, 1, 1⟩ : Sl)) h5 fun s47 h6 =>
            X23 s38 vb20 n21 s47 h6) (
            Ix vb20 0 1 fun q52 =>
            LdI h4 q52 fun x54 =>
            Sub vb20 1 ((vb20.len : Int)) ((vb20.cap : Int)) 1 fun s56 =>
            New h4 (.cells #[(.int .i64 x54)] 3) fun p62 h7 =>
            App 3 1 8 (.int .i64 0) out22 ((⟨some p62, 1, 1⟩ : Sl)) h7 fun s65 h8 =>
            X23 a19 s56 (w64 (n21 + ((a19.len : Int)))) s65 h8)) →
          J28 x27) →
        Br (decide (((vb20.len : Int)) = 0)) (
          J28 true) (
          Br (decide (0 < ((a19.len : Int)))) (
            Ix a19 0 1 fun q73 =>
            LdI h4 q73 fun x75 =>
            Ix vb20 0 1 fun q81 =>
            LdI h4 q81 fun x83 =>
            J28 (decide (x75 ≤ x83))) (
            J28 false))) (
        R out22 (w64 (y10 + n21)) h4)) →
      X23 a19 vb20 n21 out22 h4) →
    X23 y9 y17 y18 Sl.nil h3)

set_option maxRecDepth 100000 in
theorem inv_sorted_of {r : World} {l1 : Sl} {h : Heap} {R : Sl → Int → Heap → Prop} (H : inv_sorted_F r l1 h R) : inv_sorted r l1 h R := by
  unfold inv_sorted_F at H
  refine calls_of 81 [.tmp 2, .tmp 3] Tryd.func95 rfl rfl rfl rfl rfl ?_
  refine W_seq ?_
  refine W_region (.pu 0 (.pu 1 .fin)) rfl rfl ?_
  refine s_pu (d := some 2) (v := (Sl.v Sl.nil)) rfl rfl rfl (r_assign rfl) ?_
  refine s_pu (d := some 3) (v := (.int .i64 0)) rfl rfl rfl (r_assign rfl) ?_
  refine s_fin ?_
  show W _ _ _ _ _ _ _ _
  refine W_seq ?_
  refine W_seq ?_
  refine W_region (.pu 0 (.pu 1 (.pu 2 .fin))) rfl rfl ?_
  refine s_pu (d := some 9) (v := (Sl.v l1)) rfl rfl rfl (r_move rfl) ?_
  refine s_pu (d := some 10) (v := (.int .i64 ((l1.len : Int)))) rfl rfl rfl (r_len Tryd.underlying22 rfl) ?_
  refine s_pu (d := some 11) (v := (.bool (decide (((l1.len : Int)) < 2)))) rfl rfl rfl (r_lss rfl rfl) ?_
  refine s_fin ?_
  show W _ _ _ _ _ _ _ _
  refine W_if (decide (((l1.len : Int)) < 2)) rfl (fun g87 => ?_) (fun g87 => ?_)
  · have H := H.1 g87
    refine W_seq ?_
    refine W_region (.pu 0 (.ef 1 [] (.pu 2 (.pu 3 .fin)) .no)) rfl rfl ?_
    refine s_pu (d := some 12) (v := (Sl.v l1)) rfl rfl rfl (r_move rfl) ?_
    refine s_ef (d := some 13) rfl rfl rfl (fun dr => r_call Tryd.call73 rfl rfl H) ?_ trivial
    rintro _ h1 ⟨y2, rfl, H⟩
    refine ⟨trivial, ?_⟩
    refine s_pu (d := some 2) (v := (Sl.v y2)) rfl rfl rfl (r_assign rfl) ?_
    refine s_pu (d := some 3) (v := (.int .i64 0)) rfl rfl rfl (r_assign rfl) ?_
    refine s_fin ?_
    show W _ _ _ _ _ _ _ _
    refine W_ret ?_
    exact ⟨[(Sl.v y2), (.int .i64 0)], ⟨_, _, rfl, rfl, ⟨_, _, rfl, rfl, rfl⟩⟩, y2, 0, rfl, H⟩
  · have H := H.2 g87
    refine W_skip ?_
    show W _ _ _ _ _ _ _ _
    refine W_seq ?_
    refine W_region (.pu 0 (.pu 1 (.pu 2 (.pu 3 (.pu 4 (.ef 5 [] (.pu 6 (.pu 7 (.pu 8 (.pu 9 (.pu 10 .fin))))) .no)))))) rfl rfl ?_
    refine s_pu (d := some 15) (v := (Sl.v l1)) rfl rfl rfl (r_move rfl) ?_
    refine s_pu (d := some 16) (v := (Sl.v l1)) rfl rfl rfl (r_move rfl) ?_
    refine s_pu (d := some 17) (v := (.int .i64 ((l1.len : Int)))) rfl rfl rfl (r_len Tryd.underlying22 rfl) ?_
    refine s_pu (d := some 18) (v := (.int .i64 (w64 (Int.tdiv ((l1.len : Int)) 2)))) rfl rfl rfl (r_quo rfl rfl (by decide)) ?_
    obtain ⟨e4, e5, e6, e7, H⟩ := H
    obtain ⟨s3, e8⟩ : ∃ t : Sl, t = ⟨sliceA l1.a (Int.toNat ((l1.cap : Int))) (Int.toNat 0) 1, Int.toNat (w64 (Int.tdiv ((l1.len : Int)) 2)) - Int.toNat 0, Int.toNat ((l1.cap : Int)) - Int.toNat 0⟩ := ⟨_, rfl⟩
    have H := H s3 e8
    refine s_pu (d := some 19) (v := (Sl.v s3)) rfl rfl rfl (fun w => (r_slice (lo := .none) (hi := (.some (.tmp 18))) (mx := .none) Tryd.underlying22 Tryd.sizeOf3 rfl ((l1.cap : Int)) (w64 (Int.tdiv ((l1.len : Int)) 2)) 0 rfl ⟨_, rfl⟩ rfl e4 e5 (.inr e6) e7 w).trans (by rw [e8]; rfl)) ?_
    refine s_ef (d := some 20) rfl rfl rfl (fun dr => r_call Tryd.call95 rfl rfl H) ?_ trivial
    rintro _ h2 ⟨y9, y10, rfl, H⟩
    refine ⟨trivial, ?_⟩
    refine s_pu (d := some 14) (v := (.tuple #[(Sl.v y9), (.int .i64 y10)])) rfl rfl rfl (r_move rfl) ?_
    refine s_pu (d := some 21) (v := (Sl.v y9)) rfl rfl rfl (r_extract rfl rfl) ?_
    refine s_pu (d := some 22) (v := (.int .i64 y10)) rfl rfl rfl (r_extract rfl rfl) ?_
    refine s_pu (d := some 4) (v := (Sl.v y9)) rfl rfl rfl (r_assign rfl) ?_
    refine s_pu (d := some 5) (v := (.int .i64 y10)) rfl rfl rfl (r_assign rfl) ?_
    refine s_fin ?_
    show W _ _ _ _ _ _ _ _
    refine W_seq ?_
    refine W_region (.pu 0 (.pu 1 (.pu 2 (.pu 3 (.pu 4 (.ef 5 [] (.pu 6 (.pu 7 (.pu 8 (.pu 9 (.pu 10 .fin))))) .no)))))) rfl rfl ?_
    refine s_pu (d := some 24) (v := (Sl.v l1)) rfl rfl rfl (r_move rfl) ?_
    refine s_pu (d := some 25) (v := (Sl.v l1)) rfl rfl rfl (r_move rfl) ?_
    refine s_pu (d := some 26) (v := (.int .i64 ((l1.len : Int)))) rfl rfl rfl (r_len Tryd.underlying22 rfl) ?_
    refine s_pu (d := some 27) (v := (.int .i64 (w64 (Int.tdiv ((l1.len : Int)) 2)))) rfl rfl rfl (r_quo rfl rfl (by decide)) ?_
    obtain ⟨e12, e13, e14, e15, H⟩ := H
    obtain ⟨s11, e16⟩ : ∃ t : Sl, t = ⟨sliceA l1.a (Int.toNat ((l1.cap : Int))) (Int.toNat (w64 (Int.tdiv ((l1.len : Int)) 2))) 1, Int.toNat ((l1.len : Int)) - Int.toNat (w64 (Int.tdiv ((l1.len : Int)) 2)), Int.toNat ((l1.cap : Int)) - Int.toNat (w64 (Int.tdiv ((l1.len : Int)) 2))⟩ := ⟨_, rfl⟩
    have H := H s11 e16
    refine s_pu (d := some 28) (v := (Sl.v s11)) rfl rfl rfl (fun w => (r_slice (lo := (.some (.tmp 27))) (hi := .none) (mx := .none) Tryd.underlying22 Tryd.sizeOf3 rfl ((l1.cap : Int)) ((l1.len : Int)) (w64 (Int.tdiv ((l1.len : Int)) 2)) rfl ⟨rfl, rfl⟩ ⟨_, rfl⟩ e12 e13 (.inl rfl) e15 w).trans (by rw [e16]; rfl)) ?_
    refine s_ef (d := some 29) rfl rfl rfl (fun dr => r_call Tryd.call95 rfl rfl H) ?_ trivial
    rintro _ h3 ⟨y17, y18, rfl, H⟩
    refine ⟨trivial, ?_⟩
    refine s_pu (d := some 23) (v := (.tuple #[(Sl.v y17), (.int .i64 y18)])) rfl rfl rfl (r_move rfl) ?_
    refine s_pu (d := some 30) (v := (Sl.v y17)) rfl rfl rfl (r_extract rfl rfl) ?_
    refine s_pu (d := some 31) (v := (.int .i64 y18)) rfl rfl rfl (r_extract rfl rfl) ?_
    refine s_pu (d := some 6) (v := (Sl.v y17)) rfl rfl rfl (r_assign rfl) ?_
    refine s_pu (d := some 7) (v := (.int .i64 y18)) rfl rfl rfl (r_assign rfl) ?_
    refine s_fin ?_
    show W _ _ _ _ _ _ _ _
    refine W_seq ?_
    refine W_region (.pu 0 .fin) rfl rfl ?_
    refine s_pu (d := some 8) (v := (Sl.v Sl.nil)) rfl rfl rfl (r_assign rfl) ?_
    refine s_fin ?_
    show W _ _ _ _ _ _ _ _
    refine W_seq ?_
    refine W_block ?_
    refine W_loop (WL_mk (l := [(4, (Sl.v y9)), (5, (.int .i64 y10)), (6, (Sl.v y17)), (7, (.int .i64 y18)), (8, (Sl.v Sl.nil))]) ?_ ⟨rfl, rfl, rfl, rfl, rfl, trivial⟩)
    refine H (fun (a19 : Sl) (vb20 : Sl) (n21 : Int) (out22 : Sl) (h4 : Heap) => ∀ b, WL _ _ _ _ _ _ (mkE [(4, (Sl.v a19)), (5, (.int .i64 y10)), (6, (Sl.v vb20)), (7, (.int .i64 n21)), (8, (Sl.v out22))] b) h4) ?_
    intro a19 vb20 n21 out22 h4 H b
    refine WL_round ?_
    refine W_seq ?_
    refine W_seq ?_
    refine W_region (.pu 0 (.pu 1 (.pu 2 (.pu 3 (.pu 4 (.pu 5 (.pu 6 (.pu 7 .fin)))))))) rfl rfl ?_
    refine s_pu (d := some 32) (v := (Sl.v a19)) rfl rfl rfl (r_move rfl) ?_
    refine s_pu (d := some 33) (v := (.int .i64 ((a19.len : Int)))) rfl rfl rfl (r_len Tryd.underlying22 rfl) ?_
    refine s_pu (d := some 34) (v := (.bool (decide (0 < ((a19.len : Int)))))) rfl rfl rfl (r_gtr rfl rfl) ?_
    refine s_pu (d := some 35) (v := (.bool (decide (0 < ((a19.len : Int)))))) rfl rfl rfl (r_move rfl) ?_
    refine S_meet (l := [(4, (Sl.v a19)), (5, (.int .i64 y10)), (6, (Sl.v vb20)), (7, (.int .i64 n21)), (8, (Sl.v out22)), (39, (.bool ((decide (0 < ((a19.len : Int)))) || (decide (0 < ((vb20.len : Int)))))))]) (i := 4) ?_ (fun HJ => ?_)
    · intro b
      show S _ _ _ _ _ _
      refine s_fin ?_
      show W _ _ _ _ _ _ _ _
      refine W_if ((decide (0 < ((a19.len : Int)))) || (decide (0 < ((vb20.len : Int))))) rfl (fun g85 => ?_) (fun g85 => ?_)
      · have H := H.1 g85
        refine W_skip ?_
        show W _ _ _ _ _ _ _ _
        refine W_block ?_
        refine W_seq ?_
        refine W_seq ?_
        refine W_set ?_
        intro N29 eN29
        have H := H (fun (x27 : Bool) => ∀ b, N29 [] (mkE [(4, (Sl.v a19)), (5, (.int .i64 y10)), (6, (Sl.v vb20)), (7, (.int .i64 n21)), (8, (Sl.v out22)), (56, (.bool x27))] b) h4) (by
          intro x27 H b
          rw [eN29]
          show W _ _ _ _ _ _ _ _
          refine W_if x27 rfl (fun g66 => ?_) (fun g66 => ?_)
          · have H := H.1 g66
            refine W_seq ?_
            refine W_draw [0, 0, 2, 6, 14, 31, 0, 64, 63, 511] (.pu 0 (.pu 1 (.pu 2 (.rd 3 (.pu 6 (.pu 7 (.ef 4 [3] (.ef 5 [3] (.pu 8 (.pu 9 .fin)) .no) .no))))))) (by kernel_rfl) (by kernel_rfl) ?_
            refine s_pu (d := some 57) (v := (Sl.v out22)) rfl rfl rfl (r_move rfl) ?_
            refine s_pu (d := some 58) (v := (Sl.v a19)) rfl rfl rfl (r_move rfl) ?_
            obtain ⟨p30, e31, e32, e33, H⟩ := H
            obtain ⟨q34, e35⟩ : ∃ q : Addr, q = Addr.add p30 (Int.toNat 0 * 1) := ⟨_, rfl⟩
            rw [← e35] at H
            refine s_pu (d := some 59) (v := (.pointer (some q34))) rfl rfl rfl (fun w => (r_indexAddr Tryd.underlying22 Tryd.sizeOf3 rfl rfl e31 e32 e33 w).trans (by rw [e35])) ?_
            obtain ⟨x36, e37, H⟩ := H
            refine s_rd (d := some 60) (v := (.int .i64 x36)) rfl rfl rfl (fun dr => r_load1 Tryd.isAgg3 rfl e37) ?_
            refine s_pu (d := some 63) (v := (Sl.v a19)) rfl rfl rfl (r_move rfl) ?_
            obtain ⟨e39, e40, e41, e42, H⟩ := H
            obtain ⟨s38, e43⟩ : ∃ t : Sl, t = ⟨sliceA a19.a (Int.toNat ((a19.cap : Int))) (Int.toNat 1) 1, Int.toNat ((a19.len : Int)) - Int.toNat 1, Int.toNat ((a19.cap : Int)) - Int.toNat 1⟩ := ⟨_, rfl⟩
            have H := H s38 e43
            refine s_pu (d := some 64) (v := (Sl.v s38)) rfl rfl rfl (fun w => (r_slice (lo := (.some (.const (.int .i64 1)))) (hi := .none) (mx := .none) Tryd.underlying22 Tryd.sizeOf3 rfl ((a19.cap : Int)) ((a19.len : Int)) 1 rfl ⟨rfl, rfl⟩ ⟨_, rfl⟩ e39 e40 (.inl rfl) e42 w).trans (by rw [e43]; rfl)) ?_
            obtain ⟨p44, e45⟩ : ∃ p : Addr, p = ⟨h4.size, 0, none⟩ := ⟨_, rfl⟩
            obtain ⟨h5, e46⟩ : ∃ hh : Heap, hh = h4.push (.cells #[(.int .i64 x36)] 3) := ⟨_, rfl⟩
            have H := H p44 h5 e45 e46
            refine s_ef1 (d := some 61) (v := (Sl.v ((⟨some p44, 1, 1⟩ : Sl)))) (h' := h5) rfl rfl rfl (fun dr => (slFDVInv_22.build (cells := #[(.int .i64 x36)]) (by decide) rfl (by kernel_rfl)).trans (by rw [e45, e46]; rfl)) ⟨trivial, trivial⟩ ?_ trivial
            refine s_ef (d := some 62) rfl rfl rfl (fun dr => slFDVInv_22.append rfl rfl H) ?_ trivial
            rintro _ h6 ⟨s47, rfl, H⟩
            refine ⟨⟨trivial, trivial⟩, ?_⟩
            refine s_pu (d := some 8) (v := (Sl.v s47)) rfl rfl rfl (r_assign rfl) ?_
            refine s_pu (d := some 4) (v := (Sl.v s38)) rfl rfl rfl (r_assign rfl) ?_
            refine s_fin ?_
            show W _ _ _ _ _ _ _ _
            refine W_exit (inX_here ?_)
            exact WL_mk (l := [(4, (Sl.v s38)), (5, (.int .i64 y10)), (6, (Sl.v vb20)), (7, (.int .i64 n21)), (8, (Sl.v s47))]) H ⟨rfl, rfl, rfl, rfl, rfl, trivial⟩
          · have H := H.2 g66
            refine W_skip ?_
            show W _ _ _ _ _ _ _ _
            refine W_seq ?_
            refine W_draw [0, 0, 2, 6, 14, 31, 0, 64, 63, 511] (.pu 0 (.pu 1 (.pu 2 (.rd 3 (.pu 6 (.pu 7 (.ef 4 [3] (.ef 5 [3] (.pu 8 (.pu 9 .fin)) .no) .no))))))) (by kernel_rfl) (by kernel_rfl) ?_
            refine s_pu (d := some 65) (v := (Sl.v out22)) rfl rfl rfl (r_move rfl) ?_
            refine s_pu (d := some 66) (v := (Sl.v vb20)) rfl rfl rfl (r_move rfl) ?_
            obtain ⟨p48, e49, e50, e51, H⟩ := H
            obtain ⟨q52, e53⟩ : ∃ q : Addr, q = Addr.add p48 (Int.toNat 0 * 1) := ⟨_, rfl⟩
            rw [← e53] at H
            refine s_pu (d := some 67) (v := (.pointer (some q52))) rfl rfl rfl (fun w => (r_indexAddr Tryd.underlying22 Tryd.sizeOf3 rfl rfl e49 e50 e51 w).trans (by rw [e53])) ?_
            obtain ⟨x54, e55, H⟩ := H
            refine s_rd (d := some 68) (v := (.int .i64 x54)) rfl rfl rfl (fun dr => r_load1 Tryd.isAgg3 rfl e55) ?_
            refine s_pu (d := some 71) (v := (Sl.v vb20)) rfl rfl rfl (r_move rfl) ?_
            obtain ⟨e57, e58, e59, e60, H⟩ := H
            obtain ⟨s56, e61⟩ : ∃ t : Sl, t = ⟨sliceA vb20.a (Int.toNat ((vb20.cap : Int))) (Int.toNat 1) 1, Int.toNat ((vb20.len : Int)) - Int.toNat 1, Int.toNat ((vb20.cap : Int)) - Int.toNat 1⟩ := ⟨_, rfl⟩
            have H := H s56 e61
            refine s_pu (d := some 72) (v := (Sl.v s56)) rfl rfl rfl (fun w => (r_slice (lo := (.some (.const (.int .i64 1)))) (hi := .none) (mx := .none) Tryd.underlying22 Tryd.sizeOf3 rfl ((vb20.cap : Int)) ((vb20.len : Int)) 1 rfl ⟨rfl, rfl⟩ ⟨_, rfl⟩ e57 e58 (.inl rfl) e60 w).trans (by rw [e61]; rfl)) ?_
            obtain ⟨p62, e63⟩ : ∃ p : Addr, p = ⟨h4.size, 0, none⟩ := ⟨_, rfl⟩
            obtain ⟨h7, e64⟩ : ∃ hh : Heap, hh = h4.push (.cells #[(.int .i64 x54)] 3) := ⟨_, rfl⟩
            have H := H p62 h7 e63 e64
            refine s_ef1 (d := some 69) (v := (Sl.v ((⟨some p62, 1, 1⟩ : Sl)))) (h' := h7) rfl rfl rfl (fun dr => (slFDVInv_22.build (cells := #[(.int .i64 x54)]) (by decide) rfl (by kernel_rfl)).trans (by rw [e63, e64]; rfl)) ⟨trivial, trivial⟩ ?_ trivial
            refine s_ef (d := some 70) rfl rfl rfl (fun dr => slFDVInv_22.append rfl rfl H) ?_ trivial
            rintro _ h8 ⟨s65, rfl, H⟩
            refine ⟨⟨trivial, trivial⟩, ?_⟩
            refine s_pu (d := some 8) (v := (Sl.v s65)) rfl rfl rfl (r_assign rfl) ?_
            refine s_pu (d := some 6) (v := (Sl.v s56)) rfl rfl rfl (r_assign rfl) ?_
            refine s_fin ?_
            show W _ _ _ _ _ _ _ _
            refine W_region (.pu 0 (.pu 1 (.pu 2 (.pu 3 (.pu 4 .fin))))) rfl rfl ?_
            refine s_pu (d := some 73) (v := (.int .i64 n21)) rfl rfl rfl (r_move rfl) ?_
            refine s_pu (d := some 74) (v := (Sl.v a19)) rfl rfl rfl (r_move rfl) ?_
            refine s_pu (d := some 75) (v := (.int .i64 ((a19.len : Int)))) rfl rfl rfl (r_len Tryd.underlying22 rfl) ?_
            refine s_pu (d := some 76) (v := (.int .i64 (w64 (n21 + ((a19.len : Int)))))) rfl rfl rfl (r_add rfl rfl) ?_
            refine s_pu (d := some 7) (v := (.int .i64 (w64 (n21 + ((a19.len : Int)))))) rfl rfl rfl (r_assign rfl) ?_
            refine s_fin ?_
            exact WL_mk (l := [(4, (Sl.v a19)), (5, (.int .i64 y10)), (6, (Sl.v s56)), (7, (.int .i64 (w64 (n21 + ((a19.len : Int)))))), (8, (Sl.v s65))]) H ⟨rfl, rfl, rfl, rfl, rfl, trivial⟩)
        clear eN29
        refine W_draw [0, 1, 3, 7, 15, 31, 63, 127, 255, 511, 1023, 255, 2303, 6399, 16383, 32767, 65535] (.pu 0 (.pu 1 (.pu 2 (.pu 3 (.pu 4 (.pu 5 (.pu 6 (.pu 7 (.pu 8 (.pu 9 (.rd 10 (.pu 11 (.pu 12 (.rd 13 (.pu 14 (.pu 15 (.pu 16 .fin))))))))))))))))) (by kernel_rfl) (by kernel_rfl) ?_
        refine s_pu (d := some 40) (v := (Sl.v vb20)) rfl rfl rfl (r_move rfl) ?_
        refine s_pu (d := some 41) (v := (.int .i64 ((vb20.len : Int)))) rfl rfl rfl (r_len Tryd.underlying22 rfl) ?_
        refine s_pu (d := some 42) (v := (.bool (decide (((vb20.len : Int)) = 0)))) rfl rfl rfl (r_eql rfl rfl) ?_
        refine s_pu (d := some 43) (v := (.bool (decide (((vb20.len : Int)) = 0)))) rfl rfl rfl (r_move rfl) ?_
        rcases Bool.eq_false_or_eq_true (decide (((vb20.len : Int)) = 0)) with g67 | g67
        · have H := H.1 g67
          refine s_sk (d := some 44) rfl rfl (wants_no rfl rfl rfl rfl g67) ?_
          refine s_sk (d := some 45) rfl rfl (wants_no rfl rfl rfl rfl g67) ?_
          refine s_sk (d := some 46) rfl rfl (wants_no rfl rfl rfl rfl g67) ?_
          refine s_sk (d := some 47) rfl rfl (wants_no rfl rfl rfl rfl g67) ?_
          refine s_sk (d := some 48) rfl rfl (wants_un rfl rfl rfl) ?_
          refine s_sk (d := some 49) rfl rfl (wants_un rfl rfl rfl) ?_
          refine s_skd (d := some 50) rfl rfl (wants_un rfl rfl rfl) ?_
          refine s_sk (d := some 51) rfl rfl (wants_un rfl rfl rfl) ?_
          refine s_sk (d := some 52) rfl rfl (wants_un rfl rfl rfl) ?_
          refine s_skd (d := some 53) rfl rfl (wants_un rfl rfl rfl) ?_
          refine s_sk (d := some 54) rfl rfl (wants_un rfl rfl rfl) ?_
          refine s_sk (d := some 55) rfl rfl (wants_no rfl rfl rfl rfl g67) ?_
          refine s_pu (d := some 56) (v := (.bool true)) rfl rfl rfl (r_pick1 rfl g67 rfl) ?_
          refine s_fin ?_
          exact N_mk (l := [(4, (Sl.v a19)), (5, (.int .i64 y10)), (6, (Sl.v vb20)), (7, (.int .i64 n21)), (8, (Sl.v out22)), (56, (.bool true))]) H ⟨rfl, rfl, rfl, rfl, rfl, rfl, trivial⟩
        · have H := H.2 g67
          refine s_pu (d := some 44) (v := (Sl.v a19)) rfl rfl (wants_yes rfl rfl rfl rfl g67) (r_move rfl) ?_
          refine s_pu (d := some 45) (v := (.int .i64 ((a19.len : Int)))) rfl rfl (wants_yes rfl rfl rfl rfl g67) (r_len Tryd.underlying22 rfl) ?_
          refine s_pu (d := some 46) (v := (.bool (decide (0 < ((a19.len : Int)))))) rfl rfl (wants_yes rfl rfl rfl rfl g67) (r_gtr rfl rfl) ?_
          refine s_pu (d := some 47) (v := (.bool (decide (0 < ((a19.len : Int)))))) rfl rfl (wants_yes rfl rfl rfl rfl g67) (r_move rfl) ?_
          rcases Bool.eq_false_or_eq_true (decide (0 < ((a19.len : Int)))) with g68 | g68
          · have H := H.1 g68
            refine s_pu (d := some 48) (v := (Sl.v a19)) rfl rfl (wants_yes rfl rfl rfl rfl g68) (r_move rfl) ?_
            obtain ⟨p69, e70, e71, e72, H⟩ := H
            obtain ⟨q73, e74⟩ : ∃ q : Addr, q = Addr.add p69 (Int.toNat 0 * 1) := ⟨_, rfl⟩
            rw [← e74] at H
            refine s_pu (d := some 49) (v := (.pointer (some q73))) rfl rfl (wants_yes rfl rfl rfl rfl g68) (fun w => (r_indexAddr Tryd.underlying22 Tryd.sizeOf3 rfl rfl e70 e71 e72 w).trans (by rw [e74])) ?_
            obtain ⟨x75, e76, H⟩ := H
            refine s_rd (d := some 50) (v := (.int .i64 x75)) rfl rfl (wants_yes rfl rfl rfl rfl g68) (fun dr => r_load1 Tryd.isAgg3 rfl e76) ?_
            refine s_pu (d := some 51) (v := (Sl.v vb20)) rfl rfl (wants_yes rfl rfl rfl rfl g68) (r_move rfl) ?_
            obtain ⟨p77, e78, e79, e80, H⟩ := H
            obtain ⟨q81, e82⟩ : ∃ q : Addr, q = Addr.add p77 (Int.toNat 0 * 1) := ⟨_, rfl⟩
            rw [← e82] at H
            refine s_pu (d := some 52) (v := (.pointer (some q81))) rfl rfl (wants_yes rfl rfl rfl rfl g68) (fun w => (r_indexAddr Tryd.underlying22 Tryd.sizeOf3 rfl rfl e78 e79 e80 w).trans (by rw [e82])) ?_
            obtain ⟨x83, e84, H⟩ := H
            refine s_rd (d := some 53) (v := (.int .i64 x83)) rfl rfl (wants_yes rfl rfl rfl rfl g68) (fun dr => r_load1 Tryd.isAgg3 rfl e84) ?_
            refine s_pu (d := some 54) (v := (.bool (decide (x75 ≤ x83)))) rfl rfl (wants_yes rfl rfl rfl rfl g68) (r_leq rfl rfl) ?_
            refine s_pu (d := some 55) (v := (.bool (decide (x75 ≤ x83)))) rfl rfl (wants_yes rfl rfl rfl rfl g67) (r_pick1 rfl g68 rfl) ?_
            refine s_pu (d := some 56) (v := (.bool (decide (x75 ≤ x83)))) rfl rfl rfl (r_pick0 rfl g67 rfl) ?_
            refine s_fin ?_
            exact N_mk (l := [(4, (Sl.v a19)), (5, (.int .i64 y10)), (6, (Sl.v vb20)), (7, (.int .i64 n21)), (8, (Sl.v out22)), (56, (.bool (decide (x75 ≤ x83))))]) H ⟨rfl, rfl, rfl, rfl, rfl, rfl, trivial⟩
          · have H := H.2 g68
            refine s_sk (d := some 48) rfl rfl (wants_no rfl rfl rfl rfl g68) ?_
            refine s_sk (d := some 49) rfl rfl (wants_no rfl rfl rfl rfl g68) ?_
            refine s_skd (d := some 50) rfl rfl (wants_no rfl rfl rfl rfl g68) ?_
            refine s_sk (d := some 51) rfl rfl (wants_no rfl rfl rfl rfl g68) ?_
            refine s_sk (d := some 52) rfl rfl (wants_no rfl rfl rfl rfl g68) ?_
            refine s_skd (d := some 53) rfl rfl (wants_no rfl rfl rfl rfl g68) ?_
            refine s_sk (d := some 54) rfl rfl (wants_no rfl rfl rfl rfl g68) ?_
            refine s_pu (d := some 55) (v := (.bool false)) rfl rfl (wants_yes rfl rfl rfl rfl g67) (r_pick0 rfl g68 rfl) ?_
            refine s_pu (d := some 56) (v := (.bool false)) rfl rfl rfl (r_pick0 rfl g67 rfl) ?_
            refine s_fin ?_
            exact N_mk (l := [(4, (Sl.v a19)), (5, (.int .i64 y10)), (6, (Sl.v vb20)), (7, (.int .i64 n21)), (8, (Sl.v out22)), (56, (.bool false))]) H ⟨rfl, rfl, rfl, rfl, rfl, rfl, trivial⟩
      · have H := H.2 g85
        refine W_exit (inX_here ?_)
        show W _ _ _ _ _ _ _ _
        refine W_seq ?_
        refine W_region (.pu 0 (.pu 1 (.pu 2 (.pu 3 (.pu 4 (.pu 5 .fin)))))) rfl rfl ?_
        refine s_pu (d := some 77) (v := (Sl.v out22)) rfl rfl rfl (r_move rfl) ?_
        refine s_pu (d := some 78) (v := (.int .i64 y10)) rfl rfl rfl (r_move rfl) ?_
        refine s_pu (d := some 79) (v := (.int .i64 n21)) rfl rfl rfl (r_move rfl) ?_
        refine s_pu (d := some 80) (v := (.int .i64 (w64 (y10 + n21)))) rfl rfl rfl (r_add rfl rfl) ?_
        refine s_pu (d := some 2) (v := (Sl.v out22)) rfl rfl rfl (r_assign rfl) ?_
        refine s_pu (d := some 3) (v := (.int .i64 (w64 (y10 + n21)))) rfl rfl rfl (r_assign rfl) ?_
        refine s_fin ?_
        show W _ _ _ _ _ _ _ _
        refine W_ret ?_
        exact ⟨[(Sl.v out22), (.int .i64 (w64 (y10 + n21)))], ⟨_, _, rfl, rfl, ⟨_, _, rfl, rfl, rfl⟩⟩, out22, (w64 (y10 + n21)), rfl, H⟩
    · rcases Bool.eq_false_or_eq_true (decide (0 < ((a19.len : Int)))) with g24 | g24
      · refine s_sk (d := some 36) rfl rfl (wants_no rfl rfl rfl rfl g24) ?_
        refine s_sk (d := some 37) rfl rfl (wants_no rfl rfl rfl rfl g24) ?_
        refine s_sk (d := some 38) rfl rfl (wants_no rfl rfl rfl rfl g24) ?_
        refine s_pu (d := some 39) (v := (.bool true)) rfl rfl rfl (r_pick1 rfl g24 rfl) ?_
        exact S_mk (l := [(4, (Sl.v a19)), (5, (.int .i64 y10)), (6, (Sl.v vb20)), (7, (.int .i64 n21)), (8, (Sl.v out22)), (39, (.bool ((decide (0 < ((a19.len : Int)))) || (decide (0 < ((vb20.len : Int)))))))]) HJ ⟨rfl, rfl, rfl, rfl, rfl, (by rw [g24]; rfl), trivial⟩
      · refine s_pu (d := some 36) (v := (Sl.v vb20)) rfl rfl (wants_yes rfl rfl rfl rfl g24) (r_move rfl) ?_
        refine s_pu (d := some 37) (v := (.int .i64 ((vb20.len : Int)))) rfl rfl (wants_yes rfl rfl rfl rfl g24) (r_len Tryd.underlying22 rfl) ?_
        refine s_pu (d := some 38) (v := (.bool (decide (0 < ((vb20.len : Int)))))) rfl rfl (wants_yes rfl rfl rfl rfl g24) (r_gtr rfl rfl) ?_
        refine s_pu (d := some 39) (v := (.bool (decide (0 < ((vb20.len : Int)))))) rfl rfl rfl (r_pick0 rfl g24 rfl) ?_
        exact S_mk (l := [(4, (Sl.v a19)), (5, (.int .i64 y10)), (6, (Sl.v vb20)), (7, (.int .i64 n21)), (8, (Sl.v out22)), (39, (.bool ((decide (0 < ((a19.len : Int)))) || (decide (0 < ((vb20.len : Int)))))))]) HJ ⟨rfl, rfl, rfl, rfl, rfl, (by rw [g24]; rfl), trivial⟩

/-! ### inv_Count -/

def inv_Count_F (r : World) (l1 : Sl) (h : Heap) (R : Int → Heap → Prop) : Prop :=
  inv_sorted r l1 h fun y2 y3 h1 =>
  R y3 h1

set_option maxRecDepth 100000 in
theorem inv_Count_of {r : World} {l1 : Sl} {h : Heap} {R : Int → Heap → Prop} (H : inv_Count_F r l1 h R) : inv_Count r l1 h R := by
  unfold inv_Count_F at H
  refine calls_of 11 [.tmp 2] Tryd.func58 rfl rfl rfl rfl rfl ?_
  refine W_seq ?_
  refine W_region (.pu 0 .fin) rfl rfl ?_
  refine s_pu (d := some 2) (v := (.int .i64 0)) rfl rfl rfl (r_assign rfl) ?_
  refine s_fin ?_
  show W _ _ _ _ _ _ _ _
  refine W_seq ?_
  refine W_region (.pu 0 (.ef 1 [] (.pu 2 (.pu 3 (.pu 4 (.pu 5 (.pu 6 .fin))))) .no)) rfl rfl ?_
  refine s_pu (d := some 6) (v := (Sl.v l1)) rfl rfl rfl (r_move rfl) ?_
  refine s_ef (d := some 7) rfl rfl rfl (fun dr => r_call Tryd.call95 rfl rfl H) ?_ trivial
  rintro _ h1 ⟨y2, y3, rfl, H⟩
  refine ⟨trivial, ?_⟩
  refine s_pu (d := some 5) (v := (.tuple #[(Sl.v y2), (.int .i64 y3)])) rfl rfl rfl (r_move rfl) ?_
  refine s_pu (d := some 8) (v := (Sl.v y2)) rfl rfl rfl (r_extract rfl rfl) ?_
  refine s_pu (d := some 9) (v := (.int .i64 y3)) rfl rfl rfl (r_extract rfl rfl) ?_
  refine s_pu (d := some 3) (v := (Sl.v y2)) rfl rfl rfl (r_assign rfl) ?_
  refine s_pu (d := some 4) (v := (.int .i64 y3)) rfl rfl rfl (r_assign rfl) ?_
  refine s_fin ?_
  show W _ _ _ _ _ _ _ _
  refine W_seq ?_
  refine W_region (.pu 0 (.pu 1 .fin)) rfl rfl ?_
  refine s_pu (d := some 10) (v := (.int .i64 y3)) rfl rfl rfl (r_move rfl) ?_
  refine s_pu (d := some 2) (v := (.int .i64 y3)) rfl rfl rfl (r_assign rfl) ?_
  refine s_fin ?_
  show W _ _ _ _ _ _ _ _
  refine W_ret ?_
  exact ⟨[(.int .i64 y3)], ⟨_, _, rfl, rfl, rfl⟩, y3, rfl, H⟩

/-! ### inv_Check -/

def inv_Check_F (r : World) (p1 : Sl) (h : Heap) (R : Value → Heap → Prop) : Prop :=
  Br (decide (20 < ((p1.len : Int)))) (
    R ((.iface 29 (.int .i64 4))) h) (
    ∀ X3 : Int → Heap → Prop, (∀ (x2 : Int) (h1 : Heap),
      (Br (decide (x2 < ((p1.len : Int)))) (
        Ix p1 x2 1 fun q8 =>
        LdI h1 q8 fun x10 =>
        ∀ J13 : Bool → Heap → Prop, (∀ (x12 : Bool) (h2 : Heap),
          (Br x12 (
            R ((.iface 29 (.int .i64 3))) h2) (
            X3 (w64 (x2 + 1)) h2)) →
          J13 x12 h2) →
        Br (decide (x10 < 0)) (
          J13 true h1) (
          Br (decide (((p1.len : Int)) ≤ x10)) (
            J13 true h1) (
            Sub p1 0 x2 ((p1.cap : Int)) 1 fun s18 =>
            slices_Contains_int_int r s18 x10 h1 fun y24 h3 =>
            J13 y24 h3))) (
        R .nilIface h1)) →
      X3 x2 h1) →
    X3 0 h)

set_option maxRecDepth 100000 in
theorem inv_Check_of {r : World} {p1 : Sl} {h : Heap} {R : Value → Heap → Prop} (H : inv_Check_F r p1 h R) : inv_Check r p1 h R := by
  unfold inv_Check_F at H
  refine calls_of 33 [.tmp 2] Tryd.func61 rfl rfl rfl rfl rfl ?_
  refine W_seq ?_
  refine W_region (.pu 0 .fin) rfl rfl ?_
  refine s_pu (d := some 2) (v := .nilIface) rfl rfl rfl (r_assign rfl) ?_
  refine s_fin ?_
  show W _ _ _ _ _ _ _ _
  refine W_seq ?_
  refine W_seq ?_
  refine W_region (.pu 0 (.pu 1 (.pu 2 .fin))) rfl rfl ?_
  refine s_pu (d := some 5) (v := (Sl.v p1)) rfl rfl rfl (r_move rfl) ?_
  refine s_pu (d := some 6) (v := (.int .i64 ((p1.len : Int)))) rfl rfl rfl (r_len Tryd.underlying22 rfl) ?_
  refine s_pu (d := some 7) (v := (.bool (decide (20 < ((p1.len : Int)))))) rfl rfl rfl (r_gtr rfl rfl) ?_
  refine s_fin ?_
  show W _ _ _ _ _ _ _ _
  refine W_if (decide (20 < ((p1.len : Int)))) rfl (fun g26 => ?_) (fun g26 => ?_)
  · have H := H.1 g26
    refine W_seq ?_
    refine W_region (.pu 0 (.pu 1 .fin)) rfl rfl ?_
    refine s_pu (d := some 8) (v := ((.iface 29 (.int .i64 4)))) rfl rfl rfl (r_iface Tryd.underlying29 rfl rfl) ?_
    refine s_pu (d := some 2) (v := ((.iface 29 (.int .i64 4)))) rfl rfl rfl (r_assign rfl) ?_
    refine s_fin ?_
    show W _ _ _ _ _ _ _ _
    refine W_ret ?_
    exact ⟨[((.iface 29 (.int .i64 4)))], ⟨_, _, rfl, rfl, rfl⟩, H⟩
  · have H := H.2 g26
    refine W_skip ?_
    show W _ _ _ _ _ _ _ _
    refine W_seq ?_
    refine W_seq ?_
    refine W_region (.pu 0 (.pu 1 (.pu 2 .fin))) rfl rfl ?_
    refine s_pu (d := some 9) (v := (Sl.v p1)) rfl rfl rfl (r_move rfl) ?_
    refine s_pu (d := some 10) (v := (.int .i64 ((p1.len : Int)))) rfl rfl rfl (r_len Tryd.underlying22 rfl) ?_
    refine s_pu (d := some 11) (v := (.int .i64 0)) rfl rfl rfl (r_move rfl) ?_
    refine s_fin ?_
    show W _ _ _ _ _ _ _ _
    refine W_block ?_
    refine W_loop (WL_mk (l := [(0, (Sl.v p1)), (9, (Sl.v p1)), (10, (.int .i64 ((p1.len : Int)))), (11, (.int .i64 0))]) ?_ ⟨rfl, rfl, rfl, rfl, trivial⟩)
    refine H (fun (x2 : Int) (h1 : Heap) => ∀ b, WL _ _ _ _ _ _ (mkE [(0, (Sl.v p1)), (9, (Sl.v p1)), (10, (.int .i64 ((p1.len : Int)))), (11, (.int .i64 x2))] b) h1) ?_
    intro x2 h1 H b
    refine WL_round ?_
    refine W_seq ?_
    refine W_region (.pu 0 .fin) rfl rfl ?_
    refine s_pu (d := some 12) (v := (.bool (decide (x2 < ((p1.len : Int)))))) rfl rfl rfl (r_lss rfl rfl) ?_
    refine s_fin ?_
    show W _ _ _ _ _ _ _ _
    refine W_seq ?_
    refine W_if (decide (x2 < ((p1.len : Int)))) rfl (fun g25 => ?_) (fun g25 => ?_)
    · have H := H.1 g25
      refine W_skip ?_
      show W _ _ _ _ _ _ _ _
      refine W_seq ?_
      refine W_block ?_
      refine W_seq ?_
      refine W_region (.pu 0 (.pu 1 (.rl 2 (.pu 3 (.pu 4 .fin))))) rfl rfl ?_
      refine s_pu (d := some 13) (v := (.int .i64 x2)) rfl rfl rfl (r_move rfl) ?_
      obtain ⟨p4, e5, e6, e7, H⟩ := H
      obtain ⟨q8, e9⟩ : ∃ q : Addr, q = Addr.add p4 (Int.toNat x2 * 1) := ⟨_, rfl⟩
      rw [← e9] at H
      refine s_pu (d := some 14) (v := (.pointer (some q8))) rfl rfl rfl (fun w => (r_indexAddr Tryd.underlying22 Tryd.sizeOf3 rfl rfl e5 e6 e7 w).trans (by rw [e9])) ?_
      obtain ⟨x10, e11, H⟩ := H
      refine s_rl (d := some 15) (v := (.int .i64 x10)) rfl rfl rfl (fun dr => r_load1 Tryd.isAgg3 rfl e11) ?_
      refine s_pu (d := some 3) (v := (.int .i64 x2)) rfl rfl rfl (r_assign rfl) ?_
      refine s_pu (d := some 4) (v := (.int .i64 x10)) rfl rfl rfl (r_assign rfl) ?_
      refine s_fin ?_
      show W _ _ _ _ _ _ _ _
      refine W_seq ?_
      refine W_set ?_
      intro N14 eN14
      have H := H (fun (x12 : Bool) (h2 : Heap) => ∀ b, N14 [] (mkE [(0, (Sl.v p1)), (9, (Sl.v p1)), (10, (.int .i64 ((p1.len : Int)))), (11, (.int .i64 x2)), (30, (.bool x12))] b) h2) (by
        intro x12 h2 H b
        rw [eN14]
        show W _ _ _ _ _ _ _ _
        refine W_if x12 rfl (fun g15 => ?_) (fun g15 => ?_)
        · have H := H.1 g15
          refine W_seq ?_
          refine W_region (.pu 0 (.pu 1 .fin)) rfl rfl ?_
          refine s_pu (d := some 31) (v := ((.iface 29 (.int .i64 3)))) rfl rfl rfl (r_iface Tryd.underlying29 rfl rfl) ?_
          refine s_pu (d := some 2) (v := ((.iface 29 (.int .i64 3)))) rfl rfl rfl (r_assign rfl) ?_
          refine s_fin ?_
          show W _ _ _ _ _ _ _ _
          refine W_ret ?_
          exact ⟨[((.iface 29 (.int .i64 3)))], ⟨_, _, rfl, rfl, rfl⟩, H⟩
        · have H := H.2 g15
          refine W_skip ?_
          show W _ _ _ _ _ _ _ _
          refine W_region (.pu 0 (.pu 1 .fin)) rfl rfl ?_
          refine s_pu (d := some 32) (v := (.int .i64 (w64 (x2 + 1)))) rfl rfl rfl (r_add rfl rfl) ?_
          refine s_pu (d := some 11) (v := (.int .i64 (w64 (x2 + 1)))) rfl rfl rfl (r_move rfl) ?_
          refine s_fin ?_
          exact WL_mk (l := [(0, (Sl.v p1)), (9, (Sl.v p1)), (10, (.int .i64 ((p1.len : Int)))), (11, (.int .i64 (w64 (x2 + 1))))]) H ⟨rfl, rfl, rfl, rfl, trivial⟩)
      clear eN14
      refine W_region (.pu 0 (.pu 1 (.pu 2 (.pu 3 (.pu 4 (.pu 5 (.pu 6 (.pu 7 (.pu 8 (.pu 9 (.pu 10 (.pu 11 (.pu 12 (.ef 13 [] (.pu 14 .fin) .no)))))))))))))) rfl rfl ?_
      refine s_pu (d := some 16) (v := (.int .i64 x10)) rfl rfl rfl (r_move rfl) ?_
      refine s_pu (d := some 17) (v := (.bool (decide (x10 < 0)))) rfl rfl rfl (r_lss rfl rfl) ?_
      refine s_pu (d := some 18) (v := (.bool (decide (x10 < 0)))) rfl rfl rfl (r_move rfl) ?_
      rcases Bool.eq_false_or_eq_true (decide (x10 < 0)) with g16 | g16
      · have H := H.1 g16
        refine s_sk (d := some 19) rfl rfl (wants_no rfl rfl rfl rfl g16) ?_
        refine s_sk (d := some 20) rfl rfl (wants_no rfl rfl rfl rfl g16) ?_
        refine s_sk (d := some 21) rfl rfl (wants_no rfl rfl rfl rfl g16) ?_
        refine s_sk (d := some 22) rfl rfl (wants_no rfl rfl rfl rfl g16) ?_
        refine s_pu (d := some 23) (v := (.bool true)) rfl rfl rfl (r_pick1 rfl g16 rfl) ?_
        refine s_pu (d := some 24) (v := (.bool true)) rfl rfl rfl (r_move rfl) ?_
        refine s_sk (d := some 25) rfl rfl (wants_no rfl rfl rfl rfl rfl) ?_
        refine s_sk (d := some 26) rfl rfl (wants_no rfl rfl rfl rfl rfl) ?_
        refine s_sk (d := some 27) rfl rfl (wants_no rfl rfl rfl rfl rfl) ?_
        refine s_sk (d := some 28) rfl rfl (wants_no rfl rfl rfl rfl rfl) ?_
        refine s_skf (d := some 29) rfl rfl (wants_no rfl rfl rfl rfl rfl) trivial ?_ trivial
        refine s_pu (d := some 30) (v := (.bool true)) rfl rfl rfl (r_pick1 rfl rfl rfl) ?_
        refine s_fin ?_
        exact N_mk (l := [(0, (Sl.v p1)), (9, (Sl.v p1)), (10, (.int .i64 ((p1.len : Int)))), (11, (.int .i64 x2)), (30, (.bool true))]) H ⟨rfl, rfl, rfl, rfl, rfl, trivial⟩
      · have H := H.2 g16
        refine s_pu (d := some 19) (v := (.int .i64 x10)) rfl rfl (wants_yes rfl rfl rfl rfl g16) (r_move rfl) ?_
        refine s_pu (d := some 20) (v := (Sl.v p1)) rfl rfl (wants_yes rfl rfl rfl rfl g16) (r_move rfl) ?_
        refine s_pu (d := some 21) (v := (.int .i64 ((p1.len : Int)))) rfl rfl (wants_yes rfl rfl rfl rfl g16) (r_len Tryd.underlying22 rfl) ?_
        refine s_pu (d := some 22) (v := (.bool (decide (((p1.len : Int)) ≤ x10)))) rfl rfl (wants_yes rfl rfl rfl rfl g16) (r_geq rfl rfl) ?_
        refine s_pu (d := some 23) (v := (.bool (decide (((p1.len : Int)) ≤ x10)))) rfl rfl rfl (r_pick0 rfl g16 rfl) ?_
        refine s_pu (d := some 24) (v := (.bool (decide (((p1.len : Int)) ≤ x10)))) rfl rfl rfl (r_move rfl) ?_
        rcases Bool.eq_false_or_eq_true (decide (((p1.len : Int)) ≤ x10)) with g17 | g17
        · have H := H.1 g17
          refine s_sk (d := some 25) rfl rfl (wants_no rfl rfl rfl rfl g17) ?_
          refine s_sk (d := some 26) rfl rfl (wants_no rfl rfl rfl rfl g17) ?_
          refine s_sk (d := some 27) rfl rfl (wants_no rfl rfl rfl rfl g17) ?_
          refine s_sk (d := some 28) rfl rfl (wants_no rfl rfl rfl rfl g17) ?_
          refine s_skf (d := some 29) rfl rfl (wants_no rfl rfl rfl rfl g17) trivial ?_ trivial
          refine s_pu (d := some 30) (v := (.bool true)) rfl rfl rfl (r_pick1 rfl g17 rfl) ?_
          refine s_fin ?_
          exact N_mk (l := [(0, (Sl.v p1)), (9, (Sl.v p1)), (10, (.int .i64 ((p1.len : Int)))), (11, (.int .i64 x2)), (30, (.bool true))]) H ⟨rfl, rfl, rfl, rfl, rfl, trivial⟩
        · have H := H.2 g17
          refine s_pu (d := some 25) (v := (Sl.v p1)) rfl rfl (wants_yes rfl rfl rfl rfl g17) (r_move rfl) ?_
          refine s_pu (d := some 26) (v := (.int .i64 x2)) rfl rfl (wants_yes rfl rfl rfl rfl g17) (r_move rfl) ?_
          obtain ⟨e19, e20, e21, e22, H⟩ := H
          obtain ⟨s18, e23⟩ : ∃ t : Sl, t = ⟨sliceA p1.a (Int.toNat ((p1.cap : Int))) (Int.toNat 0) 1, Int.toNat x2 - Int.toNat 0, Int.toNat ((p1.cap : Int)) - Int.toNat 0⟩ := ⟨_, rfl⟩
          have H := H s18 e23
          refine s_pu (d := some 27) (v := (Sl.v s18)) rfl rfl (wants_yes rfl rfl rfl rfl g17) (fun w => (r_slice (lo := .none) (hi := (.some (.tmp 26))) (mx := .none) Tryd.underlying22 Tryd.sizeOf3 rfl ((p1.cap : Int)) x2 0 rfl ⟨_, rfl⟩ rfl e19 e20 (.inr e21) e22 w).trans (by rw [e23]; rfl)) ?_
          refine s_pu (d := some 28) (v := (.int .i64 x10)) rfl rfl (wants_yes rfl rfl rfl rfl g17) (r_move rfl) ?_
          refine s_ef (d := some 29) rfl rfl (wants_yes rfl rfl rfl rfl g17) (fun dr => r_call Tryd.call97 rfl rfl H) ?_ trivial
          rintro _ h3 ⟨y24, rfl, H⟩
          refine ⟨trivial, ?_⟩
          refine s_pu (d := some 30) (v := (.bool y24)) rfl rfl rfl (r_pick0 rfl g17 rfl) ?_
          refine s_fin ?_
          exact N_mk (l := [(0, (Sl.v p1)), (9, (Sl.v p1)), (10, (.int .i64 ((p1.len : Int)))), (11, (.int .i64 x2)), (30, (.bool y24))]) H ⟨rfl, rfl, rfl, rfl, rfl, trivial⟩
    · have H := H.2 g25
      refine W_exit (inX_here ?_)
      show W _ _ _ _ _ _ _ _
      refine W_seq ?_
      refine W_region (.pu 0 .fin) rfl rfl ?_
      refine s_pu (d := some 2) (v := .nilIface) rfl rfl rfl (r_assign rfl) ?_
      refine s_fin ?_
      show W _ _ _ _ _ _ _ _
      refine W_ret ?_
      exact ⟨[.nilIface], ⟨_, _, rfl, rfl, rfl⟩, H⟩

/-! ### inv_Lehmer -/

def inv_Lehmer_F (r : World) (p1 : Sl) (h : Heap) (R : Sl → Value → Heap → Prop) : Prop :=
  inv_Check r p1 h fun y2 h1 =>
  (isIface y2 = true) ∧
  Br (!(isNil y2)) (
    R Sl.nil y2 h1) (
    New h1 (.cells #[(.pointer none)] 138) fun p4 h2 =>
    New h2 (.cells #[(Sl.v Sl.nil)] 22) fun p7 h3 =>
    slices_Backward_int_int r p1 h3 fun y10 h4 =>
    ∀ (D11 : Nat) (o12 : Obj) (h5 : Heap), D11 = Array.size h4 → h5 = (h4.push (.deferred (some []))).push o12 → notCells o12 = true →
      (∀ (a21 : Int) (a22 : Int) (h6 : Heap) (K13 : Value → Heap → Prop), (h6[D11 + 1]? = some o12) →
        (∀ h9 : Heap, h9 = hput h6 (D11 + 1) (busyO o12) →
          LdS h9 p7 fun x23 =>
          LdP h9 (Addr.add p4 0) fun x25 =>
          ord_Order_Between r x25 0 a22 h9 fun y27 h10 =>
          (hcell h10 p7 = some (Sl.v x23)) ∧
          New h10 (.cells #[(.int .i64 ((y27.len : Int)))] 3) fun p29 h11 =>
          (hcell h11 p7 = some (Sl.v x23)) ∧
          App 3 1 8 (.int .i64 0) x23 ((⟨some p29, 1, 1⟩ : Sl)) h11 fun s33 h12 =>
          St h12 p7 1 [(Sl.v s33)] fun h13 =>
          LdP h13 (Addr.add p4 0) fun x36 =>
          ord_Order_Insert r x36 a22 h13 fun y38 h14 =>
          St h14 p4 1 [(.pointer y38)] fun h15 =>
          (h15[D11 + 1]? = some (busyO o12)) ∧ K13 (.bool true) (hput h15 (D11 + 1) o12)) →
        YieldH Tryd.prog r (D11 + 1) [(.int .i64 a21), (.int .i64 a22)] h6 K13) →
    CallF Tryd.prog r y10 [.func (.yield (D11 + 1)) #[] #[]] h5 fun _ h7 => (h7[D11 + 1]? = some o12) ∧ ∀ (o20 : Obj) (h8 : Heap), h8 = hput h7 (D11 + 1) o20 →
    LdS h8 p7 fun x41 =>
    slices_Reverse_int_int r x41 h8 fun  h16 =>
    LdS h16 p7 fun x43 =>
    (h16[D11]? = some (.deferred (some []))) ∧ ∀ h17 : Heap, h17 = hput h16 D11 (.deferred none) →
    R x43 .nilIface h17)

set_option maxRecDepth 100000 in
theorem inv_Lehmer_of {r : World} {p1 : Sl} {h : Heap} {R : Sl → Value → Heap → Prop} (H : inv_Lehmer_F r p1 h R) : inv_Lehmer r p1 h R := by
  unfold inv_Lehmer_F at H
  refine calls_of 31 [.tmp 2, .tmp 3] Tryd.func64 rfl rfl rfl rfl rfl ?_
  refine W_seq ?_
  refine W_region (.pu 0 (.pu 1 .fin)) rfl rfl ?_
  refine s_pu (d := some 2) (v := (Sl.v Sl.nil)) rfl rfl rfl (r_assign rfl) ?_
  refine s_pu (d := some 3) (v := .nilIface) rfl rfl rfl (r_assign rfl) ?_
  refine s_fin ?_
  show W _ _ _ _ _ _ _ _
  refine W_seq ?_
  refine W_seq ?_
  refine W_region (.pu 0 (.ef 1 [] (.pu 2 .fin) .no)) rfl rfl ?_
  refine s_pu (d := some 9) (v := (Sl.v p1)) rfl rfl rfl (r_move rfl) ?_
  refine s_ef (d := some 10) rfl rfl rfl (fun dr => r_call Tryd.call61 rfl rfl H) ?_ trivial
  rintro y2 h1 H
  refine ⟨trivial, ?_⟩
  refine s_pu (d := some 4) (v := y2) rfl rfl rfl (r_assign rfl) ?_
  refine s_fin ?_
  show W _ _ _ _ _ _ _ _
  refine W_seq ?_
  refine W_region (.pu 0 (.pu 1 .fin)) rfl rfl ?_
  refine s_pu (d := some 11) (v := y2) rfl rfl rfl (r_move rfl) ?_
  obtain ⟨e3, H⟩ := H
  refine s_pu (d := some 12) (v := (.bool (!(isNil y2)))) rfl rfl rfl (r_notNilI Tryd.underlying26 rfl e3 rfl) ?_
  refine s_fin ?_
  show W _ _ _ _ _ _ _ _
  refine W_if (!(isNil y2)) rfl (fun g47 => ?_) (fun g47 => ?_)
  · have H := H.1 g47
    refine W_seq ?_
    refine W_region (.pu 0 (.pu 1 (.pu 2 .fin))) rfl rfl ?_
    refine s_pu (d := some 13) (v := y2) rfl rfl rfl (r_move rfl) ?_
    refine s_pu (d := some 2) (v := (Sl.v Sl.nil)) rfl rfl rfl (r_assign rfl) ?_
    refine s_pu (d := some 3) (v := y2) rfl rfl rfl (r_assign rfl) ?_
    refine s_fin ?_
    show W _ _ _ _ _ _ _ _
    refine W_ret ?_
    exact ⟨[(Sl.v Sl.nil), y2], ⟨_, _, rfl, rfl, ⟨_, _, rfl, rfl, rfl⟩⟩, Sl.nil, y2, rfl, H⟩
  · have H := H.2 g47
    refine W_skip ?_
    show W _ _ _ _ _ _ _ _
    refine W_seq ?_
    refine W_region (.ef 0 [] .fin .no) rfl rfl ?_
    obtain ⟨p4, e5⟩ : ∃ p : Addr, p = ⟨h1.size, 0, none⟩ := ⟨_, rfl⟩
    obtain ⟨h2, e6⟩ : ∃ hh : Heap, hh = h1.push (.cells #[(.pointer none)] 138) := ⟨_, rfl⟩
    have H := H p4 h2 e5 e6
    refine s_ef1 (d := some 5) (v := (.pointer (some p4))) (h' := h2) rfl rfl rfl (fun dr => (r_alloc Tryd.zeroValue138).trans (by rw [e5, e6]; rfl)) trivial ?_ trivial
    refine s_fin ?_
    show W _ _ _ _ _ _ _ _
    refine W_seq ?_
    refine W_region (.ef 0 [] .fin .no) rfl rfl ?_
    obtain ⟨p7, e8⟩ : ∃ p : Addr, p = ⟨h2.size, 0, none⟩ := ⟨_, rfl⟩
    obtain ⟨h3, e9⟩ : ∃ hh : Heap, hh = h2.push (.cells #[(Sl.v Sl.nil)] 22) := ⟨_, rfl⟩
    have H := H p7 h3 e8 e9
    refine s_ef1 (d := some 6) (v := (.pointer (some p7))) (h' := h3) rfl rfl rfl (fun dr => (r_alloc Tryd.zeroValue22).trans (by rw [e8, e9]; rfl)) trivial ?_ trivial
    refine s_fin ?_
    show W _ _ _ _ _ _ _ _
    refine W_seq ?_
    refine W_seq ?_
    refine W_region (.pu 0 (.ef 1 [] .fin .no)) rfl rfl ?_
    refine s_pu (d := some 14) (v := (Sl.v p1)) rfl rfl rfl (r_move rfl) ?_
    refine s_ef (d := some 15) rfl rfl rfl (fun dr => r_call Tryd.call99 rfl rfl H) ?_ trivial
    rintro y10 h4 H
    refine ⟨trivial, ?_⟩
    refine s_fin ?_
    show W _ _ _ _ _ _ _ _
    refine W_block ?_
    refine W_rangeFunc rfl (fun fn o12 e14 => ?_)
    obtain ⟨D11, e15⟩ : ∃ D : Nat, D = Array.size h4 := ⟨_, rfl⟩
    rw [← e15] at e14 ⊢
    obtain ⟨h5, e16⟩ : ∃ hh : Heap, hh = (h4.push (.deferred (some []))).push o12 := ⟨_, rfl⟩
    rw [← e16]
    have H := H D11 o12 h5 e15 e16 (by rw [e14]; rfl) (by
      intro a21 a22 h6 K13 e19 H
      refine round_of e14 e19 rfl ?_
      refine W_region (.pu 0 .fin) rfl rfl ?_
      refine s_pu (d := some 8) (v := (.int .i64 a22)) rfl rfl rfl (r_assign rfl) ?_
      refine s_fin ?_
      refine ⟨rfl, ?_⟩
      obtain ⟨h9, e17⟩ : ∃ hh : Heap, hh = hput h6 (D11 + 1) (busyO o12) := ⟨_, rfl⟩
      rw [← e17]
      have H := H h9 e17
      refine W_block ?_
      refine W_seq ?_
      refine W_draw [0, 0, 0, 6, 14, 30, 63, 127] (.rd 0 (.rd 1 (.pu 2 (.ef 3 [1] (.pu 4 (.ef 5 [1] (.ef 6 [0, 1] (.ef 7 [0, 1] .fin .no) .no) .no)) .no)))) (by kernel_rfl) (by kernel_rfl) ?_
      obtain ⟨x23, e24, H⟩ := H
      refine s_rd (d := some 18) (v := (Sl.v x23)) rfl rfl rfl (fun dr => r_load1 Tryd.isAgg22 rfl e24) ?_
      obtain ⟨x25, e26, H⟩ := H
      refine s_rd (d := some 19) (v := (.agg #[(.pointer x25)])) rfl rfl rfl (fun dr => r_loadN Tryd.isAgg138 Tryd.sizeOf138 (vs := [(.pointer x25)]) rfl rfl ⟨e26, trivial⟩) ?_
      refine s_pu (d := some 20) (v := (.int .i64 a22)) rfl rfl rfl (r_move rfl) ?_
      refine s_ef (d := some 21) rfl rfl rfl (fun dr => r_call Tryd.call100 rfl rfl H) ?_ trivial
      rintro _ h10 ⟨y27, rfl, H⟩
      obtain ⟨e28, H⟩ := H
      refine ⟨⟨trivial, (.inl ⟨rfl, fun dr => r_load1 Tryd.isAgg22 rfl e28⟩), trivial⟩, ?_⟩
      refine s_pu (d := some 22) (v := (.int .i64 ((y27.len : Int)))) rfl rfl rfl (r_len Tryd.underlying22 rfl) ?_
      obtain ⟨p29, e30⟩ : ∃ p : Addr, p = ⟨h10.size, 0, none⟩ := ⟨_, rfl⟩
      obtain ⟨h11, e31⟩ : ∃ hh : Heap, hh = h10.push (.cells #[(.int .i64 ((y27.len : Int)))] 3) := ⟨_, rfl⟩
      have H := H p29 h11 e30 e31
      obtain ⟨e32, H⟩ := H
      refine s_ef1 (d := some 23) (v := (Sl.v ((⟨some p29, 1, 1⟩ : Sl)))) (h' := h11) rfl rfl rfl (fun dr => (slFDVInv_22.build (cells := #[(.int .i64 ((y27.len : Int)))]) (by decide) rfl (by kernel_rfl)).trans (by rw [e30, e31]; rfl)) ⟨trivial, (.inl ⟨rfl, fun dr => r_load1 Tryd.isAgg22 rfl e32⟩), trivial⟩ ?_ trivial
      refine s_ef (d := some 24) rfl rfl rfl (fun dr => slFDVInv_22.append rfl rfl H) ?_ trivial
      rintro _ h12 ⟨s33, rfl, H⟩
      refine ⟨⟨trivial, trivial, trivial⟩, ?_⟩
      obtain ⟨e35, H⟩ := H
      obtain ⟨h13, e34⟩ : ∃ hh : Heap, hh = hsets h12 p7 0 [(Sl.v s33)] := ⟨_, rfl⟩
      have H := H h13 e34
      refine s_st (d := none) (h' := h13) rfl rfl rfl (fun dr => (r_store (v := (Sl.v s33)) Tryd.sizeOf22 rfl rfl rfl (one_all rfl) e35).trans (by rw [e34]; rfl)) ⟨trivial, trivial, trivial⟩ ?_ trivial
      refine s_fin ?_
      show W _ _ _ _ _ _ _ _
      refine W_region (.rl 0 (.pu 1 (.ef 2 [] (.ef 3 [] .fin .no) .no))) rfl rfl ?_
      obtain ⟨x36, e37, H⟩ := H
      refine s_rl (d := some 25) (v := (.agg #[(.pointer x36)])) rfl rfl rfl (fun dr => r_loadN Tryd.isAgg138 Tryd.sizeOf138 (vs := [(.pointer x36)]) rfl rfl ⟨e37, trivial⟩) ?_
      refine s_pu (d := some 26) (v := (.int .i64 a22)) rfl rfl rfl (r_move rfl) ?_
      refine s_ef (d := some 27) rfl rfl rfl (fun dr => r_call Tryd.call101 rfl rfl H) ?_ trivial
      rintro _ h14 ⟨y38, rfl, H⟩
      refine ⟨trivial, ?_⟩
      obtain ⟨e40, H⟩ := H
      obtain ⟨h15, e39⟩ : ∃ hh : Heap, hh = hsets h14 p4 0 [(.pointer y38)] := ⟨_, rfl⟩
      have H := H h15 e39
      refine s_st (d := none) (h' := h15) rfl rfl rfl (fun dr => (r_store (v := (.agg #[(.pointer y38)])) Tryd.sizeOf138 rfl rfl rfl (one_all rfl) e40).trans (by rw [e39]; rfl)) trivial ?_ trivial
      refine s_fin ?_
      exact H)
    refine CallF.mono H (fun _ h7 hx => ?_)
    obtain ⟨e19, H⟩ := hx
    refine ⟨e19, fun o20 => ?_⟩
    obtain ⟨h8, e18⟩ : ∃ hh : Heap, hh = hput h7 (D11 + 1) o20 := ⟨_, rfl⟩
    rw [← e18]
    have H := H o20 h8 e18
    show W _ _ _ _ _ _ _ _
    refine W_seq ?_
    refine W_region (.rl 0 (.ef 1 [] .fin .no)) rfl rfl ?_
    obtain ⟨x41, e42, H⟩ := H
    refine s_rl (d := some 28) (v := (Sl.v x41)) rfl rfl rfl (fun dr => r_load1 Tryd.isAgg22 rfl e42) ?_
    refine s_ef (d := some 29) rfl rfl rfl (fun dr => r_call Tryd.call102 rfl rfl H) ?_ trivial
    rintro _ h16 ⟨rfl, H⟩
    refine ⟨trivial, ?_⟩
    refine s_fin ?_
    show W _ _ _ _ _ _ _ _
    refine W_seq ?_
    refine W_region (.rl 0 (.pu 1 (.pu 2 .fin))) rfl rfl ?_
    obtain ⟨x43, e44, H⟩ := H
    refine s_rl (d := some 30) (v := (Sl.v x43)) rfl rfl rfl (fun dr => r_load1 Tryd.isAgg22 rfl e44) ?_
    refine s_pu (d := some 2) (v := (Sl.v x43)) rfl rfl rfl (r_assign rfl) ?_
    refine s_pu (d := some 3) (v := .nilIface) rfl rfl rfl (r_assign rfl) ?_
    refine s_fin ?_
    show W _ _ _ _ _ _ _ _
    refine W_ret ?_
    obtain ⟨e46, H⟩ := H
    obtain ⟨h17, e45⟩ : ∃ hh : Heap, hh = hput h16 D11 (.deferred none) := ⟨_, rfl⟩
    have H := H h17 e45
    refine ⟨D11, rfl, e46, ?_⟩
    rw [← e45]
    exact ⟨[(Sl.v x43), .nilIface], ⟨_, _, rfl, rfl, ⟨_, _, rfl, rfl, rfl⟩⟩, x43, .nilIface, rfl, H⟩

/-! ### inv_Order -/

def inv_Order_F (r : World) (c1 : Sl) (h : Heap) (R : Sl → Value → Heap → Prop) : Prop :=
  Br (decide (20 < ((c1.len : Int)))) (
    R Sl.nil ((.iface 29 (.int .i64 4))) h) (
    ∀ X4 : Sl → Int → Heap → Prop, (∀ (left2 : Sl) (x3 : Int) (h1 : Heap),
      (Br (decide (x3 < ((c1.len : Int)))) (
        New h1 (.cells #[(.int .i64 x3)] 3) fun p5 h2 =>
        App 3 1 8 (.int .i64 0) left2 ((⟨some p5, 1, 1⟩ : Sl)) h2 fun s8 h3 =>
        X4 s8 (w64 (x3 + 1)) h3) (
        ∀ X12 : Sl → Sl → Int → Heap → Prop, (∀ (left9 : Sl) (out10 : Sl) (x11 : Int) (h4 : Heap),
          (Br (decide (x11 < ((c1.len : Int)))) (
            Ix c1 x11 1 fun q17 =>
            LdI h4 q17 fun x19 =>
            Br ((decide (x19 < 0)) || (decide ((w64 (((c1.len : Int)) - x11)) ≤ x19))) (
              R Sl.nil ((.iface 29 (.int .i64 3))) h4) (
              Ix left9 x19 1 fun q28 =>
              LdI h4 q28 fun x30 =>
              New h4 (.cells #[(.int .i64 x30)] 3) fun p32 h5 =>
              App 3 1 8 (.int .i64 0) out10 ((⟨some p32, 1, 1⟩ : Sl)) h5 fun s35 h6 =>
              slices_Delete_int_int r left9 x19 (w64 (x19 + 1)) h6 fun y36 h7 =>
              X12 y36 s35 (w64 (x11 + 1)) h7)) (
            R out10 .nilIface h4)) →
          X12 left9 out10 x11 h4) →
        X12 left2 Sl.nil 0 h1)) →
      X4 left2 x3 h1) →
    X4 Sl.nil 0 h)

set_option maxRecDepth 100000 in
theorem inv_Order_of {r : World} {c1 : Sl} {h : Heap} {R : Sl → Value → Heap → Prop} (H : inv_Order_F r c1 h R) : inv_Order r c1 h R := by
  unfold inv_Order_F at H
  refine calls_of 55 [.tmp 2, .tmp 3] Tryd.func68 rfl rfl rfl rfl rfl ?_
  refine W_seq ?_
  refine W_region (.pu 0 (.pu 1 .fin)) rfl rfl ?_
  refine s_pu (d := some 2) (v := (Sl.v Sl.nil)) rfl rfl rfl (r_assign rfl) ?_
  refine s_pu (d := some 3) (v := .nilIface) rfl rfl rfl (r_assign rfl) ?_
  refine s_fin ?_
  show W _ _ _ _ _ _ _ _
  refine W_seq ?_
  refine W_seq ?_
  refine W_region (.pu 0 (.pu 1 (.pu 2 .fin))) rfl rfl ?_
  refine s_pu (d := some 9) (v := (Sl.v c1)) rfl rfl rfl (r_move rfl) ?_
  refine s_pu (d := some 10) (v := (.int .i64 ((c1.len : Int)))) rfl rfl rfl (r_len Tryd.underlying22 rfl) ?_
  refine s_pu (d := some 11) (v := (.bool (decide (20 < ((c1.len : Int)))))) rfl rfl rfl (r_gtr rfl rfl) ?_
  refine s_fin ?_
  show W _ _ _ _ _ _ _ _
  refine W_if (decide (20 < ((c1.len : Int)))) rfl (fun g41 => ?_) (fun g41 => ?_)
  · have H := H.1 g41
    refine W_seq ?_
    refine W_region (.pu 0 (.pu 1 (.pu 2 .fin))) rfl rfl ?_
    refine s_pu (d := some 12) (v := ((.iface 29 (.int .i64 4)))) rfl rfl rfl (r_iface Tryd.underlying29 rfl rfl) ?_
    refine s_pu (d := some 2) (v := (Sl.v Sl.nil)) rfl rfl rfl (r_assign rfl) ?_
    refine s_pu (d := some 3) (v := ((.iface 29 (.int .i64 4)))) rfl rfl rfl (r_assign rfl) ?_
    refine s_fin ?_
    show W _ _ _ _ _ _ _ _
    refine W_ret ?_
    exact ⟨[(Sl.v Sl.nil), ((.iface 29 (.int .i64 4)))], ⟨_, _, rfl, rfl, ⟨_, _, rfl, rfl, rfl⟩⟩, Sl.nil, ((.iface 29 (.int .i64 4))), rfl, H⟩
  · have H := H.2 g41
    refine W_skip ?_
    show W _ _ _ _ _ _ _ _
    refine W_seq ?_
    refine W_region (.pu 0 (.pu 1 .fin)) rfl rfl ?_
    refine s_pu (d := some 4) (v := (Sl.v Sl.nil)) rfl rfl rfl (r_assign rfl) ?_
    refine s_pu (d := some 5) (v := (Sl.v Sl.nil)) rfl rfl rfl (r_assign rfl) ?_
    refine s_fin ?_
    show W _ _ _ _ _ _ _ _
    refine W_seq ?_
    refine W_seq ?_
    refine W_region (.pu 0 (.pu 1 (.pu 2 .fin))) rfl rfl ?_
    refine s_pu (d := some 13) (v := (Sl.v c1)) rfl rfl rfl (r_move rfl) ?_
    refine s_pu (d := some 14) (v := (.int .i64 ((c1.len : Int)))) rfl rfl rfl (r_len Tryd.underlying22 rfl) ?_
    refine s_pu (d := some 15) (v := (.int .i64 0)) rfl rfl rfl (r_move rfl) ?_
    refine s_fin ?_
    show W _ _ _ _ _ _ _ _
    refine W_block ?_
    refine W_loop (WL_mk (l := [(0, (Sl.v c1)), (4, (Sl.v Sl.nil)), (5, (Sl.v Sl.nil)), (14, (.int .i64 ((c1.len : Int)))), (15, (.int .i64 0))]) ?_ ⟨rfl, rfl, rfl, rfl, rfl, trivial⟩)
    refine H (fun (left2 : Sl) (x3 : Int) (h1 : Heap) => ∀ b, WL _ _ _ _ _ _ (mkE [(0, (Sl.v c1)), (4, (Sl.v left2)), (5, (Sl.v Sl.nil)), (14, (.int .i64 ((c1.len : Int)))), (15, (.int .i64 x3))] b) h1) ?_
    intro left2 x3 h1 H b
    refine WL_round ?_
    refine W_seq ?_
    refine W_region (.pu 0 .fin) rfl rfl ?_
    refine s_pu (d := some 16) (v := (.bool (decide (x3 < ((c1.len : Int)))))) rfl rfl rfl (r_lss rfl rfl) ?_
    refine s_fin ?_
    show W _ _ _ _ _ _ _ _
    refine W_seq ?_
    refine W_if (decide (x3 < ((c1.len : Int)))) rfl (fun g40 => ?_) (fun g40 => ?_)
    · have H := H.1 g40
      refine W_skip ?_
      show W _ _ _ _ _ _ _ _
      refine W_seq ?_
      refine W_block ?_
      refine W_seq ?_
      refine W_region (.pu 0 (.pu 1 .fin)) rfl rfl ?_
      refine s_pu (d := some 17) (v := (.int .i64 x3)) rfl rfl rfl (r_move rfl) ?_
      refine s_pu (d := some 6) (v := (.int .i64 x3)) rfl rfl rfl (r_assign rfl) ?_
      refine s_fin ?_
      show W _ _ _ _ _ _ _ _
      refine W_region (.pu 0 (.pu 1 (.ef 2 [] (.ef 3 [] (.pu 4 .fin) .no) .no))) rfl rfl ?_
      refine s_pu (d := some 18) (v := (Sl.v left2)) rfl rfl rfl (r_move rfl) ?_
      refine s_pu (d := some 19) (v := (.int .i64 x3)) rfl rfl rfl (r_move rfl) ?_
      obtain ⟨p5, e6⟩ : ∃ p : Addr, p = ⟨h1.size, 0, none⟩ := ⟨_, rfl⟩
      obtain ⟨h2, e7⟩ : ∃ hh : Heap, hh = h1.push (.cells #[(.int .i64 x3)] 3) := ⟨_, rfl⟩
      have H := H p5 h2 e6 e7
      refine s_ef1 (d := some 20) (v := (Sl.v ((⟨some p5, 1, 1⟩ : Sl)))) (h' := h2) rfl rfl rfl (fun dr => (slFDVInv_22.build (cells := #[(.int .i64 x3)]) (by decide) rfl (by kernel_rfl)).trans (by rw [e6, e7]; rfl)) trivial ?_ trivial
      refine s_ef (d := some 21) rfl rfl rfl (fun dr => slFDVInv_22.append rfl rfl H) ?_ trivial
      rintro _ h3 ⟨s8, rfl, H⟩
      refine ⟨trivial, ?_⟩
      refine s_pu (d := some 4) (v := (Sl.v s8)) rfl rfl rfl (r_assign rfl) ?_
      refine s_fin ?_
      show W _ _ _ _ _ _ _ _
      refine W_region (.pu 0 (.pu 1 .fin)) rfl rfl ?_
      refine s_pu (d := some 22) (v := (.int .i64 (w64 (x3 + 1)))) rfl rfl rfl (r_add rfl rfl) ?_
      refine s_pu (d := some 15) (v := (.int .i64 (w64 (x3 + 1)))) rfl rfl rfl (r_move rfl) ?_
      refine s_fin ?_
      exact WL_mk (l := [(0, (Sl.v c1)), (4, (Sl.v s8)), (5, (Sl.v Sl.nil)), (14, (.int .i64 ((c1.len : Int)))), (15, (.int .i64 (w64 (x3 + 1))))]) H ⟨rfl, rfl, rfl, rfl, rfl, trivial⟩
    · have H := H.2 g40
      refine W_exit (inX_here ?_)
      show W _ _ _ _ _ _ _ _
      refine W_seq ?_
      refine W_seq ?_
      refine W_region (.pu 0 (.pu 1 (.pu 2 .fin))) rfl rfl ?_
      refine s_pu (d := some 23) (v := (Sl.v c1)) rfl rfl rfl (r_move rfl) ?_
      refine s_pu (d := some 24) (v := (.int .i64 ((c1.len : Int)))) rfl rfl rfl (r_len Tryd.underlying22 rfl) ?_
      refine s_pu (d := some 25) (v := (.int .i64 0)) rfl rfl rfl (r_move rfl) ?_
      refine s_fin ?_
      show W _ _ _ _ _ _ _ _
      refine W_block ?_
      refine W_loop (WL_mk (l := [(0, (Sl.v c1)), (4, (Sl.v left2)), (5, (Sl.v Sl.nil)), (23, (Sl.v c1)), (24, (.int .i64 ((c1.len : Int)))), (25, (.int .i64 0))]) ?_ ⟨rfl, rfl, rfl, rfl, rfl, rfl, trivial⟩)
      refine H (fun (left9 : Sl) (out10 : Sl) (x11 : Int) (h4 : Heap) => ∀ b, WL _ _ _ _ _ _ (mkE [(0, (Sl.v c1)), (4, (Sl.v left9)), (5, (Sl.v out10)), (23, (Sl.v c1)), (24, (.int .i64 ((c1.len : Int)))), (25, (.int .i64 x11))] b) h4) ?_
      intro left9 out10 x11 h4 H b
      refine WL_round ?_
      refine W_seq ?_
      refine W_region (.pu 0 .fin) rfl rfl ?_
      refine s_pu (d := some 26) (v := (.bool (decide (x11 < ((c1.len : Int)))))) rfl rfl rfl (r_lss rfl rfl) ?_
      refine s_fin ?_
      show W _ _ _ _ _ _ _ _
      refine W_seq ?_
      refine W_if (decide (x11 < ((c1.len : Int)))) rfl (fun g39 => ?_) (fun g39 => ?_)
      · have H := H.1 g39
        refine W_skip ?_
        show W _ _ _ _ _ _ _ _
        refine W_seq ?_
        refine W_block ?_
        refine W_seq ?_
        refine W_region (.pu 0 (.pu 1 (.rl 2 (.pu 3 (.pu 4 .fin))))) rfl rfl ?_
        refine s_pu (d := some 27) (v := (.int .i64 x11)) rfl rfl rfl (r_move rfl) ?_
        obtain ⟨p13, e14, e15, e16, H⟩ := H
        obtain ⟨q17, e18⟩ : ∃ q : Addr, q = Addr.add p13 (Int.toNat x11 * 1) := ⟨_, rfl⟩
        rw [← e18] at H
        refine s_pu (d := some 28) (v := (.pointer (some q17))) rfl rfl rfl (fun w => (r_indexAddr Tryd.underlying22 Tryd.sizeOf3 rfl rfl e14 e15 e16 w).trans (by rw [e18])) ?_
        obtain ⟨x19, e20, H⟩ := H
        refine s_rl (d := some 29) (v := (.int .i64 x19)) rfl rfl rfl (fun dr => r_load1 Tryd.isAgg3 rfl e20) ?_
        refine s_pu (d := some 7) (v := (.int .i64 x11)) rfl rfl rfl (r_assign rfl) ?_
        refine s_pu (d := some 8) (v := (.int .i64 x19)) rfl rfl rfl (r_assign rfl) ?_
        refine s_fin ?_
        show W _ _ _ _ _ _ _ _
        refine W_seq ?_
        refine W_seq ?_
        refine W_region (.pu 0 (.pu 1 (.pu 2 (.pu 3 (.pu 4 (.pu 5 (.pu 6 (.pu 7 (.pu 8 (.pu 9 .fin)))))))))) rfl rfl ?_
        refine s_pu (d := some 30) (v := (.int .i64 x19)) rfl rfl rfl (r_move rfl) ?_
        refine s_pu (d := some 31) (v := (.bool (decide (x19 < 0)))) rfl rfl rfl (r_lss rfl rfl) ?_
        refine s_pu (d := some 32) (v := (.bool (decide (x19 < 0)))) rfl rfl rfl (r_move rfl) ?_
        refine S_meet (l := [(0, (Sl.v c1)), (4, (Sl.v left9)), (5, (Sl.v out10)), (8, (.int .i64 x19)), (23, (Sl.v c1)), (24, (.int .i64 ((c1.len : Int)))), (25, (.int .i64 x11)), (39, (.bool ((decide (x19 < 0)) || (decide ((w64 (((c1.len : Int)) - x11)) ≤ x19)))))]) (i := 7) ?_ (fun HJ => ?_)
        · intro b
          show S _ _ _ _ _ _
          refine s_fin ?_
          show W _ _ _ _ _ _ _ _
          refine W_if ((decide (x19 < 0)) || (decide ((w64 (((c1.len : Int)) - x11)) ≤ x19))) rfl (fun g37 => ?_) (fun g37 => ?_)
          · have H := H.1 g37
            refine W_seq ?_
            refine W_region (.pu 0 (.pu 1 (.pu 2 .fin))) rfl rfl ?_
            refine s_pu (d := some 40) (v := ((.iface 29 (.int .i64 3)))) rfl rfl rfl (r_iface Tryd.underlying29 rfl rfl) ?_
            refine s_pu (d := some 2) (v := (Sl.v Sl.nil)) rfl rfl rfl (r_assign rfl) ?_
            refine s_pu (d := some 3) (v := ((.iface 29 (.int .i64 3)))) rfl rfl rfl (r_assign rfl) ?_
            refine s_fin ?_
            show W _ _ _ _ _ _ _ _
            refine W_ret ?_
            exact ⟨[(Sl.v Sl.nil), ((.iface 29 (.int .i64 3)))], ⟨_, _, rfl, rfl, ⟨_, _, rfl, rfl, rfl⟩⟩, Sl.nil, ((.iface 29 (.int .i64 3))), rfl, H⟩
          · have H := H.2 g37
            refine W_skip ?_
            show W _ _ _ _ _ _ _ _
            refine W_seq ?_
            refine W_region (.pu 0 (.pu 1 (.pu 2 (.pu 3 (.rl 4 (.ef 5 [] (.ef 6 [] (.pu 7 .fin) .no) .no)))))) rfl rfl ?_
            refine s_pu (d := some 41) (v := (Sl.v out10)) rfl rfl rfl (r_move rfl) ?_
            refine s_pu (d := some 42) (v := (Sl.v left9)) rfl rfl rfl (r_move rfl) ?_
            refine s_pu (d := some 43) (v := (.int .i64 x19)) rfl rfl rfl (r_move rfl) ?_
            obtain ⟨p24, e25, e26, e27, H⟩ := H
            obtain ⟨q28, e29⟩ : ∃ q : Addr, q = Addr.add p24 (Int.toNat x19 * 1) := ⟨_, rfl⟩
            rw [← e29] at H
            refine s_pu (d := some 44) (v := (.pointer (some q28))) rfl rfl rfl (fun w => (r_indexAddr Tryd.underlying22 Tryd.sizeOf3 rfl rfl e25 e26 e27 w).trans (by rw [e29])) ?_
            obtain ⟨x30, e31, H⟩ := H
            refine s_rl (d := some 45) (v := (.int .i64 x30)) rfl rfl rfl (fun dr => r_load1 Tryd.isAgg3 rfl e31) ?_
            obtain ⟨p32, e33⟩ : ∃ p : Addr, p = ⟨h4.size, 0, none⟩ := ⟨_, rfl⟩
            obtain ⟨h5, e34⟩ : ∃ hh : Heap, hh = h4.push (.cells #[(.int .i64 x30)] 3) := ⟨_, rfl⟩
            have H := H p32 h5 e33 e34
            refine s_ef1 (d := some 46) (v := (Sl.v ((⟨some p32, 1, 1⟩ : Sl)))) (h' := h5) rfl rfl rfl (fun dr => (slFDVInv_22.build (cells := #[(.int .i64 x30)]) (by decide) rfl (by kernel_rfl)).trans (by rw [e33, e34]; rfl)) trivial ?_ trivial
            refine s_ef (d := some 47) rfl rfl rfl (fun dr => slFDVInv_22.append rfl rfl H) ?_ trivial
            rintro _ h6 ⟨s35, rfl, H⟩
            refine ⟨trivial, ?_⟩
            refine s_pu (d := some 5) (v := (Sl.v s35)) rfl rfl rfl (r_assign rfl) ?_
            refine s_fin ?_
            show W _ _ _ _ _ _ _ _
            refine W_region (.pu 0 (.pu 1 (.pu 2 (.pu 3 (.ef 4 [] (.pu 5 .fin) .no))))) rfl rfl ?_
            refine s_pu (d := some 48) (v := (Sl.v left9)) rfl rfl rfl (r_move rfl) ?_
            refine s_pu (d := some 49) (v := (.int .i64 x19)) rfl rfl rfl (r_move rfl) ?_
            refine s_pu (d := some 50) (v := (.int .i64 x19)) rfl rfl rfl (r_move rfl) ?_
            refine s_pu (d := some 51) (v := (.int .i64 (w64 (x19 + 1)))) rfl rfl rfl (r_add rfl rfl) ?_
            refine s_ef (d := some 52) rfl rfl rfl (fun dr => r_call Tryd.call104 rfl rfl H) ?_ trivial
            rintro _ h7 ⟨y36, rfl, H⟩
            refine ⟨trivial, ?_⟩
            refine s_pu (d := some 4) (v := (Sl.v y36)) rfl rfl rfl (r_assign rfl) ?_
            refine s_fin ?_
            show W _ _ _ _ _ _ _ _
            refine W_region (.pu 0 (.pu 1 .fin)) rfl rfl ?_
            refine s_pu (d := some 53) (v := (.int .i64 (w64 (x11 + 1)))) rfl rfl rfl (r_add rfl rfl) ?_
            refine s_pu (d := some 25) (v := (.int .i64 (w64 (x11 + 1)))) rfl rfl rfl (r_move rfl) ?_
            refine s_fin ?_
            exact WL_mk (l := [(0, (Sl.v c1)), (4, (Sl.v y36)), (5, (Sl.v s35)), (23, (Sl.v c1)), (24, (.int .i64 ((c1.len : Int)))), (25, (.int .i64 (w64 (x11 + 1))))]) H ⟨rfl, rfl, rfl, rfl, rfl, rfl, trivial⟩
        · rcases Bool.eq_false_or_eq_true (decide (x19 < 0)) with g21 | g21
          · refine s_sk (d := some 33) rfl rfl (wants_no rfl rfl rfl rfl g21) ?_
            refine s_sk (d := some 34) rfl rfl (wants_no rfl rfl rfl rfl g21) ?_
            refine s_sk (d := some 35) rfl rfl (wants_no rfl rfl rfl rfl g21) ?_
            refine s_sk (d := some 36) rfl rfl (wants_no rfl rfl rfl rfl g21) ?_
            refine s_sk (d := some 37) rfl rfl (wants_no rfl rfl rfl rfl g21) ?_
            refine s_sk (d := some 38) rfl rfl (wants_no rfl rfl rfl rfl g21) ?_
            refine s_pu (d := some 39) (v := (.bool true)) rfl rfl rfl (r_pick1 rfl g21 rfl) ?_
            exact S_mk (l := [(0, (Sl.v c1)), (4, (Sl.v left9)), (5, (Sl.v out10)), (8, (.int .i64 x19)), (23, (Sl.v c1)), (24, (.int .i64 ((c1.len : Int)))), (25, (.int .i64 x11)), (39, (.bool ((decide (x19 < 0)) || (decide ((w64 (((c1.len : Int)) - x11)) ≤ x19)))))]) HJ ⟨rfl, rfl, rfl, rfl, rfl, rfl, rfl, (by rw [g21]; rfl), trivial⟩
          · refine s_pu (d := some 33) (v := (.int .i64 x19)) rfl rfl (wants_yes rfl rfl rfl rfl g21) (r_move rfl) ?_
            refine s_pu (d := some 34) (v := (Sl.v c1)) rfl rfl (wants_yes rfl rfl rfl rfl g21) (r_move rfl) ?_
            refine s_pu (d := some 35) (v := (.int .i64 ((c1.len : Int)))) rfl rfl (wants_yes rfl rfl rfl rfl g21) (r_len Tryd.underlying22 rfl) ?_
            refine s_pu (d := some 36) (v := (.int .i64 x11)) rfl rfl (wants_yes rfl rfl rfl rfl g21) (r_move rfl) ?_
            refine s_pu (d := some 37) (v := (.int .i64 (w64 (((c1.len : Int)) - x11)))) rfl rfl (wants_yes rfl rfl rfl rfl g21) (r_sub rfl rfl) ?_
            refine s_pu (d := some 38) (v := (.bool (decide ((w64 (((c1.len : Int)) - x11)) ≤ x19)))) rfl rfl (wants_yes rfl rfl rfl rfl g21) (r_geq rfl rfl) ?_
            refine s_pu (d := some 39) (v := (.bool (decide ((w64 (((c1.len : Int)) - x11)) ≤ x19)))) rfl rfl rfl (r_pick0 rfl g21 rfl) ?_
            exact S_mk (l := [(0, (Sl.v c1)), (4, (Sl.v left9)), (5, (Sl.v out10)), (8, (.int .i64 x19)), (23, (Sl.v c1)), (24, (.int .i64 ((c1.len : Int)))), (25, (.int .i64 x11)), (39, (.bool ((decide (x19 < 0)) || (decide ((w64 (((c1.len : Int)) - x11)) ≤ x19)))))]) HJ ⟨rfl, rfl, rfl, rfl, rfl, rfl, rfl, (by rw [g21]; rfl), trivial⟩
      · have H := H.2 g39
        refine W_exit (inX_here ?_)
        show W _ _ _ _ _ _ _ _
        refine W_seq ?_
        refine W_region (.pu 0 (.pu 1 (.pu 2 .fin))) rfl rfl ?_
        refine s_pu (d := some 54) (v := (Sl.v out10)) rfl rfl rfl (r_move rfl) ?_
        refine s_pu (d := some 2) (v := (Sl.v out10)) rfl rfl rfl (r_assign rfl) ?_
        refine s_pu (d := some 3) (v := .nilIface) rfl rfl rfl (r_assign rfl) ?_
        refine s_fin ?_
        show W _ _ _ _ _ _ _ _
        refine W_ret ?_
        exact ⟨[(Sl.v out10), .nilIface], ⟨_, _, rfl, rfl, ⟨_, _, rfl, rfl, rfl⟩⟩, out10, .nilIface, rfl, H⟩

/-! ### inv_Rank -/

def inv_Rank_F (r : World) (p1 : Sl) (h : Heap) (R : Int → Value → Heap → Prop) : Prop :=
  inv_Lehmer r p1 h fun y2 y3 h1 =>
  (isIface y3 = true) ∧
  Br (!(isNil y3)) (
    R 0 y3 h1) (
    ∀ X7 : Int → Int → Prop, (∀ (n5 : Int) (x6 : Int),
      (Br (decide (x6 < ((y2.len : Int)))) (
        Ix y2 x6 1 fun q12 =>
        LdI h1 q12 fun x14 =>
        ∀ x16 : Int, x16 = (w64 ((w64 (n5 * (w64 (((y2.len : Int)) - x6)))) + x14)) →
        X7 x16 (w64 (x6 + 1))) (
        R n5 .nilIface h1)) →
      X7 n5 x6) →
    X7 0 0)

set_option maxRecDepth 100000 in
theorem inv_Rank_of {r : World} {p1 : Sl} {h : Heap} {R : Int → Value → Heap → Prop} (H : inv_Rank_F r p1 h R) : inv_Rank r p1 h R := by
  unfold inv_Rank_F at H
  refine calls_of 34 [.tmp 2, .tmp 3] Tryd.func65 rfl rfl rfl rfl rfl ?_
  refine W_seq ?_
  refine W_region (.pu 0 (.pu 1 .fin)) rfl rfl ?_
  refine s_pu (d := some 2) (v := (.int .i64 0)) rfl rfl rfl (r_assign rfl) ?_
  refine s_pu (d := some 3) (v := .nilIface) rfl rfl rfl (r_assign rfl) ?_
  refine s_fin ?_
  show W _ _ _ _ _ _ _ _
  refine W_seq ?_
  refine W_region (.pu 0 (.ef 1 [] (.pu 2 (.pu 3 (.pu 4 (.pu 5 (.pu 6 .fin))))) .no)) rfl rfl ?_
  refine s_pu (d := some 10) (v := (Sl.v p1)) rfl rfl rfl (r_move rfl) ?_
  refine s_ef (d := some 11) rfl rfl rfl (fun dr => r_call Tryd.call64 rfl rfl H) ?_ trivial
  rintro _ h1 ⟨y2, y3, rfl, H⟩
  refine ⟨trivial, ?_⟩
  refine s_pu (d := some 9) (v := (.tuple #[(Sl.v y2), y3])) rfl rfl rfl (r_move rfl) ?_
  refine s_pu (d := some 12) (v := (Sl.v y2)) rfl rfl rfl (r_extract rfl rfl) ?_
  refine s_pu (d := some 13) (v := y3) rfl rfl rfl (r_extract rfl rfl) ?_
  refine s_pu (d := some 4) (v := (Sl.v y2)) rfl rfl rfl (r_assign rfl) ?_
  refine s_pu (d := some 5) (v := y3) rfl rfl rfl (r_assign rfl) ?_
  refine s_fin ?_
  show W _ _ _ _ _ _ _ _
  refine W_seq ?_
  refine W_seq ?_
  refine W_region (.pu 0 (.pu 1 .fin)) rfl rfl ?_
  refine s_pu (d := some 14) (v := y3) rfl rfl rfl (r_move rfl) ?_
  obtain ⟨e4, H⟩ := H
  refine s_pu (d := some 15) (v := (.bool (!(isNil y3)))) rfl rfl rfl (r_notNilI Tryd.underlying26 rfl e4 rfl) ?_
  refine s_fin ?_
  show W _ _ _ _ _ _ _ _
  refine W_if (!(isNil y3)) rfl (fun g19 => ?_) (fun g19 => ?_)
  · have H := H.1 g19
    refine W_seq ?_
    refine W_region (.pu 0 (.pu 1 (.pu 2 .fin))) rfl rfl ?_
    refine s_pu (d := some 16) (v := y3) rfl rfl rfl (r_move rfl) ?_
    refine s_pu (d := some 2) (v := (.int .i64 0)) rfl rfl rfl (r_assign rfl) ?_
    refine s_pu (d := some 3) (v := y3) rfl rfl rfl (r_assign rfl) ?_
    refine s_fin ?_
    show W _ _ _ _ _ _ _ _
    refine W_ret ?_
    exact ⟨[(.int .i64 0), y3], ⟨_, _, rfl, rfl, ⟨_, _, rfl, rfl, rfl⟩⟩, 0, y3, rfl, H⟩
  · have H := H.2 g19
    refine W_skip ?_
    show W _ _ _ _ _ _ _ _
    refine W_seq ?_
    refine W_region (.pu 0 .fin) rfl rfl ?_
    refine s_pu (d := some 6) (v := (.int .i64 0)) rfl rfl rfl (r_assign rfl) ?_
    refine s_fin ?_
    show W _ _ _ _ _ _ _ _
    refine W_seq ?_
    refine W_seq ?_
    refine W_region (.pu 0 (.pu 1 (.pu 2 .fin))) rfl rfl ?_
    refine s_pu (d := some 17) (v := (Sl.v y2)) rfl rfl rfl (r_move rfl) ?_
    refine s_pu (d := some 18) (v := (.int .i64 ((y2.len : Int)))) rfl rfl rfl (r_len Tryd.underlying22 rfl) ?_
    refine s_pu (d := some 19) (v := (.int .i64 0)) rfl rfl rfl (r_move rfl) ?_
    refine s_fin ?_
    show W _ _ _ _ _ _ _ _
    refine W_block ?_
    refine W_loop (WL_mk (l := [(4, (Sl.v y2)), (6, (.int .i64 0)), (17, (Sl.v y2)), (18, (.int .i64 ((y2.len : Int)))), (19, (.int .i64 0))]) ?_ ⟨rfl, rfl, rfl, rfl, rfl, trivial⟩)
    refine H (fun (n5 : Int) (x6 : Int) => ∀ b, WL _ _ _ _ _ _ (mkE [(4, (Sl.v y2)), (6, (.int .i64 n5)), (17, (Sl.v y2)), (18, (.int .i64 ((y2.len : Int)))), (19, (.int .i64 x6))] b) h1) ?_
    intro n5 x6 H b
    refine WL_round ?_
    refine W_seq ?_
    refine W_region (.pu 0 .fin) rfl rfl ?_
    refine s_pu (d := some 20) (v := (.bool (decide (x6 < ((y2.len : Int)))))) rfl rfl rfl (r_lss rfl rfl) ?_
    refine s_fin ?_
    show W _ _ _ _ _ _ _ _
    refine W_seq ?_
    refine W_if (decide (x6 < ((y2.len : Int)))) rfl (fun g18 => ?_) (fun g18 => ?_)
    · have H := H.1 g18
      refine W_skip ?_
      show W _ _ _ _ _ _ _ _
      refine W_seq ?_
      refine W_block ?_
      refine W_seq ?_
      refine W_region (.pu 0 (.pu 1 (.rl 2 (.pu 3 (.pu 4 .fin))))) rfl rfl ?_
      refine s_pu (d := some 21) (v := (.int .i64 x6)) rfl rfl rfl (r_move rfl) ?_
      obtain ⟨p8, e9, e10, e11, H⟩ := H
      obtain ⟨q12, e13⟩ : ∃ q : Addr, q = Addr.add p8 (Int.toNat x6 * 1) := ⟨_, rfl⟩
      rw [← e13] at H
      refine s_pu (d := some 22) (v := (.pointer (some q12))) rfl rfl rfl (fun w => (r_indexAddr Tryd.underlying22 Tryd.sizeOf3 rfl rfl e9 e10 e11 w).trans (by rw [e13])) ?_
      obtain ⟨x14, e15, H⟩ := H
      refine s_rl (d := some 23) (v := (.int .i64 x14)) rfl rfl rfl (fun dr => r_load1 Tryd.isAgg3 rfl e15) ?_
      refine s_pu (d := some 7) (v := (.int .i64 x6)) rfl rfl rfl (r_assign rfl) ?_
      refine s_pu (d := some 8) (v := (.int .i64 x14)) rfl rfl rfl (r_assign rfl) ?_
      refine s_fin ?_
      show W _ _ _ _ _ _ _ _
      refine W_region (.pu 0 (.pu 1 (.pu 2 (.pu 3 (.pu 4 (.pu 5 (.pu 6 (.pu 7 (.pu 8 .fin))))))))) rfl rfl ?_
      refine s_pu (d := some 24) (v := (.int .i64 n5)) rfl rfl rfl (r_move rfl) ?_
      refine s_pu (d := some 25) (v := (Sl.v y2)) rfl rfl rfl (r_move rfl) ?_
      refine s_pu (d := some 26) (v := (.int .i64 ((y2.len : Int)))) rfl rfl rfl (r_len Tryd.underlying22 rfl) ?_
      refine s_pu (d := some 27) (v := (.int .i64 x6)) rfl rfl rfl (r_move rfl) ?_
      refine s_pu (d := some 28) (v := (.int .i64 (w64 (((y2.len : Int)) - x6)))) rfl rfl rfl (r_sub rfl rfl) ?_
      refine s_pu (d := some 29) (v := (.int .i64 (w64 (n5 * (w64 (((y2.len : Int)) - x6)))))) rfl rfl rfl (r_mul rfl rfl) ?_
      refine s_pu (d := some 30) (v := (.int .i64 x14)) rfl rfl rfl (r_move rfl) ?_
      refine s_pu (d := some 31) (v := (.int .i64 (w64 ((w64 (n5 * (w64 (((y2.len : Int)) - x6)))) + x14)))) rfl rfl rfl (r_add rfl rfl) ?_
      obtain ⟨x16, e17⟩ : ∃ x : Int, x = (w64 ((w64 (n5 * (w64 (((y2.len : Int)) - x6)))) + x14)) := ⟨_, rfl⟩
      have H := H x16 e17
      refine s_pu (d := some 6) (v := (.int .i64 x16)) rfl rfl rfl (r_assign (congrArg (Value.int .i64) e17.symm)) ?_
      refine s_fin ?_
      show W _ _ _ _ _ _ _ _
      refine W_region (.pu 0 (.pu 1 .fin)) rfl rfl ?_
      refine s_pu (d := some 32) (v := (.int .i64 (w64 (x6 + 1)))) rfl rfl rfl (r_add rfl rfl) ?_
      refine s_pu (d := some 19) (v := (.int .i64 (w64 (x6 + 1)))) rfl rfl rfl (r_move rfl) ?_
      refine s_fin ?_
      exact WL_mk (l := [(4, (Sl.v y2)), (6, (.int .i64 x16)), (17, (Sl.v y2)), (18, (.int .i64 ((y2.len : Int)))), (19, (.int .i64 (w64 (x6 + 1))))]) H ⟨rfl, rfl, rfl, rfl, rfl, trivial⟩
    · have H := H.2 g18
      refine W_exit (inX_here ?_)
      show W _ _ _ _ _ _ _ _
      refine W_seq ?_
      refine W_region (.pu 0 (.pu 1 (.pu 2 .fin))) rfl rfl ?_
      refine s_pu (d := some 33) (v := (.int .i64 n5)) rfl rfl rfl (r_move rfl) ?_
      refine s_pu (d := some 2) (v := (.int .i64 n5)) rfl rfl rfl (r_assign rfl) ?_
      refine s_pu (d := some 3) (v := .nilIface) rfl rfl rfl (r_assign rfl) ?_
      refine s_fin ?_
      show W _ _ _ _ _ _ _ _
      refine W_ret ?_
      exact ⟨[(.int .i64 n5), .nilIface], ⟨_, _, rfl, rfl, ⟨_, _, rfl, rfl, rfl⟩⟩, n5, .nilIface, rfl, H⟩

/-! ### inv_Perm -/

def inv_Perm_F (r : World) (n1 : Int) (rank2 : Int) (h : Heap) (R : Sl → Value → Heap → Prop) : Prop :=
  Br (((decide (n1 < 0)) || (decide (20 < n1))) || (decide (rank2 < 0))) (
    R Sl.nil ((.iface 29 (.int .i64 1))) h) (
    MkS 3 1 8 (.int .i64 0) n1 h fun s9 h1 =>
    ∀ X17 : Int → Int → Heap → Prop, (∀ (rank15 : Int) (x16 : Int) (h2 : Heap),
      (Br (decide (x16 < n1)) (
        ((w64 (x16 + 1)) ≠ 0) ∧
        Ix s9 (w64 ((w64 (n1 - 1)) - x16)) 1 fun q23 =>
        St h2 q23 1 [(.int .i64 (Int.tmod rank15 (w64 (x16 + 1))))] fun h3 =>
        ((w64 (x16 + 1)) ≠ 0) ∧
        X17 (w64 (Int.tdiv rank15 (w64 (x16 + 1)))) (w64 (x16 + 1)) h3) (
        ∀ J33 : Bool → Prop, (∀ (x32 : Bool),
          (Br x32 (
            R Sl.nil ((.iface 29 (.int .i64 1))) h2) (
            inv_Order r s9 h2 fun y35 y36 h4 =>
            R y35 y36 h4)) →
          J33 x32) →
        Br (decide (0 < rank15)) (
          Br (decide (0 < n1)) (
            J33 true) (
            Br (decide (n1 = 0)) (
              J33 (decide (0 < rank15))) (
              J33 false))) (
          Br (decide (n1 = 0)) (
            J33 (decide (0 < rank15))) (
            J33 false)))) →
      X17 rank15 x16 h2) →
    X17 rank2 0 h1)

set_option maxRecDepth 100000 in
theorem inv_Perm_of {r : World} {n1 : Int} {rank2 : Int} {h : Heap} {R : Sl → Value → Heap → Prop} (H : inv_Perm_F r n1 rank2 h R) : inv_Perm r n1 rank2 h R := by
  unfold inv_Perm_F at H
  refine calls_of 59 [.tmp 4, .tmp 5] Tryd.func70 rfl rfl rfl rfl rfl ?_
  refine W_seq ?_
  refine W_region (.pu 0 (.pu 1 .fin)) rfl rfl ?_
  refine s_pu (d := some 4) (v := (Sl.v Sl.nil)) rfl rfl rfl (r_assign rfl) ?_
  refine s_pu (d := some 5) (v := .nilIface) rfl rfl rfl (r_assign rfl) ?_
  refine s_fin ?_
  show W _ _ _ _ _ _ _ _
  refine W_seq ?_
  refine W_seq ?_
  refine W_region (.pu 0 (.pu 1 (.pu 2 (.pu 3 (.pu 4 (.pu 5 (.pu 6 (.pu 7 (.pu 8 (.pu 9 .fin)))))))))) rfl rfl ?_
  refine s_pu (d := some 8) (v := (.int .i64 n1)) rfl rfl rfl (r_move rfl) ?_
  refine s_pu (d := some 9) (v := (.bool (decide (n1 < 0)))) rfl rfl rfl (r_lss rfl rfl) ?_
  refine s_pu (d := some 10) (v := (.bool (decide (n1 < 0)))) rfl rfl rfl (r_move rfl) ?_
  refine S_meet (l := [(0, (.int .i64 n1)), (1, (.int .i64 rank2)), (13, (.bool ((decide (n1 < 0)) || (decide (20 < n1)))))]) (i := 3) ?_ (fun HJ => ?_)
  · intro b
    show S _ _ _ _ _ _
    refine s_pu (d := some 14) (v := (.bool ((decide (n1 < 0)) || (decide (20 < n1))))) rfl rfl rfl (r_move rfl) ?_
    refine S_meet (l := [(0, (.int .i64 n1)), (1, (.int .i64 rank2)), (17, (.bool (((decide (n1 < 0)) || (decide (20 < n1))) || (decide (rank2 < 0)))))]) (i := 3) ?_ (fun HJ => ?_)
    · intro b
      show S _ _ _ _ _ _
      refine s_fin ?_
      show W _ _ _ _ _ _ _ _
      refine W_if (((decide (n1 < 0)) || (decide (20 < n1))) || (decide (rank2 < 0))) rfl (fun g47 => ?_) (fun g47 => ?_)
      · have H := H.1 g47
        refine W_seq ?_
        refine W_region (.pu 0 (.pu 1 (.pu 2 .fin))) rfl rfl ?_
        refine s_pu (d := some 18) (v := ((.iface 29 (.int .i64 1)))) rfl rfl rfl (r_iface Tryd.underlying29 rfl rfl) ?_
        refine s_pu (d := some 4) (v := (Sl.v Sl.nil)) rfl rfl rfl (r_assign rfl) ?_
        refine s_pu (d := some 5) (v := ((.iface 29 (.int .i64 1)))) rfl rfl rfl (r_assign rfl) ?_
        refine s_fin ?_
        show W _ _ _ _ _ _ _ _
        refine W_ret ?_
        exact ⟨[(Sl.v Sl.nil), ((.iface 29 (.int .i64 1)))], ⟨_, _, rfl, rfl, ⟨_, _, rfl, rfl, rfl⟩⟩, Sl.nil, ((.iface 29 (.int .i64 1))), rfl, H⟩
      · have H := H.2 g47
        refine W_skip ?_
        show W _ _ _ _ _ _ _ _
        refine W_seq ?_
        refine W_region (.pu 0 (.ef 1 [] (.pu 2 .fin) .no)) rfl rfl ?_
        refine s_pu (d := some 19) (v := (.int .i64 n1)) rfl rfl rfl (r_move rfl) ?_
        obtain ⟨e10, e11, e12, H⟩ := H
        obtain ⟨s9, e13⟩ : ∃ s : Sl, s = ⟨some ⟨h.size, 0, none⟩, Int.toNat n1, Int.toNat n1⟩ := ⟨_, rfl⟩
        obtain ⟨h1, e14⟩ : ∃ hh : Heap, hh = _ := ⟨_, rfl⟩
        have H := H s9 h1 e13 e14
        refine s_ef1 (d := some 20) (v := (Sl.v s9)) (h' := h1) rfl rfl rfl (fun dr => (slFDVInv_22.make rfl rfl e10 e11 e12).trans (by rw [e13, e14]; rfl)) trivial ?_ trivial
        refine s_pu (d := some 6) (v := (Sl.v s9)) rfl rfl rfl (r_assign rfl) ?_
        refine s_fin ?_
        show W _ _ _ _ _ _ _ _
        refine W_seq ?_
        refine W_seq ?_
        refine W_region (.pu 0 (.pu 1 .fin)) rfl rfl ?_
        refine s_pu (d := some 21) (v := (.int .i64 n1)) rfl rfl rfl (r_move rfl) ?_
        refine s_pu (d := some 22) (v := (.int .i64 0)) rfl rfl rfl (r_move rfl) ?_
        refine s_fin ?_
        show W _ _ _ _ _ _ _ _
        refine W_block ?_
        refine W_loop (WL_mk (l := [(0, (.int .i64 n1)), (1, (.int .i64 rank2)), (6, (Sl.v s9)), (21, (.int .i64 n1)), (22, (.int .i64 0))]) ?_ ⟨rfl, rfl, rfl, rfl, rfl, trivial⟩)
        refine H (fun (rank15 : Int) (x16 : Int) (h2 : Heap) => ∀ b, WL _ _ _ _ _ _ (mkE [(0, (.int .i64 n1)), (1, (.int .i64 rank15)), (6, (Sl.v s9)), (21, (.int .i64 n1)), (22, (.int .i64 x16))] b) h2) ?_
        intro rank15 x16 h2 H b
        refine WL_round ?_
        refine W_seq ?_
        refine W_region (.pu 0 .fin) rfl rfl ?_
        refine s_pu (d := some 23) (v := (.bool (decide (x16 < n1)))) rfl rfl rfl (r_lss rfl rfl) ?_
        refine s_fin ?_
        show W _ _ _ _ _ _ _ _
        refine W_seq ?_
        refine W_if (decide (x16 < n1)) rfl (fun g46 => ?_) (fun g46 => ?_)
        · have H := H.1 g46
          refine W_skip ?_
          show W _ _ _ _ _ _ _ _
          refine W_seq ?_
          refine W_block ?_
          refine W_seq ?_
          refine W_region (.pu 0 (.pu 1 .fin)) rfl rfl ?_
          refine s_pu (d := some 24) (v := (.int .i64 x16)) rfl rfl rfl (r_move rfl) ?_
          refine s_pu (d := some 7) (v := (.int .i64 x16)) rfl rfl rfl (r_assign rfl) ?_
          refine s_fin ?_
          show W _ _ _ _ _ _ _ _
          refine W_seq ?_
          refine W_region (.pu 0 (.pu 1 (.pu 2 (.pu 3 (.pu 4 (.pu 5 (.pu 6 (.pu 7 (.pu 8 (.pu 9 (.ef 10 [] .fin .no))))))))))) rfl rfl ?_
          refine s_pu (d := some 25) (v := (Sl.v s9)) rfl rfl rfl (r_move rfl) ?_
          refine s_pu (d := some 26) (v := (.int .i64 n1)) rfl rfl rfl (r_move rfl) ?_
          refine s_pu (d := some 27) (v := (.int .i64 (w64 (n1 - 1)))) rfl rfl rfl (r_sub rfl rfl) ?_
          refine s_pu (d := some 28) (v := (.int .i64 x16)) rfl rfl rfl (r_move rfl) ?_
          refine s_pu (d := some 29) (v := (.int .i64 (w64 ((w64 (n1 - 1)) - x16)))) rfl rfl rfl (r_sub rfl rfl) ?_
          refine s_pu (d := some 30) (v := (.int .i64 rank15)) rfl rfl rfl (r_move rfl) ?_
          refine s_pu (d := some 31) (v := (.int .i64 x16)) rfl rfl rfl (r_move rfl) ?_
          refine s_pu (d := some 32) (v := (.int .i64 (w64 (x16 + 1)))) rfl rfl rfl (r_add rfl rfl) ?_
          obtain ⟨e18, H⟩ := H
          refine s_pu (d := some 33) (v := (.int .i64 (Int.tmod rank15 (w64 (x16 + 1))))) rfl rfl rfl (r_rem rfl rfl e18) ?_
          obtain ⟨p19, e20, e21, e22, H⟩ := H
          obtain ⟨q23, e24⟩ : ∃ q : Addr, q = Addr.add p19 (Int.toNat (w64 ((w64 (n1 - 1)) - x16)) * 1) := ⟨_, rfl⟩
          rw [← e24] at H
          refine s_pu (d := some 34) (v := (.pointer (some q23))) rfl rfl rfl (fun w => (r_indexAddr Tryd.underlying22 Tryd.sizeOf3 rfl rfl e20 e21 e22 w).trans (by rw [e24])) ?_
          obtain ⟨e26, H⟩ := H
          obtain ⟨h3, e25⟩ : ∃ hh : Heap, hh = hsets h2 q23 0 [(.int .i64 (Int.tmod rank15 (w64 (x16 + 1))))] := ⟨_, rfl⟩
          have H := H h3 e25
          refine s_st (d := none) (h' := h3) rfl rfl rfl (fun dr => (r_store (v := (.int .i64 (Int.tmod rank15 (w64 (x16 + 1))))) Tryd.sizeOf3 rfl rfl rfl (one_all rfl) e26).trans (by rw [e25]; rfl)) trivial ?_ trivial
          refine s_fin ?_
          show W _ _ _ _ _ _ _ _
          refine W_region (.pu 0 (.pu 1 (.pu 2 (.pu 3 (.pu 4 .fin))))) rfl rfl ?_
          refine s_pu (d := some 35) (v := (.int .i64 rank15)) rfl rfl rfl (r_move rfl) ?_
          refine s_pu (d := some 36) (v := (.int .i64 x16)) rfl rfl rfl (r_move rfl) ?_
          refine s_pu (d := some 37) (v := (.int .i64 (w64 (x16 + 1)))) rfl rfl rfl (r_add rfl rfl) ?_
          obtain ⟨e27, H⟩ := H
          refine s_pu (d := some 38) (v := (.int .i64 (w64 (Int.tdiv rank15 (w64 (x16 + 1)))))) rfl rfl rfl (r_quo rfl rfl e27) ?_
          refine s_pu (d := some 1) (v := (.int .i64 (w64 (Int.tdiv rank15 (w64 (x16 + 1)))))) rfl rfl rfl (r_assign rfl) ?_
          refine s_fin ?_
          show W _ _ _ _ _ _ _ _
          refine W_region (.pu 0 (.pu 1 .fin)) rfl rfl ?_
          refine s_pu (d := some 39) (v := (.int .i64 (w64 (x16 + 1)))) rfl rfl rfl (r_add rfl rfl) ?_
          refine s_pu (d := some 22) (v := (.int .i64 (w64 (x16 + 1)))) rfl rfl rfl (r_move rfl) ?_
          refine s_fin ?_
          exact WL_mk (l := [(0, (.int .i64 n1)), (1, (.int .i64 (w64 (Int.tdiv rank15 (w64 (x16 + 1)))))), (6, (Sl.v s9)), (21, (.int .i64 n1)), (22, (.int .i64 (w64 (x16 + 1))))]) H ⟨rfl, rfl, rfl, rfl, rfl, trivial⟩
        · have H := H.2 g46
          refine W_exit (inX_here ?_)
          show W _ _ _ _ _ _ _ _
          refine W_seq ?_
          refine W_seq ?_
          refine W_set ?_
          intro N34 eN34
          have H := H (fun (x32 : Bool) => ∀ b, N34 [] (mkE [(6, (Sl.v s9)), (53, (.bool x32))] b) h2) (by
            intro x32 H b
            rw [eN34]
            show W _ _ _ _ _ _ _ _
            refine W_if x32 rfl (fun g37 => ?_) (fun g37 => ?_)
            · have H := H.1 g37
              refine W_seq ?_
              refine W_region (.pu 0 (.pu 1 (.pu 2 .fin))) rfl rfl ?_
              refine s_pu (d := some 54) (v := ((.iface 29 (.int .i64 1)))) rfl rfl rfl (r_iface Tryd.underlying29 rfl rfl) ?_
              refine s_pu (d := some 4) (v := (Sl.v Sl.nil)) rfl rfl rfl (r_assign rfl) ?_
              refine s_pu (d := some 5) (v := ((.iface 29 (.int .i64 1)))) rfl rfl rfl (r_assign rfl) ?_
              refine s_fin ?_
              show W _ _ _ _ _ _ _ _
              refine W_ret ?_
              exact ⟨[(Sl.v Sl.nil), ((.iface 29 (.int .i64 1)))], ⟨_, _, rfl, rfl, ⟨_, _, rfl, rfl, rfl⟩⟩, Sl.nil, ((.iface 29 (.int .i64 1))), rfl, H⟩
            · have H := H.2 g37
              refine W_skip ?_
              show W _ _ _ _ _ _ _ _
              refine W_seq ?_
              refine W_region (.pu 0 (.ef 1 [] (.pu 2 (.pu 3 (.pu 4 (.pu 5 .fin)))) .no)) rfl rfl ?_
              refine s_pu (d := some 55) (v := (Sl.v s9)) rfl rfl rfl (r_move rfl) ?_
              refine s_ef (d := some 56) rfl rfl rfl (fun dr => r_call Tryd.call68 rfl rfl H) ?_ trivial
              rintro _ h4 ⟨y35, y36, rfl, H⟩
              refine ⟨trivial, ?_⟩
              refine s_pu (d := some 57) (v := (Sl.v y35)) rfl rfl rfl (r_extract rfl rfl) ?_
              refine s_pu (d := some 58) (v := y36) rfl rfl rfl (r_extract rfl rfl) ?_
              refine s_pu (d := some 4) (v := (Sl.v y35)) rfl rfl rfl (r_assign rfl) ?_
              refine s_pu (d := some 5) (v := y36) rfl rfl rfl (r_assign rfl) ?_
              refine s_fin ?_
              show W _ _ _ _ _ _ _ _
              refine W_ret ?_
              exact ⟨[(Sl.v y35), y36], ⟨_, _, rfl, rfl, ⟨_, _, rfl, rfl, rfl⟩⟩, y35, y36, rfl, H⟩)
          clear eN34
          refine W_region (.pu 0 (.pu 1 (.pu 2 (.pu 3 (.pu 4 (.pu 5 (.pu 6 (.pu 7 (.pu 8 (.pu 9 (.pu 10 (.pu 11 (.pu 12 (.pu 13 .fin)))))))))))))) rfl rfl ?_
          refine s_pu (d := some 40) (v := (.int .i64 rank15)) rfl rfl rfl (r_move rfl) ?_
          refine s_pu (d := some 41) (v := (.bool (decide (0 < rank15)))) rfl rfl rfl (r_gtr rfl rfl) ?_
          refine s_pu (d := some 42) (v := (.bool (decide (0 < rank15)))) rfl rfl rfl (r_move rfl) ?_
          rcases Bool.eq_false_or_eq_true (decide (0 < rank15)) with g42 | g42
          · have H := H.1 g42
            refine s_pu (d := some 43) (v := (.int .i64 n1)) rfl rfl (wants_yes rfl rfl rfl rfl g42) (r_move rfl) ?_
            refine s_pu (d := some 44) (v := (.bool (decide (0 < n1)))) rfl rfl (wants_yes rfl rfl rfl rfl g42) (r_gtr rfl rfl) ?_
            refine s_pu (d := some 45) (v := (.bool (decide (0 < n1)))) rfl rfl rfl (r_pick1 rfl g42 rfl) ?_
            refine s_pu (d := some 46) (v := (.bool (decide (0 < n1)))) rfl rfl rfl (r_move rfl) ?_
            rcases Bool.eq_false_or_eq_true (decide (0 < n1)) with g43 | g43
            · have H := H.1 g43
              refine s_sk (d := some 47) rfl rfl (wants_no rfl rfl rfl rfl g43) ?_
              refine s_sk (d := some 48) rfl rfl (wants_no rfl rfl rfl rfl g43) ?_
              refine s_sk (d := some 49) rfl rfl (wants_no rfl rfl rfl rfl g43) ?_
              refine s_sk (d := some 50) rfl rfl (wants_un rfl rfl rfl) ?_
              refine s_sk (d := some 51) rfl rfl (wants_un rfl rfl rfl) ?_
              refine s_sk (d := some 52) rfl rfl (wants_no rfl rfl rfl rfl g43) ?_
              refine s_pu (d := some 53) (v := (.bool true)) rfl rfl rfl (r_pick1 rfl g43 rfl) ?_
              refine s_fin ?_
              exact N_mk (l := [(6, (Sl.v s9)), (53, (.bool true))]) H ⟨rfl, rfl, trivial⟩
            · have H := H.2 g43
              refine s_pu (d := some 47) (v := (.int .i64 n1)) rfl rfl (wants_yes rfl rfl rfl rfl g43) (r_move rfl) ?_
              refine s_pu (d := some 48) (v := (.bool (decide (n1 = 0)))) rfl rfl (wants_yes rfl rfl rfl rfl g43) (r_eql rfl rfl) ?_
              refine s_pu (d := some 49) (v := (.bool (decide (n1 = 0)))) rfl rfl (wants_yes rfl rfl rfl rfl g43) (r_move rfl) ?_
              rcases Bool.eq_false_or_eq_true (decide (n1 = 0)) with g44 | g44
              · have H := H.1 g44
                refine s_pu (d := some 50) (v := (.int .i64 rank15)) rfl rfl (wants_yes rfl rfl rfl rfl g44) (r_move rfl) ?_
                refine s_pu (d := some 51) (v := (.bool (decide (0 < rank15)))) rfl rfl (wants_yes rfl rfl rfl rfl g44) (r_gtr rfl rfl) ?_
                refine s_pu (d := some 52) (v := (.bool (decide (0 < rank15)))) rfl rfl (wants_yes rfl rfl rfl rfl g43) (r_pick1 rfl g44 rfl) ?_
                refine s_pu (d := some 53) (v := (.bool (decide (0 < rank15)))) rfl rfl rfl (r_pick0 rfl g43 rfl) ?_
                refine s_fin ?_
                exact N_mk (l := [(6, (Sl.v s9)), (53, (.bool (decide (0 < rank15))))]) H ⟨rfl, rfl, trivial⟩
              · have H := H.2 g44
                refine s_sk (d := some 50) rfl rfl (wants_no rfl rfl rfl rfl g44) ?_
                refine s_sk (d := some 51) rfl rfl (wants_no rfl rfl rfl rfl g44) ?_
                refine s_pu (d := some 52) (v := (.bool false)) rfl rfl (wants_yes rfl rfl rfl rfl g43) (r_pick0 rfl g44 rfl) ?_
                refine s_pu (d := some 53) (v := (.bool false)) rfl rfl rfl (r_pick0 rfl g43 rfl) ?_
                refine s_fin ?_
                exact N_mk (l := [(6, (Sl.v s9)), (53, (.bool false))]) H ⟨rfl, rfl, trivial⟩
          · have H := H.2 g42
            refine s_sk (d := some 43) rfl rfl (wants_no rfl rfl rfl rfl g42) ?_
            refine s_sk (d := some 44) rfl rfl (wants_no rfl rfl rfl rfl g42) ?_
            refine s_pu (d := some 45) (v := (.bool false)) rfl rfl rfl (r_pick0 rfl g42 rfl) ?_
            refine s_pu (d := some 46) (v := (.bool false)) rfl rfl rfl (r_move rfl) ?_
            refine s_pu (d := some 47) (v := (.int .i64 n1)) rfl rfl (wants_yes rfl rfl rfl rfl rfl) (r_move rfl) ?_
            refine s_pu (d := some 48) (v := (.bool (decide (n1 = 0)))) rfl rfl (wants_yes rfl rfl rfl rfl rfl) (r_eql rfl rfl) ?_
            refine s_pu (d := some 49) (v := (.bool (decide (n1 = 0)))) rfl rfl (wants_yes rfl rfl rfl rfl rfl) (r_move rfl) ?_
            rcases Bool.eq_false_or_eq_true (decide (n1 = 0)) with g45 | g45
            · have H := H.1 g45
              refine s_pu (d := some 50) (v := (.int .i64 rank15)) rfl rfl (wants_yes rfl rfl rfl rfl g45) (r_move rfl) ?_
              refine s_pu (d := some 51) (v := (.bool (decide (0 < rank15)))) rfl rfl (wants_yes rfl rfl rfl rfl g45) (r_gtr rfl rfl) ?_
              refine s_pu (d := some 52) (v := (.bool (decide (0 < rank15)))) rfl rfl (wants_yes rfl rfl rfl rfl rfl) (r_pick1 rfl g45 rfl) ?_
              refine s_pu (d := some 53) (v := (.bool (decide (0 < rank15)))) rfl rfl rfl (r_pick0 rfl rfl rfl) ?_
              refine s_fin ?_
              exact N_mk (l := [(6, (Sl.v s9)), (53, (.bool (decide (0 < rank15))))]) H ⟨rfl, rfl, trivial⟩
            · have H := H.2 g45
              refine s_sk (d := some 50) rfl rfl (wants_no rfl rfl rfl rfl g45) ?_
              refine s_sk (d := some 51) rfl rfl (wants_no rfl rfl rfl rfl g45) ?_
              refine s_pu (d := some 52) (v := (.bool false)) rfl rfl (wants_yes rfl rfl rfl rfl rfl) (r_pick0 rfl g45 rfl) ?_
              refine s_pu (d := some 53) (v := (.bool false)) rfl rfl rfl (r_pick0 rfl rfl rfl) ?_
              refine s_fin ?_
              exact N_mk (l := [(6, (Sl.v s9)), (53, (.bool false))]) H ⟨rfl, rfl, trivial⟩
    · rcases Bool.eq_false_or_eq_true ((decide (n1 < 0)) || (decide (20 < n1))) with g6 | g6
      · refine s_sk (d := some 15) rfl rfl (wants_no rfl rfl rfl rfl g6) ?_
        refine s_sk (d := some 16) rfl rfl (wants_no rfl rfl rfl rfl g6) ?_
        refine s_pu (d := some 17) (v := (.bool true)) rfl rfl rfl (r_pick1 rfl g6 rfl) ?_
        exact S_mk (l := [(0, (.int .i64 n1)), (1, (.int .i64 rank2)), (17, (.bool (((decide (n1 < 0)) || (decide (20 < n1))) || (decide (rank2 < 0)))))]) HJ ⟨rfl, rfl, (by rw [g6]; rfl), trivial⟩
      · refine s_pu (d := some 15) (v := (.int .i64 rank2)) rfl rfl (wants_yes rfl rfl rfl rfl g6) (r_move rfl) ?_
        refine s_pu (d := some 16) (v := (.bool (decide (rank2 < 0)))) rfl rfl (wants_yes rfl rfl rfl rfl g6) (r_lss rfl rfl) ?_
        refine s_pu (d := some 17) (v := (.bool (decide (rank2 < 0)))) rfl rfl rfl (r_pick0 rfl g6 rfl) ?_
        exact S_mk (l := [(0, (.int .i64 n1)), (1, (.int .i64 rank2)), (17, (.bool (((decide (n1 < 0)) || (decide (20 < n1))) || (decide (rank2 < 0)))))]) HJ ⟨rfl, rfl, (by rw [g6]; rfl), trivial⟩
  · rcases Bool.eq_false_or_eq_true (decide (n1 < 0)) with g3 | g3
    · refine s_sk (d := some 11) rfl rfl (wants_no rfl rfl rfl rfl g3) ?_
      refine s_sk (d := some 12) rfl rfl (wants_no rfl rfl rfl rfl g3) ?_
      refine s_pu (d := some 13) (v := (.bool true)) rfl rfl rfl (r_pick1 rfl g3 rfl) ?_
      exact S_mk (l := [(0, (.int .i64 n1)), (1, (.int .i64 rank2)), (13, (.bool ((decide (n1 < 0)) || (decide (20 < n1)))))]) HJ ⟨rfl, rfl, (by rw [g3]; rfl), trivial⟩
    · refine s_pu (d := some 11) (v := (.int .i64 n1)) rfl rfl (wants_yes rfl rfl rfl rfl g3) (r_move rfl) ?_
      refine s_pu (d := some 12) (v := (.bool (decide (20 < n1)))) rfl rfl (wants_yes rfl rfl rfl rfl g3) (r_gtr rfl rfl) ?_
      refine s_pu (d := some 13) (v := (.bool (decide (20 < n1)))) rfl rfl rfl (r_pick0 rfl g3 rfl) ?_
      exact S_mk (l := [(0, (.int .i64 n1)), (1, (.int .i64 rank2)), (13, (.bool ((decide (n1 < 0)) || (decide (20 < n1)))))]) HJ ⟨rfl, rfl, (by rw [g3]; rfl), trivial⟩

/-! ### inv_Sign -/

def inv_Sign_F (r : World) (p1 : Sl) (h : Heap) (R : Int → Value → Heap → Prop) : Prop :=
  inv_Check r p1 h fun y2 h1 =>
  (isIface y2 = true) ∧
  Br (!(isNil y2)) (
    R 0 y2 h1) (
    inv_Count r p1 h1 fun y4 h2 =>
    R (w64 (1 - (w64 (2 * (Int.tmod y4 2))))) .nilIface h2)

set_option maxRecDepth 100000 in
theorem inv_Sign_of {r : World} {p1 : Sl} {h : Heap} {R : Int → Value → Heap → Prop} (H : inv_Sign_F r p1 h R) : inv_Sign r p1 h R := by
  unfold inv_Sign_F at H
  refine calls_of 15 [.tmp 2, .tmp 3] Tryd.func66 rfl rfl rfl rfl rfl ?_
  refine W_seq ?_
  refine W_region (.pu 0 (.pu 1 .fin)) rfl rfl ?_
  refine s_pu (d := some 2) (v := (.int .i64 0)) rfl rfl rfl (r_assign rfl) ?_
  refine s_pu (d := some 3) (v := .nilIface) rfl rfl rfl (r_assign rfl) ?_
  refine s_fin ?_
  show W _ _ _ _ _ _ _ _
  refine W_seq ?_
  refine W_seq ?_
  refine W_region (.pu 0 (.ef 1 [] (.pu 2 .fin) .no)) rfl rfl ?_
  refine s_pu (d := some 5) (v := (Sl.v p1)) rfl rfl rfl (r_move rfl) ?_
  refine s_ef (d := some 6) rfl rfl rfl (fun dr => r_call Tryd.call61 rfl rfl H) ?_ trivial
  rintro y2 h1 H
  refine ⟨trivial, ?_⟩
  refine s_pu (d := some 4) (v := y2) rfl rfl rfl (r_assign rfl) ?_
  refine s_fin ?_
  show W _ _ _ _ _ _ _ _
  refine W_seq ?_
  refine W_region (.pu 0 (.pu 1 .fin)) rfl rfl ?_
  refine s_pu (d := some 7) (v := y2) rfl rfl rfl (r_move rfl) ?_
  obtain ⟨e3, H⟩ := H
  refine s_pu (d := some 8) (v := (.bool (!(isNil y2)))) rfl rfl rfl (r_notNilI Tryd.underlying26 rfl e3 rfl) ?_
  refine s_fin ?_
  show W _ _ _ _ _ _ _ _
  refine W_if (!(isNil y2)) rfl (fun g5 => ?_) (fun g5 => ?_)
  · have H := H.1 g5
    refine W_seq ?_
    refine W_region (.pu 0 (.pu 1 (.pu 2 .fin))) rfl rfl ?_
    refine s_pu (d := some 9) (v := y2) rfl rfl rfl (r_move rfl) ?_
    refine s_pu (d := some 2) (v := (.int .i64 0)) rfl rfl rfl (r_assign rfl) ?_
    refine s_pu (d := some 3) (v := y2) rfl rfl rfl (r_assign rfl) ?_
    refine s_fin ?_
    show W _ _ _ _ _ _ _ _
    refine W_ret ?_
    exact ⟨[(.int .i64 0), y2], ⟨_, _, rfl, rfl, ⟨_, _, rfl, rfl, rfl⟩⟩, 0, y2, rfl, H⟩
  · have H := H.2 g5
    refine W_skip ?_
    show W _ _ _ _ _ _ _ _
    refine W_seq ?_
    refine W_region (.pu 0 (.ef 1 [] (.pu 2 (.pu 3 (.pu 4 (.pu 5 (.pu 6 .fin))))) .no)) rfl rfl ?_
    refine s_pu (d := some 10) (v := (Sl.v p1)) rfl rfl rfl (r_move rfl) ?_
    refine s_ef (d := some 11) rfl rfl rfl (fun dr => r_call Tryd.call58 rfl rfl H) ?_ trivial
    rintro _ h2 ⟨y4, rfl, H⟩
    refine ⟨trivial, ?_⟩
    refine s_pu (d := some 12) (v := (.int .i64 (Int.tmod y4 2))) rfl rfl rfl (r_rem rfl rfl (by decide)) ?_
    refine s_pu (d := some 13) (v := (.int .i64 (w64 (2 * (Int.tmod y4 2))))) rfl rfl rfl (r_mul rfl rfl) ?_
    refine s_pu (d := some 14) (v := (.int .i64 (w64 (1 - (w64 (2 * (Int.tmod y4 2))))))) rfl rfl rfl (r_sub rfl rfl) ?_
    refine s_pu (d := some 2) (v := (.int .i64 (w64 (1 - (w64 (2 * (Int.tmod y4 2))))))) rfl rfl rfl (r_assign rfl) ?_
    refine s_pu (d := some 3) (v := .nilIface) rfl rfl rfl (r_assign rfl) ?_
    refine s_fin ?_
    show W _ _ _ _ _ _ _ _
    refine W_ret ?_
    exact ⟨[(.int .i64 (w64 (1 - (w64 (2 * (Int.tmod y4 2)))))), .nilIface], ⟨_, _, rfl, rfl, ⟨_, _, rfl, rfl, rfl⟩⟩, (w64 (1 - (w64 (2 * (Int.tmod y4 2))))), .nilIface, rfl, H⟩

end Go.Proofs.YtcafckgflpmfgaaDoor
