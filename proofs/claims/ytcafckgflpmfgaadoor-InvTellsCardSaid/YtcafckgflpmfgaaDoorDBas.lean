/- Typed words of functions, and that they hold: printed by gen.py (an own tool of this claim) off the model's own form of each function. -/
import Derived.Test.YtcafckgflpmfgaaDoorProg
import Derived.Test.YtcafckgflpmfgaaDoorTwMore
import Derived.Test.YtcafckgflpmfgaaDoorTwClr
namespace Go.Proofs.YtcafckgflpmfgaaDoor
open Go Go.RowKit Go.Tw
set_option linter.unusedVariables false

abbrev txtDBas1 : ByteArray := ⟨#[0, 1, 2, 2, 3, 3, 3, 3, 4, 4, 4, 4, 4, 4, 4, 4, 5, 5, 5, 5, 5, 5, 5, 5, 5, 5, 5, 5, 5, 5, 5, 5, 6, 6, 6, 6, 6, 6, 6, 6, 6, 6, 6, 6, 6, 6, 6, 6, 6, 6, 6, 6, 6, 6, 6, 6, 6, 6, 6, 6, 6, 6, 6, 6, 7, 7, 7, 7, 7, 7, 7, 7, 7, 7, 7, 7, 7, 7, 7, 7, 7, 7, 7, 7, 7, 7, 7, 7, 7, 7, 7, 7, 7, 7, 7, 7, 7, 7, 7, 7, 7, 7, 7, 7, 7, 7, 7, 7, 7, 7, 7, 7, 7, 7, 7, 7, 7, 7, 7, 7, 7, 7, 7, 7, 7, 7, 7, 7, 8, 8, 8, 8, 8, 8, 8, 8, 8, 8, 8, 8, 8, 8, 8, 8, 8, 8, 8, 8, 8, 8, 8, 8, 8, 8, 8, 8, 8, 8, 8, 8, 8, 8, 8, 8, 8, 8, 8, 8, 8, 8, 8, 8, 8, 8, 8, 8, 8, 8, 8, 8, 8, 8, 8, 8, 8, 8, 8, 8, 8, 8, 8, 8, 8, 8, 8, 8, 8, 8, 8, 8, 8, 8, 8, 8, 8, 8, 8, 8, 8, 8, 8, 8, 8, 8, 8, 8, 8, 8, 8, 8, 8, 8, 8, 8, 8, 8, 8, 8, 8, 8, 8, 8, 8, 8, 8, 8, 8, 8, 8, 8, 8, 8, 8, 8, 8, 8, 8, 8, 8, 8, 8, 8, 8, 8, 8, 8]⟩
theorem slFDBas_22 : SlF Tryd.prog 22 3 1 8 (.int .i64 0) := ⟨Tryd.underlying22, ⟨Tryd.t3, by kernel_rfl, rfl, rfl, rfl⟩, rfl, Tryd.sizeOf3, Tryd.zeroValue3⟩

/-! ### the calls -/

abbrev same_Ints (r : World) (a1 : Sl) (vb2 : Sl) (h : Heap) (R : Bool → Heap → Prop) : Prop :=
  CallsH Tryd.prog r 17 [(Sl.v a1), (Sl.v vb2)] h fun v h' => ∃ (y3 : Bool), v = (.bool y3) ∧ R y3 h'

theorem same_Ints.mono {r : World} {a1 : Sl} {vb2 : Sl} {h : Heap} {R R' : Bool → Heap → Prop} (H : same_Ints r a1 vb2 h R) (hr : ∀ y3 h, R y3 h → R' y3 h) : same_Ints r a1 vb2 h R' :=
  CallsH.mono H fun _ _ hx => by
    obtain ⟨y3, hv, hR⟩ := hx
    exact ⟨y3, hv, hr _ _ hR⟩

abbrev same_Rows (r : World) (a1 : Sl) (vb2 : Sl) (h : Heap) (R : Bool → Heap → Prop) : Prop :=
  CallsH Tryd.prog r 38 [(Sl.v a1), (Sl.v vb2)] h fun v h' => ∃ (y3 : Bool), v = (.bool y3) ∧ R y3 h'

theorem same_Rows.mono {r : World} {a1 : Sl} {vb2 : Sl} {h : Heap} {R R' : Bool → Heap → Prop} (H : same_Rows r a1 vb2 h R) (hr : ∀ y3 h, R y3 h → R' y3 h) : same_Rows r a1 vb2 h R' :=
  CallsH.mono H fun _ _ hx => by
    obtain ⟨y3, hv, hR⟩ := hx
    exact ⟨y3, hv, hr _ _ hR⟩

abbrev ref1_SumOf (r : World) (l1 : Sl) (h : Heap) (R : Int → Heap → Prop) : Prop :=
  CallsH Tryd.prog r 14 [(Sl.v l1)] h fun v h' => ∃ (y2 : Int), v = (.int .i64 y2) ∧ R y2 h'

theorem ref1_SumOf.mono {r : World} {l1 : Sl} {h : Heap} {R R' : Int → Heap → Prop} (H : ref1_SumOf r l1 h R) (hr : ∀ y2 h, R y2 h → R' y2 h) : ref1_SumOf r l1 h R' :=
  CallsH.mono H fun _ _ hx => by
    obtain ⟨y2, hv, hR⟩ := hx
    exact ⟨y2, hv, hr _ _ hR⟩

abbrev ref1_Cat (r : World) (a1 : Sl) (vb2 : Sl) (h : Heap) (R : Sl → Heap → Prop) : Prop :=
  CallsH Tryd.prog r 31 [(Sl.v a1), (Sl.v vb2)] h fun v h' => ∃ (y3 : Sl), v = (Sl.v y3) ∧ R y3 h'

theorem ref1_Cat.mono {r : World} {a1 : Sl} {vb2 : Sl} {h : Heap} {R R' : Sl → Heap → Prop} (H : ref1_Cat r a1 vb2 h R) (hr : ∀ y3 h, R y3 h → R' y3 h) : ref1_Cat r a1 vb2 h R' :=
  CallsH.mono H fun _ _ hx => by
    obtain ⟨y3, hv, hR⟩ := hx
    exact ⟨y3, hv, hr _ _ hR⟩

abbrev ref1_Often (r : World) (l1 : Sl) (x2 : Int) (h : Heap) (R : Int → Heap → Prop) : Prop :=
  CallsH Tryd.prog r 96 [(Sl.v l1), (.int .i64 x2)] h fun v h' => ∃ (y3 : Int), v = (.int .i64 y3) ∧ R y3 h'

theorem ref1_Often.mono {r : World} {l1 : Sl} {x2 : Int} {h : Heap} {R R' : Int → Heap → Prop} (H : ref1_Often r l1 x2 h R) (hr : ∀ y3 h, R y3 h → R' y3 h) : ref1_Often r l1 x2 h R' :=
  CallsH.mono H fun _ _ hx => by
    obtain ⟨y3, hv, hR⟩ := hx
    exact ⟨y3, hv, hr _ _ hR⟩

abbrev ref1_Below (r : World) (l1 : Sl) (x2 : Int) (h : Heap) (R : Int → Heap → Prop) : Prop :=
  CallsH Tryd.prog r 98 [(Sl.v l1), (.int .i64 x2)] h fun v h' => ∃ (y3 : Int), v = (.int .i64 y3) ∧ R y3 h'

theorem ref1_Below.mono {r : World} {l1 : Sl} {x2 : Int} {h : Heap} {R R' : Int → Heap → Prop} (H : ref1_Below r l1 x2 h R) (hr : ∀ y3 h, R y3 h → R' y3 h) : ref1_Below r l1 x2 h R' :=
  CallsH.mono H fun _ _ hx => by
    obtain ⟨y3, hv, hR⟩ := hx
    exact ⟨y3, hv, hr _ _ hR⟩

abbrev ref1_Without (r : World) (l1 : Sl) (i2 : Int) (h : Heap) (R : Sl → Heap → Prop) : Prop :=
  CallsH Tryd.prog r 103 [(Sl.v l1), (.int .i64 i2)] h fun v h' => ∃ (y3 : Sl), v = (Sl.v y3) ∧ R y3 h'

theorem ref1_Without.mono {r : World} {l1 : Sl} {i2 : Int} {h : Heap} {R R' : Sl → Heap → Prop} (H : ref1_Without r l1 i2 h R) (hr : ∀ y3 h, R y3 h → R' y3 h) : ref1_Without r l1 i2 h R' :=
  CallsH.mono H fun _ _ hx => by
    obtain ⟨y3, hv, hR⟩ := hx
    exact ⟨y3, hv, hr _ _ hR⟩

abbrev slices_Clone_int_int (r : World) (s1 : Sl) (h : Heap) (R : Sl → Heap → Prop) : Prop :=
  CallsH Tryd.prog r 73 [(Sl.v s1)] h fun v h' => ∃ (y2 : Sl), v = (Sl.v y2) ∧ R y2 h'

theorem slices_Clone_int_int.mono {r : World} {s1 : Sl} {h : Heap} {R R' : Sl → Heap → Prop} (H : slices_Clone_int_int r s1 h R) (hr : ∀ y2 h, R y2 h → R' y2 h) : slices_Clone_int_int r s1 h R' :=
  CallsH.mono H fun _ _ hx => by
    obtain ⟨y2, hv, hR⟩ := hx
    exact ⟨y2, hv, hr _ _ hR⟩

abbrev math_bits_Len64 (r : World) (x1 : Int) (h : Heap) (R : Int → Heap → Prop) : Prop :=
  CallsH Tryd.prog r 107 [(.int .u64 x1)] h fun v h' => ∃ (y2 : Int), v = (.int .i64 y2) ∧ R y2 h'

theorem math_bits_Len64.mono {r : World} {x1 : Int} {h : Heap} {R R' : Int → Heap → Prop} (H : math_bits_Len64 r x1 h R) (hr : ∀ y2 h, R y2 h → R' y2 h) : math_bits_Len64 r x1 h R' :=
  CallsH.mono H fun _ _ hx => by
    obtain ⟨y2, hv, hR⟩ := hx
    exact ⟨y2, hv, hr _ _ hR⟩

abbrev math_bits_Len32 (r : World) (x1 : Int) (h : Heap) (R : Int → Heap → Prop) : Prop :=
  CallsH Tryd.prog r 106 [(.int .u32 x1)] h fun v h' => ∃ (y2 : Int), v = (.int .i64 y2) ∧ R y2 h'

theorem math_bits_Len32.mono {r : World} {x1 : Int} {h : Heap} {R R' : Int → Heap → Prop} (H : math_bits_Len32 r x1 h R) (hr : ∀ y2 h, R y2 h → R' y2 h) : math_bits_Len32 r x1 h R' :=
  CallsH.mono H fun _ _ hx => by
    obtain ⟨y2, hv, hR⟩ := hx
    exact ⟨y2, hv, hr _ _ hR⟩

abbrev math_bits_Len (r : World) (x1 : Int) (h : Heap) (R : Int → Heap → Prop) : Prop :=
  CallsH Tryd.prog r 72 [(.int .u64 x1)] h fun v h' => ∃ (y2 : Int), v = (.int .i64 y2) ∧ R y2 h'

theorem math_bits_Len.mono {r : World} {x1 : Int} {h : Heap} {R R' : Int → Heap → Prop} (H : math_bits_Len r x1 h R) (hr : ∀ y2 h, R y2 h → R' y2 h) : math_bits_Len r x1 h R' :=
  CallsH.mono H fun _ _ hx => by
    obtain ⟨y2, hv, hR⟩ := hx
    exact ⟨y2, hv, hr _ _ hR⟩

abbrev law5_within (r : World) (n1 : Int) (i2 : Int) (j3 : Int) (h : Heap) (R : Bool → Heap → Prop) : Prop :=
  CallsH Tryd.prog r 21 [(.int .i64 n1), (.int .i64 i2), (.int .i64 j3)] h fun v h' => ∃ (y4 : Bool), v = (.bool y4) ∧ R y4 h'

theorem law5_within.mono {r : World} {n1 : Int} {i2 : Int} {j3 : Int} {h : Heap} {R R' : Bool → Heap → Prop} (H : law5_within r n1 i2 j3 h R) (hr : ∀ y4 h, R y4 h → R' y4 h) : law5_within r n1 i2 j3 h R' :=
  CallsH.mono H fun _ _ hx => by
    obtain ⟨y4, hv, hR⟩ := hx
    exact ⟨y4, hv, hr _ _ hR⟩

/-! ### same_Ints -/

def same_Ints_F (r : World) (a1 : Sl) (vb2 : Sl) (h : Heap) (R : Bool → Heap → Prop) : Prop :=
  Br (!decide (((a1.len : Int)) = ((vb2.len : Int)))) (
    R false h) (
    ∀ X4 : Int → Prop, (∀ (i3 : Int),
      (Br (decide (i3 < ((a1.len : Int)))) (
        Ix a1 i3 1 fun q9 =>
        LdI h q9 fun x11 =>
        Ix vb2 i3 1 fun q17 =>
        LdI h q17 fun x19 =>
        Br (!decide (x11 = x19)) (
          R false h) (
          X4 (w64 (i3 + 1)))) (
        R true h)) →
      X4 i3) →
    X4 0)

set_option maxRecDepth 100000 in
theorem same_Ints_of {r : World} {a1 : Sl} {vb2 : Sl} {h : Heap} {R : Bool → Heap → Prop} (H : same_Ints_F r a1 vb2 h R) : same_Ints r a1 vb2 h R := by
  unfold same_Ints_F at H
  refine calls_of 26 [.tmp 4] Tryd.func17 rfl rfl rfl rfl rfl ?_
  refine W_seq ?_
  refine W_region (.pu 0 .fin) rfl rfl ?_
  refine s_pu (d := some 4) (v := (.bool false)) rfl rfl rfl (r_assign rfl) ?_
  refine s_fin ?_
  show W _ _ _ _ _ _ _ _
  refine W_seq ?_
  refine W_seq ?_
  refine W_region (.pu 0 (.pu 1 (.pu 2 (.pu 3 (.pu 4 .fin))))) rfl rfl ?_
  refine s_pu (d := some 6) (v := (Sl.v a1)) rfl rfl rfl (r_move rfl) ?_
  refine s_pu (d := some 7) (v := (.int .i64 ((a1.len : Int)))) rfl rfl rfl (r_len Tryd.underlying22 rfl) ?_
  refine s_pu (d := some 8) (v := (Sl.v vb2)) rfl rfl rfl (r_move rfl) ?_
  refine s_pu (d := some 9) (v := (.int .i64 ((vb2.len : Int)))) rfl rfl rfl (r_len Tryd.underlying22 rfl) ?_
  refine s_pu (d := some 10) (v := (.bool (!decide (((a1.len : Int)) = ((vb2.len : Int)))))) rfl rfl rfl (r_neq rfl rfl) ?_
  refine s_fin ?_
  show W _ _ _ _ _ _ _ _
  refine W_if (!decide (((a1.len : Int)) = ((vb2.len : Int)))) rfl (fun g23 => ?_) (fun g23 => ?_)
  · have H := H.1 g23
    refine W_seq ?_
    refine W_region (.pu 0 .fin) rfl rfl ?_
    refine s_pu (d := some 4) (v := (.bool false)) rfl rfl rfl (r_assign rfl) ?_
    refine s_fin ?_
    show W _ _ _ _ _ _ _ _
    refine W_ret ?_
    exact ⟨[(.bool false)], ⟨_, _, rfl, rfl, rfl⟩, false, rfl, H⟩
  · have H := H.2 g23
    refine W_skip ?_
    show W _ _ _ _ _ _ _ _
    refine W_seq ?_
    refine W_seq ?_
    refine W_region (.pu 0 .fin) rfl rfl ?_
    refine s_pu (d := some 5) (v := (.int .i64 0)) rfl rfl rfl (r_assign rfl) ?_
    refine s_fin ?_
    show W _ _ _ _ _ _ _ _
    refine W_block ?_
    refine W_loop (WL_mk (l := [(0, (Sl.v a1)), (1, (Sl.v vb2)), (5, (.int .i64 0))]) ?_ ⟨rfl, rfl, rfl, trivial⟩)
    refine H (fun (i3 : Int) => ∀ b, WL _ _ _ _ _ _ (mkE [(0, (Sl.v a1)), (1, (Sl.v vb2)), (5, (.int .i64 i3))] b) h) ?_
    intro i3 H b
    refine WL_round ?_
    refine W_seq ?_
    refine W_seq ?_
    refine W_region (.pu 0 (.pu 1 (.pu 2 (.pu 3 .fin)))) rfl rfl ?_
    refine s_pu (d := some 11) (v := (.int .i64 i3)) rfl rfl rfl (r_move rfl) ?_
    refine s_pu (d := some 12) (v := (Sl.v a1)) rfl rfl rfl (r_move rfl) ?_
    refine s_pu (d := some 13) (v := (.int .i64 ((a1.len : Int)))) rfl rfl rfl (r_len Tryd.underlying22 rfl) ?_
    refine s_pu (d := some 14) (v := (.bool (decide (i3 < ((a1.len : Int)))))) rfl rfl rfl (r_lss rfl rfl) ?_
    refine s_fin ?_
    show W _ _ _ _ _ _ _ _
    refine W_if (decide (i3 < ((a1.len : Int)))) rfl (fun g22 => ?_) (fun g22 => ?_)
    · have H := H.1 g22
      refine W_skip ?_
      show W _ _ _ _ _ _ _ _
      refine W_seq ?_
      refine W_block ?_
      refine W_seq ?_
      refine W_draw [0, 0, 3, 7, 0, 0, 48, 112, 255] (.pu 0 (.pu 1 (.pu 2 (.rd 3 (.pu 4 (.pu 5 (.pu 6 (.rd 7 (.pu 8 .fin))))))))) (by kernel_rfl) (by kernel_rfl) ?_
      refine s_pu (d := some 17) (v := (Sl.v a1)) rfl rfl rfl (r_move rfl) ?_
      refine s_pu (d := some 18) (v := (.int .i64 i3)) rfl rfl rfl (r_move rfl) ?_
      obtain ⟨p5, e6, e7, e8, H⟩ := H
      obtain ⟨q9, e10⟩ : ∃ q : Addr, q = Addr.add p5 (Int.toNat i3 * 1) := ⟨_, rfl⟩
      rw [← e10] at H
      refine s_pu (d := some 19) (v := (.pointer (some q9))) rfl rfl rfl (fun w => (r_indexAddr Tryd.underlying22 Tryd.sizeOf3 rfl rfl e6 e7 e8 w).trans (by rw [e10])) ?_
      obtain ⟨x11, e12, H⟩ := H
      refine s_rd (d := some 20) (v := (.int .i64 x11)) rfl rfl rfl (fun dr => r_load1 Tryd.isAgg3 rfl e12) ?_
      refine s_pu (d := some 21) (v := (Sl.v vb2)) rfl rfl rfl (r_move rfl) ?_
      refine s_pu (d := some 22) (v := (.int .i64 i3)) rfl rfl rfl (r_move rfl) ?_
      obtain ⟨p13, e14, e15, e16, H⟩ := H
      obtain ⟨q17, e18⟩ : ∃ q : Addr, q = Addr.add p13 (Int.toNat i3 * 1) := ⟨_, rfl⟩
      rw [← e18] at H
      refine s_pu (d := some 23) (v := (.pointer (some q17))) rfl rfl rfl (fun w => (r_indexAddr Tryd.underlying22 Tryd.sizeOf3 rfl rfl e14 e15 e16 w).trans (by rw [e18])) ?_
      obtain ⟨x19, e20, H⟩ := H
      refine s_rd (d := some 24) (v := (.int .i64 x19)) rfl rfl rfl (fun dr => r_load1 Tryd.isAgg3 rfl e20) ?_
      refine s_pu (d := some 25) (v := (.bool (!decide (x11 = x19)))) rfl rfl rfl (r_neq rfl rfl) ?_
      refine s_fin ?_
      show W _ _ _ _ _ _ _ _
      refine W_if (!decide (x11 = x19)) rfl (fun g21 => ?_) (fun g21 => ?_)
      · have H := H.1 g21
        refine W_seq ?_
        refine W_region (.pu 0 .fin) rfl rfl ?_
        refine s_pu (d := some 4) (v := (.bool false)) rfl rfl rfl (r_assign rfl) ?_
        refine s_fin ?_
        show W _ _ _ _ _ _ _ _
        refine W_ret ?_
        exact ⟨[(.bool false)], ⟨_, _, rfl, rfl, rfl⟩, false, rfl, H⟩
      · have H := H.2 g21
        refine W_skip ?_
        show W _ _ _ _ _ _ _ _
        refine W_region (.pu 0 (.pu 1 (.pu 2 .fin))) rfl rfl ?_
        refine s_pu (d := some 15) (v := (.int .i64 i3)) rfl rfl rfl (r_move rfl) ?_
        refine s_pu (d := some 16) (v := (.int .i64 (w64 (i3 + 1)))) rfl rfl rfl (r_add rfl rfl) ?_
        refine s_pu (d := some 5) (v := (.int .i64 (w64 (i3 + 1)))) rfl rfl rfl (r_assign rfl) ?_
        refine s_fin ?_
        exact WL_mk (l := [(0, (Sl.v a1)), (1, (Sl.v vb2)), (5, (.int .i64 (w64 (i3 + 1))))]) H ⟨rfl, rfl, rfl, trivial⟩
    · have H := H.2 g22
      refine W_exit (inX_here ?_)
      show W _ _ _ _ _ _ _ _
      refine W_seq ?_
      refine W_region (.pu 0 .fin) rfl rfl ?_
      refine s_pu (d := some 4) (v := (.bool true)) rfl rfl rfl (r_assign rfl) ?_
      refine s_fin ?_
      show W _ _ _ _ _ _ _ _
      refine W_ret ?_
      exact ⟨[(.bool true)], ⟨_, _, rfl, rfl, rfl⟩, true, rfl, H⟩

/-! ### same_Rows -/

def same_Rows_F (r : World) (a1 : Sl) (vb2 : Sl) (h : Heap) (R : Bool → Heap → Prop) : Prop :=
  Br (!decide (((a1.len : Int)) = ((vb2.len : Int)))) (
    R false h) (
    ∀ X4 : Int → Heap → Prop, (∀ (i3 : Int) (h1 : Heap),
      (Br (decide (i3 < ((a1.len : Int)))) (
        Ix a1 i3 1 fun q9 =>
        LdS h1 q9 fun x11 =>
        Ix vb2 i3 1 fun q17 =>
        LdS h1 q17 fun x19 =>
        same_Ints r x11 x19 h1 fun y21 h2 =>
        Br (!y21) (
          R false h2) (
          X4 (w64 (i3 + 1)) h2)) (
        R true h1)) →
      X4 i3 h1) →
    X4 0 h)

set_option maxRecDepth 100000 in
theorem same_Rows_of {r : World} {a1 : Sl} {vb2 : Sl} {h : Heap} {R : Bool → Heap → Prop} (H : same_Rows_F r a1 vb2 h R) : same_Rows r a1 vb2 h R := by
  unfold same_Rows_F at H
  refine calls_of 29 [.tmp 4] Tryd.func38 rfl rfl rfl rfl rfl ?_
  refine W_seq ?_
  refine W_region (.pu 0 .fin) rfl rfl ?_
  refine s_pu (d := some 4) (v := (.bool false)) rfl rfl rfl (r_assign rfl) ?_
  refine s_fin ?_
  show W _ _ _ _ _ _ _ _
  refine W_seq ?_
  refine W_seq ?_
  refine W_region (.pu 0 (.pu 1 (.pu 2 (.pu 3 (.pu 4 .fin))))) rfl rfl ?_
  refine s_pu (d := some 7) (v := (Sl.v a1)) rfl rfl rfl (r_move rfl) ?_
  refine s_pu (d := some 8) (v := (.int .i64 ((a1.len : Int)))) rfl rfl rfl (r_len Tryd.underlying56 rfl) ?_
  refine s_pu (d := some 9) (v := (Sl.v vb2)) rfl rfl rfl (r_move rfl) ?_
  refine s_pu (d := some 10) (v := (.int .i64 ((vb2.len : Int)))) rfl rfl rfl (r_len Tryd.underlying56 rfl) ?_
  refine s_pu (d := some 11) (v := (.bool (!decide (((a1.len : Int)) = ((vb2.len : Int)))))) rfl rfl rfl (r_neq rfl rfl) ?_
  refine s_fin ?_
  show W _ _ _ _ _ _ _ _
  refine W_if (!decide (((a1.len : Int)) = ((vb2.len : Int)))) rfl (fun g24 => ?_) (fun g24 => ?_)
  · have H := H.1 g24
    refine W_seq ?_
    refine W_region (.pu 0 .fin) rfl rfl ?_
    refine s_pu (d := some 4) (v := (.bool false)) rfl rfl rfl (r_assign rfl) ?_
    refine s_fin ?_
    show W _ _ _ _ _ _ _ _
    refine W_ret ?_
    exact ⟨[(.bool false)], ⟨_, _, rfl, rfl, rfl⟩, false, rfl, H⟩
  · have H := H.2 g24
    refine W_skip ?_
    show W _ _ _ _ _ _ _ _
    refine W_seq ?_
    refine W_seq ?_
    refine W_region (.pu 0 .fin) rfl rfl ?_
    refine s_pu (d := some 5) (v := (.int .i64 0)) rfl rfl rfl (r_assign rfl) ?_
    refine s_fin ?_
    show W _ _ _ _ _ _ _ _
    refine W_block ?_
    refine W_loop (WL_mk (l := [(0, (Sl.v a1)), (1, (Sl.v vb2)), (5, (.int .i64 0))]) ?_ ⟨rfl, rfl, rfl, trivial⟩)
    refine H (fun (i3 : Int) (h1 : Heap) => ∀ b, WL _ _ _ _ _ _ (mkE [(0, (Sl.v a1)), (1, (Sl.v vb2)), (5, (.int .i64 i3))] b) h1) ?_
    intro i3 h1 H b
    refine WL_round ?_
    refine W_seq ?_
    refine W_seq ?_
    refine W_region (.pu 0 (.pu 1 (.pu 2 (.pu 3 .fin)))) rfl rfl ?_
    refine s_pu (d := some 12) (v := (.int .i64 i3)) rfl rfl rfl (r_move rfl) ?_
    refine s_pu (d := some 13) (v := (Sl.v a1)) rfl rfl rfl (r_move rfl) ?_
    refine s_pu (d := some 14) (v := (.int .i64 ((a1.len : Int)))) rfl rfl rfl (r_len Tryd.underlying56 rfl) ?_
    refine s_pu (d := some 15) (v := (.bool (decide (i3 < ((a1.len : Int)))))) rfl rfl rfl (r_lss rfl rfl) ?_
    refine s_fin ?_
    show W _ _ _ _ _ _ _ _
    refine W_if (decide (i3 < ((a1.len : Int)))) rfl (fun g23 => ?_) (fun g23 => ?_)
    · have H := H.1 g23
      refine W_skip ?_
      show W _ _ _ _ _ _ _ _
      refine W_seq ?_
      refine W_block ?_
      refine W_seq ?_
      refine W_draw [0, 0, 3, 7, 0, 0, 48, 112, 255, 511] (.pu 0 (.pu 1 (.pu 2 (.rd 3 (.pu 4 (.pu 5 (.pu 6 (.rd 7 (.ef 8 [3, 7] (.pu 9 .fin) .no))))))))) (by kernel_rfl) (by kernel_rfl) ?_
      refine s_pu (d := some 18) (v := (Sl.v a1)) rfl rfl rfl (r_move rfl) ?_
      refine s_pu (d := some 19) (v := (.int .i64 i3)) rfl rfl rfl (r_move rfl) ?_
      obtain ⟨p5, e6, e7, e8, H⟩ := H
      obtain ⟨q9, e10⟩ : ∃ q : Addr, q = Addr.add p5 (Int.toNat i3 * 1) := ⟨_, rfl⟩
      rw [← e10] at H
      refine s_pu (d := some 20) (v := (.pointer (some q9))) rfl rfl rfl (fun w => (r_indexAddr Tryd.underlying56 Tryd.sizeOf22 rfl rfl e6 e7 e8 w).trans (by rw [e10])) ?_
      obtain ⟨x11, e12, H⟩ := H
      refine s_rd (d := some 21) (v := (Sl.v x11)) rfl rfl rfl (fun dr => r_load1 Tryd.isAgg22 rfl e12) ?_
      refine s_pu (d := some 22) (v := (Sl.v vb2)) rfl rfl rfl (r_move rfl) ?_
      refine s_pu (d := some 23) (v := (.int .i64 i3)) rfl rfl rfl (r_move rfl) ?_
      obtain ⟨p13, e14, e15, e16, H⟩ := H
      obtain ⟨q17, e18⟩ : ∃ q : Addr, q = Addr.add p13 (Int.toNat i3 * 1) := ⟨_, rfl⟩
      rw [← e18] at H
      refine s_pu (d := some 24) (v := (.pointer (some q17))) rfl rfl rfl (fun w => (r_indexAddr Tryd.underlying56 Tryd.sizeOf22 rfl rfl e14 e15 e16 w).trans (by rw [e18])) ?_
      obtain ⟨x19, e20, H⟩ := H
      refine s_rd (d := some 25) (v := (Sl.v x19)) rfl rfl rfl (fun dr => r_load1 Tryd.isAgg22 rfl e20) ?_
      refine s_ef (d := some 26) rfl rfl rfl (fun dr => r_call Tryd.call17 rfl rfl H) ?_ trivial
      rintro _ h2 ⟨y21, rfl, H⟩
      refine ⟨⟨trivial, trivial, trivial⟩, ?_⟩
      refine s_pu (d := some 6) (v := (.bool y21)) rfl rfl rfl (r_assign rfl) ?_
      refine s_fin ?_
      show W _ _ _ _ _ _ _ _
      refine W_seq ?_
      refine W_region (.pu 0 (.pu 1 .fin)) rfl rfl ?_
      refine s_pu (d := some 27) (v := (.bool y21)) rfl rfl rfl (r_move rfl) ?_
      refine s_pu (d := some 28) (v := (.bool (!y21))) rfl rfl rfl (r_not rfl) ?_
      refine s_fin ?_
      show W _ _ _ _ _ _ _ _
      refine W_if (!y21) rfl (fun g22 => ?_) (fun g22 => ?_)
      · have H := H.1 g22
        refine W_seq ?_
        refine W_region (.pu 0 .fin) rfl rfl ?_
        refine s_pu (d := some 4) (v := (.bool false)) rfl rfl rfl (r_assign rfl) ?_
        refine s_fin ?_
        show W _ _ _ _ _ _ _ _
        refine W_ret ?_
        exact ⟨[(.bool false)], ⟨_, _, rfl, rfl, rfl⟩, false, rfl, H⟩
      · have H := H.2 g22
        refine W_skip ?_
        show W _ _ _ _ _ _ _ _
        refine W_region (.pu 0 (.pu 1 (.pu 2 .fin))) rfl rfl ?_
        refine s_pu (d := some 16) (v := (.int .i64 i3)) rfl rfl rfl (r_move rfl) ?_
        refine s_pu (d := some 17) (v := (.int .i64 (w64 (i3 + 1)))) rfl rfl rfl (r_add rfl rfl) ?_
        refine s_pu (d := some 5) (v := (.int .i64 (w64 (i3 + 1)))) rfl rfl rfl (r_assign rfl) ?_
        refine s_fin ?_
        exact WL_mk (l := [(0, (Sl.v a1)), (1, (Sl.v vb2)), (5, (.int .i64 (w64 (i3 + 1))))]) H ⟨rfl, rfl, rfl, trivial⟩
    · have H := H.2 g23
      refine W_exit (inX_here ?_)
      show W _ _ _ _ _ _ _ _
      refine W_seq ?_
      refine W_region (.pu 0 .fin) rfl rfl ?_
      refine s_pu (d := some 4) (v := (.bool true)) rfl rfl rfl (r_assign rfl) ?_
      refine s_fin ?_
      show W _ _ _ _ _ _ _ _
      refine W_ret ?_
      exact ⟨[(.bool true)], ⟨_, _, rfl, rfl, rfl⟩, true, rfl, H⟩

/-! ### ref1_SumOf -/

def ref1_SumOf_F (r : World) (l1 : Sl) (h : Heap) (R : Int → Heap → Prop) : Prop :=
  ∀ X4 : Int → Int → Prop, (∀ (n2 : Int) (i3 : Int),
    (Br (decide (i3 < ((l1.len : Int)))) (
      Ix l1 i3 1 fun q9 =>
      LdI h q9 fun x11 =>
      X4 (w64 (n2 + x11)) (w64 (i3 + 1))) (
      R n2 h)) →
    X4 n2 i3) →
  X4 0 0

set_option maxRecDepth 100000 in
theorem ref1_SumOf_of {r : World} {l1 : Sl} {h : Heap} {R : Int → Heap → Prop} (H : ref1_SumOf_F r l1 h R) : ref1_SumOf r l1 h R := by
  unfold ref1_SumOf_F at H
  refine calls_of 18 [.tmp 2] Tryd.func14 rfl rfl rfl rfl rfl ?_
  refine W_seq ?_
  refine W_region (.pu 0 .fin) rfl rfl ?_
  refine s_pu (d := some 2) (v := (.int .i64 0)) rfl rfl rfl (r_assign rfl) ?_
  refine s_fin ?_
  show W _ _ _ _ _ _ _ _
  refine W_seq ?_
  refine W_region (.pu 0 .fin) rfl rfl ?_
  refine s_pu (d := some 3) (v := (.int .i64 0)) rfl rfl rfl (r_assign rfl) ?_
  refine s_fin ?_
  show W _ _ _ _ _ _ _ _
  refine W_seq ?_
  refine W_seq ?_
  refine W_region (.pu 0 .fin) rfl rfl ?_
  refine s_pu (d := some 4) (v := (.int .i64 0)) rfl rfl rfl (r_assign rfl) ?_
  refine s_fin ?_
  show W _ _ _ _ _ _ _ _
  refine W_block ?_
  refine W_loop (WL_mk (l := [(0, (Sl.v l1)), (3, (.int .i64 0)), (4, (.int .i64 0))]) ?_ ⟨rfl, rfl, rfl, trivial⟩)
  refine H (fun (n2 : Int) (i3 : Int) => ∀ b, WL _ _ _ _ _ _ (mkE [(0, (Sl.v l1)), (3, (.int .i64 n2)), (4, (.int .i64 i3))] b) h) ?_
  intro n2 i3 H b
  refine WL_round ?_
  refine W_seq ?_
  refine W_seq ?_
  refine W_region (.pu 0 (.pu 1 (.pu 2 (.pu 3 .fin)))) rfl rfl ?_
  refine s_pu (d := some 5) (v := (.int .i64 i3)) rfl rfl rfl (r_move rfl) ?_
  refine s_pu (d := some 6) (v := (Sl.v l1)) rfl rfl rfl (r_move rfl) ?_
  refine s_pu (d := some 7) (v := (.int .i64 ((l1.len : Int)))) rfl rfl rfl (r_len Tryd.underlying22 rfl) ?_
  refine s_pu (d := some 8) (v := (.bool (decide (i3 < ((l1.len : Int)))))) rfl rfl rfl (r_lss rfl rfl) ?_
  refine s_fin ?_
  show W _ _ _ _ _ _ _ _
  refine W_if (decide (i3 < ((l1.len : Int)))) rfl (fun g13 => ?_) (fun g13 => ?_)
  · have H := H.1 g13
    refine W_skip ?_
    show W _ _ _ _ _ _ _ _
    refine W_seq ?_
    refine W_block ?_
    refine W_region (.pu 0 (.pu 1 (.pu 2 (.pu 3 (.rl 4 (.pu 5 (.pu 6 .fin))))))) rfl rfl ?_
    refine s_pu (d := some 11) (v := (.int .i64 n2)) rfl rfl rfl (r_move rfl) ?_
    refine s_pu (d := some 12) (v := (Sl.v l1)) rfl rfl rfl (r_move rfl) ?_
    refine s_pu (d := some 13) (v := (.int .i64 i3)) rfl rfl rfl (r_move rfl) ?_
    obtain ⟨p5, e6, e7, e8, H⟩ := H
    obtain ⟨q9, e10⟩ : ∃ q : Addr, q = Addr.add p5 (Int.toNat i3 * 1) := ⟨_, rfl⟩
    rw [← e10] at H
    refine s_pu (d := some 14) (v := (.pointer (some q9))) rfl rfl rfl (fun w => (r_indexAddr Tryd.underlying22 Tryd.sizeOf3 rfl rfl e6 e7 e8 w).trans (by rw [e10])) ?_
    obtain ⟨x11, e12, H⟩ := H
    refine s_rl (d := some 15) (v := (.int .i64 x11)) rfl rfl rfl (fun dr => r_load1 Tryd.isAgg3 rfl e12) ?_
    refine s_pu (d := some 16) (v := (.int .i64 (w64 (n2 + x11)))) rfl rfl rfl (r_add rfl rfl) ?_
    refine s_pu (d := some 3) (v := (.int .i64 (w64 (n2 + x11)))) rfl rfl rfl (r_assign rfl) ?_
    refine s_fin ?_
    show W _ _ _ _ _ _ _ _
    refine W_region (.pu 0 (.pu 1 (.pu 2 .fin))) rfl rfl ?_
    refine s_pu (d := some 9) (v := (.int .i64 i3)) rfl rfl rfl (r_move rfl) ?_
    refine s_pu (d := some 10) (v := (.int .i64 (w64 (i3 + 1)))) rfl rfl rfl (r_add rfl rfl) ?_
    refine s_pu (d := some 4) (v := (.int .i64 (w64 (i3 + 1)))) rfl rfl rfl (r_assign rfl) ?_
    refine s_fin ?_
    exact WL_mk (l := [(0, (Sl.v l1)), (3, (.int .i64 (w64 (n2 + x11)))), (4, (.int .i64 (w64 (i3 + 1))))]) H ⟨rfl, rfl, rfl, trivial⟩
  · have H := H.2 g13
    refine W_exit (inX_here ?_)
    show W _ _ _ _ _ _ _ _
    refine W_seq ?_
    refine W_region (.pu 0 (.pu 1 .fin)) rfl rfl ?_
    refine s_pu (d := some 17) (v := (.int .i64 n2)) rfl rfl rfl (r_move rfl) ?_
    refine s_pu (d := some 2) (v := (.int .i64 n2)) rfl rfl rfl (r_assign rfl) ?_
    refine s_fin ?_
    show W _ _ _ _ _ _ _ _
    refine W_ret ?_
    exact ⟨[(.int .i64 n2)], ⟨_, _, rfl, rfl, rfl⟩, n2, rfl, H⟩

/-! ### ref1_Cat -/

def ref1_Cat_F (r : World) (a1 : Sl) (vb2 : Sl) (h : Heap) (R : Sl → Heap → Prop) : Prop :=
  App 3 1 8 (.int .i64 0) Sl.nil a1 h fun s3 h1 =>
  App 3 1 8 (.int .i64 0) s3 vb2 h1 fun s4 h2 =>
  R s4 h2

set_option maxRecDepth 100000 in
theorem ref1_Cat_of {r : World} {a1 : Sl} {vb2 : Sl} {h : Heap} {R : Sl → Heap → Prop} (H : ref1_Cat_F r a1 vb2 h R) : ref1_Cat r a1 vb2 h R := by
  unfold ref1_Cat_F at H
  refine calls_of 12 [.tmp 4] Tryd.func31 rfl rfl rfl rfl rfl ?_
  refine W_seq ?_
  refine W_region (.pu 0 .fin) rfl rfl ?_
  refine s_pu (d := some 4) (v := (Sl.v Sl.nil)) rfl rfl rfl (r_assign rfl) ?_
  refine s_fin ?_
  show W _ _ _ _ _ _ _ _
  refine W_seq ?_
  refine W_region (.pu 0 .fin) rfl rfl ?_
  refine s_pu (d := some 5) (v := (Sl.v Sl.nil)) rfl rfl rfl (r_assign rfl) ?_
  refine s_fin ?_
  show W _ _ _ _ _ _ _ _
  refine W_seq ?_
  refine W_region (.pu 0 (.pu 1 (.ef 2 [] (.pu 3 .fin) .no))) rfl rfl ?_
  refine s_pu (d := some 6) (v := (Sl.v Sl.nil)) rfl rfl rfl (r_move rfl) ?_
  refine s_pu (d := some 7) (v := (Sl.v a1)) rfl rfl rfl (r_move rfl) ?_
  refine s_ef (d := some 8) rfl rfl rfl (fun dr => slFDBas_22.append rfl rfl H) ?_ trivial
  rintro _ h1 ⟨s3, rfl, H⟩
  refine ⟨trivial, ?_⟩
  refine s_pu (d := some 5) (v := (Sl.v s3)) rfl rfl rfl (r_assign rfl) ?_
  refine s_fin ?_
  show W _ _ _ _ _ _ _ _
  refine W_seq ?_
  refine W_region (.pu 0 (.pu 1 (.ef 2 [] (.pu 3 .fin) .no))) rfl rfl ?_
  refine s_pu (d := some 9) (v := (Sl.v s3)) rfl rfl rfl (r_move rfl) ?_
  refine s_pu (d := some 10) (v := (Sl.v vb2)) rfl rfl rfl (r_move rfl) ?_
  refine s_ef (d := some 11) rfl rfl rfl (fun dr => slFDBas_22.append rfl rfl H) ?_ trivial
  rintro _ h2 ⟨s4, rfl, H⟩
  refine ⟨trivial, ?_⟩
  refine s_pu (d := some 4) (v := (Sl.v s4)) rfl rfl rfl (r_assign rfl) ?_
  refine s_fin ?_
  show W _ _ _ _ _ _ _ _
  refine W_ret ?_
  exact ⟨[(Sl.v s4)], ⟨_, _, rfl, rfl, rfl⟩, s4, rfl, H⟩

/-! ### ref1_Often -/

def ref1_Often_F (r : World) (l1 : Sl) (x2 : Int) (h : Heap) (R : Int → Heap → Prop) : Prop :=
  ∀ X5 : Int → Int → Prop, (∀ (n3 : Int) (i4 : Int),
    (Br (decide (i4 < ((l1.len : Int)))) (
      ∀ J7 : Int → Prop, (∀ (n6 : Int),
        (X5 n6 (w64 (i4 + 1))) →
        J7 n6) →
      Ix l1 i4 1 fun q13 =>
      LdI h q13 fun x15 =>
      Br (decide (x15 = x2)) (
        J7 (w64 (n3 + 1))) (
        J7 n3)) (
      R n3 h)) →
    X5 n3 i4) →
  X5 0 0

set_option maxRecDepth 100000 in
theorem ref1_Often_of {r : World} {l1 : Sl} {x2 : Int} {h : Heap} {R : Int → Heap → Prop} (H : ref1_Often_F r l1 x2 h R) : ref1_Often r l1 x2 h R := by
  unfold ref1_Often_F at H
  refine calls_of 22 [.tmp 4] Tryd.func96 rfl rfl rfl rfl rfl ?_
  refine W_seq ?_
  refine W_region (.pu 0 .fin) rfl rfl ?_
  refine s_pu (d := some 4) (v := (.int .i64 0)) rfl rfl rfl (r_assign rfl) ?_
  refine s_fin ?_
  show W _ _ _ _ _ _ _ _
  refine W_seq ?_
  refine W_region (.pu 0 .fin) rfl rfl ?_
  refine s_pu (d := some 5) (v := (.int .i64 0)) rfl rfl rfl (r_assign rfl) ?_
  refine s_fin ?_
  show W _ _ _ _ _ _ _ _
  refine W_seq ?_
  refine W_seq ?_
  refine W_region (.pu 0 .fin) rfl rfl ?_
  refine s_pu (d := some 6) (v := (.int .i64 0)) rfl rfl rfl (r_assign rfl) ?_
  refine s_fin ?_
  show W _ _ _ _ _ _ _ _
  refine W_block ?_
  refine W_loop (WL_mk (l := [(0, (Sl.v l1)), (1, (.int .i64 x2)), (5, (.int .i64 0)), (6, (.int .i64 0))]) ?_ ⟨rfl, rfl, rfl, rfl, trivial⟩)
  refine H (fun (n3 : Int) (i4 : Int) => ∀ b, WL _ _ _ _ _ _ (mkE [(0, (Sl.v l1)), (1, (.int .i64 x2)), (5, (.int .i64 n3)), (6, (.int .i64 i4))] b) h) ?_
  intro n3 i4 H b
  refine WL_round ?_
  refine W_seq ?_
  refine W_seq ?_
  refine W_region (.pu 0 (.pu 1 (.pu 2 (.pu 3 .fin)))) rfl rfl ?_
  refine s_pu (d := some 7) (v := (.int .i64 i4)) rfl rfl rfl (r_move rfl) ?_
  refine s_pu (d := some 8) (v := (Sl.v l1)) rfl rfl rfl (r_move rfl) ?_
  refine s_pu (d := some 9) (v := (.int .i64 ((l1.len : Int)))) rfl rfl rfl (r_len Tryd.underlying22 rfl) ?_
  refine s_pu (d := some 10) (v := (.bool (decide (i4 < ((l1.len : Int)))))) rfl rfl rfl (r_lss rfl rfl) ?_
  refine s_fin ?_
  show W _ _ _ _ _ _ _ _
  refine W_if (decide (i4 < ((l1.len : Int)))) rfl (fun g18 => ?_) (fun g18 => ?_)
  · have H := H.1 g18
    refine W_skip ?_
    show W _ _ _ _ _ _ _ _
    refine W_seq ?_
    refine W_set ?_
    intro N8 eN8
    have H := H (fun (n6 : Int) => ∀ b, N8 [] (mkE [(0, (Sl.v l1)), (1, (.int .i64 x2)), (5, (.int .i64 n6)), (6, (.int .i64 i4))] b) h) (by
      intro n6 H b
      rw [eN8]
      show W _ _ _ _ _ _ _ _
      refine W_region (.pu 0 (.pu 1 (.pu 2 .fin))) rfl rfl ?_
      refine s_pu (d := some 11) (v := (.int .i64 i4)) rfl rfl rfl (r_move rfl) ?_
      refine s_pu (d := some 12) (v := (.int .i64 (w64 (i4 + 1)))) rfl rfl rfl (r_add rfl rfl) ?_
      refine s_pu (d := some 6) (v := (.int .i64 (w64 (i4 + 1)))) rfl rfl rfl (r_assign rfl) ?_
      refine s_fin ?_
      exact WL_mk (l := [(0, (Sl.v l1)), (1, (.int .i64 x2)), (5, (.int .i64 n6)), (6, (.int .i64 (w64 (i4 + 1))))]) H ⟨rfl, rfl, rfl, rfl, trivial⟩)
    clear eN8
    refine W_block ?_
    refine W_seq ?_
    refine W_region (.pu 0 (.pu 1 (.pu 2 (.rl 3 (.pu 4 (.pu 5 .fin)))))) rfl rfl ?_
    refine s_pu (d := some 13) (v := (Sl.v l1)) rfl rfl rfl (r_move rfl) ?_
    refine s_pu (d := some 14) (v := (.int .i64 i4)) rfl rfl rfl (r_move rfl) ?_
    obtain ⟨p9, e10, e11, e12, H⟩ := H
    obtain ⟨q13, e14⟩ : ∃ q : Addr, q = Addr.add p9 (Int.toNat i4 * 1) := ⟨_, rfl⟩
    rw [← e14] at H
    refine s_pu (d := some 15) (v := (.pointer (some q13))) rfl rfl rfl (fun w => (r_indexAddr Tryd.underlying22 Tryd.sizeOf3 rfl rfl e10 e11 e12 w).trans (by rw [e14])) ?_
    obtain ⟨x15, e16, H⟩ := H
    refine s_rl (d := some 16) (v := (.int .i64 x15)) rfl rfl rfl (fun dr => r_load1 Tryd.isAgg3 rfl e16) ?_
    refine s_pu (d := some 17) (v := (.int .i64 x2)) rfl rfl rfl (r_move rfl) ?_
    refine s_pu (d := some 18) (v := (.bool (decide (x15 = x2)))) rfl rfl rfl (r_eql rfl rfl) ?_
    refine s_fin ?_
    show W _ _ _ _ _ _ _ _
    refine W_if (decide (x15 = x2)) rfl (fun g17 => ?_) (fun g17 => ?_)
    · have H := H.1 g17
      refine W_region (.pu 0 (.pu 1 (.pu 2 .fin))) rfl rfl ?_
      refine s_pu (d := some 19) (v := (.int .i64 n3)) rfl rfl rfl (r_move rfl) ?_
      refine s_pu (d := some 20) (v := (.int .i64 (w64 (n3 + 1)))) rfl rfl rfl (r_add rfl rfl) ?_
      refine s_pu (d := some 5) (v := (.int .i64 (w64 (n3 + 1)))) rfl rfl rfl (r_assign rfl) ?_
      refine s_fin ?_
      exact N_mk (l := [(0, (Sl.v l1)), (1, (.int .i64 x2)), (5, (.int .i64 (w64 (n3 + 1)))), (6, (.int .i64 i4))]) H ⟨rfl, rfl, rfl, rfl, trivial⟩
    · have H := H.2 g17
      refine W_skip ?_
      exact N_mk (l := [(0, (Sl.v l1)), (1, (.int .i64 x2)), (5, (.int .i64 n3)), (6, (.int .i64 i4))]) H ⟨rfl, rfl, rfl, rfl, trivial⟩
  · have H := H.2 g18
    refine W_exit (inX_here ?_)
    show W _ _ _ _ _ _ _ _
    refine W_seq ?_
    refine W_region (.pu 0 (.pu 1 .fin)) rfl rfl ?_
    refine s_pu (d := some 21) (v := (.int .i64 n3)) rfl rfl rfl (r_move rfl) ?_
    refine s_pu (d := some 4) (v := (.int .i64 n3)) rfl rfl rfl (r_assign rfl) ?_
    refine s_fin ?_
    show W _ _ _ _ _ _ _ _
    refine W_ret ?_
    exact ⟨[(.int .i64 n3)], ⟨_, _, rfl, rfl, rfl⟩, n3, rfl, H⟩

/-! ### ref1_Below -/

def ref1_Below_F (r : World) (l1 : Sl) (x2 : Int) (h : Heap) (R : Int → Heap → Prop) : Prop :=
  ∀ X5 : Int → Int → Prop, (∀ (n3 : Int) (i4 : Int),
    (Br (decide (i4 < ((l1.len : Int)))) (
      ∀ J7 : Int → Prop, (∀ (n6 : Int),
        (X5 n6 (w64 (i4 + 1))) →
        J7 n6) →
      Ix l1 i4 1 fun q13 =>
      LdI h q13 fun x15 =>
      Br (decide (x15 < x2)) (
        J7 (w64 (n3 + 1))) (
        J7 n3)) (
      R n3 h)) →
    X5 n3 i4) →
  X5 0 0

set_option maxRecDepth 100000 in
theorem ref1_Below_of {r : World} {l1 : Sl} {x2 : Int} {h : Heap} {R : Int → Heap → Prop} (H : ref1_Below_F r l1 x2 h R) : ref1_Below r l1 x2 h R := by
  unfold ref1_Below_F at H
  refine calls_of 22 [.tmp 4] Tryd.func98 rfl rfl rfl rfl rfl ?_
  refine W_seq ?_
  refine W_region (.pu 0 .fin) rfl rfl ?_
  refine s_pu (d := some 4) (v := (.int .i64 0)) rfl rfl rfl (r_assign rfl) ?_
  refine s_fin ?_
  show W _ _ _ _ _ _ _ _
  refine W_seq ?_
  refine W_region (.pu 0 .fin) rfl rfl ?_
  refine s_pu (d := some 5) (v := (.int .i64 0)) rfl rfl rfl (r_assign rfl) ?_
  refine s_fin ?_
  show W _ _ _ _ _ _ _ _
  refine W_seq ?_
  refine W_seq ?_
  refine W_region (.pu 0 .fin) rfl rfl ?_
  refine s_pu (d := some 6) (v := (.int .i64 0)) rfl rfl rfl (r_assign rfl) ?_
  refine s_fin ?_
  show W _ _ _ _ _ _ _ _
  refine W_block ?_
  refine W_loop (WL_mk (l := [(0, (Sl.v l1)), (1, (.int .i64 x2)), (5, (.int .i64 0)), (6, (.int .i64 0))]) ?_ ⟨rfl, rfl, rfl, rfl, trivial⟩)
  refine H (fun (n3 : Int) (i4 : Int) => ∀ b, WL _ _ _ _ _ _ (mkE [(0, (Sl.v l1)), (1, (.int .i64 x2)), (5, (.int .i64 n3)), (6, (.int .i64 i4))] b) h) ?_
  intro n3 i4 H b
  refine WL_round ?_
  refine W_seq ?_
  refine W_seq ?_
  refine W_region (.pu 0 (.pu 1 (.pu 2 (.pu 3 .fin)))) rfl rfl ?_
  refine s_pu (d := some 7) (v := (.int .i64 i4)) rfl rfl rfl (r_move rfl) ?_
  refine s_pu (d := some 8) (v := (Sl.v l1)) rfl rfl rfl (r_move rfl) ?_
  refine s_pu (d := some 9) (v := (.int .i64 ((l1.len : Int)))) rfl rfl rfl (r_len Tryd.underlying22 rfl) ?_
  refine s_pu (d := some 10) (v := (.bool (decide (i4 < ((l1.len : Int)))))) rfl rfl rfl (r_lss rfl rfl) ?_
  refine s_fin ?_
  show W _ _ _ _ _ _ _ _
  refine W_if (decide (i4 < ((l1.len : Int)))) rfl (fun g18 => ?_) (fun g18 => ?_)
  · have H := H.1 g18
    refine W_skip ?_
    show W _ _ _ _ _ _ _ _
    refine W_seq ?_
    refine W_set ?_
    intro N8 eN8
    have H := H (fun (n6 : Int) => ∀ b, N8 [] (mkE [(0, (Sl.v l1)), (1, (.int .i64 x2)), (5, (.int .i64 n6)), (6, (.int .i64 i4))] b) h) (by
      intro n6 H b
      rw [eN8]
      show W _ _ _ _ _ _ _ _
      refine W_region (.pu 0 (.pu 1 (.pu 2 .fin))) rfl rfl ?_
      refine s_pu (d := some 11) (v := (.int .i64 i4)) rfl rfl rfl (r_move rfl) ?_
      refine s_pu (d := some 12) (v := (.int .i64 (w64 (i4 + 1)))) rfl rfl rfl (r_add rfl rfl) ?_
      refine s_pu (d := some 6) (v := (.int .i64 (w64 (i4 + 1)))) rfl rfl rfl (r_assign rfl) ?_
      refine s_fin ?_
      exact WL_mk (l := [(0, (Sl.v l1)), (1, (.int .i64 x2)), (5, (.int .i64 n6)), (6, (.int .i64 (w64 (i4 + 1))))]) H ⟨rfl, rfl, rfl, rfl, trivial⟩)
    clear eN8
    refine W_block ?_
    refine W_seq ?_
    refine W_region (.pu 0 (.pu 1 (.pu 2 (.rl 3 (.pu 4 (.pu 5 .fin)))))) rfl rfl ?_
    refine s_pu (d := some 13) (v := (Sl.v l1)) rfl rfl rfl (r_move rfl) ?_
    refine s_pu (d := some 14) (v := (.int .i64 i4)) rfl rfl rfl (r_move rfl) ?_
    obtain ⟨p9, e10, e11, e12, H⟩ := H
    obtain ⟨q13, e14⟩ : ∃ q : Addr, q = Addr.add p9 (Int.toNat i4 * 1) := ⟨_, rfl⟩
    rw [← e14] at H
    refine s_pu (d := some 15) (v := (.pointer (some q13))) rfl rfl rfl (fun w => (r_indexAddr Tryd.underlying22 Tryd.sizeOf3 rfl rfl e10 e11 e12 w).trans (by rw [e14])) ?_
    obtain ⟨x15, e16, H⟩ := H
    refine s_rl (d := some 16) (v := (.int .i64 x15)) rfl rfl rfl (fun dr => r_load1 Tryd.isAgg3 rfl e16) ?_
    refine s_pu (d := some 17) (v := (.int .i64 x2)) rfl rfl rfl (r_move rfl) ?_
    refine s_pu (d := some 18) (v := (.bool (decide (x15 < x2)))) rfl rfl rfl (r_lss rfl rfl) ?_
    refine s_fin ?_
    show W _ _ _ _ _ _ _ _
    refine W_if (decide (x15 < x2)) rfl (fun g17 => ?_) (fun g17 => ?_)
    · have H := H.1 g17
      refine W_region (.pu 0 (.pu 1 (.pu 2 .fin))) rfl rfl ?_
      refine s_pu (d := some 19) (v := (.int .i64 n3)) rfl rfl rfl (r_move rfl) ?_
      refine s_pu (d := some 20) (v := (.int .i64 (w64 (n3 + 1)))) rfl rfl rfl (r_add rfl rfl) ?_
      refine s_pu (d := some 5) (v := (.int .i64 (w64 (n3 + 1)))) rfl rfl rfl (r_assign rfl) ?_
      refine s_fin ?_
      exact N_mk (l := [(0, (Sl.v l1)), (1, (.int .i64 x2)), (5, (.int .i64 (w64 (n3 + 1)))), (6, (.int .i64 i4))]) H ⟨rfl, rfl, rfl, rfl, trivial⟩
    · have H := H.2 g17
      refine W_skip ?_
      exact N_mk (l := [(0, (Sl.v l1)), (1, (.int .i64 x2)), (5, (.int .i64 n3)), (6, (.int .i64 i4))]) H ⟨rfl, rfl, rfl, rfl, trivial⟩
  · have H := H.2 g18
    refine W_exit (inX_here ?_)
    show W _ _ _ _ _ _ _ _
    refine W_seq ?_
    refine W_region (.pu 0 (.pu 1 .fin)) rfl rfl ?_
    refine s_pu (d := some 21) (v := (.int .i64 n3)) rfl rfl rfl (r_move rfl) ?_
    refine s_pu (d := some 4) (v := (.int .i64 n3)) rfl rfl rfl (r_assign rfl) ?_
    refine s_fin ?_
    show W _ _ _ _ _ _ _ _
    refine W_ret ?_
    exact ⟨[(.int .i64 n3)], ⟨_, _, rfl, rfl, rfl⟩, n3, rfl, H⟩

/-! ### ref1_Without -/

def ref1_Without_F (r : World) (l1 : Sl) (i2 : Int) (h : Heap) (R : Sl → Heap → Prop) : Prop :=
  Sub l1 0 i2 ((l1.cap : Int)) 1 fun s3 =>
  App 3 1 8 (.int .i64 0) Sl.nil s3 h fun s9 h1 =>
  Sub l1 (w64 (i2 + 1)) ((l1.len : Int)) ((l1.cap : Int)) 1 fun s10 =>
  App 3 1 8 (.int .i64 0) s9 s10 h1 fun s16 h2 =>
  R s16 h2

set_option maxRecDepth 100000 in
theorem ref1_Without_of {r : World} {l1 : Sl} {i2 : Int} {h : Heap} {R : Sl → Heap → Prop} (H : ref1_Without_F r l1 i2 h R) : ref1_Without r l1 i2 h R := by
  unfold ref1_Without_F at H
  refine calls_of 17 [.tmp 4] Tryd.func103 rfl rfl rfl rfl rfl ?_
  refine W_seq ?_
  refine W_region (.pu 0 .fin) rfl rfl ?_
  refine s_pu (d := some 4) (v := (Sl.v Sl.nil)) rfl rfl rfl (r_assign rfl) ?_
  refine s_fin ?_
  show W _ _ _ _ _ _ _ _
  refine W_seq ?_
  refine W_region (.pu 0 .fin) rfl rfl ?_
  refine s_pu (d := some 5) (v := (Sl.v Sl.nil)) rfl rfl rfl (r_assign rfl) ?_
  refine s_fin ?_
  show W _ _ _ _ _ _ _ _
  refine W_seq ?_
  refine W_region (.pu 0 (.pu 1 (.pu 2 (.pu 3 (.ef 4 [] (.pu 5 .fin) .no))))) rfl rfl ?_
  refine s_pu (d := some 6) (v := (Sl.v Sl.nil)) rfl rfl rfl (r_move rfl) ?_
  refine s_pu (d := some 7) (v := (Sl.v l1)) rfl rfl rfl (r_move rfl) ?_
  refine s_pu (d := some 8) (v := (.int .i64 i2)) rfl rfl rfl (r_move rfl) ?_
  obtain ⟨e4, e5, e6, e7, H⟩ := H
  obtain ⟨s3, e8⟩ : ∃ t : Sl, t = ⟨sliceA l1.a (Int.toNat ((l1.cap : Int))) (Int.toNat 0) 1, Int.toNat i2 - Int.toNat 0, Int.toNat ((l1.cap : Int)) - Int.toNat 0⟩ := ⟨_, rfl⟩
  have H := H s3 e8
  refine s_pu (d := some 9) (v := (Sl.v s3)) rfl rfl rfl (fun w => (r_slice (lo := .none) (hi := (.some (.tmp 8))) (mx := .none) Tryd.underlying22 Tryd.sizeOf3 rfl ((l1.cap : Int)) i2 0 rfl ⟨_, rfl⟩ rfl e4 e5 (.inr e6) e7 w).trans (by rw [e8]; rfl)) ?_
  refine s_ef (d := some 10) rfl rfl rfl (fun dr => slFDBas_22.append rfl rfl H) ?_ trivial
  rintro _ h1 ⟨s9, rfl, H⟩
  refine ⟨trivial, ?_⟩
  refine s_pu (d := some 5) (v := (Sl.v s9)) rfl rfl rfl (r_assign rfl) ?_
  refine s_fin ?_
  show W _ _ _ _ _ _ _ _
  refine W_seq ?_
  refine W_region (.pu 0 (.pu 1 (.pu 2 (.pu 3 (.pu 4 (.ef 5 [] (.pu 6 .fin) .no)))))) rfl rfl ?_
  refine s_pu (d := some 11) (v := (Sl.v s9)) rfl rfl rfl (r_move rfl) ?_
  refine s_pu (d := some 12) (v := (Sl.v l1)) rfl rfl rfl (r_move rfl) ?_
  refine s_pu (d := some 13) (v := (.int .i64 i2)) rfl rfl rfl (r_move rfl) ?_
  refine s_pu (d := some 14) (v := (.int .i64 (w64 (i2 + 1)))) rfl rfl rfl (r_add rfl rfl) ?_
  obtain ⟨e11, e12, e13, e14, H⟩ := H
  obtain ⟨s10, e15⟩ : ∃ t : Sl, t = ⟨sliceA l1.a (Int.toNat ((l1.cap : Int))) (Int.toNat (w64 (i2 + 1))) 1, Int.toNat ((l1.len : Int)) - Int.toNat (w64 (i2 + 1)), Int.toNat ((l1.cap : Int)) - Int.toNat (w64 (i2 + 1))⟩ := ⟨_, rfl⟩
  have H := H s10 e15
  refine s_pu (d := some 15) (v := (Sl.v s10)) rfl rfl rfl (fun w => (r_slice (lo := (.some (.tmp 14))) (hi := .none) (mx := .none) Tryd.underlying22 Tryd.sizeOf3 rfl ((l1.cap : Int)) ((l1.len : Int)) (w64 (i2 + 1)) rfl ⟨rfl, rfl⟩ ⟨_, rfl⟩ e11 e12 (.inl rfl) e14 w).trans (by rw [e15]; rfl)) ?_
  refine s_ef (d := some 16) rfl rfl rfl (fun dr => slFDBas_22.append rfl rfl H) ?_ trivial
  rintro _ h2 ⟨s16, rfl, H⟩
  refine ⟨trivial, ?_⟩
  refine s_pu (d := some 4) (v := (Sl.v s16)) rfl rfl rfl (r_assign rfl) ?_
  refine s_fin ?_
  show W _ _ _ _ _ _ _ _
  refine W_ret ?_
  exact ⟨[(Sl.v s16)], ⟨_, _, rfl, rfl, rfl⟩, s16, rfl, H⟩

/-! ### slices_Clone_int_int -/

def slices_Clone_int_int_F (r : World) (s1 : Sl) (h : Heap) (R : Sl → Heap → Prop) : Prop :=
  Br (Option.isNone s1.a) (
    R Sl.nil h) (
    New h (.cells #[] 3) fun p2 h1 =>
    App 3 1 8 (.int .i64 0) ((⟨some p2, 0, 0⟩ : Sl)) s1 h1 fun s5 h2 =>
    R s5 h2)

set_option maxRecDepth 100000 in
theorem slices_Clone_int_int_of {r : World} {s1 : Sl} {h : Heap} {R : Sl → Heap → Prop} (H : slices_Clone_int_int_F r s1 h R) : slices_Clone_int_int r s1 h R := by
  unfold slices_Clone_int_int_F at H
  refine calls_of 8 [.tmp 2] Tryd.func73 rfl rfl rfl rfl rfl ?_
  refine W_seq ?_
  refine W_region (.pu 0 .fin) rfl rfl ?_
  refine s_pu (d := some 2) (v := (Sl.v Sl.nil)) rfl rfl rfl (r_assign rfl) ?_
  refine s_fin ?_
  show W _ _ _ _ _ _ _ _
  refine W_seq ?_
  refine W_seq ?_
  refine W_region (.pu 0 (.pu 1 .fin)) rfl rfl ?_
  refine s_pu (d := some 3) (v := (Sl.v s1)) rfl rfl rfl (r_move rfl) ?_
  refine s_pu (d := some 4) (v := (.bool (Option.isNone s1.a))) rfl rfl rfl (r_nilS Tryd.underlying22 rfl rfl) ?_
  refine s_fin ?_
  show W _ _ _ _ _ _ _ _
  refine W_if (Option.isNone s1.a) rfl (fun g6 => ?_) (fun g6 => ?_)
  · have H := H.1 g6
    refine W_seq ?_
    refine W_region (.pu 0 .fin) rfl rfl ?_
    refine s_pu (d := some 2) (v := (Sl.v Sl.nil)) rfl rfl rfl (r_assign rfl) ?_
    refine s_fin ?_
    show W _ _ _ _ _ _ _ _
    refine W_ret ?_
    exact ⟨[(Sl.v Sl.nil)], ⟨_, _, rfl, rfl, rfl⟩, Sl.nil, rfl, H⟩
  · have H := H.2 g6
    refine W_skip ?_
    show W _ _ _ _ _ _ _ _
    refine W_seq ?_
    refine W_region (.ef 0 [] (.pu 1 (.ef 2 [] (.pu 3 .fin) .no)) .no) rfl rfl ?_
    obtain ⟨p2, e3⟩ : ∃ p : Addr, p = ⟨h.size, 0, none⟩ := ⟨_, rfl⟩
    obtain ⟨h1, e4⟩ : ∃ hh : Heap, hh = h.push (.cells #[] 3) := ⟨_, rfl⟩
    have H := H p2 h1 e3 e4
    refine s_ef1 (d := some 5) (v := (Sl.v ((⟨some p2, 0, 0⟩ : Sl)))) (h' := h1) rfl rfl rfl (fun dr => (slFDBas_22.build0).trans (by rw [e3, e4]; rfl)) trivial ?_ trivial
    refine s_pu (d := some 6) (v := (Sl.v s1)) rfl rfl rfl (r_move rfl) ?_
    refine s_ef (d := some 7) rfl rfl rfl (fun dr => slFDBas_22.append rfl rfl H) ?_ trivial
    rintro _ h2 ⟨s5, rfl, H⟩
    refine ⟨trivial, ?_⟩
    refine s_pu (d := some 2) (v := (Sl.v s5)) rfl rfl rfl (r_assign rfl) ?_
    refine s_fin ?_
    show W _ _ _ _ _ _ _ _
    refine W_ret ?_
    exact ⟨[(Sl.v s5)], ⟨_, _, rfl, rfl, rfl⟩, s5, rfl, H⟩

/-! ### math_bits_Len64 -/

def math_bits_Len64_F (r : World) (x1 : Int) (h : Heap) (R : Int → Heap → Prop) : Prop :=
  ∀ J4 : Int → Int → Prop, (∀ (x2 : Int) (n3 : Int),
    (∀ J8 : Int → Int → Prop, (∀ (x6 : Int) (n7 : Int),
      (∀ J12 : Int → Int → Prop, (∀ (x10 : Int) (n11 : Int),
        (0 ≤ (IntKind.wrap .u8 x10) ∧ (IntKind.wrap .u8 x10) < (ByteArray.size txtDBas1 : Int) ∧
        ∀ x16 : Int, x16 = (w64 (n11 + (w64 (strAt txtDBas1 (IntKind.wrap .u8 x10))))) →
        R x16 h) →
        J12 x10 n11) →
      Br (decide (256 ≤ x6)) (
        J12 (sShr .u64 x6 8) (w64 (n7 + 8))) (
        J12 x6 n7)) →
      J8 x6 n7) →
    Br (decide (65536 ≤ x2)) (
      J8 (sShr .u64 x2 16) (w64 (n3 + 16))) (
      J8 x2 n3)) →
    J4 x2 n3) →
  Br (decide (4294967296 ≤ x1)) (
    J4 (sShr .u64 x1 32) 32) (
    J4 x1 0)

set_option maxRecDepth 100000 in
theorem math_bits_Len64_of {r : World} {x1 : Int} {h : Heap} {R : Int → Heap → Prop} (H : math_bits_Len64_F r x1 h R) : math_bits_Len64 r x1 h R := by
  unfold math_bits_Len64_F at H
  refine calls_of 25 [.tmp 2] Tryd.func107 rfl rfl rfl rfl rfl ?_
  refine W_seq ?_
  refine W_region (.pu 0 .fin) rfl rfl ?_
  refine s_pu (d := some 2) (v := (.int .i64 0)) rfl rfl rfl (r_assign rfl) ?_
  refine s_fin ?_
  show W _ _ _ _ _ _ _ _
  refine W_seq ?_
  refine W_seq ?_
  refine W_region (.pu 0 (.pu 1 .fin)) rfl rfl ?_
  refine s_pu (d := some 3) (v := (.int .u64 x1)) rfl rfl rfl (r_move rfl) ?_
  refine s_pu (d := some 4) (v := (.bool (decide (4294967296 ≤ x1)))) rfl rfl rfl (r_geq rfl rfl) ?_
  refine s_fin ?_
  show W _ _ _ _ _ _ _ _
  refine W_set ?_
  intro N5 eN5
  have H := H (fun (x2 : Int) (n3 : Int) => ∀ b, N5 [] (mkE [(0, (.int .u64 x2)), (2, (.int .i64 n3))] b) h) (by
    intro x2 n3 H b
    rw [eN5]
    show W _ _ _ _ _ _ _ _
    refine W_seq ?_
    refine W_seq ?_
    refine W_region (.pu 0 (.pu 1 .fin)) rfl rfl ?_
    refine s_pu (d := some 7) (v := (.int .u64 x2)) rfl rfl rfl (r_move rfl) ?_
    refine s_pu (d := some 8) (v := (.bool (decide (65536 ≤ x2)))) rfl rfl rfl (r_geq rfl rfl) ?_
    refine s_fin ?_
    show W _ _ _ _ _ _ _ _
    refine W_set ?_
    intro N9 eN9
    have H := H (fun (x6 : Int) (n7 : Int) => ∀ b, N9 [] (mkE [(0, (.int .u64 x6)), (2, (.int .i64 n7))] b) h) (by
      intro x6 n7 H b
      rw [eN9]
      show W _ _ _ _ _ _ _ _
      refine W_seq ?_
      refine W_seq ?_
      refine W_region (.pu 0 (.pu 1 .fin)) rfl rfl ?_
      refine s_pu (d := some 13) (v := (.int .u64 x6)) rfl rfl rfl (r_move rfl) ?_
      refine s_pu (d := some 14) (v := (.bool (decide (256 ≤ x6)))) rfl rfl rfl (r_geq rfl rfl) ?_
      refine s_fin ?_
      show W _ _ _ _ _ _ _ _
      refine W_set ?_
      intro N13 eN13
      have H := H (fun (x10 : Int) (n11 : Int) => ∀ b, N13 [] (mkE [(0, (.int .u64 x10)), (2, (.int .i64 n11))] b) h) (by
        intro x10 n11 H b
        rw [eN13]
        show W _ _ _ _ _ _ _ _
        refine W_seq ?_
        refine W_region (.pu 0 (.pu 1 (.pu 2 (.pu 3 (.pu 4 (.pu 5 (.pu 6 .fin))))))) rfl rfl ?_
        refine s_pu (d := some 19) (v := (.int .i64 n11)) rfl rfl rfl (r_move rfl) ?_
        refine s_pu (d := some 20) (v := (.int .u64 x10)) rfl rfl rfl (r_move rfl) ?_
        refine s_pu (d := some 21) (v := (.int .u8 (IntKind.wrap .u8 x10))) rfl rfl rfl (r_conv Tryd.underlying152 Tryd.underlying5 rfl) ?_
        obtain ⟨e14, e15, H⟩ := H
        refine s_pu (d := some 22) (v := (.int .u8 (strAt txtDBas1 (IntKind.wrap .u8 x10)))) rfl rfl rfl (r_indexStr Tryd.underlying9 rfl rfl e14 e15) ?_
        refine s_pu (d := some 23) (v := (.int .i64 (w64 (strAt txtDBas1 (IntKind.wrap .u8 x10))))) rfl rfl rfl (r_conv Tryd.underlying5 Tryd.underlying3 rfl) ?_
        refine s_pu (d := some 24) (v := (.int .i64 (w64 (n11 + (w64 (strAt txtDBas1 (IntKind.wrap .u8 x10))))))) rfl rfl rfl (r_add rfl rfl) ?_
        obtain ⟨x16, e17⟩ : ∃ x : Int, x = (w64 (n11 + (w64 (strAt txtDBas1 (IntKind.wrap .u8 x10))))) := ⟨_, rfl⟩
        have H := H x16 e17
        refine s_pu (d := some 2) (v := (.int .i64 x16)) rfl rfl rfl (r_assign (congrArg (Value.int .i64) e17.symm)) ?_
        refine s_fin ?_
        show W _ _ _ _ _ _ _ _
        refine W_ret ?_
        exact ⟨[(.int .i64 x16)], ⟨_, _, rfl, rfl, rfl⟩, x16, rfl, H⟩)
      clear eN13
      refine W_if (decide (256 ≤ x6)) rfl (fun g18 => ?_) (fun g18 => ?_)
      · have H := H.1 g18
        refine W_seq ?_
        refine W_region (.pu 0 (.pu 1 (.pu 2 .fin))) rfl rfl ?_
        refine s_pu (d := some 15) (v := (.int .u64 x6)) rfl rfl rfl (r_move rfl) ?_
        refine s_pu (d := some 16) (v := (.int .u64 (sShr .u64 x6 8))) rfl rfl rfl (r_shr rfl rfl (by decide)) ?_
        refine s_pu (d := some 0) (v := (.int .u64 (sShr .u64 x6 8))) rfl rfl rfl (r_assign rfl) ?_
        refine s_fin ?_
        show W _ _ _ _ _ _ _ _
        refine W_region (.pu 0 (.pu 1 (.pu 2 .fin))) rfl rfl ?_
        refine s_pu (d := some 17) (v := (.int .i64 n7)) rfl rfl rfl (r_move rfl) ?_
        refine s_pu (d := some 18) (v := (.int .i64 (w64 (n7 + 8)))) rfl rfl rfl (r_add rfl rfl) ?_
        refine s_pu (d := some 2) (v := (.int .i64 (w64 (n7 + 8)))) rfl rfl rfl (r_assign rfl) ?_
        refine s_fin ?_
        exact N_mk (l := [(0, (.int .u64 (sShr .u64 x6 8))), (2, (.int .i64 (w64 (n7 + 8))))]) H ⟨rfl, rfl, trivial⟩
      · have H := H.2 g18
        refine W_skip ?_
        exact N_mk (l := [(0, (.int .u64 x6)), (2, (.int .i64 n7))]) H ⟨rfl, rfl, trivial⟩)
    clear eN9
    refine W_if (decide (65536 ≤ x2)) rfl (fun g19 => ?_) (fun g19 => ?_)
    · have H := H.1 g19
      refine W_seq ?_
      refine W_region (.pu 0 (.pu 1 (.pu 2 .fin))) rfl rfl ?_
      refine s_pu (d := some 9) (v := (.int .u64 x2)) rfl rfl rfl (r_move rfl) ?_
      refine s_pu (d := some 10) (v := (.int .u64 (sShr .u64 x2 16))) rfl rfl rfl (r_shr rfl rfl (by decide)) ?_
      refine s_pu (d := some 0) (v := (.int .u64 (sShr .u64 x2 16))) rfl rfl rfl (r_assign rfl) ?_
      refine s_fin ?_
      show W _ _ _ _ _ _ _ _
      refine W_region (.pu 0 (.pu 1 (.pu 2 .fin))) rfl rfl ?_
      refine s_pu (d := some 11) (v := (.int .i64 n3)) rfl rfl rfl (r_move rfl) ?_
      refine s_pu (d := some 12) (v := (.int .i64 (w64 (n3 + 16)))) rfl rfl rfl (r_add rfl rfl) ?_
      refine s_pu (d := some 2) (v := (.int .i64 (w64 (n3 + 16)))) rfl rfl rfl (r_assign rfl) ?_
      refine s_fin ?_
      exact N_mk (l := [(0, (.int .u64 (sShr .u64 x2 16))), (2, (.int .i64 (w64 (n3 + 16))))]) H ⟨rfl, rfl, trivial⟩
    · have H := H.2 g19
      refine W_skip ?_
      exact N_mk (l := [(0, (.int .u64 x2)), (2, (.int .i64 n3))]) H ⟨rfl, rfl, trivial⟩)
  clear eN5
  refine W_if (decide (4294967296 ≤ x1)) rfl (fun g20 => ?_) (fun g20 => ?_)
  · have H := H.1 g20
    refine W_seq ?_
    refine W_region (.pu 0 (.pu 1 (.pu 2 .fin))) rfl rfl ?_
    refine s_pu (d := some 5) (v := (.int .u64 x1)) rfl rfl rfl (r_move rfl) ?_
    refine s_pu (d := some 6) (v := (.int .u64 (sShr .u64 x1 32))) rfl rfl rfl (r_shr rfl rfl (by decide)) ?_
    refine s_pu (d := some 0) (v := (.int .u64 (sShr .u64 x1 32))) rfl rfl rfl (r_assign rfl) ?_
    refine s_fin ?_
    show W _ _ _ _ _ _ _ _
    refine W_region (.pu 0 .fin) rfl rfl ?_
    refine s_pu (d := some 2) (v := (.int .i64 32)) rfl rfl rfl (r_assign rfl) ?_
    refine s_fin ?_
    exact N_mk (l := [(0, (.int .u64 (sShr .u64 x1 32))), (2, (.int .i64 32))]) H ⟨rfl, rfl, trivial⟩
  · have H := H.2 g20
    refine W_skip ?_
    exact N_mk (l := [(0, (.int .u64 x1)), (2, (.int .i64 0))]) H ⟨rfl, rfl, trivial⟩

/-! ### math_bits_Len32 -/

def math_bits_Len32_F (r : World) (x1 : Int) (h : Heap) (R : Int → Heap → Prop) : Prop :=
  ∀ J4 : Int → Int → Prop, (∀ (x2 : Int) (n3 : Int),
    (∀ J8 : Int → Int → Prop, (∀ (x6 : Int) (n7 : Int),
      (0 ≤ (IntKind.wrap .u8 x6) ∧ (IntKind.wrap .u8 x6) < (ByteArray.size txtDBas1 : Int) ∧
      ∀ x12 : Int, x12 = (w64 (n7 + (w64 (strAt txtDBas1 (IntKind.wrap .u8 x6))))) →
      R x12 h) →
      J8 x6 n7) →
    Br (decide (256 ≤ x2)) (
      J8 (sShr .u32 x2 8) (w64 (n3 + 8))) (
      J8 x2 n3)) →
    J4 x2 n3) →
  Br (decide (65536 ≤ x1)) (
    J4 (sShr .u32 x1 16) 16) (
    J4 x1 0)

set_option maxRecDepth 100000 in
theorem math_bits_Len32_of {r : World} {x1 : Int} {h : Heap} {R : Int → Heap → Prop} (H : math_bits_Len32_F r x1 h R) : math_bits_Len32 r x1 h R := by
  unfold math_bits_Len32_F at H
  refine calls_of 19 [.tmp 2] Tryd.func106 rfl rfl rfl rfl rfl ?_
  refine W_seq ?_
  refine W_region (.pu 0 .fin) rfl rfl ?_
  refine s_pu (d := some 2) (v := (.int .i64 0)) rfl rfl rfl (r_assign rfl) ?_
  refine s_fin ?_
  show W _ _ _ _ _ _ _ _
  refine W_seq ?_
  refine W_seq ?_
  refine W_region (.pu 0 (.pu 1 .fin)) rfl rfl ?_
  refine s_pu (d := some 3) (v := (.int .u32 x1)) rfl rfl rfl (r_move rfl) ?_
  refine s_pu (d := some 4) (v := (.bool (decide (65536 ≤ x1)))) rfl rfl rfl (r_geq rfl rfl) ?_
  refine s_fin ?_
  show W _ _ _ _ _ _ _ _
  refine W_set ?_
  intro N5 eN5
  have H := H (fun (x2 : Int) (n3 : Int) => ∀ b, N5 [] (mkE [(0, (.int .u32 x2)), (2, (.int .i64 n3))] b) h) (by
    intro x2 n3 H b
    rw [eN5]
    show W _ _ _ _ _ _ _ _
    refine W_seq ?_
    refine W_seq ?_
    refine W_region (.pu 0 (.pu 1 .fin)) rfl rfl ?_
    refine s_pu (d := some 7) (v := (.int .u32 x2)) rfl rfl rfl (r_move rfl) ?_
    refine s_pu (d := some 8) (v := (.bool (decide (256 ≤ x2)))) rfl rfl rfl (r_geq rfl rfl) ?_
    refine s_fin ?_
    show W _ _ _ _ _ _ _ _
    refine W_set ?_
    intro N9 eN9
    have H := H (fun (x6 : Int) (n7 : Int) => ∀ b, N9 [] (mkE [(0, (.int .u32 x6)), (2, (.int .i64 n7))] b) h) (by
      intro x6 n7 H b
      rw [eN9]
      show W _ _ _ _ _ _ _ _
      refine W_seq ?_
      refine W_region (.pu 0 (.pu 1 (.pu 2 (.pu 3 (.pu 4 (.pu 5 (.pu 6 .fin))))))) rfl rfl ?_
      refine s_pu (d := some 13) (v := (.int .i64 n7)) rfl rfl rfl (r_move rfl) ?_
      refine s_pu (d := some 14) (v := (.int .u32 x6)) rfl rfl rfl (r_move rfl) ?_
      refine s_pu (d := some 15) (v := (.int .u8 (IntKind.wrap .u8 x6))) rfl rfl rfl (r_conv Tryd.underlying150 Tryd.underlying5 rfl) ?_
      obtain ⟨e10, e11, H⟩ := H
      refine s_pu (d := some 16) (v := (.int .u8 (strAt txtDBas1 (IntKind.wrap .u8 x6)))) rfl rfl rfl (r_indexStr Tryd.underlying9 rfl rfl e10 e11) ?_
      refine s_pu (d := some 17) (v := (.int .i64 (w64 (strAt txtDBas1 (IntKind.wrap .u8 x6))))) rfl rfl rfl (r_conv Tryd.underlying5 Tryd.underlying3 rfl) ?_
      refine s_pu (d := some 18) (v := (.int .i64 (w64 (n7 + (w64 (strAt txtDBas1 (IntKind.wrap .u8 x6))))))) rfl rfl rfl (r_add rfl rfl) ?_
      obtain ⟨x12, e13⟩ : ∃ x : Int, x = (w64 (n7 + (w64 (strAt txtDBas1 (IntKind.wrap .u8 x6))))) := ⟨_, rfl⟩
      have H := H x12 e13
      refine s_pu (d := some 2) (v := (.int .i64 x12)) rfl rfl rfl (r_assign (congrArg (Value.int .i64) e13.symm)) ?_
      refine s_fin ?_
      show W _ _ _ _ _ _ _ _
      refine W_ret ?_
      exact ⟨[(.int .i64 x12)], ⟨_, _, rfl, rfl, rfl⟩, x12, rfl, H⟩)
    clear eN9
    refine W_if (decide (256 ≤ x2)) rfl (fun g14 => ?_) (fun g14 => ?_)
    · have H := H.1 g14
      refine W_seq ?_
      refine W_region (.pu 0 (.pu 1 (.pu 2 .fin))) rfl rfl ?_
      refine s_pu (d := some 9) (v := (.int .u32 x2)) rfl rfl rfl (r_move rfl) ?_
      refine s_pu (d := some 10) (v := (.int .u32 (sShr .u32 x2 8))) rfl rfl rfl (r_shr rfl rfl (by decide)) ?_
      refine s_pu (d := some 0) (v := (.int .u32 (sShr .u32 x2 8))) rfl rfl rfl (r_assign rfl) ?_
      refine s_fin ?_
      show W _ _ _ _ _ _ _ _
      refine W_region (.pu 0 (.pu 1 (.pu 2 .fin))) rfl rfl ?_
      refine s_pu (d := some 11) (v := (.int .i64 n3)) rfl rfl rfl (r_move rfl) ?_
      refine s_pu (d := some 12) (v := (.int .i64 (w64 (n3 + 8)))) rfl rfl rfl (r_add rfl rfl) ?_
      refine s_pu (d := some 2) (v := (.int .i64 (w64 (n3 + 8)))) rfl rfl rfl (r_assign rfl) ?_
      refine s_fin ?_
      exact N_mk (l := [(0, (.int .u32 (sShr .u32 x2 8))), (2, (.int .i64 (w64 (n3 + 8))))]) H ⟨rfl, rfl, trivial⟩
    · have H := H.2 g14
      refine W_skip ?_
      exact N_mk (l := [(0, (.int .u32 x2)), (2, (.int .i64 n3))]) H ⟨rfl, rfl, trivial⟩)
  clear eN5
  refine W_if (decide (65536 ≤ x1)) rfl (fun g15 => ?_) (fun g15 => ?_)
  · have H := H.1 g15
    refine W_seq ?_
    refine W_region (.pu 0 (.pu 1 (.pu 2 .fin))) rfl rfl ?_
    refine s_pu (d := some 5) (v := (.int .u32 x1)) rfl rfl rfl (r_move rfl) ?_
    refine s_pu (d := some 6) (v := (.int .u32 (sShr .u32 x1 16))) rfl rfl rfl (r_shr rfl rfl (by decide)) ?_
    refine s_pu (d := some 0) (v := (.int .u32 (sShr .u32 x1 16))) rfl rfl rfl (r_assign rfl) ?_
    refine s_fin ?_
    show W _ _ _ _ _ _ _ _
    refine W_region (.pu 0 .fin) rfl rfl ?_
    refine s_pu (d := some 2) (v := (.int .i64 16)) rfl rfl rfl (r_assign rfl) ?_
    refine s_fin ?_
    exact N_mk (l := [(0, (.int .u32 (sShr .u32 x1 16))), (2, (.int .i64 16))]) H ⟨rfl, rfl, trivial⟩
  · have H := H.2 g15
    refine W_skip ?_
    exact N_mk (l := [(0, (.int .u32 x1)), (2, (.int .i64 0))]) H ⟨rfl, rfl, trivial⟩

/-! ### math_bits_Len -/

def math_bits_Len_F (r : World) (x1 : Int) (h : Heap) (R : Int → Heap → Prop) : Prop :=
  math_bits_Len64 r x1 h fun y2 h1 =>
  R y2 h1

set_option maxRecDepth 100000 in
theorem math_bits_Len_of {r : World} {x1 : Int} {h : Heap} {R : Int → Heap → Prop} (H : math_bits_Len_F r x1 h R) : math_bits_Len r x1 h R := by
  unfold math_bits_Len_F at H
  refine calls_of 8 [.tmp 2] Tryd.func72 rfl rfl rfl rfl rfl ?_
  refine W_seq ?_
  refine W_region (.pu 0 .fin) rfl rfl ?_
  refine s_pu (d := some 2) (v := (.int .i64 0)) rfl rfl rfl (r_assign rfl) ?_
  refine s_fin ?_
  show W _ _ _ _ _ _ _ _
  refine W_seq ?_
  refine W_if false rfl (fun hg => by cases hg) (fun _ => ?_)
  refine W_skip ?_
  show W _ _ _ _ _ _ _ _
  refine W_seq ?_
  refine W_region (.pu 0 (.ef 1 [] (.pu 2 .fin) .no)) rfl rfl ?_
  refine s_pu (d := some 6) (v := (.int .u64 x1)) rfl rfl rfl (r_move rfl) ?_
  refine s_ef (d := some 7) rfl rfl rfl (fun dr => r_call Tryd.call107 rfl rfl H) ?_ trivial
  rintro _ h1 ⟨y2, rfl, H⟩
  refine ⟨trivial, ?_⟩
  refine s_pu (d := some 2) (v := (.int .i64 y2)) rfl rfl rfl (r_assign rfl) ?_
  refine s_fin ?_
  show W _ _ _ _ _ _ _ _
  refine W_ret ?_
  exact ⟨[(.int .i64 y2)], ⟨_, _, rfl, rfl, rfl⟩, y2, rfl, H⟩

/-! ### law5_within -/

def law5_within_F (r : World) (n1 : Int) (i2 : Int) (j3 : Int) (h : Heap) (R : Bool → Heap → Prop) : Prop :=
  ∀ x10 : Bool, x10 = (((decide (0 ≤ i2)) && (decide (i2 ≤ j3))) && (decide (j3 ≤ n1))) →
  R x10 h

set_option maxRecDepth 100000 in
theorem law5_within_of {r : World} {n1 : Int} {i2 : Int} {j3 : Int} {h : Heap} {R : Bool → Heap → Prop} (H : law5_within_F r n1 i2 j3 h R) : law5_within r n1 i2 j3 h R := by
  unfold law5_within_F at H
  refine calls_of 19 [.tmp 6] Tryd.func21 rfl rfl rfl rfl rfl ?_
  refine W_seq ?_
  refine W_region (.pu 0 .fin) rfl rfl ?_
  refine s_pu (d := some 6) (v := (.bool false)) rfl rfl rfl (r_assign rfl) ?_
  refine s_fin ?_
  show W _ _ _ _ _ _ _ _
  refine W_seq ?_
  refine W_region (.pu 0 (.pu 1 (.pu 2 (.pu 3 (.pu 4 (.pu 5 (.pu 6 (.pu 7 (.pu 8 (.pu 9 (.pu 10 (.pu 11 (.pu 12 .fin))))))))))))) rfl rfl ?_
  refine s_pu (d := some 7) (v := (.int .i64 i2)) rfl rfl rfl (r_move rfl) ?_
  refine s_pu (d := some 8) (v := (.bool (decide (0 ≤ i2)))) rfl rfl rfl (r_geq rfl rfl) ?_
  refine s_pu (d := some 9) (v := (.bool (decide (0 ≤ i2)))) rfl rfl rfl (r_move rfl) ?_
  refine S_meet (l := [(0, (.int .i64 n1)), (2, (.int .i64 j3)), (13, (.bool ((decide (0 ≤ i2)) && (decide (i2 ≤ j3)))))]) (i := 4) ?_ (fun HJ => ?_)
  · intro b
    show S _ _ _ _ _ _
    refine s_pu (d := some 14) (v := (.bool ((decide (0 ≤ i2)) && (decide (i2 ≤ j3))))) rfl rfl rfl (r_move rfl) ?_
    refine S_meet (l := [(18, (.bool (((decide (0 ≤ i2)) && (decide (i2 ≤ j3))) && (decide (j3 ≤ n1)))))]) (i := 4) ?_ (fun HJ => ?_)
    · intro b
      show S _ _ _ _ _ _
      obtain ⟨x10, e11⟩ : ∃ x : Bool, x = (((decide (0 ≤ i2)) && (decide (i2 ≤ j3))) && (decide (j3 ≤ n1))) := ⟨_, rfl⟩
      have H := H x10 e11
      refine s_pu (d := some 6) (v := (.bool x10)) rfl rfl rfl (r_assign (congrArg Value.bool e11.symm)) ?_
      refine s_fin ?_
      show W _ _ _ _ _ _ _ _
      refine W_ret ?_
      exact ⟨[(.bool x10)], ⟨_, _, rfl, rfl, rfl⟩, x10, rfl, H⟩
    · rcases Bool.eq_false_or_eq_true ((decide (0 ≤ i2)) && (decide (i2 ≤ j3))) with g7 | g7
      · refine s_pu (d := some 15) (v := (.int .i64 j3)) rfl rfl (wants_yes rfl rfl rfl rfl g7) (r_move rfl) ?_
        refine s_pu (d := some 16) (v := (.int .i64 n1)) rfl rfl (wants_yes rfl rfl rfl rfl g7) (r_move rfl) ?_
        refine s_pu (d := some 17) (v := (.bool (decide (j3 ≤ n1)))) rfl rfl (wants_yes rfl rfl rfl rfl g7) (r_leq rfl rfl) ?_
        refine s_pu (d := some 18) (v := (.bool (decide (j3 ≤ n1)))) rfl rfl rfl (r_pick1 rfl g7 rfl) ?_
        exact S_mk (l := [(18, (.bool (((decide (0 ≤ i2)) && (decide (i2 ≤ j3))) && (decide (j3 ≤ n1)))))]) HJ ⟨(by rw [g7]; rfl), trivial⟩
      · refine s_sk (d := some 15) rfl rfl (wants_no rfl rfl rfl rfl g7) ?_
        refine s_sk (d := some 16) rfl rfl (wants_no rfl rfl rfl rfl g7) ?_
        refine s_sk (d := some 17) rfl rfl (wants_no rfl rfl rfl rfl g7) ?_
        refine s_pu (d := some 18) (v := (.bool false)) rfl rfl rfl (r_pick0 rfl g7 rfl) ?_
        exact S_mk (l := [(18, (.bool (((decide (0 ≤ i2)) && (decide (i2 ≤ j3))) && (decide (j3 ≤ n1)))))]) HJ ⟨(by rw [g7]; rfl), trivial⟩
  · rcases Bool.eq_false_or_eq_true (decide (0 ≤ i2)) with g4 | g4
    · refine s_pu (d := some 10) (v := (.int .i64 i2)) rfl rfl (wants_yes rfl rfl rfl rfl g4) (r_move rfl) ?_
      refine s_pu (d := some 11) (v := (.int .i64 j3)) rfl rfl (wants_yes rfl rfl rfl rfl g4) (r_move rfl) ?_
      refine s_pu (d := some 12) (v := (.bool (decide (i2 ≤ j3)))) rfl rfl (wants_yes rfl rfl rfl rfl g4) (r_leq rfl rfl) ?_
      refine s_pu (d := some 13) (v := (.bool (decide (i2 ≤ j3)))) rfl rfl rfl (r_pick1 rfl g4 rfl) ?_
      exact S_mk (l := [(0, (.int .i64 n1)), (2, (.int .i64 j3)), (13, (.bool ((decide (0 ≤ i2)) && (decide (i2 ≤ j3)))))]) HJ ⟨rfl, rfl, (by rw [g4]; rfl), trivial⟩
    · refine s_sk (d := some 10) rfl rfl (wants_no rfl rfl rfl rfl g4) ?_
      refine s_sk (d := some 11) rfl rfl (wants_no rfl rfl rfl rfl g4) ?_
      refine s_sk (d := some 12) rfl rfl (wants_no rfl rfl rfl rfl g4) ?_
      refine s_pu (d := some 13) (v := (.bool false)) rfl rfl rfl (r_pick0 rfl g4 rfl) ?_
      exact S_mk (l := [(0, (.int .i64 n1)), (2, (.int .i64 j3)), (13, (.bool ((decide (0 ≤ i2)) && (decide (i2 ≤ j3)))))]) HJ ⟨rfl, rfl, (by rw [g4]; rfl), trivial⟩

end Go.Proofs.YtcafckgflpmfgaaDoor
