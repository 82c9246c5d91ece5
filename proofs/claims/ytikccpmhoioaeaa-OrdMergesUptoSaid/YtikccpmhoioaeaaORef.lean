/- Typed words of functions, and that they hold: printed by gen.py (an own tool of this claim) off the model's own form of each function. -/
import Derived.Test.YtikccpmhoioaeaaProg
import Derived.Test.YtikccpmhoioaeaaTwGrow
namespace Go.Proofs.Ytikccpmhoioaeaa
open Go Go.RowKit Go.Tw
set_option linter.unusedVariables false

theorem slFORef_22 : SlF Try.prog 22 3 1 8 (.int .i64 0) := ⟨Try.underlying22, ⟨Try.t3, by kernel_rfl, rfl, rfl, rfl⟩, rfl, Try.sizeOf3, Try.zeroValue3⟩

/-! ### the calls -/

abbrev same_Ints (r : World) (a1 : Sl) (vb2 : Sl) (h : Heap) (R : Bool → Heap → Prop) : Prop :=
  CallsH Try.prog r 13 [(Sl.v a1), (Sl.v vb2)] h fun v h' => ∃ (y3 : Bool), v = (.bool y3) ∧ R y3 h'

theorem same_Ints.mono {r : World} {a1 : Sl} {vb2 : Sl} {h : Heap} {R R' : Bool → Heap → Prop} (H : same_Ints r a1 vb2 h R) (hr : ∀ y3 h, R y3 h → R' y3 h) : same_Ints r a1 vb2 h R' :=
  CallsH.mono H fun _ _ hx => by
    obtain ⟨y3, hv, hR⟩ := hx
    exact ⟨y3, hv, hr _ _ hR⟩

abbrev ref1_Cat (r : World) (a1 : Sl) (vb2 : Sl) (h : Heap) (R : Sl → Heap → Prop) : Prop :=
  CallsH Try.prog r 14 [(Sl.v a1), (Sl.v vb2)] h fun v h' => ∃ (y3 : Sl), v = (Sl.v y3) ∧ R y3 h'

theorem ref1_Cat.mono {r : World} {a1 : Sl} {vb2 : Sl} {h : Heap} {R R' : Sl → Heap → Prop} (H : ref1_Cat r a1 vb2 h R) (hr : ∀ y3 h, R y3 h → R' y3 h) : ref1_Cat r a1 vb2 h R' :=
  CallsH.mono H fun _ _ hx => by
    obtain ⟨y3, hv, hR⟩ := hx
    exact ⟨y3, hv, hr _ _ hR⟩

abbrev ref1_Sorted (r : World) (l1 : Sl) (h : Heap) (R : Sl → Heap → Prop) : Prop :=
  CallsH Try.prog r 26 [(Sl.v l1)] h fun v h' => ∃ (y2 : Sl), v = (Sl.v y2) ∧ R y2 h'

theorem ref1_Sorted.mono {r : World} {l1 : Sl} {h : Heap} {R R' : Sl → Heap → Prop} (H : ref1_Sorted r l1 h R) (hr : ∀ y2 h, R y2 h → R' y2 h) : ref1_Sorted r l1 h R' :=
  CallsH.mono H fun _ _ hx => by
    obtain ⟨y2, hv, hR⟩ := hx
    exact ⟨y2, hv, hr _ _ hR⟩

abbrev ref1_Sifted (r : World) (l1 : Sl) (vb2 : Sl) (want3 : Bool) (h : Heap) (R : Sl → Heap → Prop) : Prop :=
  CallsH Try.prog r 29 [(Sl.v l1), (Sl.v vb2), (.bool want3)] h fun v h' => ∃ (y4 : Sl), v = (Sl.v y4) ∧ R y4 h'

theorem ref1_Sifted.mono {r : World} {l1 : Sl} {vb2 : Sl} {want3 : Bool} {h : Heap} {R R' : Sl → Heap → Prop} (H : ref1_Sifted r l1 vb2 want3 h R) (hr : ∀ y4 h, R y4 h → R' y4 h) : ref1_Sifted r l1 vb2 want3 h R' :=
  CallsH.mono H fun _ _ hx => by
    obtain ⟨y4, hv, hR⟩ := hx
    exact ⟨y4, hv, hr _ _ hR⟩

abbrev ref1_Often (r : World) (l1 : Sl) (x2 : Int) (h : Heap) (R : Int → Heap → Prop) : Prop :=
  CallsH Try.prog r 30 [(Sl.v l1), (.int .i64 x2)] h fun v h' => ∃ (y3 : Int), v = (.int .i64 y3) ∧ R y3 h'

theorem ref1_Often.mono {r : World} {l1 : Sl} {x2 : Int} {h : Heap} {R R' : Int → Heap → Prop} (H : ref1_Often r l1 x2 h R) (hr : ∀ y3 h, R y3 h → R' y3 h) : ref1_Often r l1 x2 h R' :=
  CallsH.mono H fun _ _ hx => by
    obtain ⟨y3, hv, hR⟩ := hx
    exact ⟨y3, hv, hr _ _ hR⟩

abbrev ref1_With (r : World) (l1 : Sl) (i2 : Int) (x3 : Int) (h : Heap) (R : Sl → Heap → Prop) : Prop :=
  CallsH Try.prog r 49 [(Sl.v l1), (.int .i64 i2), (.int .i64 x3)] h fun v h' => ∃ (y4 : Sl), v = (Sl.v y4) ∧ R y4 h'

theorem ref1_With.mono {r : World} {l1 : Sl} {i2 : Int} {x3 : Int} {h : Heap} {R R' : Sl → Heap → Prop} (H : ref1_With r l1 i2 x3 h R) (hr : ∀ y4 h, R y4 h → R' y4 h) : ref1_With r l1 i2 x3 h R' :=
  CallsH.mono H fun _ _ hx => by
    obtain ⟨y4, hv, hR⟩ := hx
    exact ⟨y4, hv, hr _ _ hR⟩

abbrev ref1_Below (r : World) (l1 : Sl) (x2 : Int) (h : Heap) (R : Int → Heap → Prop) : Prop :=
  CallsH Try.prog r 50 [(Sl.v l1), (.int .i64 x2)] h fun v h' => ∃ (y3 : Int), v = (.int .i64 y3) ∧ R y3 h'

theorem ref1_Below.mono {r : World} {l1 : Sl} {x2 : Int} {h : Heap} {R R' : Int → Heap → Prop} (H : ref1_Below r l1 x2 h R) (hr : ∀ y3 h, R y3 h → R' y3 h) : ref1_Below r l1 x2 h R' :=
  CallsH.mono H fun _ _ hx => by
    obtain ⟨y3, hv, hR⟩ := hx
    exact ⟨y3, hv, hr _ _ hR⟩

/-! ### same_Ints -/

def same_Ints_F (r : World) (a1 : Sl) (vb2 : Sl) (h : Heap) (R : Bool → Heap → Prop) : Prop :=
  Br (!decide (((a1.len : Int)) = ((vb2.len : Int)))) (
    R false h) (
    ∀ X4 : Int → Prop, (∀ (i3 : Int),
      (Br (decide (i3 < ((a1.len : Int)))) (
        Ix a1 i3 1 fun q9 =>
        LdI h q9 fun x11 =>
        Ix vb2 i3 1 fun q17 =>
        LdI h q17 fun x19 =>
        Br (!decide (x11 = x19)) (
          R false h) (
          X4 (w64 (i3 + 1)))) (
        R true h)) →
      X4 i3) →
    X4 0)

set_option maxRecDepth 100000 in
theorem same_Ints_of {r : World} {a1 : Sl} {vb2 : Sl} {h : Heap} {R : Bool → Heap → Prop} (H : same_Ints_F r a1 vb2 h R) : same_Ints r a1 vb2 h R := by
  unfold same_Ints_F at H
  refine calls_of 26 [.tmp 4] Try.func13 rfl rfl rfl rfl rfl ?_
  refine W_seq ?_
  refine W_region (.pu 0 .fin) rfl rfl ?_
  refine s_pu (d := some 4) (v := (.bool false)) rfl rfl rfl (r_assign rfl) ?_
  refine s_fin ?_
  show W _ _ _ _ _ _ _ _
  refine W_seq ?_
  refine W_seq ?_
  refine W_region (.pu 0 (.pu 1 (.pu 2 (.pu 3 (.pu 4 .fin))))) rfl rfl ?_
  refine s_pu (d := some 6) (v := (Sl.v a1)) rfl rfl rfl (r_move rfl) ?_
  refine s_pu (d := some 7) (v := (.int .i64 ((a1.len : Int)))) rfl rfl rfl (r_len Try.underlying22 rfl) ?_
  refine s_pu (d := some 8) (v := (Sl.v vb2)) rfl rfl rfl (r_move rfl) ?_
  refine s_pu (d := some 9) (v := (.int .i64 ((vb2.len : Int)))) rfl rfl rfl (r_len Try.underlying22 rfl) ?_
  refine s_pu (d := some 10) (v := (.bool (!decide (((a1.len : Int)) = ((vb2.len : Int)))))) rfl rfl rfl (r_neq rfl rfl) ?_
  refine s_fin ?_
  show W _ _ _ _ _ _ _ _
  refine W_if (!decide (((a1.len : Int)) = ((vb2.len : Int)))) rfl (fun g23 => ?_) (fun g23 => ?_)
  · have H := H.1 g23
    refine W_seq ?_
    refine W_region (.pu 0 .fin) rfl rfl ?_
    refine s_pu (d := some 4) (v := (.bool false)) rfl rfl rfl (r_assign rfl) ?_
    refine s_fin ?_
    show W _ _ _ _ _ _ _ _
    refine W_ret ?_
    exact ⟨[(.bool false)], ⟨_, _, rfl, rfl, rfl⟩, false, rfl, H⟩
  · have H := H.2 g23
    refine W_skip ?_
    show W _ _ _ _ _ _ _ _
    refine W_seq ?_
    refine W_seq ?_
    refine W_region (.pu 0 .fin) rfl rfl ?_
    refine s_pu (d := some 5) (v := (.int .i64 0)) rfl rfl rfl (r_assign rfl) ?_
    refine s_fin ?_
    show W _ _ _ _ _ _ _ _
    refine W_block ?_
    refine W_loop (WL_mk (l := [(0, (Sl.v a1)), (1, (Sl.v vb2)), (5, (.int .i64 0))]) ?_ ⟨rfl, rfl, rfl, trivial⟩)
    refine H (fun (i3 : Int) => ∀ b, WL _ _ _ _ _ _ (mkE [(0, (Sl.v a1)), (1, (Sl.v vb2)), (5, (.int .i64 i3))] b) h) ?_
    intro i3 H b
    refine WL_round ?_
    refine W_seq ?_
    refine W_seq ?_
    refine W_region (.pu 0 (.pu 1 (.pu 2 (.pu 3 .fin)))) rfl rfl ?_
    refine s_pu (d := some 11) (v := (.int .i64 i3)) rfl rfl rfl (r_move rfl) ?_
    refine s_pu (d := some 12) (v := (Sl.v a1)) rfl rfl rfl (r_move rfl) ?_
    refine s_pu (d := some 13) (v := (.int .i64 ((a1.len : Int)))) rfl rfl rfl (r_len Try.underlying22 rfl) ?_
    refine s_pu (d := some 14) (v := (.bool (decide (i3 < ((a1.len : Int)))))) rfl rfl rfl (r_lss rfl rfl) ?_
    refine s_fin ?_
    show W _ _ _ _ _ _ _ _
    refine W_if (decide (i3 < ((a1.len : Int)))) rfl (fun g22 => ?_) (fun g22 => ?_)
    · have H := H.1 g22
      refine W_skip ?_
      show W _ _ _ _ _ _ _ _
      refine W_seq ?_
      refine W_block ?_
      refine W_seq ?_
      refine W_draw [0, 0, 3, 7, 0, 0, 48, 112, 255] (.pu 0 (.pu 1 (.pu 2 (.rd 3 (.pu 4 (.pu 5 (.pu 6 (.rd 7 (.pu 8 .fin))))))))) (by kernel_rfl) (by kernel_rfl) ?_
      refine s_pu (d := some 17) (v := (Sl.v a1)) rfl rfl rfl (r_move rfl) ?_
      refine s_pu (d := some 18) (v := (.int .i64 i3)) rfl rfl rfl (r_move rfl) ?_
      obtain ⟨p5, e6, e7, e8, H⟩ := H
      obtain ⟨q9, e10⟩ : ∃ q : Addr, q = Addr.add p5 (Int.toNat i3 * 1) := ⟨_, rfl⟩
      rw [← e10] at H
      refine s_pu (d := some 19) (v := (.pointer (some q9))) rfl rfl rfl (fun w => (r_indexAddr Try.underlying22 Try.sizeOf3 rfl rfl e6 e7 e8 w).trans (by rw [e10])) ?_
      obtain ⟨x11, e12, H⟩ := H
      refine s_rd (d := some 20) (v := (.int .i64 x11)) rfl rfl rfl (fun dr => r_load1 Try.isAgg3 rfl e12) ?_
      refine s_pu (d := some 21) (v := (Sl.v vb2)) rfl rfl rfl (r_move rfl) ?_
      refine s_pu (d := some 22) (v := (.int .i64 i3)) rfl rfl rfl (r_move rfl) ?_
      obtain ⟨p13, e14, e15, e16, H⟩ := H
      obtain ⟨q17, e18⟩ : ∃ q : Addr, q = Addr.add p13 (Int.toNat i3 * 1) := ⟨_, rfl⟩
      rw [← e18] at H
      refine s_pu (d := some 23) (v := (.pointer (some q17))) rfl rfl rfl (fun w => (r_indexAddr Try.underlying22 Try.sizeOf3 rfl rfl e14 e15 e16 w).trans (by rw [e18])) ?_
      obtain ⟨x19, e20, H⟩ := H
      refine s_rd (d := some 24) (v := (.int .i64 x19)) rfl rfl rfl (fun dr => r_load1 Try.isAgg3 rfl e20) ?_
      refine s_pu (d := some 25) (v := (.bool (!decide (x11 = x19)))) rfl rfl rfl (r_neq rfl rfl) ?_
      refine s_fin ?_
      show W _ _ _ _ _ _ _ _
      refine W_if (!decide (x11 = x19)) rfl (fun g21 => ?_) (fun g21 => ?_)
      · have H := H.1 g21
        refine W_seq ?_
        refine W_region (.pu 0 .fin) rfl rfl ?_
        refine s_pu (d := some 4) (v := (.bool false)) rfl rfl rfl (r_assign rfl) ?_
        refine s_fin ?_
        show W _ _ _ _ _ _ _ _
        refine W_ret ?_
        exact ⟨[(.bool false)], ⟨_, _, rfl, rfl, rfl⟩, false, rfl, H⟩
      · have H := H.2 g21
        refine W_skip ?_
        show W _ _ _ _ _ _ _ _
        refine W_region (.pu 0 (.pu 1 (.pu 2 .fin))) rfl rfl ?_
        refine s_pu (d := some 15) (v := (.int .i64 i3)) rfl rfl rfl (r_move rfl) ?_
        refine s_pu (d := some 16) (v := (.int .i64 (w64 (i3 + 1)))) rfl rfl rfl (r_add rfl rfl) ?_
        refine s_pu (d := some 5) (v := (.int .i64 (w64 (i3 + 1)))) rfl rfl rfl (r_assign rfl) ?_
        refine s_fin ?_
        exact WL_mk (l := [(0, (Sl.v a1)), (1, (Sl.v vb2)), (5, (.int .i64 (w64 (i3 + 1))))]) H ⟨rfl, rfl, rfl, trivial⟩
    · have H := H.2 g22
      refine W_exit (inX_here ?_)
      show W _ _ _ _ _ _ _ _
      refine W_seq ?_
      refine W_region (.pu 0 .fin) rfl rfl ?_
      refine s_pu (d := some 4) (v := (.bool true)) rfl rfl rfl (r_assign rfl) ?_
      refine s_fin ?_
      show W _ _ _ _ _ _ _ _
      refine W_ret ?_
      exact ⟨[(.bool true)], ⟨_, _, rfl, rfl, rfl⟩, true, rfl, H⟩

/-! ### ref1_Cat -/

def ref1_Cat_F (r : World) (a1 : Sl) (vb2 : Sl) (h : Heap) (R : Sl → Heap → Prop) : Prop :=
  App 3 1 8 (.int .i64 0) Sl.nil a1 h fun s3 h1 =>
  App 3 1 8 (.int .i64 0) s3 vb2 h1 fun s4 h2 =>
  R s4 h2

set_option maxRecDepth 100000 in
theorem ref1_Cat_of {r : World} {a1 : Sl} {vb2 : Sl} {h : Heap} {R : Sl → Heap → Prop} (H : ref1_Cat_F r a1 vb2 h R) : ref1_Cat r a1 vb2 h R := by
  unfold ref1_Cat_F at H
  refine calls_of 12 [.tmp 4] Try.func14 rfl rfl rfl rfl rfl ?_
  refine W_seq ?_
  refine W_region (.pu 0 .fin) rfl rfl ?_
  refine s_pu (d := some 4) (v := (Sl.v Sl.nil)) rfl rfl rfl (r_assign rfl) ?_
  refine s_fin ?_
  show W _ _ _ _ _ _ _ _
  refine W_seq ?_
  refine W_region (.pu 0 .fin) rfl rfl ?_
  refine s_pu (d := some 5) (v := (Sl.v Sl.nil)) rfl rfl rfl (r_assign rfl) ?_
  refine s_fin ?_
  show W _ _ _ _ _ _ _ _
  refine W_seq ?_
  refine W_region (.pu 0 (.pu 1 (.ef 2 [] (.pu 3 .fin) .no))) rfl rfl ?_
  refine s_pu (d := some 6) (v := (Sl.v Sl.nil)) rfl rfl rfl (r_move rfl) ?_
  refine s_pu (d := some 7) (v := (Sl.v a1)) rfl rfl rfl (r_move rfl) ?_
  refine s_ef (d := some 8) rfl rfl rfl (fun dr => slFORef_22.append rfl rfl H) ?_ trivial
  rintro _ h1 ⟨s3, rfl, H⟩
  refine ⟨trivial, ?_⟩
  refine s_pu (d := some 5) (v := (Sl.v s3)) rfl rfl rfl (r_assign rfl) ?_
  refine s_fin ?_
  show W _ _ _ _ _ _ _ _
  refine W_seq ?_
  refine W_region (.pu 0 (.pu 1 (.ef 2 [] (.pu 3 .fin) .no))) rfl rfl ?_
  refine s_pu (d := some 9) (v := (Sl.v s3)) rfl rfl rfl (r_move rfl) ?_
  refine s_pu (d := some 10) (v := (Sl.v vb2)) rfl rfl rfl (r_move rfl) ?_
  refine s_ef (d := some 11) rfl rfl rfl (fun dr => slFORef_22.append rfl rfl H) ?_ trivial
  rintro _ h2 ⟨s4, rfl, H⟩
  refine ⟨trivial, ?_⟩
  refine s_pu (d := some 4) (v := (Sl.v s4)) rfl rfl rfl (r_assign rfl) ?_
  refine s_fin ?_
  show W _ _ _ _ _ _ _ _
  refine W_ret ?_
  exact ⟨[(Sl.v s4)], ⟨_, _, rfl, rfl, rfl⟩, s4, rfl, H⟩

/-! ### ref1_Sorted -/

def ref1_Sorted_F (r : World) (l1 : Sl) (h : Heap) (R : Sl → Heap → Prop) : Prop :=
  ∀ X4 : Sl → Int → Heap → Prop, (∀ (out2 : Sl) (i3 : Int) (h1 : Heap),
    (Br (decide (i3 < ((l1.len : Int)))) (
      Ix l1 i3 1 fun q9 =>
      LdI h1 q9 fun x11 =>
      Ix l1 i3 1 fun q17 =>
      LdI h1 q17 fun x19 =>
      ref1_Below r out2 x11 h1 fun y21 h2 =>
      (hcell h2 q17 = some (.int .i64 x19)) ∧
      ref1_With r out2 y21 x19 h2 fun y23 h3 =>
      X4 y23 (w64 (i3 + 1)) h3) (
      R out2 h1)) →
    X4 out2 i3 h1) →
  X4 Sl.nil 0 h

set_option maxRecDepth 100000 in
theorem ref1_Sorted_of {r : World} {l1 : Sl} {h : Heap} {R : Sl → Heap → Prop} (H : ref1_Sorted_F r l1 h R) : ref1_Sorted r l1 h R := by
  unfold ref1_Sorted_F at H
  refine calls_of 24 [.tmp 2] Try.func26 rfl rfl rfl rfl rfl ?_
  refine W_seq ?_
  refine W_region (.pu 0 .fin) rfl rfl ?_
  refine s_pu (d := some 2) (v := (Sl.v Sl.nil)) rfl rfl rfl (r_assign rfl) ?_
  refine s_fin ?_
  show W _ _ _ _ _ _ _ _
  refine W_seq ?_
  refine W_region (.pu 0 .fin) rfl rfl ?_
  refine s_pu (d := some 3) (v := (Sl.v Sl.nil)) rfl rfl rfl (r_assign rfl) ?_
  refine s_fin ?_
  show W _ _ _ _ _ _ _ _
  refine W_seq ?_
  refine W_seq ?_
  refine W_region (.pu 0 .fin) rfl rfl ?_
  refine s_pu (d := some 4) (v := (.int .i64 0)) rfl rfl rfl (r_assign rfl) ?_
  refine s_fin ?_
  show W _ _ _ _ _ _ _ _
  refine W_block ?_
  refine W_loop (WL_mk (l := [(0, (Sl.v l1)), (3, (Sl.v Sl.nil)), (4, (.int .i64 0))]) ?_ ⟨rfl, rfl, rfl, trivial⟩)
  refine H (fun (out2 : Sl) (i3 : Int) (h1 : Heap) => ∀ b, WL _ _ _ _ _ _ (mkE [(0, (Sl.v l1)), (3, (Sl.v out2)), (4, (.int .i64 i3))] b) h1) ?_
  intro out2 i3 h1 H b
  refine WL_round ?_
  refine W_seq ?_
  refine W_seq ?_
  refine W_region (.pu 0 (.pu 1 (.pu 2 (.pu 3 .fin)))) rfl rfl ?_
  refine s_pu (d := some 5) (v := (.int .i64 i3)) rfl rfl rfl (r_move rfl) ?_
  refine s_pu (d := some 6) (v := (Sl.v l1)) rfl rfl rfl (r_move rfl) ?_
  refine s_pu (d := some 7) (v := (.int .i64 ((l1.len : Int)))) rfl rfl rfl (r_len Try.underlying22 rfl) ?_
  refine s_pu (d := some 8) (v := (.bool (decide (i3 < ((l1.len : Int)))))) rfl rfl rfl (r_lss rfl rfl) ?_
  refine s_fin ?_
  show W _ _ _ _ _ _ _ _
  refine W_if (decide (i3 < ((l1.len : Int)))) rfl (fun g24 => ?_) (fun g24 => ?_)
  · have H := H.1 g24
    refine W_skip ?_
    show W _ _ _ _ _ _ _ _
    refine W_seq ?_
    refine W_block ?_
    refine W_draw [0, 0, 0, 0, 12, 28, 62, 0, 0, 384, 896, 2047, 4095] (.pu 0 (.pu 1 (.pu 2 (.pu 3 (.pu 4 (.rd 5 (.pu 7 (.pu 8 (.pu 9 (.rd 10 (.ef 6 [5] (.ef 11 [5, 10] (.pu 12 .fin) .no) .no))))))))))) (by kernel_rfl) (by kernel_rfl) ?_
    refine s_pu (d := some 11) (v := (Sl.v out2)) rfl rfl rfl (r_move rfl) ?_
    refine s_pu (d := some 12) (v := (Sl.v out2)) rfl rfl rfl (r_move rfl) ?_
    refine s_pu (d := some 13) (v := (Sl.v l1)) rfl rfl rfl (r_move rfl) ?_
    refine s_pu (d := some 14) (v := (.int .i64 i3)) rfl rfl rfl (r_move rfl) ?_
    obtain ⟨p5, e6, e7, e8, H⟩ := H
    obtain ⟨q9, e10⟩ : ∃ q : Addr, q = Addr.add p5 (Int.toNat i3 * 1) := ⟨_, rfl⟩
    rw [← e10] at H
    refine s_pu (d := some 15) (v := (.pointer (some q9))) rfl rfl rfl (fun w => (r_indexAddr Try.underlying22 Try.sizeOf3 rfl rfl e6 e7 e8 w).trans (by rw [e10])) ?_
    obtain ⟨x11, e12, H⟩ := H
    refine s_rd (d := some 16) (v := (.int .i64 x11)) rfl rfl rfl (fun dr => r_load1 Try.isAgg3 rfl e12) ?_
    refine s_pu (d := some 18) (v := (Sl.v l1)) rfl rfl rfl (r_move rfl) ?_
    refine s_pu (d := some 19) (v := (.int .i64 i3)) rfl rfl rfl (r_move rfl) ?_
    obtain ⟨p13, e14, e15, e16, H⟩ := H
    obtain ⟨q17, e18⟩ : ∃ q : Addr, q = Addr.add p13 (Int.toNat i3 * 1) := ⟨_, rfl⟩
    rw [← e18] at H
    refine s_pu (d := some 20) (v := (.pointer (some q17))) rfl rfl rfl (fun w => (r_indexAddr Try.underlying22 Try.sizeOf3 rfl rfl e14 e15 e16 w).trans (by rw [e18])) ?_
    obtain ⟨x19, e20, H⟩ := H
    refine s_rd (d := some 21) (v := (.int .i64 x19)) rfl rfl rfl (fun dr => r_load1 Try.isAgg3 rfl e20) ?_
    refine s_ef (d := some 17) rfl rfl rfl (fun dr => r_call Try.call50 rfl rfl H) ?_ trivial
    rintro _ h2 ⟨y21, rfl, H⟩
    obtain ⟨e22, H⟩ := H
    refine ⟨⟨(.inl ⟨rfl, fun dr => r_load1 Try.isAgg3 rfl e22⟩), trivial, trivial⟩, ?_⟩
    refine s_ef (d := some 22) rfl rfl rfl (fun dr => r_call Try.call49 rfl rfl H) ?_ trivial
    rintro _ h3 ⟨y23, rfl, H⟩
    refine ⟨⟨trivial, trivial, trivial⟩, ?_⟩
    refine s_pu (d := some 3) (v := (Sl.v y23)) rfl rfl rfl (r_assign rfl) ?_
    refine s_fin ?_
    show W _ _ _ _ _ _ _ _
    refine W_region (.pu 0 (.pu 1 (.pu 2 .fin))) rfl rfl ?_
    refine s_pu (d := some 9) (v := (.int .i64 i3)) rfl rfl rfl (r_move rfl) ?_
    refine s_pu (d := some 10) (v := (.int .i64 (w64 (i3 + 1)))) rfl rfl rfl (r_add rfl rfl) ?_
    refine s_pu (d := some 4) (v := (.int .i64 (w64 (i3 + 1)))) rfl rfl rfl (r_assign rfl) ?_
    refine s_fin ?_
    exact WL_mk (l := [(0, (Sl.v l1)), (3, (Sl.v y23)), (4, (.int .i64 (w64 (i3 + 1))))]) H ⟨rfl, rfl, rfl, trivial⟩
  · have H := H.2 g24
    refine W_exit (inX_here ?_)
    show W _ _ _ _ _ _ _ _
    refine W_seq ?_
    refine W_region (.pu 0 (.pu 1 .fin)) rfl rfl ?_
    refine s_pu (d := some 23) (v := (Sl.v out2)) rfl rfl rfl (r_move rfl) ?_
    refine s_pu (d := some 2) (v := (Sl.v out2)) rfl rfl rfl (r_assign rfl) ?_
    refine s_fin ?_
    show W _ _ _ _ _ _ _ _
    refine W_ret ?_
    exact ⟨[(Sl.v out2)], ⟨_, _, rfl, rfl, rfl⟩, out2, rfl, H⟩

/-! ### ref1_Sifted -/

def ref1_Sifted_F (r : World) (l1 : Sl) (vb2 : Sl) (want3 : Bool) (h : Heap) (R : Sl → Heap → Prop) : Prop :=
  ∀ X6 : Sl → Int → Heap → Prop, (∀ (out4 : Sl) (i5 : Int) (h1 : Heap),
    (Br (decide (i5 < ((l1.len : Int)))) (
      ∀ J8 : Sl → Heap → Prop, (∀ (out7 : Sl) (h2 : Heap),
        (X6 out7 (w64 (i5 + 1)) h2) →
        J8 out7 h2) →
      Ix l1 i5 1 fun q14 =>
      LdI h1 q14 fun x16 =>
      ref1_Often r vb2 x16 h1 fun y18 h3 =>
      Br ((decide (0 < y18)) == want3) (
        Ix l1 i5 1 fun q23 =>
        LdI h3 q23 fun x25 =>
        New h3 (.cells #[(.int .i64 x25)] 3) fun p27 h4 =>
        App 3 1 8 (.int .i64 0) out4 ((⟨some p27, 1, 1⟩ : Sl)) h4 fun s30 h5 =>
        J8 s30 h5) (
        J8 out4 h3)) (
      R out4 h1)) →
    X6 out4 i5 h1) →
  X6 Sl.nil 0 h

set_option maxRecDepth 100000 in
theorem ref1_Sifted_of {r : World} {l1 : Sl} {vb2 : Sl} {want3 : Bool} {h : Heap} {R : Sl → Heap → Prop} (H : ref1_Sifted_F r l1 vb2 want3 h R) : ref1_Sifted r l1 vb2 want3 h R := by
  unfold ref1_Sifted_F at H
  refine calls_of 32 [.tmp 6] Try.func29 rfl rfl rfl rfl rfl ?_
  refine W_seq ?_
  refine W_region (.pu 0 .fin) rfl rfl ?_
  refine s_pu (d := some 6) (v := (Sl.v Sl.nil)) rfl rfl rfl (r_assign rfl) ?_
  refine s_fin ?_
  show W _ _ _ _ _ _ _ _
  refine W_seq ?_
  refine W_region (.pu 0 .fin) rfl rfl ?_
  refine s_pu (d := some 7) (v := (Sl.v Sl.nil)) rfl rfl rfl (r_assign rfl) ?_
  refine s_fin ?_
  show W _ _ _ _ _ _ _ _
  refine W_seq ?_
  refine W_seq ?_
  refine W_region (.pu 0 .fin) rfl rfl ?_
  refine s_pu (d := some 8) (v := (.int .i64 0)) rfl rfl rfl (r_assign rfl) ?_
  refine s_fin ?_
  show W _ _ _ _ _ _ _ _
  refine W_block ?_
  refine W_loop (WL_mk (l := [(0, (Sl.v l1)), (1, (Sl.v vb2)), (2, (.bool want3)), (7, (Sl.v Sl.nil)), (8, (.int .i64 0))]) ?_ ⟨rfl, rfl, rfl, rfl, rfl, trivial⟩)
  refine H (fun (out4 : Sl) (i5 : Int) (h1 : Heap) => ∀ b, WL _ _ _ _ _ _ (mkE [(0, (Sl.v l1)), (1, (Sl.v vb2)), (2, (.bool want3)), (7, (Sl.v out4)), (8, (.int .i64 i5))] b) h1) ?_
  intro out4 i5 h1 H b
  refine WL_round ?_
  refine W_seq ?_
  refine W_seq ?_
  refine W_region (.pu 0 (.pu 1 (.pu 2 (.pu 3 .fin)))) rfl rfl ?_
  refine s_pu (d := some 9) (v := (.int .i64 i5)) rfl rfl rfl (r_move rfl) ?_
  refine s_pu (d := some 10) (v := (Sl.v l1)) rfl rfl rfl (r_move rfl) ?_
  refine s_pu (d := some 11) (v := (.int .i64 ((l1.len : Int)))) rfl rfl rfl (r_len Try.underlying22 rfl) ?_
  refine s_pu (d := some 12) (v := (.bool (decide (i5 < ((l1.len : Int)))))) rfl rfl rfl (r_lss rfl rfl) ?_
  refine s_fin ?_
  show W _ _ _ _ _ _ _ _
  refine W_if (decide (i5 < ((l1.len : Int)))) rfl (fun g32 => ?_) (fun g32 => ?_)
  · have H := H.1 g32
    refine W_skip ?_
    show W _ _ _ _ _ _ _ _
    refine W_seq ?_
    refine W_set ?_
    intro N9 eN9
    have H := H (fun (out7 : Sl) (h2 : Heap) => ∀ b, N9 [] (mkE [(0, (Sl.v l1)), (1, (Sl.v vb2)), (2, (.bool want3)), (7, (Sl.v out7)), (8, (.int .i64 i5))] b) h2) (by
      intro out7 h2 H b
      rw [eN9]
      show W _ _ _ _ _ _ _ _
      refine W_region (.pu 0 (.pu 1 (.pu 2 .fin))) rfl rfl ?_
      refine s_pu (d := some 13) (v := (.int .i64 i5)) rfl rfl rfl (r_move rfl) ?_
      refine s_pu (d := some 14) (v := (.int .i64 (w64 (i5 + 1)))) rfl rfl rfl (r_add rfl rfl) ?_
      refine s_pu (d := some 8) (v := (.int .i64 (w64 (i5 + 1)))) rfl rfl rfl (r_assign rfl) ?_
      refine s_fin ?_
      exact WL_mk (l := [(0, (Sl.v l1)), (1, (Sl.v vb2)), (2, (.bool want3)), (7, (Sl.v out7)), (8, (.int .i64 (w64 (i5 + 1))))]) H ⟨rfl, rfl, rfl, rfl, rfl, trivial⟩)
    clear eN9
    refine W_block ?_
    refine W_seq ?_
    refine W_region (.pu 0 (.pu 1 (.pu 2 (.pu 3 (.rl 4 (.ef 5 [] (.pu 6 (.pu 7 (.pu 8 .fin))) .no)))))) rfl rfl ?_
    refine s_pu (d := some 15) (v := (Sl.v vb2)) rfl rfl rfl (r_move rfl) ?_
    refine s_pu (d := some 16) (v := (Sl.v l1)) rfl rfl rfl (r_move rfl) ?_
    refine s_pu (d := some 17) (v := (.int .i64 i5)) rfl rfl rfl (r_move rfl) ?_
    obtain ⟨p10, e11, e12, e13, H⟩ := H
    obtain ⟨q14, e15⟩ : ∃ q : Addr, q = Addr.add p10 (Int.toNat i5 * 1) := ⟨_, rfl⟩
    rw [← e15] at H
    refine s_pu (d := some 18) (v := (.pointer (some q14))) rfl rfl rfl (fun w => (r_indexAddr Try.underlying22 Try.sizeOf3 rfl rfl e11 e12 e13 w).trans (by rw [e15])) ?_
    obtain ⟨x16, e17, H⟩ := H
    refine s_rl (d := some 19) (v := (.int .i64 x16)) rfl rfl rfl (fun dr => r_load1 Try.isAgg3 rfl e17) ?_
    refine s_ef (d := some 20) rfl rfl rfl (fun dr => r_call Try.call30 rfl rfl H) ?_ trivial
    rintro _ h3 ⟨y18, rfl, H⟩
    refine ⟨trivial, ?_⟩
    refine s_pu (d := some 21) (v := (.bool (decide (0 < y18)))) rfl rfl rfl (r_gtr rfl rfl) ?_
    refine s_pu (d := some 22) (v := (.bool want3)) rfl rfl rfl (r_move rfl) ?_
    refine s_pu (d := some 23) (v := (.bool ((decide (0 < y18)) == want3))) rfl rfl rfl (r_eqlB Try.underlying4 rfl rfl) ?_
    refine s_fin ?_
    show W _ _ _ _ _ _ _ _
    refine W_if ((decide (0 < y18)) == want3) rfl (fun g31 => ?_) (fun g31 => ?_)
    · have H := H.1 g31
      refine W_region (.pu 0 (.pu 1 (.pu 2 (.pu 3 (.rl 4 (.ef 5 [] (.ef 6 [] (.pu 7 .fin) .no) .no)))))) rfl rfl ?_
      refine s_pu (d := some 24) (v := (Sl.v out4)) rfl rfl rfl (r_move rfl) ?_
      refine s_pu (d := some 25) (v := (Sl.v l1)) rfl rfl rfl (r_move rfl) ?_
      refine s_pu (d := some 26) (v := (.int .i64 i5)) rfl rfl rfl (r_move rfl) ?_
      obtain ⟨p19, e20, e21, e22, H⟩ := H
      obtain ⟨q23, e24⟩ : ∃ q : Addr, q = Addr.add p19 (Int.toNat i5 * 1) := ⟨_, rfl⟩
      rw [← e24] at H
      refine s_pu (d := some 27) (v := (.pointer (some q23))) rfl rfl rfl (fun w => (r_indexAddr Try.underlying22 Try.sizeOf3 rfl rfl e20 e21 e22 w).trans (by rw [e24])) ?_
      obtain ⟨x25, e26, H⟩ := H
      refine s_rl (d := some 28) (v := (.int .i64 x25)) rfl rfl rfl (fun dr => r_load1 Try.isAgg3 rfl e26) ?_
      obtain ⟨p27, e28⟩ : ∃ p : Addr, p = ⟨h3.size, 0, none⟩ := ⟨_, rfl⟩
      obtain ⟨h4, e29⟩ : ∃ hh : Heap, hh = h3.push (.cells #[(.int .i64 x25)] 3) := ⟨_, rfl⟩
      have H := H p27 h4 e28 e29
      refine s_ef1 (d := some 29) (v := (Sl.v ((⟨some p27, 1, 1⟩ : Sl)))) (h' := h4) rfl rfl rfl (fun dr => (slFORef_22.build (cells := #[(.int .i64 x25)]) (by decide) rfl (by kernel_rfl)).trans (by rw [e28, e29]; rfl)) trivial ?_ trivial
      refine s_ef (d := some 30) rfl rfl rfl (fun dr => slFORef_22.append rfl rfl H) ?_ trivial
      rintro _ h5 ⟨s30, rfl, H⟩
      refine ⟨trivial, ?_⟩
      refine s_pu (d := some 7) (v := (Sl.v s30)) rfl rfl rfl (r_assign rfl) ?_
      refine s_fin ?_
      exact N_mk (l := [(0, (Sl.v l1)), (1, (Sl.v vb2)), (2, (.bool want3)), (7, (Sl.v s30)), (8, (.int .i64 i5))]) H ⟨rfl, rfl, rfl, rfl, rfl, trivial⟩
    · have H := H.2 g31
      refine W_skip ?_
      exact N_mk (l := [(0, (Sl.v l1)), (1, (Sl.v vb2)), (2, (.bool want3)), (7, (Sl.v out4)), (8, (.int .i64 i5))]) H ⟨rfl, rfl, rfl, rfl, rfl, trivial⟩
  · have H := H.2 g32
    refine W_exit (inX_here ?_)
    show W _ _ _ _ _ _ _ _
    refine W_seq ?_
    refine W_region (.pu 0 (.pu 1 .fin)) rfl rfl ?_
    refine s_pu (d := some 31) (v := (Sl.v out4)) rfl rfl rfl (r_move rfl) ?_
    refine s_pu (d := some 6) (v := (Sl.v out4)) rfl rfl rfl (r_assign rfl) ?_
    refine s_fin ?_
    show W _ _ _ _ _ _ _ _
    refine W_ret ?_
    exact ⟨[(Sl.v out4)], ⟨_, _, rfl, rfl, rfl⟩, out4, rfl, H⟩

/-! ### ref1_Often -/

def ref1_Often_F (r : World) (l1 : Sl) (x2 : Int) (h : Heap) (R : Int → Heap → Prop) : Prop :=
  ∀ X5 : Int → Int → Prop, (∀ (n3 : Int) (i4 : Int),
    (Br (decide (i4 < ((l1.len : Int)))) (
      ∀ J7 : Int → Prop, (∀ (n6 : Int),
        (X5 n6 (w64 (i4 + 1))) →
        J7 n6) →
      Ix l1 i4 1 fun q13 =>
      LdI h q13 fun x15 =>
      Br (decide (x15 = x2)) (
        J7 (w64 (n3 + 1))) (
        J7 n3)) (
      R n3 h)) →
    X5 n3 i4) →
  X5 0 0

set_option maxRecDepth 100000 in
theorem ref1_Often_of {r : World} {l1 : Sl} {x2 : Int} {h : Heap} {R : Int → Heap → Prop} (H : ref1_Often_F r l1 x2 h R) : ref1_Often r l1 x2 h R := by
  unfold ref1_Often_F at H
  refine calls_of 22 [.tmp 4] Try.func30 rfl rfl rfl rfl rfl ?_
  refine W_seq ?_
  refine W_region (.pu 0 .fin) rfl rfl ?_
  refine s_pu (d := some 4) (v := (.int .i64 0)) rfl rfl rfl (r_assign rfl) ?_
  refine s_fin ?_
  show W _ _ _ _ _ _ _ _
  refine W_seq ?_
  refine W_region (.pu 0 .fin) rfl rfl ?_
  refine s_pu (d := some 5) (v := (.int .i64 0)) rfl rfl rfl (r_assign rfl) ?_
  refine s_fin ?_
  show W _ _ _ _ _ _ _ _
  refine W_seq ?_
  refine W_seq ?_
  refine W_region (.pu 0 .fin) rfl rfl ?_
  refine s_pu (d := some 6) (v := (.int .i64 0)) rfl rfl rfl (r_assign rfl) ?_
  refine s_fin ?_
  show W _ _ _ _ _ _ _ _
  refine W_block ?_
  refine W_loop (WL_mk (l := [(0, (Sl.v l1)), (1, (.int .i64 x2)), (5, (.int .i64 0)), (6, (.int .i64 0))]) ?_ ⟨rfl, rfl, rfl, rfl, trivial⟩)
  refine H (fun (n3 : Int) (i4 : Int) => ∀ b, WL _ _ _ _ _ _ (mkE [(0, (Sl.v l1)), (1, (.int .i64 x2)), (5, (.int .i64 n3)), (6, (.int .i64 i4))] b) h) ?_
  intro n3 i4 H b
  refine WL_round ?_
  refine W_seq ?_
  refine W_seq ?_
  refine W_region (.pu 0 (.pu 1 (.pu 2 (.pu 3 .fin)))) rfl rfl ?_
  refine s_pu (d := some 7) (v := (.int .i64 i4)) rfl rfl rfl (r_move rfl) ?_
  refine s_pu (d := some 8) (v := (Sl.v l1)) rfl rfl rfl (r_move rfl) ?_
  refine s_pu (d := some 9) (v := (.int .i64 ((l1.len : Int)))) rfl rfl rfl (r_len Try.underlying22 rfl) ?_
  refine s_pu (d := some 10) (v := (.bool (decide (i4 < ((l1.len : Int)))))) rfl rfl rfl (r_lss rfl rfl) ?_
  refine s_fin ?_
  show W _ _ _ _ _ _ _ _
  refine W_if (decide (i4 < ((l1.len : Int)))) rfl (fun g18 => ?_) (fun g18 => ?_)
  · have H := H.1 g18
    refine W_skip ?_
    show W _ _ _ _ _ _ _ _
    refine W_seq ?_
    refine W_set ?_
    intro N8 eN8
    have H := H (fun (n6 : Int) => ∀ b, N8 [] (mkE [(0, (Sl.v l1)), (1, (.int .i64 x2)), (5, (.int .i64 n6)), (6, (.int .i64 i4))] b) h) (by
      intro n6 H b
      rw [eN8]
      show W _ _ _ _ _ _ _ _
      refine W_region (.pu 0 (.pu 1 (.pu 2 .fin))) rfl rfl ?_
      refine s_pu (d := some 11) (v := (.int .i64 i4)) rfl rfl rfl (r_move rfl) ?_
      refine s_pu (d := some 12) (v := (.int .i64 (w64 (i4 + 1)))) rfl rfl rfl (r_add rfl rfl) ?_
      refine s_pu (d := some 6) (v := (.int .i64 (w64 (i4 + 1)))) rfl rfl rfl (r_assign rfl) ?_
      refine s_fin ?_
      exact WL_mk (l := [(0, (Sl.v l1)), (1, (.int .i64 x2)), (5, (.int .i64 n6)), (6, (.int .i64 (w64 (i4 + 1))))]) H ⟨rfl, rfl, rfl, rfl, trivial⟩)
    clear eN8
    refine W_block ?_
    refine W_seq ?_
    refine W_region (.pu 0 (.pu 1 (.pu 2 (.rl 3 (.pu 4 (.pu 5 .fin)))))) rfl rfl ?_
    refine s_pu (d := some 13) (v := (Sl.v l1)) rfl rfl rfl (r_move rfl) ?_
    refine s_pu (d := some 14) (v := (.int .i64 i4)) rfl rfl rfl (r_move rfl) ?_
    obtain ⟨p9, e10, e11, e12, H⟩ := H
    obtain ⟨q13, e14⟩ : ∃ q : Addr, q = Addr.add p9 (Int.toNat i4 * 1) := ⟨_, rfl⟩
    rw [← e14] at H
    refine s_pu (d := some 15) (v := (.pointer (some q13))) rfl rfl rfl (fun w => (r_indexAddr Try.underlying22 Try.sizeOf3 rfl rfl e10 e11 e12 w).trans (by rw [e14])) ?_
    obtain ⟨x15, e16, H⟩ := H
    refine s_rl (d := some 16) (v := (.int .i64 x15)) rfl rfl rfl (fun dr => r_load1 Try.isAgg3 rfl e16) ?_
    refine s_pu (d := some 17) (v := (.int .i64 x2)) rfl rfl rfl (r_move rfl) ?_
    refine s_pu (d := some 18) (v := (.bool (decide (x15 = x2)))) rfl rfl rfl (r_eql rfl rfl) ?_
    refine s_fin ?_
    show W _ _ _ _ _ _ _ _
    refine W_if (decide (x15 = x2)) rfl (fun g17 => ?_) (fun g17 => ?_)
    · have H := H.1 g17
      refine W_region (.pu 0 (.pu 1 (.pu 2 .fin))) rfl rfl ?_
      refine s_pu (d := some 19) (v := (.int .i64 n3)) rfl rfl rfl (r_move rfl) ?_
      refine s_pu (d := some 20) (v := (.int .i64 (w64 (n3 + 1)))) rfl rfl rfl (r_add rfl rfl) ?_
      refine s_pu (d := some 5) (v := (.int .i64 (w64 (n3 + 1)))) rfl rfl rfl (r_assign rfl) ?_
      refine s_fin ?_
      exact N_mk (l := [(0, (Sl.v l1)), (1, (.int .i64 x2)), (5, (.int .i64 (w64 (n3 + 1)))), (6, (.int .i64 i4))]) H ⟨rfl, rfl, rfl, rfl, trivial⟩
    · have H := H.2 g17
      refine W_skip ?_
      exact N_mk (l := [(0, (Sl.v l1)), (1, (.int .i64 x2)), (5, (.int .i64 n3)), (6, (.int .i64 i4))]) H ⟨rfl, rfl, rfl, rfl, trivial⟩
  · have H := H.2 g18
    refine W_exit (inX_here ?_)
    show W _ _ _ _ _ _ _ _
    refine W_seq ?_
    refine W_region (.pu 0 (.pu 1 .fin)) rfl rfl ?_
    refine s_pu (d := some 21) (v := (.int .i64 n3)) rfl rfl rfl (r_move rfl) ?_
    refine s_pu (d := some 4) (v := (.int .i64 n3)) rfl rfl rfl (r_assign rfl) ?_
    refine s_fin ?_
    show W _ _ _ _ _ _ _ _
    refine W_ret ?_
    exact ⟨[(.int .i64 n3)], ⟨_, _, rfl, rfl, rfl⟩, n3, rfl, H⟩

/-! ### ref1_With -/

def ref1_With_F (r : World) (l1 : Sl) (i2 : Int) (x3 : Int) (h : Heap) (R : Sl → Heap → Prop) : Prop :=
  Sub l1 0 i2 ((l1.cap : Int)) 1 fun s4 =>
  App 3 1 8 (.int .i64 0) Sl.nil s4 h fun s10 h1 =>
  New h1 (.cells #[(.int .i64 x3)] 3) fun p11 h2 =>
  App 3 1 8 (.int .i64 0) s10 ((⟨some p11, 1, 1⟩ : Sl)) h2 fun s14 h3 =>
  Sub l1 i2 ((l1.len : Int)) ((l1.cap : Int)) 1 fun s15 =>
  App 3 1 8 (.int .i64 0) s14 s15 h3 fun s21 h4 =>
  R s21 h4

set_option maxRecDepth 100000 in
theorem ref1_With_of {r : World} {l1 : Sl} {i2 : Int} {x3 : Int} {h : Heap} {R : Sl → Heap → Prop} (H : ref1_With_F r l1 i2 x3 h R) : ref1_With r l1 i2 x3 h R := by
  unfold ref1_With_F at H
  refine calls_of 22 [.tmp 6] Try.func49 rfl rfl rfl rfl rfl ?_
  refine W_seq ?_
  refine W_region (.pu 0 .fin) rfl rfl ?_
  refine s_pu (d := some 6) (v := (Sl.v Sl.nil)) rfl rfl rfl (r_assign rfl) ?_
  refine s_fin ?_
  show W _ _ _ _ _ _ _ _
  refine W_seq ?_
  refine W_region (.pu 0 .fin) rfl rfl ?_
  refine s_pu (d := some 7) (v := (Sl.v Sl.nil)) rfl rfl rfl (r_assign rfl) ?_
  refine s_fin ?_
  show W _ _ _ _ _ _ _ _
  refine W_seq ?_
  refine W_region (.pu 0 (.pu 1 (.pu 2 (.pu 3 (.ef 4 [] (.pu 5 .fin) .no))))) rfl rfl ?_
  refine s_pu (d := some 8) (v := (Sl.v Sl.nil)) rfl rfl rfl (r_move rfl) ?_
  refine s_pu (d := some 9) (v := (Sl.v l1)) rfl rfl rfl (r_move rfl) ?_
  refine s_pu (d := some 10) (v := (.int .i64 i2)) rfl rfl rfl (r_move rfl) ?_
  obtain ⟨e5, e6, e7, e8, H⟩ := H
  obtain ⟨s4, e9⟩ : ∃ t : Sl, t = ⟨sliceA l1.a (Int.toNat ((l1.cap : Int))) (Int.toNat 0) 1, Int.toNat i2 - Int.toNat 0, Int.toNat ((l1.cap : Int)) - Int.toNat 0⟩ := ⟨_, rfl⟩
  have H := H s4 e9
  refine s_pu (d := some 11) (v := (Sl.v s4)) rfl rfl rfl (fun w => (r_slice (lo := .none) (hi := (.some (.tmp 10))) (mx := .none) Try.underlying22 Try.sizeOf3 rfl ((l1.cap : Int)) i2 0 rfl ⟨_, rfl⟩ rfl e5 e6 (.inr e7) e8 w).trans (by rw [e9]; rfl)) ?_
  refine s_ef (d := some 12) rfl rfl rfl (fun dr => slFORef_22.append rfl rfl H) ?_ trivial
  rintro _ h1 ⟨s10, rfl, H⟩
  refine ⟨trivial, ?_⟩
  refine s_pu (d := some 7) (v := (Sl.v s10)) rfl rfl rfl (r_assign rfl) ?_
  refine s_fin ?_
  show W _ _ _ _ _ _ _ _
  refine W_seq ?_
  refine W_region (.pu 0 (.pu 1 (.ef 2 [] (.ef 3 [] (.pu 4 .fin) .no) .no))) rfl rfl ?_
  refine s_pu (d := some 13) (v := (Sl.v s10)) rfl rfl rfl (r_move rfl) ?_
  refine s_pu (d := some 14) (v := (.int .i64 x3)) rfl rfl rfl (r_move rfl) ?_
  obtain ⟨p11, e12⟩ : ∃ p : Addr, p = ⟨h1.size, 0, none⟩ := ⟨_, rfl⟩
  obtain ⟨h2, e13⟩ : ∃ hh : Heap, hh = h1.push (.cells #[(.int .i64 x3)] 3) := ⟨_, rfl⟩
  have H := H p11 h2 e12 e13
  refine s_ef1 (d := some 15) (v := (Sl.v ((⟨some p11, 1, 1⟩ : Sl)))) (h' := h2) rfl rfl rfl (fun dr => (slFORef_22.build (cells := #[(.int .i64 x3)]) (by decide) rfl (by kernel_rfl)).trans (by rw [e12, e13]; rfl)) trivial ?_ trivial
  refine s_ef (d := some 16) rfl rfl rfl (fun dr => slFORef_22.append rfl rfl H) ?_ trivial
  rintro _ h3 ⟨s14, rfl, H⟩
  refine ⟨trivial, ?_⟩
  refine s_pu (d := some 7) (v := (Sl.v s14)) rfl rfl rfl (r_assign rfl) ?_
  refine s_fin ?_
  show W _ _ _ _ _ _ _ _
  refine W_seq ?_
  refine W_region (.pu 0 (.pu 1 (.pu 2 (.pu 3 (.ef 4 [] (.pu 5 .fin) .no))))) rfl rfl ?_
  refine s_pu (d := some 17) (v := (Sl.v s14)) rfl rfl rfl (r_move rfl) ?_
  refine s_pu (d := some 18) (v := (Sl.v l1)) rfl rfl rfl (r_move rfl) ?_
  refine s_pu (d := some 19) (v := (.int .i64 i2)) rfl rfl rfl (r_move rfl) ?_
  obtain ⟨e16, e17, e18, e19, H⟩ := H
  obtain ⟨s15, e20⟩ : ∃ t : Sl, t = ⟨sliceA l1.a (Int.toNat ((l1.cap : Int))) (Int.toNat i2) 1, Int.toNat ((l1.len : Int)) - Int.toNat i2, Int.toNat ((l1.cap : Int)) - Int.toNat i2⟩ := ⟨_, rfl⟩
  have H := H s15 e20
  refine s_pu (d := some 20) (v := (Sl.v s15)) rfl rfl rfl (fun w => (r_slice (lo := (.some (.tmp 19))) (hi := .none) (mx := .none) Try.underlying22 Try.sizeOf3 rfl ((l1.cap : Int)) ((l1.len : Int)) i2 rfl ⟨rfl, rfl⟩ ⟨_, rfl⟩ e16 e17 (.inl rfl) e19 w).trans (by rw [e20]; rfl)) ?_
  refine s_ef (d := some 21) rfl rfl rfl (fun dr => slFORef_22.append rfl rfl H) ?_ trivial
  rintro _ h4 ⟨s21, rfl, H⟩
  refine ⟨trivial, ?_⟩
  refine s_pu (d := some 6) (v := (Sl.v s21)) rfl rfl rfl (r_assign rfl) ?_
  refine s_fin ?_
  show W _ _ _ _ _ _ _ _
  refine W_ret ?_
  exact ⟨[(Sl.v s21)], ⟨_, _, rfl, rfl, rfl⟩, s21, rfl, H⟩

/-! ### ref1_Below -/

def ref1_Below_F (r : World) (l1 : Sl) (x2 : Int) (h : Heap) (R : Int → Heap → Prop) : Prop :=
  ∀ X5 : Int → Int → Prop, (∀ (n3 : Int) (i4 : Int),
    (Br (decide (i4 < ((l1.len : Int)))) (
      ∀ J7 : Int → Prop, (∀ (n6 : Int),
        (X5 n6 (w64 (i4 + 1))) →
        J7 n6) →
      Ix l1 i4 1 fun q13 =>
      LdI h q13 fun x15 =>
      Br (decide (x15 < x2)) (
        J7 (w64 (n3 + 1))) (
        J7 n3)) (
      R n3 h)) →
    X5 n3 i4) →
  X5 0 0

set_option maxRecDepth 100000 in
theorem ref1_Below_of {r : World} {l1 : Sl} {x2 : Int} {h : Heap} {R : Int → Heap → Prop} (H : ref1_Below_F r l1 x2 h R) : ref1_Below r l1 x2 h R := by
  unfold ref1_Below_F at H
  refine calls_of 22 [.tmp 4] Try.func50 rfl rfl rfl rfl rfl ?_
  refine W_seq ?_
  refine W_region (.pu 0 .fin) rfl rfl ?_
  refine s_pu (d := some 4) (v := (.int .i64 0)) rfl rfl rfl (r_assign rfl) ?_
  refine s_fin ?_
  show W _ _ _ _ _ _ _ _
  refine W_seq ?_
  refine W_region (.pu 0 .fin) rfl rfl ?_
  refine s_pu (d := some 5) (v := (.int .i64 0)) rfl rfl rfl (r_assign rfl) ?_
  refine s_fin ?_
  show W _ _ _ _ _ _ _ _
  refine W_seq ?_
  refine W_seq ?_
  refine W_region (.pu 0 .fin) rfl rfl ?_
  refine s_pu (d := some 6) (v := (.int .i64 0)) rfl rfl rfl (r_assign rfl) ?_
  refine s_fin ?_
  show W _ _ _ _ _ _ _ _
  refine W_block ?_
  refine W_loop (WL_mk (l := [(0, (Sl.v l1)), (1, (.int .i64 x2)), (5, (.int .i64 0)), (6, (.int .i64 0))]) ?_ ⟨rfl, rfl, rfl, rfl, trivial⟩)
  refine H (fun (n3 : Int) (i4 : Int) => ∀ b, WL _ _ _ _ _ _ (mkE [(0, (Sl.v l1)), (1, (.int .i64 x2)), (5, (.int .i64 n3)), (6, (.int .i64 i4))] b) h) ?_
  intro n3 i4 H b
  refine WL_round ?_
  refine W_seq ?_
  refine W_seq ?_
  refine W_region (.pu 0 (.pu 1 (.pu 2 (.pu 3 .fin)))) rfl rfl ?_
  refine s_pu (d := some 7) (v := (.int .i64 i4)) rfl rfl rfl (r_move rfl) ?_
  refine s_pu (d := some 8) (v := (Sl.v l1)) rfl rfl rfl (r_move rfl) ?_
  refine s_pu (d := some 9) (v := (.int .i64 ((l1.len : Int)))) rfl rfl rfl (r_len Try.underlying22 rfl) ?_
  refine s_pu (d := some 10) (v := (.bool (decide (i4 < ((l1.len : Int)))))) rfl rfl rfl (r_lss rfl rfl) ?_
  refine s_fin ?_
  show W _ _ _ _ _ _ _ _
  refine W_if (decide (i4 < ((l1.len : Int)))) rfl (fun g18 => ?_) (fun g18 => ?_)
  · have H := H.1 g18
    refine W_skip ?_
    show W _ _ _ _ _ _ _ _
    refine W_seq ?_
    refine W_set ?_
    intro N8 eN8
    have H := H (fun (n6 : Int) => ∀ b, N8 [] (mkE [(0, (Sl.v l1)), (1, (.int .i64 x2)), (5, (.int .i64 n6)), (6, (.int .i64 i4))] b) h) (by
      intro n6 H b
      rw [eN8]
      show W _ _ _ _ _ _ _ _
      refine W_region (.pu 0 (.pu 1 (.pu 2 .fin))) rfl rfl ?_
      refine s_pu (d := some 11) (v := (.int .i64 i4)) rfl rfl rfl (r_move rfl) ?_
      refine s_pu (d := some 12) (v := (.int .i64 (w64 (i4 + 1)))) rfl rfl rfl (r_add rfl rfl) ?_
      refine s_pu (d := some 6) (v := (.int .i64 (w64 (i4 + 1)))) rfl rfl rfl (r_assign rfl) ?_
      refine s_fin ?_
      exact WL_mk (l := [(0, (Sl.v l1)), (1, (.int .i64 x2)), (5, (.int .i64 n6)), (6, (.int .i64 (w64 (i4 + 1))))]) H ⟨rfl, rfl, rfl, rfl, trivial⟩)
    clear eN8
    refine W_block ?_
    refine W_seq ?_
    refine W_region (.pu 0 (.pu 1 (.pu 2 (.rl 3 (.pu 4 (.pu 5 .fin)))))) rfl rfl ?_
    refine s_pu (d := some 13) (v := (Sl.v l1)) rfl rfl rfl (r_move rfl) ?_
    refine s_pu (d := some 14) (v := (.int .i64 i4)) rfl rfl rfl (r_move rfl) ?_
    obtain ⟨p9, e10, e11, e12, H⟩ := H
    obtain ⟨q13, e14⟩ : ∃ q : Addr, q = Addr.add p9 (Int.toNat i4 * 1) := ⟨_, rfl⟩
    rw [← e14] at H
    refine s_pu (d := some 15) (v := (.pointer (some q13))) rfl rfl rfl (fun w => (r_indexAddr Try.underlying22 Try.sizeOf3 rfl rfl e10 e11 e12 w).trans (by rw [e14])) ?_
    obtain ⟨x15, e16, H⟩ := H
    refine s_rl (d := some 16) (v := (.int .i64 x15)) rfl rfl rfl (fun dr => r_load1 Try.isAgg3 rfl e16) ?_
    refine s_pu (d := some 17) (v := (.int .i64 x2)) rfl rfl rfl (r_move rfl) ?_
    refine s_pu (d := some 18) (v := (.bool (decide (x15 < x2)))) rfl rfl rfl (r_lss rfl rfl) ?_
    refine s_fin ?_
    show W _ _ _ _ _ _ _ _
    refine W_if (decide (x15 < x2)) rfl (fun g17 => ?_) (fun g17 => ?_)
    · have H := H.1 g17
      refine W_region (.pu 0 (.pu 1 (.pu 2 .fin))) rfl rfl ?_
      refine s_pu (d := some 19) (v := (.int .i64 n3)) rfl rfl rfl (r_move rfl) ?_
      refine s_pu (d := some 20) (v := (.int .i64 (w64 (n3 + 1)))) rfl rfl rfl (r_add rfl rfl) ?_
      refine s_pu (d := some 5) (v := (.int .i64 (w64 (n3 + 1)))) rfl rfl rfl (r_assign rfl) ?_
      refine s_fin ?_
      exact N_mk (l := [(0, (Sl.v l1)), (1, (.int .i64 x2)), (5, (.int .i64 (w64 (n3 + 1)))), (6, (.int .i64 i4))]) H ⟨rfl, rfl, rfl, rfl, trivial⟩
    · have H := H.2 g17
      refine W_skip ?_
      exact N_mk (l := [(0, (Sl.v l1)), (1, (.int .i64 x2)), (5, (.int .i64 n3)), (6, (.int .i64 i4))]) H ⟨rfl, rfl, rfl, rfl, trivial⟩
  · have H := H.2 g18
    refine W_exit (inX_here ?_)
    show W _ _ _ _ _ _ _ _
    refine W_seq ?_
    refine W_region (.pu 0 (.pu 1 .fin)) rfl rfl ?_
    refine s_pu (d := some 21) (v := (.int .i64 n3)) rfl rfl rfl (r_move rfl) ?_
    refine s_pu (d := some 4) (v := (.int .i64 n3)) rfl rfl rfl (r_assign rfl) ?_
    refine s_fin ?_
    show W _ _ _ _ _ _ _ _
    refine W_ret ?_
    exact ⟨[(.int .i64 n3)], ⟨_, _, rfl, rfl, rfl⟩, n3, rfl, H⟩

end Go.Proofs.Ytikccpmhoioaeaa
