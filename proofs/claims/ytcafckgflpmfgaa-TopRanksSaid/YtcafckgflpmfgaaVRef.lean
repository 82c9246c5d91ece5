/- Typed words of functions, and that they hold: printed by gen.py (an own tool of this claim) off the model's own form of each function. -/
import Derived.Test.YtcafckgflpmfgaaProg
import Derived.Test.YtcafckgflpmfgaaTwGrow
namespace Go.Proofs.Ytcafckgflpmfgaa
open Go Go.RowKit Go.Tw
set_option linter.unusedVariables false

theorem slFVRef_22 : SlF Try.prog 22 3 1 8 (.int .i64 0) := ⟨Try.underlying22, ⟨Try.t3, by kernel_rfl, rfl, rfl, rfl⟩, rfl, Try.sizeOf3, Try.zeroValue3⟩

/-! ### the calls -/

abbrev same_Ints (r : World) (a1 : Sl) (vb2 : Sl) (h : Heap) (R : Bool → Heap → Prop) : Prop :=
  CallsH Try.prog r 17 [(Sl.v a1), (Sl.v vb2)] h fun v h' => ∃ (y3 : Bool), v = (.bool y3) ∧ R y3 h'

theorem same_Ints.mono {r : World} {a1 : Sl} {vb2 : Sl} {h : Heap} {R R' : Bool → Heap → Prop} (H : same_Ints r a1 vb2 h R) (hr : ∀ y3 h, R y3 h → R' y3 h) : same_Ints r a1 vb2 h R' :=
  CallsH.mono H fun _ _ hx => by
    obtain ⟨y3, hv, hR⟩ := hx
    exact ⟨y3, hv, hr _ _ hR⟩

abbrev ref1_Cat (r : World) (a1 : Sl) (vb2 : Sl) (h : Heap) (R : Sl → Heap → Prop) : Prop :=
  CallsH Try.prog r 23 [(Sl.v a1), (Sl.v vb2)] h fun v h' => ∃ (y3 : Sl), v = (Sl.v y3) ∧ R y3 h'

theorem ref1_Cat.mono {r : World} {a1 : Sl} {vb2 : Sl} {h : Heap} {R R' : Sl → Heap → Prop} (H : ref1_Cat r a1 vb2 h R) (hr : ∀ y3 h, R y3 h → R' y3 h) : ref1_Cat r a1 vb2 h R' :=
  CallsH.mono H fun _ _ hx => by
    obtain ⟨y3, hv, hR⟩ := hx
    exact ⟨y3, hv, hr _ _ hR⟩

abbrev ref1_Put (r : World) (l1 : Sl) (i2 : Int) (x3 : Int) (h : Heap) (R : Sl → Heap → Prop) : Prop :=
  CallsH Try.prog r 10 [(Sl.v l1), (.int .i64 i2), (.int .i64 x3)] h fun v h' => ∃ (y4 : Sl), v = (Sl.v y4) ∧ R y4 h'

theorem ref1_Put.mono {r : World} {l1 : Sl} {i2 : Int} {x3 : Int} {h : Heap} {R R' : Sl → Heap → Prop} (H : ref1_Put r l1 i2 x3 h R) (hr : ∀ y4 h, R y4 h → R' y4 h) : ref1_Put r l1 i2 x3 h R' :=
  CallsH.mono H fun _ _ hx => by
    obtain ⟨y4, hv, hR⟩ := hx
    exact ⟨y4, hv, hr _ _ hR⟩

abbrev ref1_SumOf (r : World) (l1 : Sl) (h : Heap) (R : Int → Heap → Prop) : Prop :=
  CallsH Try.prog r 18 [(Sl.v l1)] h fun v h' => ∃ (y2 : Int), v = (.int .i64 y2) ∧ R y2 h'

theorem ref1_SumOf.mono {r : World} {l1 : Sl} {h : Heap} {R R' : Int → Heap → Prop} (H : ref1_SumOf r l1 h R) (hr : ∀ y2 h, R y2 h → R' y2 h) : ref1_SumOf r l1 h R' :=
  CallsH.mono H fun _ _ hx => by
    obtain ⟨y2, hv, hR⟩ := hx
    exact ⟨y2, hv, hr _ _ hR⟩

/-! ### same_Ints -/

def same_Ints_F (r : World) (a1 : Sl) (vb2 : Sl) (h : Heap) (R : Bool → Heap → Prop) : Prop :=
  Br (!decide (((a1.len : Int)) = ((vb2.len : Int)))) (
    R false h) (
    ∀ X4 : Int → Prop, (∀ (i3 : Int),
      (Br (decide (i3 < ((a1.len : Int)))) (
        Ix a1 i3 1 fun q9 =>
        LdI h q9 fun x11 =>
        Ix vb2 i3 1 fun q17 =>
        LdI h q17 fun x19 =>
        Br (!decide (x11 = x19)) (
          R false h) (
          X4 (w64 (i3 + 1)))) (
        R true h)) →
      X4 i3) →
    X4 0)

set_option maxRecDepth 100000 in
theorem same_Ints_of {r : World} {a1 : Sl} {vb2 : Sl} {h : Heap} {R : Bool → Heap → Prop} (H : same_Ints_F r a1 vb2 h R) : same_Ints r a1 vb2 h R := by
  unfold same_Ints_F at H
  refine calls_of 26 [.tmp 4] Try.func17 rfl rfl rfl rfl rfl ?_
  refine W_seq ?_
  refine W_region (.pu 0 .fin) rfl rfl ?_
  refine s_pu (d := some 4) (v := (.bool false)) rfl rfl rfl (r_assign rfl) ?_
  refine s_fin ?_
  show W _ _ _ _ _ _ _ _
  refine W_seq ?_
  refine W_seq ?_
  refine W_region (.pu 0 (.pu 1 (.pu 2 (.pu 3 (.pu 4 .fin))))) rfl rfl ?_
  refine s_pu (d := some 6) (v := (Sl.v a1)) rfl rfl rfl (r_move rfl) ?_
  refine s_pu (d := some 7) (v := (.int .i64 ((a1.len : Int)))) rfl rfl rfl (r_len Try.underlying22 rfl) ?_
  refine s_pu (d := some 8) (v := (Sl.v vb2)) rfl rfl rfl (r_move rfl) ?_
  refine s_pu (d := some 9) (v := (.int .i64 ((vb2.len : Int)))) rfl rfl rfl (r_len Try.underlying22 rfl) ?_
  refine s_pu (d := some 10) (v := (.bool (!decide (((a1.len : Int)) = ((vb2.len : Int)))))) rfl rfl rfl (r_neq rfl rfl) ?_
  refine s_fin ?_
  show W _ _ _ _ _ _ _ _
  refine W_if (!decide (((a1.len : Int)) = ((vb2.len : Int)))) rfl (fun g23 => ?_) (fun g23 => ?_)
  · have H := H.1 g23
    refine W_seq ?_
    refine W_region (.pu 0 .fin) rfl rfl ?_
    refine s_pu (d := some 4) (v := (.bool false)) rfl rfl rfl (r_assign rfl) ?_
    refine s_fin ?_
    show W _ _ _ _ _ _ _ _
    refine W_ret ?_
    exact ⟨[(.bool false)], ⟨_, _, rfl, rfl, rfl⟩, false, rfl, H⟩
  · have H := H.2 g23
    refine W_skip ?_
    show W _ _ _ _ _ _ _ _
    refine W_seq ?_
    refine W_seq ?_
    refine W_region (.pu 0 .fin) rfl rfl ?_
    refine s_pu (d := some 5) (v := (.int .i64 0)) rfl rfl rfl (r_assign rfl) ?_
    refine s_fin ?_
    show W _ _ _ _ _ _ _ _
    refine W_block ?_
    refine W_loop (WL_mk (l := [(0, (Sl.v a1)), (1, (Sl.v vb2)), (5, (.int .i64 0))]) ?_ ⟨rfl, rfl, rfl, trivial⟩)
    refine H (fun (i3 : Int) => ∀ b, WL _ _ _ _ _ _ (mkE [(0, (Sl.v a1)), (1, (Sl.v vb2)), (5, (.int .i64 i3))] b) h) ?_
    intro i3 H b
    refine WL_round ?_
    refine W_seq ?_
    refine W_seq ?_
    refine W_region (.pu 0 (.pu 1 (.pu 2 (.pu 3 .fin)))) rfl rfl ?_
    refine s_pu (d := some 11) (v := (.int .i64 i3)) rfl rfl rfl (r_move rfl) ?_
    refine s_pu (d := some 12) (v := (Sl.v a1)) rfl rfl rfl (r_move rfl) ?_
    refine s_pu (d := some 13) (v := (.int .i64 ((a1.len : Int)))) rfl rfl rfl (r_len Try.underlying22 rfl) ?_
    refine s_pu (d := some 14) (v := (.bool (decide (i3 < ((a1.len : Int)))))) rfl rfl rfl (r_lss rfl rfl) ?_
    refine s_fin ?_
    show W _ _ _ _ _ _ _ _
    refine W_if (decide (i3 < ((a1.len : Int)))) rfl (fun g22 => ?_) (fun g22 => ?_)
    · have H := H.1 g22
      refine W_skip ?_
      show W _ _ _ _ _ _ _ _
      refine W_seq ?_
      refine W_block ?_
      refine W_seq ?_
      refine W_draw [0, 0, 3, 7, 0, 0, 48, 112, 255] (.pu 0 (.pu 1 (.pu 2 (.rd 3 (.pu 4 (.pu 5 (.pu 6 (.rd 7 (.pu 8 .fin))))))))) (by kernel_rfl) (by kernel_rfl) ?_
      refine s_pu (d := some 17) (v := (Sl.v a1)) rfl rfl rfl (r_move rfl) ?_
      refine s_pu (d := some 18) (v := (.int .i64 i3)) rfl rfl rfl (r_move rfl) ?_
      obtain ⟨p5, e6, e7, e8, H⟩ := H
      obtain ⟨q9, e10⟩ : ∃ q : Addr, q = Addr.add p5 (Int.toNat i3 * 1) := ⟨_, rfl⟩
      rw [← e10] at H
      refine s_pu (d := some 19) (v := (.pointer (some q9))) rfl rfl rfl (fun w => (r_indexAddr Try.underlying22 Try.sizeOf3 rfl rfl e6 e7 e8 w).trans (by rw [e10])) ?_
      obtain ⟨x11, e12, H⟩ := H
      refine s_rd (d := some 20) (v := (.int .i64 x11)) rfl rfl rfl (fun dr => r_load1 Try.isAgg3 rfl e12) ?_
      refine s_pu (d := some 21) (v := (Sl.v vb2)) rfl rfl rfl (r_move rfl) ?_
      refine s_pu (d := some 22) (v := (.int .i64 i3)) rfl rfl rfl (r_move rfl) ?_
      obtain ⟨p13, e14, e15, e16, H⟩ := H
      obtain ⟨q17, e18⟩ : ∃ q : Addr, q = Addr.add p13 (Int.toNat i3 * 1) := ⟨_, rfl⟩
      rw [← e18] at H
      refine s_pu (d := some 23) (v := (.pointer (some q17))) rfl rfl rfl (fun w => (r_indexAddr Try.underlying22 Try.sizeOf3 rfl rfl e14 e15 e16 w).trans (by rw [e18])) ?_
      obtain ⟨x19, e20, H⟩ := H
      refine s_rd (d := some 24) (v := (.int .i64 x19)) rfl rfl rfl (fun dr => r_load1 Try.isAgg3 rfl e20) ?_
      refine s_pu (d := some 25) (v := (.bool (!decide (x11 = x19)))) rfl rfl rfl (r_neq rfl rfl) ?_
      refine s_fin ?_
      show W _ _ _ _ _ _ _ _
      refine W_if (!decide (x11 = x19)) rfl (fun g21 => ?_) (fun g21 => ?_)
      · have H := H.1 g21
        refine W_seq ?_
        refine W_region (.pu 0 .fin) rfl rfl ?_
        refine s_pu (d := some 4) (v := (.bool false)) rfl rfl rfl (r_assign rfl) ?_
        refine s_fin ?_
        show W _ _ _ _ _ _ _ _
        refine W_ret ?_
        exact ⟨[(.bool false)], ⟨_, _, rfl, rfl, rfl⟩, false, rfl, H⟩
      · have H := H.2 g21
        refine W_skip ?_
        show W _ _ _ _ _ _ _ _
        refine W_region (.pu 0 (.pu 1 (.pu 2 .fin))) rfl rfl ?_
        refine s_pu (d := some 15) (v := (.int .i64 i3)) rfl rfl rfl (r_move rfl) ?_
        refine s_pu (d := some 16) (v := (.int .i64 (w64 (i3 + 1)))) rfl rfl rfl (r_add rfl rfl) ?_
        refine s_pu (d := some 5) (v := (.int .i64 (w64 (i3 + 1)))) rfl rfl rfl (r_assign rfl) ?_
        refine s_fin ?_
        exact WL_mk (l := [(0, (Sl.v a1)), (1, (Sl.v vb2)), (5, (.int .i64 (w64 (i3 + 1))))]) H ⟨rfl, rfl, rfl, trivial⟩
    · have H := H.2 g22
      refine W_exit (inX_here ?_)
      show W _ _ _ _ _ _ _ _
      refine W_seq ?_
      refine W_region (.pu 0 .fin) rfl rfl ?_
      refine s_pu (d := some 4) (v := (.bool true)) rfl rfl rfl (r_assign rfl) ?_
      refine s_fin ?_
      show W _ _ _ _ _ _ _ _
      refine W_ret ?_
      exact ⟨[(.bool true)], ⟨_, _, rfl, rfl, rfl⟩, true, rfl, H⟩

/-! ### ref1_Cat -/

def ref1_Cat_F (r : World) (a1 : Sl) (vb2 : Sl) (h : Heap) (R : Sl → Heap → Prop) : Prop :=
  App 3 1 8 (.int .i64 0) Sl.nil a1 h fun s3 h1 =>
  App 3 1 8 (.int .i64 0) s3 vb2 h1 fun s4 h2 =>
  R s4 h2

set_option maxRecDepth 100000 in
theorem ref1_Cat_of {r : World} {a1 : Sl} {vb2 : Sl} {h : Heap} {R : Sl → Heap → Prop} (H : ref1_Cat_F r a1 vb2 h R) : ref1_Cat r a1 vb2 h R := by
  unfold ref1_Cat_F at H
  refine calls_of 12 [.tmp 4] Try.func23 rfl rfl rfl rfl rfl ?_
  refine W_seq ?_
  refine W_region (.pu 0 .fin) rfl rfl ?_
  refine s_pu (d := some 4) (v := (Sl.v Sl.nil)) rfl rfl rfl (r_assign rfl) ?_
  refine s_fin ?_
  show W _ _ _ _ _ _ _ _
  refine W_seq ?_
  refine W_region (.pu 0 .fin) rfl rfl ?_
  refine s_pu (d := some 5) (v := (Sl.v Sl.nil)) rfl rfl rfl (r_assign rfl) ?_
  refine s_fin ?_
  show W _ _ _ _ _ _ _ _
  refine W_seq ?_
  refine W_region (.pu 0 (.pu 1 (.ef 2 [] (.pu 3 .fin) .no))) rfl rfl ?_
  refine s_pu (d := some 6) (v := (Sl.v Sl.nil)) rfl rfl rfl (r_move rfl) ?_
  refine s_pu (d := some 7) (v := (Sl.v a1)) rfl rfl rfl (r_move rfl) ?_
  refine s_ef (d := some 8) rfl rfl rfl (fun dr => slFVRef_22.append rfl rfl H) ?_ trivial
  rintro _ h1 ⟨s3, rfl, H⟩
  refine ⟨trivial, ?_⟩
  refine s_pu (d := some 5) (v := (Sl.v s3)) rfl rfl rfl (r_assign rfl) ?_
  refine s_fin ?_
  show W _ _ _ _ _ _ _ _
  refine W_seq ?_
  refine W_region (.pu 0 (.pu 1 (.ef 2 [] (.pu 3 .fin) .no))) rfl rfl ?_
  refine s_pu (d := some 9) (v := (Sl.v s3)) rfl rfl rfl (r_move rfl) ?_
  refine s_pu (d := some 10) (v := (Sl.v vb2)) rfl rfl rfl (r_move rfl) ?_
  refine s_ef (d := some 11) rfl rfl rfl (fun dr => slFVRef_22.append rfl rfl H) ?_ trivial
  rintro _ h2 ⟨s4, rfl, H⟩
  refine ⟨trivial, ?_⟩
  refine s_pu (d := some 4) (v := (Sl.v s4)) rfl rfl rfl (r_assign rfl) ?_
  refine s_fin ?_
  show W _ _ _ _ _ _ _ _
  refine W_ret ?_
  exact ⟨[(Sl.v s4)], ⟨_, _, rfl, rfl, rfl⟩, s4, rfl, H⟩

/-! ### ref1_Put -/

def ref1_Put_F (r : World) (l1 : Sl) (i2 : Int) (x3 : Int) (h : Heap) (R : Sl → Heap → Prop) : Prop :=
  ref1_Cat r l1 Sl.nil h fun y4 h1 =>
  Ix y4 i2 1 fun q9 =>
  St h1 q9 1 [(.int .i64 x3)] fun h2 =>
  R y4 h2

set_option maxRecDepth 100000 in
theorem ref1_Put_of {r : World} {l1 : Sl} {i2 : Int} {x3 : Int} {h : Heap} {R : Sl → Heap → Prop} (H : ref1_Put_F r l1 i2 x3 h R) : ref1_Put r l1 i2 x3 h R := by
  unfold ref1_Put_F at H
  refine calls_of 15 [.tmp 6] Try.func10 rfl rfl rfl rfl rfl ?_
  refine W_seq ?_
  refine W_region (.pu 0 .fin) rfl rfl ?_
  refine s_pu (d := some 6) (v := (Sl.v Sl.nil)) rfl rfl rfl (r_assign rfl) ?_
  refine s_fin ?_
  show W _ _ _ _ _ _ _ _
  refine W_seq ?_
  refine W_region (.pu 0 (.ef 1 [] (.pu 2 .fin) .no)) rfl rfl ?_
  refine s_pu (d := some 8) (v := (Sl.v l1)) rfl rfl rfl (r_move rfl) ?_
  refine s_ef (d := some 9) rfl rfl rfl (fun dr => r_call Try.call23 rfl rfl H) ?_ trivial
  rintro _ h1 ⟨y4, rfl, H⟩
  refine ⟨trivial, ?_⟩
  refine s_pu (d := some 7) (v := (Sl.v y4)) rfl rfl rfl (r_assign rfl) ?_
  refine s_fin ?_
  show W _ _ _ _ _ _ _ _
  refine W_seq ?_
  refine W_region (.pu 0 (.pu 1 (.pu 2 (.pu 3 (.ef 4 [] .fin .no))))) rfl rfl ?_
  refine s_pu (d := some 10) (v := (Sl.v y4)) rfl rfl rfl (r_move rfl) ?_
  refine s_pu (d := some 11) (v := (.int .i64 i2)) rfl rfl rfl (r_move rfl) ?_
  refine s_pu (d := some 12) (v := (.int .i64 x3)) rfl rfl rfl (r_move rfl) ?_
  obtain ⟨p5, e6, e7, e8, H⟩ := H
  obtain ⟨q9, e10⟩ : ∃ q : Addr, q = Addr.add p5 (Int.toNat i2 * 1) := ⟨_, rfl⟩
  rw [← e10] at H
  refine s_pu (d := some 13) (v := (.pointer (some q9))) rfl rfl rfl (fun w => (r_indexAddr Try.underlying22 Try.sizeOf3 rfl rfl e6 e7 e8 w).trans (by rw [e10])) ?_
  obtain ⟨e12, H⟩ := H
  obtain ⟨h2, e11⟩ : ∃ hh : Heap, hh = hsets h1 q9 0 [(.int .i64 x3)] := ⟨_, rfl⟩
  have H := H h2 e11
  refine s_st (d := none) (h' := h2) rfl rfl rfl (fun dr => (r_store (v := (.int .i64 x3)) Try.sizeOf3 rfl rfl rfl (one_all rfl) e12).trans (by rw [e11]; rfl)) trivial ?_ trivial
  refine s_fin ?_
  show W _ _ _ _ _ _ _ _
  refine W_seq ?_
  refine W_region (.pu 0 (.pu 1 .fin)) rfl rfl ?_
  refine s_pu (d := some 14) (v := (Sl.v y4)) rfl rfl rfl (r_move rfl) ?_
  refine s_pu (d := some 6) (v := (Sl.v y4)) rfl rfl rfl (r_assign rfl) ?_
  refine s_fin ?_
  show W _ _ _ _ _ _ _ _
  refine W_ret ?_
  exact ⟨[(Sl.v y4)], ⟨_, _, rfl, rfl, rfl⟩, y4, rfl, H⟩

/-! ### ref1_SumOf -/

def ref1_SumOf_F (r : World) (l1 : Sl) (h : Heap) (R : Int → Heap → Prop) : Prop :=
  ∀ X4 : Int → Int → Prop, (∀ (n2 : Int) (i3 : Int),
    (Br (decide (i3 < ((l1.len : Int)))) (
      Ix l1 i3 1 fun q9 =>
      LdI h q9 fun x11 =>
      X4 (w64 (n2 + x11)) (w64 (i3 + 1))) (
      R n2 h)) →
    X4 n2 i3) →
  X4 0 0

set_option maxRecDepth 100000 in
theorem ref1_SumOf_of {r : World} {l1 : Sl} {h : Heap} {R : Int → Heap → Prop} (H : ref1_SumOf_F r l1 h R) : ref1_SumOf r l1 h R := by
  unfold ref1_SumOf_F at H
  refine calls_of 18 [.tmp 2] Try.func18 rfl rfl rfl rfl rfl ?_
  refine W_seq ?_
  refine W_region (.pu 0 .fin) rfl rfl ?_
  refine s_pu (d := some 2) (v := (.int .i64 0)) rfl rfl rfl (r_assign rfl) ?_
  refine s_fin ?_
  show W _ _ _ _ _ _ _ _
  refine W_seq ?_
  refine W_region (.pu 0 .fin) rfl rfl ?_
  refine s_pu (d := some 3) (v := (.int .i64 0)) rfl rfl rfl (r_assign rfl) ?_
  refine s_fin ?_
  show W _ _ _ _ _ _ _ _
  refine W_seq ?_
  refine W_seq ?_
  refine W_region (.pu 0 .fin) rfl rfl ?_
  refine s_pu (d := some 4) (v := (.int .i64 0)) rfl rfl rfl (r_assign rfl) ?_
  refine s_fin ?_
  show W _ _ _ _ _ _ _ _
  refine W_block ?_
  refine W_loop (WL_mk (l := [(0, (Sl.v l1)), (3, (.int .i64 0)), (4, (.int .i64 0))]) ?_ ⟨rfl, rfl, rfl, trivial⟩)
  refine H (fun (n2 : Int) (i3 : Int) => ∀ b, WL _ _ _ _ _ _ (mkE [(0, (Sl.v l1)), (3, (.int .i64 n2)), (4, (.int .i64 i3))] b) h) ?_
  intro n2 i3 H b
  refine WL_round ?_
  refine W_seq ?_
  refine W_seq ?_
  refine W_region (.pu 0 (.pu 1 (.pu 2 (.pu 3 .fin)))) rfl rfl ?_
  refine s_pu (d := some 5) (v := (.int .i64 i3)) rfl rfl rfl (r_move rfl) ?_
  refine s_pu (d := some 6) (v := (Sl.v l1)) rfl rfl rfl (r_move rfl) ?_
  refine s_pu (d := some 7) (v := (.int .i64 ((l1.len : Int)))) rfl rfl rfl (r_len Try.underlying22 rfl) ?_
  refine s_pu (d := some 8) (v := (.bool (decide (i3 < ((l1.len : Int)))))) rfl rfl rfl (r_lss rfl rfl) ?_
  refine s_fin ?_
  show W _ _ _ _ _ _ _ _
  refine W_if (decide (i3 < ((l1.len : Int)))) rfl (fun g13 => ?_) (fun g13 => ?_)
  · have H := H.1 g13
    refine W_skip ?_
    show W _ _ _ _ _ _ _ _
    refine W_seq ?_
    refine W_block ?_
    refine W_region (.pu 0 (.pu 1 (.pu 2 (.pu 3 (.rl 4 (.pu 5 (.pu 6 .fin))))))) rfl rfl ?_
    refine s_pu (d := some 11) (v := (.int .i64 n2)) rfl rfl rfl (r_move rfl) ?_
    refine s_pu (d := some 12) (v := (Sl.v l1)) rfl rfl rfl (r_move rfl) ?_
    refine s_pu (d := some 13) (v := (.int .i64 i3)) rfl rfl rfl (r_move rfl) ?_
    obtain ⟨p5, e6, e7, e8, H⟩ := H
    obtain ⟨q9, e10⟩ : ∃ q : Addr, q = Addr.add p5 (Int.toNat i3 * 1) := ⟨_, rfl⟩
    rw [← e10] at H
    refine s_pu (d := some 14) (v := (.pointer (some q9))) rfl rfl rfl (fun w => (r_indexAddr Try.underlying22 Try.sizeOf3 rfl rfl e6 e7 e8 w).trans (by rw [e10])) ?_
    obtain ⟨x11, e12, H⟩ := H
    refine s_rl (d := some 15) (v := (.int .i64 x11)) rfl rfl rfl (fun dr => r_load1 Try.isAgg3 rfl e12) ?_
    refine s_pu (d := some 16) (v := (.int .i64 (w64 (n2 + x11)))) rfl rfl rfl (r_add rfl rfl) ?_
    refine s_pu (d := some 3) (v := (.int .i64 (w64 (n2 + x11)))) rfl rfl rfl (r_assign rfl) ?_
    refine s_fin ?_
    show W _ _ _ _ _ _ _ _
    refine W_region (.pu 0 (.pu 1 (.pu 2 .fin))) rfl rfl ?_
    refine s_pu (d := some 9) (v := (.int .i64 i3)) rfl rfl rfl (r_move rfl) ?_
    refine s_pu (d := some 10) (v := (.int .i64 (w64 (i3 + 1)))) rfl rfl rfl (r_add rfl rfl) ?_
    refine s_pu (d := some 4) (v := (.int .i64 (w64 (i3 + 1)))) rfl rfl rfl (r_assign rfl) ?_
    refine s_fin ?_
    exact WL_mk (l := [(0, (Sl.v l1)), (3, (.int .i64 (w64 (n2 + x11)))), (4, (.int .i64 (w64 (i3 + 1))))]) H ⟨rfl, rfl, rfl, trivial⟩
  · have H := H.2 g13
    refine W_exit (inX_here ?_)
    show W _ _ _ _ _ _ _ _
    refine W_seq ?_
    refine W_region (.pu 0 (.pu 1 .fin)) rfl rfl ?_
    refine s_pu (d := some 17) (v := (.int .i64 n2)) rfl rfl rfl (r_move rfl) ?_
    refine s_pu (d := some 2) (v := (.int .i64 n2)) rfl rfl rfl (r_assign rfl) ?_
    refine s_fin ?_
    show W _ _ _ _ _ _ _ _
    refine W_ret ?_
    exact ⟨[(.int .i64 n2)], ⟨_, _, rfl, rfl, rfl⟩, n2, rfl, H⟩

end Go.Proofs.Ytcafckgflpmfgaa
