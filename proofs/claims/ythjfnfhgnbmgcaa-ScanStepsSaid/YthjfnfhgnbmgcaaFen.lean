/- Typed words of functions, and that they hold: printed by gen.py (an own tool of this claim) off the model's own form of each function. -/
import Derived.Test.YthjfnfhgnbmgcaaProg
import Derived.Test.YthjfnfhgnbmgcaaTwBlk
namespace Go.Proofs.Ythjfnfhgnbmgcaa
open Go Go.RowKit Go.Tw
set_option linter.unusedVariables false

abbrev txtFen1 : ByteArray := ⟨#[0, 1, 2, 2, 3, 3, 3, 3, 4, 4, 4, 4, 4, 4, 4, 4, 5, 5, 5, 5, 5, 5, 5, 5, 5, 5, 5, 5, 5, 5, 5, 5, 6, 6, 6, 6, 6, 6, 6, 6, 6, 6, 6, 6, 6, 6, 6, 6, 6, 6, 6, 6, 6, 6, 6, 6, 6, 6, 6, 6, 6, 6, 6, 6, 7, 7, 7, 7, 7, 7, 7, 7, 7, 7, 7, 7, 7, 7, 7, 7, 7, 7, 7, 7, 7, 7, 7, 7, 7, 7, 7, 7, 7, 7, 7, 7, 7, 7, 7, 7, 7, 7, 7, 7, 7, 7, 7, 7, 7, 7, 7, 7, 7, 7, 7, 7, 7, 7, 7, 7, 7, 7, 7, 7, 7, 7, 7, 7, 8, 8, 8, 8, 8, 8, 8, 8, 8, 8, 8, 8, 8, 8, 8, 8, 8, 8, 8, 8, 8, 8, 8, 8, 8, 8, 8, 8, 8, 8, 8, 8, 8, 8, 8, 8, 8, 8, 8, 8, 8, 8, 8, 8, 8, 8, 8, 8, 8, 8, 8, 8, 8, 8, 8, 8, 8, 8, 8, 8, 8, 8, 8, 8, 8, 8, 8, 8, 8, 8, 8, 8, 8, 8, 8, 8, 8, 8, 8, 8, 8, 8, 8, 8, 8, 8, 8, 8, 8, 8, 8, 8, 8, 8, 8, 8, 8, 8, 8, 8, 8, 8, 8, 8, 8, 8, 8, 8, 8, 8, 8, 8, 8, 8, 8, 8, 8, 8, 8, 8, 8, 8, 8, 8, 8, 8, 8, 8]⟩
theorem slFFen_22 : SlF Try.prog 22 3 1 8 (.int .i64 0) := ⟨Try.underlying22, ⟨Try.t3, by kernel_rfl, rfl, rfl, rfl⟩, rfl, Try.sizeOf3, Try.zeroValue3⟩

/-! ### the calls -/

abbrev same_Ints (r : World) (a1 : Sl) (vb2 : Sl) (h : Heap) (R : Bool → Heap → Prop) : Prop :=
  CallsH Try.prog r 22 [(Sl.v a1), (Sl.v vb2)] h fun v h' => ∃ (y3 : Bool), v = (.bool y3) ∧ R y3 h'

theorem same_Ints.mono {r : World} {a1 : Sl} {vb2 : Sl} {h : Heap} {R R' : Bool → Heap → Prop} (H : same_Ints r a1 vb2 h R) (hr : ∀ y3 h, R y3 h → R' y3 h) : same_Ints r a1 vb2 h R' :=
  CallsH.mono H fun _ _ hx => by
    obtain ⟨y3, hv, hR⟩ := hx
    exact ⟨y3, hv, hr _ _ hR⟩

abbrev math_bits_Len64 (r : World) (x1 : Int) (h : Heap) (R : Int → Heap → Prop) : Prop :=
  CallsH Try.prog r 39 [(.int .u64 x1)] h fun v h' => ∃ (y2 : Int), v = (.int .i64 y2) ∧ R y2 h'

theorem math_bits_Len64.mono {r : World} {x1 : Int} {h : Heap} {R R' : Int → Heap → Prop} (H : math_bits_Len64 r x1 h R) (hr : ∀ y2 h, R y2 h → R' y2 h) : math_bits_Len64 r x1 h R' :=
  CallsH.mono H fun _ _ hx => by
    obtain ⟨y2, hv, hR⟩ := hx
    exact ⟨y2, hv, hr _ _ hR⟩

abbrev math_bits_Len32 (r : World) (x1 : Int) (h : Heap) (R : Int → Heap → Prop) : Prop :=
  CallsH Try.prog r 38 [(.int .u32 x1)] h fun v h' => ∃ (y2 : Int), v = (.int .i64 y2) ∧ R y2 h'

theorem math_bits_Len32.mono {r : World} {x1 : Int} {h : Heap} {R R' : Int → Heap → Prop} (H : math_bits_Len32 r x1 h R) (hr : ∀ y2 h, R y2 h → R' y2 h) : math_bits_Len32 r x1 h R' :=
  CallsH.mono H fun _ _ hx => by
    obtain ⟨y2, hv, hR⟩ := hx
    exact ⟨y2, hv, hr _ _ hR⟩

abbrev math_bits_Len (r : World) (x1 : Int) (h : Heap) (R : Int → Heap → Prop) : Prop :=
  CallsH Try.prog r 33 [(.int .u64 x1)] h fun v h' => ∃ (y2 : Int), v = (.int .i64 y2) ∧ R y2 h'

theorem math_bits_Len.mono {r : World} {x1 : Int} {h : Heap} {R R' : Int → Heap → Prop} (H : math_bits_Len r x1 h R) (hr : ∀ y2 h, R y2 h → R' y2 h) : math_bits_Len r x1 h R' :=
  CallsH.mono H fun _ _ hx => by
    obtain ⟨y2, hv, hR⟩ := hx
    exact ⟨y2, hv, hr _ _ hR⟩

abbrev fen_New (r : World) (n1 : Int) (h : Heap) (R : Option Addr → Value → Heap → Prop) : Prop :=
  CallsH Try.prog r 18 [(.int .i64 n1)] h fun v h' => ∃ (y2 : Option Addr) (y3 : Value), v = (.tuple #[(.pointer y2), y3]) ∧ R y2 y3 h'

theorem fen_New.mono {r : World} {n1 : Int} {h : Heap} {R R' : Option Addr → Value → Heap → Prop} (H : fen_New r n1 h R) (hr : ∀ y2 y3 h, R y2 y3 h → R' y2 y3 h) : fen_New r n1 h R' :=
  CallsH.mono H fun _ _ hx => by
    obtain ⟨y2, y3, hv, hR⟩ := hx
    exact ⟨y2, y3, hv, hr _ _ _ hR⟩

abbrev fen_Fen_Add (r : World) (f1 : Option Addr) (i2 : Int) (x3 : Int) (h : Heap) (R : Value → Heap → Prop) : Prop :=
  CallsH Try.prog r 19 [(.pointer f1), (.int .i64 i2), (.int .i64 x3)] h R

theorem fen_Fen_Add.mono {r : World} {f1 : Option Addr} {i2 : Int} {x3 : Int} {h : Heap} {R R' : Value → Heap → Prop} (H : fen_Fen_Add r f1 i2 x3 h R) (hr : ∀ y h, R y h → R' y h) : fen_Fen_Add r f1 i2 x3 h R' := CallsH.mono H hr

abbrev fen_Fen_Sum (r : World) (f1 : Option Addr) (i2 : Int) (h : Heap) (R : Int → Value → Heap → Prop) : Prop :=
  CallsH Try.prog r 20 [(.pointer f1), (.int .i64 i2)] h fun v h' => ∃ (y3 : Int) (y4 : Value), v = (.tuple #[(.int .i64 y3), y4]) ∧ R y3 y4 h'

theorem fen_Fen_Sum.mono {r : World} {f1 : Option Addr} {i2 : Int} {h : Heap} {R R' : Int → Value → Heap → Prop} (H : fen_Fen_Sum r f1 i2 h R) (hr : ∀ y3 y4 h, R y3 y4 h → R' y3 y4 h) : fen_Fen_Sum r f1 i2 h R' :=
  CallsH.mono H fun _ _ hx => by
    obtain ⟨y3, y4, hv, hR⟩ := hx
    exact ⟨y3, y4, hv, hr _ _ _ hR⟩

abbrev fen_Fen_Find (r : World) (f1 : Option Addr) (k2 : Int) (h : Heap) (R : Int → Value → Heap → Prop) : Prop :=
  CallsH Try.prog r 21 [(.pointer f1), (.int .i64 k2)] h fun v h' => ∃ (y3 : Int) (y4 : Value), v = (.tuple #[(.int .i64 y3), y4]) ∧ R y3 y4 h'

theorem fen_Fen_Find.mono {r : World} {f1 : Option Addr} {k2 : Int} {h : Heap} {R R' : Int → Value → Heap → Prop} (H : fen_Fen_Find r f1 k2 h R) (hr : ∀ y3 y4 h, R y3 y4 h → R' y3 y4 h) : fen_Fen_Find r f1 k2 h R' :=
  CallsH.mono H fun _ _ hx => by
    obtain ⟨y3, y4, hv, hR⟩ := hx
    exact ⟨y3, y4, hv, hr _ _ _ hR⟩

abbrev fen_Fen_Ints (r : World) (f1 : Option Addr) (h : Heap) (R : Sl → Heap → Prop) : Prop :=
  CallsH Try.prog r 23 [(.pointer f1)] h fun v h' => ∃ (y2 : Sl), v = (Sl.v y2) ∧ R y2 h'

theorem fen_Fen_Ints.mono {r : World} {f1 : Option Addr} {h : Heap} {R R' : Sl → Heap → Prop} (H : fen_Fen_Ints r f1 h R) (hr : ∀ y2 h, R y2 h → R' y2 h) : fen_Fen_Ints r f1 h R' :=
  CallsH.mono H fun _ _ hx => by
    obtain ⟨y2, hv, hR⟩ := hx
    exact ⟨y2, hv, hr _ _ hR⟩

abbrev law5_fenned (r : World)  (h : Heap) (R : Bool → Heap → Prop) : Prop :=
  CallsH Try.prog r 17 [] h fun v h' => ∃ (y1 : Bool), v = (.bool y1) ∧ R y1 h'

theorem law5_fenned.mono {r : World}  {h : Heap} {R R' : Bool → Heap → Prop} (H : law5_fenned r  h R) (hr : ∀ y1 h, R y1 h → R' y1 h) : law5_fenned r  h R' :=
  CallsH.mono H fun _ _ hx => by
    obtain ⟨y1, hv, hR⟩ := hx
    exact ⟨y1, hv, hr _ _ hR⟩

abbrev law5_FenFinds (r : World) (n1 : Int) (is2 : Sl) (xs3 : Sl) (i4 : Int) (k5 : Int) (h : Heap) (R : Bool → Heap → Prop) : Prop :=
  CallsH Try.prog r 7 [(.int .i64 n1), (Sl.v is2), (Sl.v xs3), (.int .i64 i4), (.int .i64 k5)] h fun v h' => ∃ (y6 : Bool), v = (.bool y6) ∧ R y6 h'

theorem law5_FenFinds.mono {r : World} {n1 : Int} {is2 : Sl} {xs3 : Sl} {i4 : Int} {k5 : Int} {h : Heap} {R R' : Bool → Heap → Prop} (H : law5_FenFinds r n1 is2 xs3 i4 k5 h R) (hr : ∀ y6 h, R y6 h → R' y6 h) : law5_FenFinds r n1 is2 xs3 i4 k5 h R' :=
  CallsH.mono H fun _ _ hx => by
    obtain ⟨y6, hv, hR⟩ := hx
    exact ⟨y6, hv, hr _ _ hR⟩

abbrev law5_FenOrder (r : World) (n1 : Int) (is2 : Sl) (xs3 : Sl) (h : Heap) (R : Bool → Heap → Prop) : Prop :=
  CallsH Try.prog r 8 [(.int .i64 n1), (Sl.v is2), (Sl.v xs3)] h fun v h' => ∃ (y4 : Bool), v = (.bool y4) ∧ R y4 h'

theorem law5_FenOrder.mono {r : World} {n1 : Int} {is2 : Sl} {xs3 : Sl} {h : Heap} {R R' : Bool → Heap → Prop} (H : law5_FenOrder r n1 is2 xs3 h R) (hr : ∀ y4 h, R y4 h → R' y4 h) : law5_FenOrder r n1 is2 xs3 h R' :=
  CallsH.mono H fun _ _ hx => by
    obtain ⟨y4, hv, hR⟩ := hx
    exact ⟨y4, hv, hr _ _ hR⟩

/-! ### same_Ints -/

def same_Ints_F (r : World) (a1 : Sl) (vb2 : Sl) (h : Heap) (R : Bool → Heap → Prop) : Prop :=
  Br (!decide (((a1.len : Int)) = ((vb2.len : Int)))) (
    R false h) (
    ∀ X4 : Int → Prop, (∀ (i3 : Int),
      (Br (decide (i3 < ((a1.len : Int)))) (
        Ix a1 i3 1 fun q9 =>
        LdI h q9 fun x11 =>
        Ix vb2 i3 1 fun q17 =>
        LdI h q17 fun x19 =>
        Br (!decide (x11 = x19)) (
          R false h) (
          X4 (w64 (i3 + 1)))) (
        R true h)) →
      X4 i3) →
    X4 0)

set_option maxRecDepth 100000 in
theorem same_Ints_of {r : World} {a1 : Sl} {vb2 : Sl} {h : Heap} {R : Bool → Heap → Prop} (H : same_Ints_F r a1 vb2 h R) : same_Ints r a1 vb2 h R := by
  unfold same_Ints_F at H
  refine calls_of 26 [.tmp 4] Try.func22 rfl rfl rfl rfl rfl ?_
  refine W_seq ?_
  refine W_region (.pu 0 .fin) rfl rfl ?_
  refine s_pu (d := some 4) (v := (.bool false)) rfl rfl rfl (r_assign rfl) ?_
  refine s_fin ?_
  show W _ _ _ _ _ _ _ _
  refine W_seq ?_
  refine W_seq ?_
  refine W_region (.pu 0 (.pu 1 (.pu 2 (.pu 3 (.pu 4 .fin))))) rfl rfl ?_
  refine s_pu (d := some 6) (v := (Sl.v a1)) rfl rfl rfl (r_move rfl) ?_
  refine s_pu (d := some 7) (v := (.int .i64 ((a1.len : Int)))) rfl rfl rfl (r_len Try.underlying22 rfl) ?_
  refine s_pu (d := some 8) (v := (Sl.v vb2)) rfl rfl rfl (r_move rfl) ?_
  refine s_pu (d := some 9) (v := (.int .i64 ((vb2.len : Int)))) rfl rfl rfl (r_len Try.underlying22 rfl) ?_
  refine s_pu (d := some 10) (v := (.bool (!decide (((a1.len : Int)) = ((vb2.len : Int)))))) rfl rfl rfl (r_neq rfl rfl) ?_
  refine s_fin ?_
  show W _ _ _ _ _ _ _ _
  refine W_if (!decide (((a1.len : Int)) = ((vb2.len : Int)))) rfl (fun g23 => ?_) (fun g23 => ?_)
  · have H := H.1 g23
    refine W_seq ?_
    refine W_region (.pu 0 .fin) rfl rfl ?_
    refine s_pu (d := some 4) (v := (.bool false)) rfl rfl rfl (r_assign rfl) ?_
    refine s_fin ?_
    show W _ _ _ _ _ _ _ _
    refine W_ret ?_
    exact ⟨[(.bool false)], ⟨_, _, rfl, rfl, rfl⟩, false, rfl, H⟩
  · have H := H.2 g23
    refine W_skip ?_
    show W _ _ _ _ _ _ _ _
    refine W_seq ?_
    refine W_seq ?_
    refine W_region (.pu 0 .fin) rfl rfl ?_
    refine s_pu (d := some 5) (v := (.int .i64 0)) rfl rfl rfl (r_assign rfl) ?_
    refine s_fin ?_
    show W _ _ _ _ _ _ _ _
    refine W_block ?_
    refine W_loop (WL_mk (l := [(0, (Sl.v a1)), (1, (Sl.v vb2)), (5, (.int .i64 0))]) ?_ ⟨rfl, rfl, rfl, trivial⟩)
    refine H (fun (i3 : Int) => ∀ b, WL _ _ _ _ _ _ (mkE [(0, (Sl.v a1)), (1, (Sl.v vb2)), (5, (.int .i64 i3))] b) h) ?_
    intro i3 H b
    refine WL_round ?_
    refine W_seq ?_
    refine W_seq ?_
    refine W_region (.pu 0 (.pu 1 (.pu 2 (.pu 3 .fin)))) rfl rfl ?_
    refine s_pu (d := some 11) (v := (.int .i64 i3)) rfl rfl rfl (r_move rfl) ?_
    refine s_pu (d := some 12) (v := (Sl.v a1)) rfl rfl rfl (r_move rfl) ?_
    refine s_pu (d := some 13) (v := (.int .i64 ((a1.len : Int)))) rfl rfl rfl (r_len Try.underlying22 rfl) ?_
    refine s_pu (d := some 14) (v := (.bool (decide (i3 < ((a1.len : Int)))))) rfl rfl rfl (r_lss rfl rfl) ?_
    refine s_fin ?_
    show W _ _ _ _ _ _ _ _
    refine W_if (decide (i3 < ((a1.len : Int)))) rfl (fun g22 => ?_) (fun g22 => ?_)
    · have H := H.1 g22
      refine W_skip ?_
      show W _ _ _ _ _ _ _ _
      refine W_seq ?_
      refine W_block ?_
      refine W_seq ?_
      refine W_draw [0, 0, 3, 7, 0, 0, 48, 112, 255] (.pu 0 (.pu 1 (.pu 2 (.rd 3 (.pu 4 (.pu 5 (.pu 6 (.rd 7 (.pu 8 .fin))))))))) (by kernel_rfl) (by kernel_rfl) ?_
      refine s_pu (d := some 17) (v := (Sl.v a1)) rfl rfl rfl (r_move rfl) ?_
      refine s_pu (d := some 18) (v := (.int .i64 i3)) rfl rfl rfl (r_move rfl) ?_
      obtain ⟨p5, e6, e7, e8, H⟩ := H
      obtain ⟨q9, e10⟩ : ∃ q : Addr, q = Addr.add p5 (Int.toNat i3 * 1) := ⟨_, rfl⟩
      rw [← e10] at H
      refine s_pu (d := some 19) (v := (.pointer (some q9))) rfl rfl rfl (fun w => (r_indexAddr Try.underlying22 Try.sizeOf3 rfl rfl e6 e7 e8 w).trans (by rw [e10])) ?_
      obtain ⟨x11, e12, H⟩ := H
      refine s_rd (d := some 20) (v := (.int .i64 x11)) rfl rfl rfl (fun dr => r_load1 Try.isAgg3 rfl e12) ?_
      refine s_pu (d := some 21) (v := (Sl.v vb2)) rfl rfl rfl (r_move rfl) ?_
      refine s_pu (d := some 22) (v := (.int .i64 i3)) rfl rfl rfl (r_move rfl) ?_
      obtain ⟨p13, e14, e15, e16, H⟩ := H
      obtain ⟨q17, e18⟩ : ∃ q : Addr, q = Addr.add p13 (Int.toNat i3 * 1) := ⟨_, rfl⟩
      rw [← e18] at H
      refine s_pu (d := some 23) (v := (.pointer (some q17))) rfl rfl rfl (fun w => (r_indexAddr Try.underlying22 Try.sizeOf3 rfl rfl e14 e15 e16 w).trans (by rw [e18])) ?_
      obtain ⟨x19, e20, H⟩ := H
      refine s_rd (d := some 24) (v := (.int .i64 x19)) rfl rfl rfl (fun dr => r_load1 Try.isAgg3 rfl e20) ?_
      refine s_pu (d := some 25) (v := (.bool (!decide (x11 = x19)))) rfl rfl rfl (r_neq rfl rfl) ?_
      refine s_fin ?_
      show W _ _ _ _ _ _ _ _
      refine W_if (!decide (x11 = x19)) rfl (fun g21 => ?_) (fun g21 => ?_)
      · have H := H.1 g21
        refine W_seq ?_
        refine W_region (.pu 0 .fin) rfl rfl ?_
        refine s_pu (d := some 4) (v := (.bool false)) rfl rfl rfl (r_assign rfl) ?_
        refine s_fin ?_
        show W _ _ _ _ _ _ _ _
        refine W_ret ?_
        exact ⟨[(.bool false)], ⟨_, _, rfl, rfl, rfl⟩, false, rfl, H⟩
      · have H := H.2 g21
        refine W_skip ?_
        show W _ _ _ _ _ _ _ _
        refine W_region (.pu 0 (.pu 1 (.pu 2 .fin))) rfl rfl ?_
        refine s_pu (d := some 15) (v := (.int .i64 i3)) rfl rfl rfl (r_move rfl) ?_
        refine s_pu (d := some 16) (v := (.int .i64 (w64 (i3 + 1)))) rfl rfl rfl (r_add rfl rfl) ?_
        refine s_pu (d := some 5) (v := (.int .i64 (w64 (i3 + 1)))) rfl rfl rfl (r_assign rfl) ?_
        refine s_fin ?_
        exact WL_mk (l := [(0, (Sl.v a1)), (1, (Sl.v vb2)), (5, (.int .i64 (w64 (i3 + 1))))]) H ⟨rfl, rfl, rfl, trivial⟩
    · have H := H.2 g22
      refine W_exit (inX_here ?_)
      show W _ _ _ _ _ _ _ _
      refine W_seq ?_
      refine W_region (.pu 0 .fin) rfl rfl ?_
      refine s_pu (d := some 4) (v := (.bool true)) rfl rfl rfl (r_assign rfl) ?_
      refine s_fin ?_
      show W _ _ _ _ _ _ _ _
      refine W_ret ?_
      exact ⟨[(.bool true)], ⟨_, _, rfl, rfl, rfl⟩, true, rfl, H⟩

/-! ### math_bits_Len64 -/

def math_bits_Len64_F (r : World) (x1 : Int) (h : Heap) (R : Int → Heap → Prop) : Prop :=
  ∀ J4 : Int → Int → Prop, (∀ (x2 : Int) (n3 : Int),
    (∀ J8 : Int → Int → Prop, (∀ (x6 : Int) (n7 : Int),
      (∀ J12 : Int → Int → Prop, (∀ (x10 : Int) (n11 : Int),
        (0 ≤ (IntKind.wrap .u8 x10) ∧ (IntKind.wrap .u8 x10) < (ByteArray.size txtFen1 : Int) ∧
        ∀ x16 : Int, x16 = (w64 (n11 + (w64 (strAt txtFen1 (IntKind.wrap .u8 x10))))) →
        R x16 h) →
        J12 x10 n11) →
      Br (decide (256 ≤ x6)) (
        J12 (sShr .u64 x6 8) (w64 (n7 + 8))) (
        J12 x6 n7)) →
      J8 x6 n7) →
    Br (decide (65536 ≤ x2)) (
      J8 (sShr .u64 x2 16) (w64 (n3 + 16))) (
      J8 x2 n3)) →
    J4 x2 n3) →
  Br (decide (4294967296 ≤ x1)) (
    J4 (sShr .u64 x1 32) 32) (
    J4 x1 0)

set_option maxRecDepth 100000 in
theorem math_bits_Len64_of {r : World} {x1 : Int} {h : Heap} {R : Int → Heap → Prop} (H : math_bits_Len64_F r x1 h R) : math_bits_Len64 r x1 h R := by
  unfold math_bits_Len64_F at H
  refine calls_of 25 [.tmp 2] Try.func39 rfl rfl rfl rfl rfl ?_
  refine W_seq ?_
  refine W_region (.pu 0 .fin) rfl rfl ?_
  refine s_pu (d := some 2) (v := (.int .i64 0)) rfl rfl rfl (r_assign rfl) ?_
  refine s_fin ?_
  show W _ _ _ _ _ _ _ _
  refine W_seq ?_
  refine W_seq ?_
  refine W_region (.pu 0 (.pu 1 .fin)) rfl rfl ?_
  refine s_pu (d := some 3) (v := (.int .u64 x1)) rfl rfl rfl (r_move rfl) ?_
  refine s_pu (d := some 4) (v := (.bool (decide (4294967296 ≤ x1)))) rfl rfl rfl (r_geq rfl rfl) ?_
  refine s_fin ?_
  show W _ _ _ _ _ _ _ _
  refine W_set ?_
  intro N5 eN5
  have H := H (fun (x2 : Int) (n3 : Int) => ∀ b, N5 [] (mkE [(0, (.int .u64 x2)), (2, (.int .i64 n3))] b) h) (by
    intro x2 n3 H b
    rw [eN5]
    show W _ _ _ _ _ _ _ _
    refine W_seq ?_
    refine W_seq ?_
    refine W_region (.pu 0 (.pu 1 .fin)) rfl rfl ?_
    refine s_pu (d := some 7) (v := (.int .u64 x2)) rfl rfl rfl (r_move rfl) ?_
    refine s_pu (d := some 8) (v := (.bool (decide (65536 ≤ x2)))) rfl rfl rfl (r_geq rfl rfl) ?_
    refine s_fin ?_
    show W _ _ _ _ _ _ _ _
    refine W_set ?_
    intro N9 eN9
    have H := H (fun (x6 : Int) (n7 : Int) => ∀ b, N9 [] (mkE [(0, (.int .u64 x6)), (2, (.int .i64 n7))] b) h) (by
      intro x6 n7 H b
      rw [eN9]
      show W _ _ _ _ _ _ _ _
      refine W_seq ?_
      refine W_seq ?_
      refine W_region (.pu 0 (.pu 1 .fin)) rfl rfl ?_
      refine s_pu (d := some 13) (v := (.int .u64 x6)) rfl rfl rfl (r_move rfl) ?_
      refine s_pu (d := some 14) (v := (.bool (decide (256 ≤ x6)))) rfl rfl rfl (r_geq rfl rfl) ?_
      refine s_fin ?_
      show W _ _ _ _ _ _ _ _
      refine W_set ?_
      intro N13 eN13
      have H := H (fun (x10 : Int) (n11 : Int) => ∀ b, N13 [] (mkE [(0, (.int .u64 x10)), (2, (.int .i64 n11))] b) h) (by
        intro x10 n11 H b
        rw [eN13]
        show W _ _ _ _ _ _ _ _
        refine W_seq ?_
        refine W_region (.pu 0 (.pu 1 (.pu 2 (.pu 3 (.pu 4 (.pu 5 (.pu 6 .fin))))))) rfl rfl ?_
        refine s_pu (d := some 19) (v := (.int .i64 n11)) rfl rfl rfl (r_move rfl) ?_
        refine s_pu (d := some 20) (v := (.int .u64 x10)) rfl rfl rfl (r_move rfl) ?_
        refine s_pu (d := some 21) (v := (.int .u8 (IntKind.wrap .u8 x10))) rfl rfl rfl (r_conv Try.underlying70 Try.underlying5 rfl) ?_
        obtain ⟨e14, e15, H⟩ := H
        refine s_pu (d := some 22) (v := (.int .u8 (strAt txtFen1 (IntKind.wrap .u8 x10)))) rfl rfl rfl (r_indexStr Try.underlying9 rfl rfl e14 e15) ?_
        refine s_pu (d := some 23) (v := (.int .i64 (w64 (strAt txtFen1 (IntKind.wrap .u8 x10))))) rfl rfl rfl (r_conv Try.underlying5 Try.underlying3 rfl) ?_
        refine s_pu (d := some 24) (v := (.int .i64 (w64 (n11 + (w64 (strAt txtFen1 (IntKind.wrap .u8 x10))))))) rfl rfl rfl (r_add rfl rfl) ?_
        obtain ⟨x16, e17⟩ : ∃ x : Int, x = (w64 (n11 + (w64 (strAt txtFen1 (IntKind.wrap .u8 x10))))) := ⟨_, rfl⟩
        have H := H x16 e17
        refine s_pu (d := some 2) (v := (.int .i64 x16)) rfl rfl rfl (r_assign (congrArg (Value.int .i64) e17.symm)) ?_
        refine s_fin ?_
        show W _ _ _ _ _ _ _ _
        refine W_ret ?_
        exact ⟨[(.int .i64 x16)], ⟨_, _, rfl, rfl, rfl⟩, x16, rfl, H⟩)
      clear eN13
      refine W_if (decide (256 ≤ x6)) rfl (fun g18 => ?_) (fun g18 => ?_)
      · have H := H.1 g18
        refine W_seq ?_
        refine W_region (.pu 0 (.pu 1 (.pu 2 .fin))) rfl rfl ?_
        refine s_pu (d := some 15) (v := (.int .u64 x6)) rfl rfl rfl (r_move rfl) ?_
        refine s_pu (d := some 16) (v := (.int .u64 (sShr .u64 x6 8))) rfl rfl rfl (r_shr rfl rfl (by decide)) ?_
        refine s_pu (d := some 0) (v := (.int .u64 (sShr .u64 x6 8))) rfl rfl rfl (r_assign rfl) ?_
        refine s_fin ?_
        show W _ _ _ _ _ _ _ _
        refine W_region (.pu 0 (.pu 1 (.pu 2 .fin))) rfl rfl ?_
        refine s_pu (d := some 17) (v := (.int .i64 n7)) rfl rfl rfl (r_move rfl) ?_
        refine s_pu (d := some 18) (v := (.int .i64 (w64 (n7 + 8)))) rfl rfl rfl (r_add rfl rfl) ?_
        refine s_pu (d := some 2) (v := (.int .i64 (w64 (n7 + 8)))) rfl rfl rfl (r_assign rfl) ?_
        refine s_fin ?_
        exact N_mk (l := [(0, (.int .u64 (sShr .u64 x6 8))), (2, (.int .i64 (w64 (n7 + 8))))]) H ⟨rfl, rfl, trivial⟩
      · have H := H.2 g18
        refine W_skip ?_
        exact N_mk (l := [(0, (.int .u64 x6)), (2, (.int .i64 n7))]) H ⟨rfl, rfl, trivial⟩)
    clear eN9
    refine W_if (decide (65536 ≤ x2)) rfl (fun g19 => ?_) (fun g19 => ?_)
    · have H := H.1 g19
      refine W_seq ?_
      refine W_region (.pu 0 (.pu 1 (.pu 2 .fin))) rfl rfl ?_
      refine s_pu (d := some 9) (v := (.int .u64 x2)) rfl rfl rfl (r_move rfl) ?_
      refine s_pu (d := some 10) (v := (.int .u64 (sShr .u64 x2 16))) rfl rfl rfl (r_shr rfl rfl (by decide)) ?_
      refine s_pu (d := some 0) (v := (.int .u64 (sShr .u64 x2 16))) rfl rfl rfl (r_assign rfl) ?_
      refine s_fin ?_
      show W _ _ _ _ _ _ _ _
      refine W_region (.pu 0 (.pu 1 (.pu 2 .fin))) rfl rfl ?_
      refine s_pu (d := some 11) (v := (.int .i64 n3)) rfl rfl rfl (r_move rfl) ?_
      refine s_pu (d := some 12) (v := (.int .i64 (w64 (n3 + 16)))) rfl rfl rfl (r_add rfl rfl) ?_
      refine s_pu (d := some 2) (v := (.int .i64 (w64 (n3 + 16)))) rfl rfl rfl (r_assign rfl) ?_
      refine s_fin ?_
      exact N_mk (l := [(0, (.int .u64 (sShr .u64 x2 16))), (2, (.int .i64 (w64 (n3 + 16))))]) H ⟨rfl, rfl, trivial⟩
    · have H := H.2 g19
      refine W_skip ?_
      exact N_mk (l := [(0, (.int .u64 x2)), (2, (.int .i64 n3))]) H ⟨rfl, rfl, trivial⟩)
  clear eN5
  refine W_if (decide (4294967296 ≤ x1)) rfl (fun g20 => ?_) (fun g20 => ?_)
  · have H := H.1 g20
    refine W_seq ?_
    refine W_region (.pu 0 (.pu 1 (.pu 2 .fin))) rfl rfl ?_
    refine s_pu (d := some 5) (v := (.int .u64 x1)) rfl rfl rfl (r_move rfl) ?_
    refine s_pu (d := some 6) (v := (.int .u64 (sShr .u64 x1 32))) rfl rfl rfl (r_shr rfl rfl (by decide)) ?_
    refine s_pu (d := some 0) (v := (.int .u64 (sShr .u64 x1 32))) rfl rfl rfl (r_assign rfl) ?_
    refine s_fin ?_
    show W _ _ _ _ _ _ _ _
    refine W_region (.pu 0 .fin) rfl rfl ?_
    refine s_pu (d := some 2) (v := (.int .i64 32)) rfl rfl rfl (r_assign rfl) ?_
    refine s_fin ?_
    exact N_mk (l := [(0, (.int .u64 (sShr .u64 x1 32))), (2, (.int .i64 32))]) H ⟨rfl, rfl, trivial⟩
  · have H := H.2 g20
    refine W_skip ?_
    exact N_mk (l := [(0, (.int .u64 x1)), (2, (.int .i64 0))]) H ⟨rfl, rfl, trivial⟩

/-! ### math_bits_Len32 -/

def math_bits_Len32_F (r : World) (x1 : Int) (h : Heap) (R : Int → Heap → Prop) : Prop :=
  ∀ J4 : Int → Int → Prop, (∀ (x2 : Int) (n3 : Int),
    (∀ J8 : Int → Int → Prop, (∀ (x6 : Int) (n7 : Int),
      (0 ≤ (IntKind.wrap .u8 x6) ∧ (IntKind.wrap .u8 x6) < (ByteArray.size txtFen1 : Int) ∧
      ∀ x12 : Int, x12 = (w64 (n7 + (w64 (strAt txtFen1 (IntKind.wrap .u8 x6))))) →
      R x12 h) →
      J8 x6 n7) →
    Br (decide (256 ≤ x2)) (
      J8 (sShr .u32 x2 8) (w64 (n3 + 8))) (
      J8 x2 n3)) →
    J4 x2 n3) →
  Br (decide (65536 ≤ x1)) (
    J4 (sShr .u32 x1 16) 16) (
    J4 x1 0)

set_option maxRecDepth 100000 in
theorem math_bits_Len32_of {r : World} {x1 : Int} {h : Heap} {R : Int → Heap → Prop} (H : math_bits_Len32_F r x1 h R) : math_bits_Len32 r x1 h R := by
  unfold math_bits_Len32_F at H
  refine calls_of 19 [.tmp 2] Try.func38 rfl rfl rfl rfl rfl ?_
  refine W_seq ?_
  refine W_region (.pu 0 .fin) rfl rfl ?_
  refine s_pu (d := some 2) (v := (.int .i64 0)) rfl rfl rfl (r_assign rfl) ?_
  refine s_fin ?_
  show W _ _ _ _ _ _ _ _
  refine W_seq ?_
  refine W_seq ?_
  refine W_region (.pu 0 (.pu 1 .fin)) rfl rfl ?_
  refine s_pu (d := some 3) (v := (.int .u32 x1)) rfl rfl rfl (r_move rfl) ?_
  refine s_pu (d := some 4) (v := (.bool (decide (65536 ≤ x1)))) rfl rfl rfl (r_geq rfl rfl) ?_
  refine s_fin ?_
  show W _ _ _ _ _ _ _ _
  refine W_set ?_
  intro N5 eN5
  have H := H (fun (x2 : Int) (n3 : Int) => ∀ b, N5 [] (mkE [(0, (.int .u32 x2)), (2, (.int .i64 n3))] b) h) (by
    intro x2 n3 H b
    rw [eN5]
    show W _ _ _ _ _ _ _ _
    refine W_seq ?_
    refine W_seq ?_
    refine W_region (.pu 0 (.pu 1 .fin)) rfl rfl ?_
    refine s_pu (d := some 7) (v := (.int .u32 x2)) rfl rfl rfl (r_move rfl) ?_
    refine s_pu (d := some 8) (v := (.bool (decide (256 ≤ x2)))) rfl rfl rfl (r_geq rfl rfl) ?_
    refine s_fin ?_
    show W _ _ _ _ _ _ _ _
    refine W_set ?_
    intro N9 eN9
    have H := H (fun (x6 : Int) (n7 : Int) => ∀ b, N9 [] (mkE [(0, (.int .u32 x6)), (2, (.int .i64 n7))] b) h) (by
      intro x6 n7 H b
      rw [eN9]
      show W _ _ _ _ _ _ _ _
      refine W_seq ?_
      refine W_region (.pu 0 (.pu 1 (.pu 2 (.pu 3 (.pu 4 (.pu 5 (.pu 6 .fin))))))) rfl rfl ?_
      refine s_pu (d := some 13) (v := (.int .i64 n7)) rfl rfl rfl (r_move rfl) ?_
      refine s_pu (d := some 14) (v := (.int .u32 x6)) rfl rfl rfl (r_move rfl) ?_
      refine s_pu (d := some 15) (v := (.int .u8 (IntKind.wrap .u8 x6))) rfl rfl rfl (r_conv Try.underlying68 Try.underlying5 rfl) ?_
      obtain ⟨e10, e11, H⟩ := H
      refine s_pu (d := some 16) (v := (.int .u8 (strAt txtFen1 (IntKind.wrap .u8 x6)))) rfl rfl rfl (r_indexStr Try.underlying9 rfl rfl e10 e11) ?_
      refine s_pu (d := some 17) (v := (.int .i64 (w64 (strAt txtFen1 (IntKind.wrap .u8 x6))))) rfl rfl rfl (r_conv Try.underlying5 Try.underlying3 rfl) ?_
      refine s_pu (d := some 18) (v := (.int .i64 (w64 (n7 + (w64 (strAt txtFen1 (IntKind.wrap .u8 x6))))))) rfl rfl rfl (r_add rfl rfl) ?_
      obtain ⟨x12, e13⟩ : ∃ x : Int, x = (w64 (n7 + (w64 (strAt txtFen1 (IntKind.wrap .u8 x6))))) := ⟨_, rfl⟩
      have H := H x12 e13
      refine s_pu (d := some 2) (v := (.int .i64 x12)) rfl rfl rfl (r_assign (congrArg (Value.int .i64) e13.symm)) ?_
      refine s_fin ?_
      show W _ _ _ _ _ _ _ _
      refine W_ret ?_
      exact ⟨[(.int .i64 x12)], ⟨_, _, rfl, rfl, rfl⟩, x12, rfl, H⟩)
    clear eN9
    refine W_if (decide (256 ≤ x2)) rfl (fun g14 => ?_) (fun g14 => ?_)
    · have H := H.1 g14
      refine W_seq ?_
      refine W_region (.pu 0 (.pu 1 (.pu 2 .fin))) rfl rfl ?_
      refine s_pu (d := some 9) (v := (.int .u32 x2)) rfl rfl rfl (r_move rfl) ?_
      refine s_pu (d := some 10) (v := (.int .u32 (sShr .u32 x2 8))) rfl rfl rfl (r_shr rfl rfl (by decide)) ?_
      refine s_pu (d := some 0) (v := (.int .u32 (sShr .u32 x2 8))) rfl rfl rfl (r_assign rfl) ?_
      refine s_fin ?_
      show W _ _ _ _ _ _ _ _
      refine W_region (.pu 0 (.pu 1 (.pu 2 .fin))) rfl rfl ?_
      refine s_pu (d := some 11) (v := (.int .i64 n3)) rfl rfl rfl (r_move rfl) ?_
      refine s_pu (d := some 12) (v := (.int .i64 (w64 (n3 + 8)))) rfl rfl rfl (r_add rfl rfl) ?_
      refine s_pu (d := some 2) (v := (.int .i64 (w64 (n3 + 8)))) rfl rfl rfl (r_assign rfl) ?_
      refine s_fin ?_
      exact N_mk (l := [(0, (.int .u32 (sShr .u32 x2 8))), (2, (.int .i64 (w64 (n3 + 8))))]) H ⟨rfl, rfl, trivial⟩
    · have H := H.2 g14
      refine W_skip ?_
      exact N_mk (l := [(0, (.int .u32 x2)), (2, (.int .i64 n3))]) H ⟨rfl, rfl, trivial⟩)
  clear eN5
  refine W_if (decide (65536 ≤ x1)) rfl (fun g15 => ?_) (fun g15 => ?_)
  · have H := H.1 g15
    refine W_seq ?_
    refine W_region (.pu 0 (.pu 1 (.pu 2 .fin))) rfl rfl ?_
    refine s_pu (d := some 5) (v := (.int .u32 x1)) rfl rfl rfl (r_move rfl) ?_
    refine s_pu (d := some 6) (v := (.int .u32 (sShr .u32 x1 16))) rfl rfl rfl (r_shr rfl rfl (by decide)) ?_
    refine s_pu (d := some 0) (v := (.int .u32 (sShr .u32 x1 16))) rfl rfl rfl (r_assign rfl) ?_
    refine s_fin ?_
    show W _ _ _ _ _ _ _ _
    refine W_region (.pu 0 .fin) rfl rfl ?_
    refine s_pu (d := some 2) (v := (.int .i64 16)) rfl rfl rfl (r_assign rfl) ?_
    refine s_fin ?_
    exact N_mk (l := [(0, (.int .u32 (sShr .u32 x1 16))), (2, (.int .i64 16))]) H ⟨rfl, rfl, trivial⟩
  · have H := H.2 g15
    refine W_skip ?_
    exact N_mk (l := [(0, (.int .u32 x1)), (2, (.int .i64 0))]) H ⟨rfl, rfl, trivial⟩

/-! ### math_bits_Len -/

def math_bits_Len_F (r : World) (x1 : Int) (h : Heap) (R : Int → Heap → Prop) : Prop :=
  math_bits_Len64 r x1 h fun y2 h1 =>
  R y2 h1

set_option maxRecDepth 100000 in
theorem math_bits_Len_of {r : World} {x1 : Int} {h : Heap} {R : Int → Heap → Prop} (H : math_bits_Len_F r x1 h R) : math_bits_Len r x1 h R := by
  unfold math_bits_Len_F at H
  refine calls_of 8 [.tmp 2] Try.func33 rfl rfl rfl rfl rfl ?_
  refine W_seq ?_
  refine W_region (.pu 0 .fin) rfl rfl ?_
  refine s_pu (d := some 2) (v := (.int .i64 0)) rfl rfl rfl (r_assign rfl) ?_
  refine s_fin ?_
  show W _ _ _ _ _ _ _ _
  refine W_seq ?_
  refine W_if false rfl (fun hg => by cases hg) (fun _ => ?_)
  refine W_skip ?_
  show W _ _ _ _ _ _ _ _
  refine W_seq ?_
  refine W_region (.pu 0 (.ef 1 [] (.pu 2 .fin) .no)) rfl rfl ?_
  refine s_pu (d := some 6) (v := (.int .u64 x1)) rfl rfl rfl (r_move rfl) ?_
  refine s_ef (d := some 7) rfl rfl rfl (fun dr => r_call Try.call39 rfl rfl H) ?_ trivial
  rintro _ h1 ⟨y2, rfl, H⟩
  refine ⟨trivial, ?_⟩
  refine s_pu (d := some 2) (v := (.int .i64 y2)) rfl rfl rfl (r_assign rfl) ?_
  refine s_fin ?_
  show W _ _ _ _ _ _ _ _
  refine W_ret ?_
  exact ⟨[(.int .i64 y2)], ⟨_, _, rfl, rfl, rfl⟩, y2, rfl, H⟩

/-! ### fen_New -/

def fen_New_F (r : World) (n1 : Int) (h : Heap) (R : Option Addr → Value → Heap → Prop) : Prop :=
  Br ((decide (n1 < 0)) || (decide (5000 < n1))) (
    R none ((.iface 54 (.int .i64 1))) h) (
    MkS 3 1 8 (.int .i64 0) (w64 (n1 + 1)) h fun s5 h1 =>
    New h1 (.cells #[(Sl.v s5)] 56) fun p11 h2 =>
    R (some p11) .nilIface h2)

set_option maxRecDepth 100000 in
theorem fen_New_of {r : World} {n1 : Int} {h : Heap} {R : Option Addr → Value → Heap → Prop} (H : fen_New_F r n1 h R) : fen_New r n1 h R := by
  unfold fen_New_F at H
  refine calls_of 16 [.tmp 2, .tmp 3] Try.func18 rfl rfl rfl rfl rfl ?_
  refine W_seq ?_
  refine W_region (.pu 0 (.pu 1 .fin)) rfl rfl ?_
  refine s_pu (d := some 2) (v := (.pointer none)) rfl rfl rfl (r_assign rfl) ?_
  refine s_pu (d := some 3) (v := .nilIface) rfl rfl rfl (r_assign rfl) ?_
  refine s_fin ?_
  show W _ _ _ _ _ _ _ _
  refine W_seq ?_
  refine W_seq ?_
  refine W_region (.pu 0 (.pu 1 (.pu 2 (.pu 3 (.pu 4 (.pu 5 .fin)))))) rfl rfl ?_
  refine s_pu (d := some 4) (v := (.int .i64 n1)) rfl rfl rfl (r_move rfl) ?_
  refine s_pu (d := some 5) (v := (.bool (decide (n1 < 0)))) rfl rfl rfl (r_lss rfl rfl) ?_
  refine s_pu (d := some 6) (v := (.bool (decide (n1 < 0)))) rfl rfl rfl (r_move rfl) ?_
  refine S_meet (l := [(0, (.int .i64 n1)), (9, (.bool ((decide (n1 < 0)) || (decide (5000 < n1)))))]) (i := 3) ?_ (fun HJ => ?_)
  · intro b
    show S _ _ _ _ _ _
    refine s_fin ?_
    show W _ _ _ _ _ _ _ _
    refine W_if ((decide (n1 < 0)) || (decide (5000 < n1))) rfl (fun g14 => ?_) (fun g14 => ?_)
    · have H := H.1 g14
      refine W_seq ?_
      refine W_region (.pu 0 (.pu 1 (.pu 2 .fin))) rfl rfl ?_
      refine s_pu (d := some 10) (v := ((.iface 54 (.int .i64 1)))) rfl rfl rfl (r_iface Try.underlying54 rfl rfl) ?_
      refine s_pu (d := some 2) (v := (.pointer none)) rfl rfl rfl (r_assign rfl) ?_
      refine s_pu (d := some 3) (v := ((.iface 54 (.int .i64 1)))) rfl rfl rfl (r_assign rfl) ?_
      refine s_fin ?_
      show W _ _ _ _ _ _ _ _
      refine W_ret ?_
      exact ⟨[(.pointer none), ((.iface 54 (.int .i64 1)))], ⟨_, _, rfl, rfl, ⟨_, _, rfl, rfl, rfl⟩⟩, none, ((.iface 54 (.int .i64 1))), rfl, H⟩
    · have H := H.2 g14
      refine W_skip ?_
      show W _ _ _ _ _ _ _ _
      refine W_seq ?_
      refine W_region (.pu 0 (.pu 1 (.ef 2 [] (.pu 3 (.ef 4 [] (.pu 5 (.pu 6 .fin)) .no)) .no))) rfl rfl ?_
      refine s_pu (d := some 11) (v := (.int .i64 n1)) rfl rfl rfl (r_move rfl) ?_
      refine s_pu (d := some 12) (v := (.int .i64 (w64 (n1 + 1)))) rfl rfl rfl (r_add rfl rfl) ?_
      obtain ⟨e6, e7, e8, H⟩ := H
      obtain ⟨s5, e9⟩ : ∃ s : Sl, s = ⟨some ⟨h.size, 0, none⟩, Int.toNat (w64 (n1 + 1)), Int.toNat (w64 (n1 + 1))⟩ := ⟨_, rfl⟩
      obtain ⟨h1, e10⟩ : ∃ hh : Heap, hh = _ := ⟨_, rfl⟩
      have H := H s5 h1 e9 e10
      refine s_ef1 (d := some 13) (v := (Sl.v s5)) (h' := h1) rfl rfl rfl (fun dr => (slFFen_22.make rfl rfl e6 e7 e8).trans (by rw [e9, e10]; rfl)) trivial ?_ trivial
      refine s_pu (d := some 14) (v := (.agg #[(Sl.v s5)])) rfl rfl rfl (fun w => by kernel_rfl) ?_
      obtain ⟨p11, e12⟩ : ∃ p : Addr, p = ⟨h1.size, 0, none⟩ := ⟨_, rfl⟩
      obtain ⟨h2, e13⟩ : ∃ hh : Heap, hh = h1.push (.cells #[(Sl.v s5)] 56) := ⟨_, rfl⟩
      have H := H p11 h2 e12 e13
      refine s_ef1 (d := some 15) (v := (.pointer (some p11))) (h' := h2) rfl rfl rfl (fun dr => (r_box (v := (.agg #[(Sl.v s5)])) rfl).trans (by rw [e12, e13]; rfl)) trivial ?_ trivial
      refine s_pu (d := some 2) (v := (.pointer (some p11))) rfl rfl rfl (r_assign rfl) ?_
      refine s_pu (d := some 3) (v := .nilIface) rfl rfl rfl (r_assign rfl) ?_
      refine s_fin ?_
      show W _ _ _ _ _ _ _ _
      refine W_ret ?_
      exact ⟨[(.pointer (some p11)), .nilIface], ⟨_, _, rfl, rfl, ⟨_, _, rfl, rfl, rfl⟩⟩, (some p11), .nilIface, rfl, H⟩
  · rcases Bool.eq_false_or_eq_true (decide (n1 < 0)) with g2 | g2
    · refine s_sk (d := some 7) rfl rfl (wants_no rfl rfl rfl rfl g2) ?_
      refine s_sk (d := some 8) rfl rfl (wants_no rfl rfl rfl rfl g2) ?_
      refine s_pu (d := some 9) (v := (.bool true)) rfl rfl rfl (r_pick1 rfl g2 rfl) ?_
      exact S_mk (l := [(0, (.int .i64 n1)), (9, (.bool ((decide (n1 < 0)) || (decide (5000 < n1)))))]) HJ ⟨rfl, (by rw [g2]; rfl), trivial⟩
    · refine s_pu (d := some 7) (v := (.int .i64 n1)) rfl rfl (wants_yes rfl rfl rfl rfl g2) (r_move rfl) ?_
      refine s_pu (d := some 8) (v := (.bool (decide (5000 < n1)))) rfl rfl (wants_yes rfl rfl rfl rfl g2) (r_gtr rfl rfl) ?_
      refine s_pu (d := some 9) (v := (.bool (decide (5000 < n1)))) rfl rfl rfl (r_pick0 rfl g2 rfl) ?_
      exact S_mk (l := [(0, (.int .i64 n1)), (9, (.bool ((decide (n1 < 0)) || (decide (5000 < n1)))))]) HJ ⟨rfl, (by rw [g2]; rfl), trivial⟩

/-! ### fen_Fen_Add -/

def fen_Fen_Add_F (r : World) (f1 : Option Addr) (i2 : Int) (x3 : Int) (h : Heap) (R : Value → Heap → Prop) : Prop :=
  ∀ J5 : Bool → Prop, (∀ (x4 : Bool),
    (Br x4 (
      R ((.iface 54 (.int .i64 1))) h) (
      ∀ X8 : Int → Heap → Prop, (∀ (i7 : Int) (h1 : Heap),
        (Ck f1 fun p9 =>
        LdS h1 (Addr.add p9 0) fun x11 =>
        Br (decide (i7 < ((x11.len : Int)))) (
          Ck f1 fun p13 =>
          LdS h1 (Addr.add p13 0) fun x15 =>
          Ix x15 i7 1 fun q21 =>
          LdI h1 q21 fun x23 =>
          Ix x15 i7 1 fun q29 =>
          St h1 q29 1 [(.int .i64 (w64 (x23 + x3)))] fun h2 =>
          X8 (w64 (i7 + (bAnd .i64 i7 (w64 (0 - i7))))) h2) (
          R .nilIface h1)) →
        X8 i7 h1) →
      X8 (w64 (i2 + 1)) h)) →
    J5 x4) →
  Br (decide (i2 < 0)) (
    J5 true) (
    Ck f1 fun p36 =>
    LdS h (Addr.add p36 0) fun x38 =>
    Br (decide ((w64 (((x38.len : Int)) - 1)) ≤ i2)) (
      J5 true) (
      Br (decide (x3 < 0)) (
        J5 true) (
        J5 (decide (1073741824 < x3)))))

set_option maxRecDepth 100000 in
theorem fen_Fen_Add_of {r : World} {f1 : Option Addr} {i2 : Int} {x3 : Int} {h : Heap} {R : Value → Heap → Prop} (H : fen_Fen_Add_F r f1 i2 x3 h R) : fen_Fen_Add r f1 i2 x3 h R := by
  unfold fen_Fen_Add_F at H
  refine calls_of 53 [.tmp 6] Try.func19 rfl rfl rfl rfl rfl ?_
  refine W_seq ?_
  refine W_region (.pu 0 .fin) rfl rfl ?_
  refine s_pu (d := some 6) (v := .nilIface) rfl rfl rfl (r_assign rfl) ?_
  refine s_fin ?_
  show W _ _ _ _ _ _ _ _
  refine W_seq ?_
  refine W_seq ?_
  refine W_set ?_
  intro N6 eN6
  have H := H (fun (x4 : Bool) => ∀ b, N6 [] (mkE [(0, (.pointer f1)), (1, (.int .i64 i2)), (2, (.int .i64 x3)), (26, (.bool x4))] b) h) (by
    intro x4 H b
    rw [eN6]
    show W _ _ _ _ _ _ _ _
    refine W_if x4 rfl (fun g34 => ?_) (fun g34 => ?_)
    · have H := H.1 g34
      refine W_seq ?_
      refine W_region (.pu 0 (.pu 1 .fin)) rfl rfl ?_
      refine s_pu (d := some 27) (v := ((.iface 54 (.int .i64 1)))) rfl rfl rfl (r_iface Try.underlying54 rfl rfl) ?_
      refine s_pu (d := some 6) (v := ((.iface 54 (.int .i64 1)))) rfl rfl rfl (r_assign rfl) ?_
      refine s_fin ?_
      show W _ _ _ _ _ _ _ _
      refine W_ret ?_
      exact ⟨[((.iface 54 (.int .i64 1)))], ⟨_, _, rfl, rfl, rfl⟩, H⟩
    · have H := H.2 g34
      refine W_skip ?_
      show W _ _ _ _ _ _ _ _
      refine W_seq ?_
      refine W_seq ?_
      refine W_region (.pu 0 (.pu 1 (.pu 2 .fin))) rfl rfl ?_
      refine s_pu (d := some 28) (v := (.int .i64 i2)) rfl rfl rfl (r_move rfl) ?_
      refine s_pu (d := some 29) (v := (.int .i64 (w64 (i2 + 1)))) rfl rfl rfl (r_add rfl rfl) ?_
      refine s_pu (d := some 1) (v := (.int .i64 (w64 (i2 + 1)))) rfl rfl rfl (r_assign rfl) ?_
      refine s_fin ?_
      show W _ _ _ _ _ _ _ _
      refine W_block ?_
      refine W_loop (WL_mk (l := [(0, (.pointer f1)), (1, (.int .i64 (w64 (i2 + 1)))), (2, (.int .i64 x3))]) ?_ ⟨rfl, rfl, rfl, trivial⟩)
      refine H (fun (i7 : Int) (h1 : Heap) => ∀ b, WL _ _ _ _ _ _ (mkE [(0, (.pointer f1)), (1, (.int .i64 i7)), (2, (.int .i64 x3))] b) h1) ?_
      intro i7 h1 H b
      refine WL_round ?_
      refine W_seq ?_
      refine W_seq ?_
      refine W_region (.pu 0 (.pu 1 (.pu 2 (.pu 3 (.rl 4 (.pu 5 (.pu 6 .fin))))))) rfl rfl ?_
      refine s_pu (d := some 30) (v := (.int .i64 i7)) rfl rfl rfl (r_move rfl) ?_
      refine s_pu (d := some 31) (v := (.pointer f1)) rfl rfl rfl (r_move rfl) ?_
      obtain ⟨p9, e10, H⟩ := H
      refine s_pu (d := some 32) (v := (.pointer (some p9))) rfl rfl rfl (r_nilCheck rfl e10) ?_
      refine s_pu (d := some 33) (v := (.pointer (some (Addr.add p9 0)))) rfl rfl rfl (r_fieldAddr Try.underlying56 Try.sizeOf22 rfl rfl rfl) ?_
      obtain ⟨x11, e12, H⟩ := H
      refine s_rl (d := some 34) (v := (Sl.v x11)) rfl rfl rfl (fun dr => r_load1 Try.isAgg22 rfl e12) ?_
      refine s_pu (d := some 35) (v := (.int .i64 ((x11.len : Int)))) rfl rfl rfl (r_len Try.underlying22 rfl) ?_
      refine s_pu (d := some 36) (v := (.bool (decide (i7 < ((x11.len : Int)))))) rfl rfl rfl (r_lss rfl rfl) ?_
      refine s_fin ?_
      show W _ _ _ _ _ _ _ _
      refine W_if (decide (i7 < ((x11.len : Int)))) rfl (fun g33 => ?_) (fun g33 => ?_)
      · have H := H.1 g33
        refine W_skip ?_
        show W _ _ _ _ _ _ _ _
        refine W_seq ?_
        refine W_block ?_
        refine W_region (.pu 0 (.pu 1 (.pu 2 (.rl 3 (.pu 4 (.pu 5 (.rl 6 (.pu 7 (.pu 8 (.pu 9 (.ef 10 [] .fin .no))))))))))) rfl rfl ?_
        refine s_pu (d := some 43) (v := (.pointer f1)) rfl rfl rfl (r_move rfl) ?_
        obtain ⟨p13, e14, H⟩ := H
        refine s_pu (d := some 44) (v := (.pointer (some p13))) rfl rfl rfl (r_nilCheck rfl e14) ?_
        refine s_pu (d := some 45) (v := (.pointer (some (Addr.add p13 0)))) rfl rfl rfl (r_fieldAddr Try.underlying56 Try.sizeOf22 rfl rfl rfl) ?_
        obtain ⟨x15, e16, H⟩ := H
        refine s_rl (d := some 46) (v := (Sl.v x15)) rfl rfl rfl (fun dr => r_load1 Try.isAgg22 rfl e16) ?_
        refine s_pu (d := some 47) (v := (.int .i64 i7)) rfl rfl rfl (r_move rfl) ?_
        obtain ⟨p17, e18, e19, e20, H⟩ := H
        obtain ⟨q21, e22⟩ : ∃ q : Addr, q = Addr.add p17 (Int.toNat i7 * 1) := ⟨_, rfl⟩
        rw [← e22] at H
        refine s_pu (d := some 48) (v := (.pointer (some q21))) rfl rfl rfl (fun w => (r_indexAddr Try.underlying22 Try.sizeOf3 rfl rfl e18 e19 e20 w).trans (by rw [e22])) ?_
        obtain ⟨x23, e24, H⟩ := H
        refine s_rl (d := some 49) (v := (.int .i64 x23)) rfl rfl rfl (fun dr => r_load1 Try.isAgg3 rfl e24) ?_
        refine s_pu (d := some 50) (v := (.int .i64 x3)) rfl rfl rfl (r_move rfl) ?_
        refine s_pu (d := some 51) (v := (.int .i64 (w64 (x23 + x3)))) rfl rfl rfl (r_add rfl rfl) ?_
        obtain ⟨p25, e26, e27, e28, H⟩ := H
        obtain ⟨q29, e30⟩ : ∃ q : Addr, q = Addr.add p25 (Int.toNat i7 * 1) := ⟨_, rfl⟩
        rw [← e30] at H
        refine s_pu (d := some 52) (v := (.pointer (some q29))) rfl rfl rfl (fun w => (r_indexAddr Try.underlying22 Try.sizeOf3 rfl rfl e26 e27 e28 w).trans (by rw [e30])) ?_
        obtain ⟨e32, H⟩ := H
        obtain ⟨h2, e31⟩ : ∃ hh : Heap, hh = hsets h1 q29 0 [(.int .i64 (w64 (x23 + x3)))] := ⟨_, rfl⟩
        have H := H h2 e31
        refine s_st (d := none) (h' := h2) rfl rfl rfl (fun dr => (r_store (v := (.int .i64 (w64 (x23 + x3)))) Try.sizeOf3 rfl rfl rfl (one_all rfl) e32).trans (by rw [e31]; rfl)) trivial ?_ trivial
        refine s_fin ?_
        show W _ _ _ _ _ _ _ _
        refine W_region (.pu 0 (.pu 1 (.pu 2 (.pu 3 (.pu 4 (.pu 5 (.pu 6 .fin))))))) rfl rfl ?_
        refine s_pu (d := some 37) (v := (.int .i64 i7)) rfl rfl rfl (r_move rfl) ?_
        refine s_pu (d := some 38) (v := (.int .i64 i7)) rfl rfl rfl (r_move rfl) ?_
        refine s_pu (d := some 39) (v := (.int .i64 i7)) rfl rfl rfl (r_move rfl) ?_
        refine s_pu (d := some 40) (v := (.int .i64 (w64 (0 - i7)))) rfl rfl rfl (r_neg rfl) ?_
        refine s_pu (d := some 41) (v := (.int .i64 (bAnd .i64 i7 (w64 (0 - i7))))) rfl rfl rfl (r_and rfl rfl) ?_
        refine s_pu (d := some 42) (v := (.int .i64 (w64 (i7 + (bAnd .i64 i7 (w64 (0 - i7))))))) rfl rfl rfl (r_add rfl rfl) ?_
        refine s_pu (d := some 1) (v := (.int .i64 (w64 (i7 + (bAnd .i64 i7 (w64 (0 - i7))))))) rfl rfl rfl (r_assign rfl) ?_
        refine s_fin ?_
        exact WL_mk (l := [(0, (.pointer f1)), (1, (.int .i64 (w64 (i7 + (bAnd .i64 i7 (w64 (0 - i7))))))), (2, (.int .i64 x3))]) H ⟨rfl, rfl, rfl, trivial⟩
      · have H := H.2 g33
        refine W_exit (inX_here ?_)
        show W _ _ _ _ _ _ _ _
        refine W_seq ?_
        refine W_region (.pu 0 .fin) rfl rfl ?_
        refine s_pu (d := some 6) (v := .nilIface) rfl rfl rfl (r_assign rfl) ?_
        refine s_fin ?_
        show W _ _ _ _ _ _ _ _
        refine W_ret ?_
        exact ⟨[.nilIface], ⟨_, _, rfl, rfl, rfl⟩, H⟩)
  clear eN6
  refine W_region (.pu 0 (.pu 1 (.pu 2 (.pu 3 (.pu 4 (.pu 5 (.pu 6 (.rl 7 (.pu 8 (.pu 9 (.pu 10 (.pu 11 (.pu 12 (.pu 13 (.pu 14 (.pu 15 (.pu 16 (.pu 17 (.pu 18 (.pu 19 .fin)))))))))))))))))))) rfl rfl ?_
  refine s_pu (d := some 7) (v := (.int .i64 i2)) rfl rfl rfl (r_move rfl) ?_
  refine s_pu (d := some 8) (v := (.bool (decide (i2 < 0)))) rfl rfl rfl (r_lss rfl rfl) ?_
  refine s_pu (d := some 9) (v := (.bool (decide (i2 < 0)))) rfl rfl rfl (r_move rfl) ?_
  rcases Bool.eq_false_or_eq_true (decide (i2 < 0)) with g35 | g35
  · have H := H.1 g35
    refine s_sk (d := some 10) rfl rfl (wants_no rfl rfl rfl rfl g35) ?_
    refine s_sk (d := some 11) rfl rfl (wants_no rfl rfl rfl rfl g35) ?_
    refine s_sk (d := some 12) rfl rfl (wants_no rfl rfl rfl rfl g35) ?_
    refine s_sk (d := some 13) rfl rfl (wants_no rfl rfl rfl rfl g35) ?_
    refine s_skl (d := some 14) rfl rfl (wants_no rfl rfl rfl rfl g35) ?_
    refine s_sk (d := some 15) rfl rfl (wants_no rfl rfl rfl rfl g35) ?_
    refine s_sk (d := some 16) rfl rfl (wants_no rfl rfl rfl rfl g35) ?_
    refine s_sk (d := some 17) rfl rfl (wants_no rfl rfl rfl rfl g35) ?_
    refine s_pu (d := some 18) (v := (.bool true)) rfl rfl rfl (r_pick1 rfl g35 rfl) ?_
    refine s_pu (d := some 19) (v := (.bool true)) rfl rfl rfl (r_move rfl) ?_
    refine s_sk (d := some 20) rfl rfl (wants_no rfl rfl rfl rfl rfl) ?_
    refine s_sk (d := some 21) rfl rfl (wants_no rfl rfl rfl rfl rfl) ?_
    refine s_pu (d := some 22) (v := (.bool true)) rfl rfl rfl (r_pick1 rfl rfl rfl) ?_
    refine s_pu (d := some 23) (v := (.bool true)) rfl rfl rfl (r_move rfl) ?_
    refine s_sk (d := some 24) rfl rfl (wants_no rfl rfl rfl rfl rfl) ?_
    refine s_sk (d := some 25) rfl rfl (wants_no rfl rfl rfl rfl rfl) ?_
    refine s_pu (d := some 26) (v := (.bool true)) rfl rfl rfl (r_pick1 rfl rfl rfl) ?_
    refine s_fin ?_
    exact N_mk (l := [(0, (.pointer f1)), (1, (.int .i64 i2)), (2, (.int .i64 x3)), (26, (.bool true))]) H ⟨rfl, rfl, rfl, rfl, trivial⟩
  · have H := H.2 g35
    refine s_pu (d := some 10) (v := (.int .i64 i2)) rfl rfl (wants_yes rfl rfl rfl rfl g35) (r_move rfl) ?_
    refine s_pu (d := some 11) (v := (.pointer f1)) rfl rfl (wants_yes rfl rfl rfl rfl g35) (r_move rfl) ?_
    obtain ⟨p36, e37, H⟩ := H
    refine s_pu (d := some 12) (v := (.pointer (some p36))) rfl rfl (wants_yes rfl rfl rfl rfl g35) (r_nilCheck rfl e37) ?_
    refine s_pu (d := some 13) (v := (.pointer (some (Addr.add p36 0)))) rfl rfl (wants_yes rfl rfl rfl rfl g35) (r_fieldAddr Try.underlying56 Try.sizeOf22 rfl rfl rfl) ?_
    obtain ⟨x38, e39, H⟩ := H
    refine s_rl (d := some 14) (v := (Sl.v x38)) rfl rfl (wants_yes rfl rfl rfl rfl g35) (fun dr => r_load1 Try.isAgg22 rfl e39) ?_
    refine s_pu (d := some 15) (v := (.int .i64 ((x38.len : Int)))) rfl rfl (wants_yes rfl rfl rfl rfl g35) (r_len Try.underlying22 rfl) ?_
    refine s_pu (d := some 16) (v := (.int .i64 (w64 (((x38.len : Int)) - 1)))) rfl rfl (wants_yes rfl rfl rfl rfl g35) (r_sub rfl rfl) ?_
    refine s_pu (d := some 17) (v := (.bool (decide ((w64 (((x38.len : Int)) - 1)) ≤ i2)))) rfl rfl (wants_yes rfl rfl rfl rfl g35) (r_geq rfl rfl) ?_
    refine s_pu (d := some 18) (v := (.bool (decide ((w64 (((x38.len : Int)) - 1)) ≤ i2)))) rfl rfl rfl (r_pick0 rfl g35 rfl) ?_
    refine s_pu (d := some 19) (v := (.bool (decide ((w64 (((x38.len : Int)) - 1)) ≤ i2)))) rfl rfl rfl (r_move rfl) ?_
    rcases Bool.eq_false_or_eq_true (decide ((w64 (((x38.len : Int)) - 1)) ≤ i2)) with g40 | g40
    · have H := H.1 g40
      refine s_sk (d := some 20) rfl rfl (wants_no rfl rfl rfl rfl g40) ?_
      refine s_sk (d := some 21) rfl rfl (wants_no rfl rfl rfl rfl g40) ?_
      refine s_pu (d := some 22) (v := (.bool true)) rfl rfl rfl (r_pick1 rfl g40 rfl) ?_
      refine s_pu (d := some 23) (v := (.bool true)) rfl rfl rfl (r_move rfl) ?_
      refine s_sk (d := some 24) rfl rfl (wants_no rfl rfl rfl rfl rfl) ?_
      refine s_sk (d := some 25) rfl rfl (wants_no rfl rfl rfl rfl rfl) ?_
      refine s_pu (d := some 26) (v := (.bool true)) rfl rfl rfl (r_pick1 rfl rfl rfl) ?_
      refine s_fin ?_
      exact N_mk (l := [(0, (.pointer f1)), (1, (.int .i64 i2)), (2, (.int .i64 x3)), (26, (.bool true))]) H ⟨rfl, rfl, rfl, rfl, trivial⟩
    · have H := H.2 g40
      refine s_pu (d := some 20) (v := (.int .i64 x3)) rfl rfl (wants_yes rfl rfl rfl rfl g40) (r_move rfl) ?_
      refine s_pu (d := some 21) (v := (.bool (decide (x3 < 0)))) rfl rfl (wants_yes rfl rfl rfl rfl g40) (r_lss rfl rfl) ?_
      refine s_pu (d := some 22) (v := (.bool (decide (x3 < 0)))) rfl rfl rfl (r_pick0 rfl g40 rfl) ?_
      refine s_pu (d := some 23) (v := (.bool (decide (x3 < 0)))) rfl rfl rfl (r_move rfl) ?_
      rcases Bool.eq_false_or_eq_true (decide (x3 < 0)) with g41 | g41
      · have H := H.1 g41
        refine s_sk (d := some 24) rfl rfl (wants_no rfl rfl rfl rfl g41) ?_
        refine s_sk (d := some 25) rfl rfl (wants_no rfl rfl rfl rfl g41) ?_
        refine s_pu (d := some 26) (v := (.bool true)) rfl rfl rfl (r_pick1 rfl g41 rfl) ?_
        refine s_fin ?_
        exact N_mk (l := [(0, (.pointer f1)), (1, (.int .i64 i2)), (2, (.int .i64 x3)), (26, (.bool true))]) H ⟨rfl, rfl, rfl, rfl, trivial⟩
      · have H := H.2 g41
        refine s_pu (d := some 24) (v := (.int .i64 x3)) rfl rfl (wants_yes rfl rfl rfl rfl g41) (r_move rfl) ?_
        refine s_pu (d := some 25) (v := (.bool (decide (1073741824 < x3)))) rfl rfl (wants_yes rfl rfl rfl rfl g41) (r_gtr rfl rfl) ?_
        refine s_pu (d := some 26) (v := (.bool (decide (1073741824 < x3)))) rfl rfl rfl (r_pick0 rfl g41 rfl) ?_
        refine s_fin ?_
        exact N_mk (l := [(0, (.pointer f1)), (1, (.int .i64 i2)), (2, (.int .i64 x3)), (26, (.bool (decide (1073741824 < x3))))]) H ⟨rfl, rfl, rfl, rfl, trivial⟩

/-! ### fen_Fen_Sum -/

def fen_Fen_Sum_F (r : World) (f1 : Option Addr) (i2 : Int) (h : Heap) (R : Int → Value → Heap → Prop) : Prop :=
  ∀ J4 : Bool → Prop, (∀ (x3 : Bool),
    (Br x3 (
      R 0 ((.iface 54 (.int .i64 1))) h) (
      ∀ X8 : Int → Int → Prop, (∀ (i6 : Int) (n7 : Int),
        (Br (decide (0 < i6)) (
          Ck f1 fun p9 =>
          LdS h (Addr.add p9 0) fun x11 =>
          Ix x11 i6 1 fun q17 =>
          LdI h q17 fun x19 =>
          X8 (bAnd .i64 i6 (w64 (i6 - 1))) (w64 (n7 + x19))) (
          R n7 .nilIface h)) →
        X8 i6 n7) →
      X8 i2 0)) →
    J4 x3) →
  Br (decide (i2 < 0)) (
    J4 true) (
    Ck f1 fun p24 =>
    LdS h (Addr.add p24 0) fun x26 =>
    J4 (decide (((x26.len : Int)) ≤ i2)))

set_option maxRecDepth 100000 in
theorem fen_Fen_Sum_of {r : World} {f1 : Option Addr} {i2 : Int} {h : Heap} {R : Int → Value → Heap → Prop} (H : fen_Fen_Sum_F r f1 i2 h R) : fen_Fen_Sum r f1 i2 h R := by
  unfold fen_Fen_Sum_F at H
  refine calls_of 35 [.tmp 4, .tmp 5] Try.func20 rfl rfl rfl rfl rfl ?_
  refine W_seq ?_
  refine W_region (.pu 0 (.pu 1 .fin)) rfl rfl ?_
  refine s_pu (d := some 4) (v := (.int .i64 0)) rfl rfl rfl (r_assign rfl) ?_
  refine s_pu (d := some 5) (v := .nilIface) rfl rfl rfl (r_assign rfl) ?_
  refine s_fin ?_
  show W _ _ _ _ _ _ _ _
  refine W_seq ?_
  refine W_seq ?_
  refine W_set ?_
  intro N5 eN5
  have H := H (fun (x3 : Bool) => ∀ b, N5 [] (mkE [(0, (.pointer f1)), (1, (.int .i64 i2)), (17, (.bool x3))] b) h) (by
    intro x3 H b
    rw [eN5]
    show W _ _ _ _ _ _ _ _
    refine W_if x3 rfl (fun g22 => ?_) (fun g22 => ?_)
    · have H := H.1 g22
      refine W_seq ?_
      refine W_region (.pu 0 (.pu 1 (.pu 2 .fin))) rfl rfl ?_
      refine s_pu (d := some 18) (v := ((.iface 54 (.int .i64 1)))) rfl rfl rfl (r_iface Try.underlying54 rfl rfl) ?_
      refine s_pu (d := some 4) (v := (.int .i64 0)) rfl rfl rfl (r_assign rfl) ?_
      refine s_pu (d := some 5) (v := ((.iface 54 (.int .i64 1)))) rfl rfl rfl (r_assign rfl) ?_
      refine s_fin ?_
      show W _ _ _ _ _ _ _ _
      refine W_ret ?_
      exact ⟨[(.int .i64 0), ((.iface 54 (.int .i64 1)))], ⟨_, _, rfl, rfl, ⟨_, _, rfl, rfl, rfl⟩⟩, 0, ((.iface 54 (.int .i64 1))), rfl, H⟩
    · have H := H.2 g22
      refine W_skip ?_
      show W _ _ _ _ _ _ _ _
      refine W_seq ?_
      refine W_region (.pu 0 .fin) rfl rfl ?_
      refine s_pu (d := some 6) (v := (.int .i64 0)) rfl rfl rfl (r_assign rfl) ?_
      refine s_fin ?_
      show W _ _ _ _ _ _ _ _
      refine W_seq ?_
      refine W_block ?_
      refine W_loop (WL_mk (l := [(0, (.pointer f1)), (1, (.int .i64 i2)), (6, (.int .i64 0))]) ?_ ⟨rfl, rfl, rfl, trivial⟩)
      refine H (fun (i6 : Int) (n7 : Int) => ∀ b, WL _ _ _ _ _ _ (mkE [(0, (.pointer f1)), (1, (.int .i64 i6)), (6, (.int .i64 n7))] b) h) ?_
      intro i6 n7 H b
      refine WL_round ?_
      refine W_seq ?_
      refine W_seq ?_
      refine W_region (.pu 0 (.pu 1 .fin)) rfl rfl ?_
      refine s_pu (d := some 19) (v := (.int .i64 i6)) rfl rfl rfl (r_move rfl) ?_
      refine s_pu (d := some 20) (v := (.bool (decide (0 < i6)))) rfl rfl rfl (r_gtr rfl rfl) ?_
      refine s_fin ?_
      show W _ _ _ _ _ _ _ _
      refine W_if (decide (0 < i6)) rfl (fun g21 => ?_) (fun g21 => ?_)
      · have H := H.1 g21
        refine W_skip ?_
        show W _ _ _ _ _ _ _ _
        refine W_seq ?_
        refine W_block ?_
        refine W_region (.pu 0 (.pu 1 (.pu 2 (.pu 3 (.rl 4 (.pu 5 (.pu 6 (.rl 7 (.pu 8 (.pu 9 .fin)))))))))) rfl rfl ?_
        refine s_pu (d := some 25) (v := (.int .i64 n7)) rfl rfl rfl (r_move rfl) ?_
        refine s_pu (d := some 26) (v := (.pointer f1)) rfl rfl rfl (r_move rfl) ?_
        obtain ⟨p9, e10, H⟩ := H
        refine s_pu (d := some 27) (v := (.pointer (some p9))) rfl rfl rfl (r_nilCheck rfl e10) ?_
        refine s_pu (d := some 28) (v := (.pointer (some (Addr.add p9 0)))) rfl rfl rfl (r_fieldAddr Try.underlying56 Try.sizeOf22 rfl rfl rfl) ?_
        obtain ⟨x11, e12, H⟩ := H
        refine s_rl (d := some 29) (v := (Sl.v x11)) rfl rfl rfl (fun dr => r_load1 Try.isAgg22 rfl e12) ?_
        refine s_pu (d := some 30) (v := (.int .i64 i6)) rfl rfl rfl (r_move rfl) ?_
        obtain ⟨p13, e14, e15, e16, H⟩ := H
        obtain ⟨q17, e18⟩ : ∃ q : Addr, q = Addr.add p13 (Int.toNat i6 * 1) := ⟨_, rfl⟩
        rw [← e18] at H
        refine s_pu (d := some 31) (v := (.pointer (some q17))) rfl rfl rfl (fun w => (r_indexAddr Try.underlying22 Try.sizeOf3 rfl rfl e14 e15 e16 w).trans (by rw [e18])) ?_
        obtain ⟨x19, e20, H⟩ := H
        refine s_rl (d := some 32) (v := (.int .i64 x19)) rfl rfl rfl (fun dr => r_load1 Try.isAgg3 rfl e20) ?_
        refine s_pu (d := some 33) (v := (.int .i64 (w64 (n7 + x19)))) rfl rfl rfl (r_add rfl rfl) ?_
        refine s_pu (d := some 6) (v := (.int .i64 (w64 (n7 + x19)))) rfl rfl rfl (r_assign rfl) ?_
        refine s_fin ?_
        show W _ _ _ _ _ _ _ _
        refine W_region (.pu 0 (.pu 1 (.pu 2 (.pu 3 (.pu 4 .fin))))) rfl rfl ?_
        refine s_pu (d := some 21) (v := (.int .i64 i6)) rfl rfl rfl (r_move rfl) ?_
        refine s_pu (d := some 22) (v := (.int .i64 i6)) rfl rfl rfl (r_move rfl) ?_
        refine s_pu (d := some 23) (v := (.int .i64 (w64 (i6 - 1)))) rfl rfl rfl (r_sub rfl rfl) ?_
        refine s_pu (d := some 24) (v := (.int .i64 (bAnd .i64 i6 (w64 (i6 - 1))))) rfl rfl rfl (r_and rfl rfl) ?_
        refine s_pu (d := some 1) (v := (.int .i64 (bAnd .i64 i6 (w64 (i6 - 1))))) rfl rfl rfl (r_assign rfl) ?_
        refine s_fin ?_
        exact WL_mk (l := [(0, (.pointer f1)), (1, (.int .i64 (bAnd .i64 i6 (w64 (i6 - 1))))), (6, (.int .i64 (w64 (n7 + x19))))]) H ⟨rfl, rfl, rfl, trivial⟩
      · have H := H.2 g21
        refine W_exit (inX_here ?_)
        show W _ _ _ _ _ _ _ _
        refine W_seq ?_
        refine W_region (.pu 0 (.pu 1 (.pu 2 .fin))) rfl rfl ?_
        refine s_pu (d := some 34) (v := (.int .i64 n7)) rfl rfl rfl (r_move rfl) ?_
        refine s_pu (d := some 4) (v := (.int .i64 n7)) rfl rfl rfl (r_assign rfl) ?_
        refine s_pu (d := some 5) (v := .nilIface) rfl rfl rfl (r_assign rfl) ?_
        refine s_fin ?_
        show W _ _ _ _ _ _ _ _
        refine W_ret ?_
        exact ⟨[(.int .i64 n7), .nilIface], ⟨_, _, rfl, rfl, ⟨_, _, rfl, rfl, rfl⟩⟩, n7, .nilIface, rfl, H⟩)
  clear eN5
  refine W_region (.pu 0 (.pu 1 (.pu 2 (.pu 3 (.pu 4 (.pu 5 (.pu 6 (.rl 7 (.pu 8 (.pu 9 (.pu 10 .fin))))))))))) rfl rfl ?_
  refine s_pu (d := some 7) (v := (.int .i64 i2)) rfl rfl rfl (r_move rfl) ?_
  refine s_pu (d := some 8) (v := (.bool (decide (i2 < 0)))) rfl rfl rfl (r_lss rfl rfl) ?_
  refine s_pu (d := some 9) (v := (.bool (decide (i2 < 0)))) rfl rfl rfl (r_move rfl) ?_
  rcases Bool.eq_false_or_eq_true (decide (i2 < 0)) with g23 | g23
  · have H := H.1 g23
    refine s_sk (d := some 10) rfl rfl (wants_no rfl rfl rfl rfl g23) ?_
    refine s_sk (d := some 11) rfl rfl (wants_no rfl rfl rfl rfl g23) ?_
    refine s_sk (d := some 12) rfl rfl (wants_no rfl rfl rfl rfl g23) ?_
    refine s_sk (d := some 13) rfl rfl (wants_no rfl rfl rfl rfl g23) ?_
    refine s_skl (d := some 14) rfl rfl (wants_no rfl rfl rfl rfl g23) ?_
    refine s_sk (d := some 15) rfl rfl (wants_no rfl rfl rfl rfl g23) ?_
    refine s_sk (d := some 16) rfl rfl (wants_no rfl rfl rfl rfl g23) ?_
    refine s_pu (d := some 17) (v := (.bool true)) rfl rfl rfl (r_pick1 rfl g23 rfl) ?_
    refine s_fin ?_
    exact N_mk (l := [(0, (.pointer f1)), (1, (.int .i64 i2)), (17, (.bool true))]) H ⟨rfl, rfl, rfl, trivial⟩
  · have H := H.2 g23
    refine s_pu (d := some 10) (v := (.int .i64 i2)) rfl rfl (wants_yes rfl rfl rfl rfl g23) (r_move rfl) ?_
    refine s_pu (d := some 11) (v := (.pointer f1)) rfl rfl (wants_yes rfl rfl rfl rfl g23) (r_move rfl) ?_
    obtain ⟨p24, e25, H⟩ := H
    refine s_pu (d := some 12) (v := (.pointer (some p24))) rfl rfl (wants_yes rfl rfl rfl rfl g23) (r_nilCheck rfl e25) ?_
    refine s_pu (d := some 13) (v := (.pointer (some (Addr.add p24 0)))) rfl rfl (wants_yes rfl rfl rfl rfl g23) (r_fieldAddr Try.underlying56 Try.sizeOf22 rfl rfl rfl) ?_
    obtain ⟨x26, e27, H⟩ := H
    refine s_rl (d := some 14) (v := (Sl.v x26)) rfl rfl (wants_yes rfl rfl rfl rfl g23) (fun dr => r_load1 Try.isAgg22 rfl e27) ?_
    refine s_pu (d := some 15) (v := (.int .i64 ((x26.len : Int)))) rfl rfl (wants_yes rfl rfl rfl rfl g23) (r_len Try.underlying22 rfl) ?_
    refine s_pu (d := some 16) (v := (.bool (decide (((x26.len : Int)) ≤ i2)))) rfl rfl (wants_yes rfl rfl rfl rfl g23) (r_geq rfl rfl) ?_
    refine s_pu (d := some 17) (v := (.bool (decide (((x26.len : Int)) ≤ i2)))) rfl rfl rfl (r_pick0 rfl g23 rfl) ?_
    refine s_fin ?_
    exact N_mk (l := [(0, (.pointer f1)), (1, (.int .i64 i2)), (17, (.bool (decide (((x26.len : Int)) ≤ i2))))]) H ⟨rfl, rfl, rfl, trivial⟩

/-! ### fen_Fen_Find -/

def fen_Fen_Find_F (r : World) (f1 : Option Addr) (k2 : Int) (h : Heap) (R : Int → Value → Heap → Prop) : Prop :=
  Br (decide (k2 ≤ 0)) (
    R 0 .nilIface h) (
    Ck f1 fun p3 =>
    LdS h (Addr.add p3 0) fun x5 =>
    math_bits_Len r (IntKind.wrap .u64 ((x5.len : Int))) h fun y7 h1 =>
    (0 ≤ y7) ∧
    ∀ X12 : Int → Int → Int → Prop, (∀ (k9 : Int) (va10 : Int) (step11 : Int),
      (Br (decide (0 < step11)) (
        ∀ J15 : Int → Int → Prop, (∀ (k13 : Int) (va14 : Int),
          (X12 k13 va14 (sShr .i64 step11 1)) →
          J15 k13 va14) →
        ∀ J18 : Bool → Prop, (∀ (x17 : Bool),
          (Br x17 (
            Ck f1 fun p20 =>
            LdS h1 (Addr.add p20 0) fun x22 =>
            Ix x22 (w64 (va10 + step11)) 1 fun q28 =>
            LdI h1 q28 fun x30 =>
            J15 (w64 (k9 - x30)) (w64 (va10 + step11))) (
            J15 k9 va10)) →
          J18 x17) →
        Ck f1 fun p33 =>
        LdS h1 (Addr.add p33 0) fun x35 =>
        Br (decide ((w64 (va10 + step11)) < ((x35.len : Int)))) (
          Ck f1 fun p38 =>
          LdS h1 (Addr.add p38 0) fun x40 =>
          Ix x40 (w64 (va10 + step11)) 1 fun q46 =>
          LdI h1 q46 fun x48 =>
          J18 (decide (x48 < k9))) (
          J18 false)) (
        Ck f1 fun p50 =>
        LdS h1 (Addr.add p50 0) fun x52 =>
        Br (decide (va10 = (w64 (((x52.len : Int)) - 1)))) (
          R 0 ((.iface 54 (.int .i64 2))) h1) (
          R (w64 (va10 + 1)) .nilIface h1))) →
      X12 k9 va10 step11) →
    X12 k2 0 (sShl .i64 1 y7))

set_option maxRecDepth 100000 in
theorem fen_Fen_Find_of {r : World} {f1 : Option Addr} {k2 : Int} {h : Heap} {R : Int → Value → Heap → Prop} (H : fen_Fen_Find_F r f1 k2 h R) : fen_Fen_Find r f1 k2 h R := by
  unfold fen_Fen_Find_F at H
  refine calls_of 67 [.tmp 4, .tmp 5] Try.func21 rfl rfl rfl rfl rfl ?_
  refine W_seq ?_
  refine W_region (.pu 0 (.pu 1 .fin)) rfl rfl ?_
  refine s_pu (d := some 4) (v := (.int .i64 0)) rfl rfl rfl (r_assign rfl) ?_
  refine s_pu (d := some 5) (v := .nilIface) rfl rfl rfl (r_assign rfl) ?_
  refine s_fin ?_
  show W _ _ _ _ _ _ _ _
  refine W_seq ?_
  refine W_seq ?_
  refine W_region (.pu 0 (.pu 1 .fin)) rfl rfl ?_
  refine s_pu (d := some 8) (v := (.int .i64 k2)) rfl rfl rfl (r_move rfl) ?_
  refine s_pu (d := some 9) (v := (.bool (decide (k2 ≤ 0)))) rfl rfl rfl (r_leq rfl rfl) ?_
  refine s_fin ?_
  show W _ _ _ _ _ _ _ _
  refine W_if (decide (k2 ≤ 0)) rfl (fun g56 => ?_) (fun g56 => ?_)
  · have H := H.1 g56
    refine W_seq ?_
    refine W_region (.pu 0 (.pu 1 .fin)) rfl rfl ?_
    refine s_pu (d := some 4) (v := (.int .i64 0)) rfl rfl rfl (r_assign rfl) ?_
    refine s_pu (d := some 5) (v := .nilIface) rfl rfl rfl (r_assign rfl) ?_
    refine s_fin ?_
    show W _ _ _ _ _ _ _ _
    refine W_ret ?_
    exact ⟨[(.int .i64 0), .nilIface], ⟨_, _, rfl, rfl, ⟨_, _, rfl, rfl, rfl⟩⟩, 0, .nilIface, rfl, H⟩
  · have H := H.2 g56
    refine W_skip ?_
    show W _ _ _ _ _ _ _ _
    refine W_seq ?_
    refine W_region (.pu 0 .fin) rfl rfl ?_
    refine s_pu (d := some 6) (v := (.int .i64 0)) rfl rfl rfl (r_assign rfl) ?_
    refine s_fin ?_
    show W _ _ _ _ _ _ _ _
    refine W_seq ?_
    refine W_seq ?_
    refine W_region (.pu 0 (.pu 1 (.pu 2 (.rl 3 (.pu 4 (.pu 5 (.ef 6 [] (.pu 7 (.pu 8 .fin)) .no))))))) rfl rfl ?_
    refine s_pu (d := some 10) (v := (.pointer f1)) rfl rfl rfl (r_move rfl) ?_
    obtain ⟨p3, e4, H⟩ := H
    refine s_pu (d := some 11) (v := (.pointer (some p3))) rfl rfl rfl (r_nilCheck rfl e4) ?_
    refine s_pu (d := some 12) (v := (.pointer (some (Addr.add p3 0)))) rfl rfl rfl (r_fieldAddr Try.underlying56 Try.sizeOf22 rfl rfl rfl) ?_
    obtain ⟨x5, e6, H⟩ := H
    refine s_rl (d := some 13) (v := (Sl.v x5)) rfl rfl rfl (fun dr => r_load1 Try.isAgg22 rfl e6) ?_
    refine s_pu (d := some 14) (v := (.int .i64 ((x5.len : Int)))) rfl rfl rfl (r_len Try.underlying22 rfl) ?_
    refine s_pu (d := some 15) (v := (.int .u64 (IntKind.wrap .u64 ((x5.len : Int))))) rfl rfl rfl (r_conv Try.underlying3 Try.underlying58 rfl) ?_
    refine s_ef (d := some 16) rfl rfl rfl (fun dr => r_call Try.call33 rfl rfl H) ?_ trivial
    rintro _ h1 ⟨y7, rfl, H⟩
    refine ⟨trivial, ?_⟩
    obtain ⟨e8, H⟩ := H
    refine s_pu (d := some 17) (v := (.int .i64 (sShl .i64 1 y7))) rfl rfl rfl (r_shl rfl rfl e8) ?_
    refine s_pu (d := some 7) (v := (.int .i64 (sShl .i64 1 y7))) rfl rfl rfl (r_assign rfl) ?_
    refine s_fin ?_
    show W _ _ _ _ _ _ _ _
    refine W_block ?_
    refine W_loop (WL_mk (l := [(0, (.pointer f1)), (1, (.int .i64 k2)), (6, (.int .i64 0)), (7, (.int .i64 (sShl .i64 1 y7)))]) ?_ ⟨rfl, rfl, rfl, rfl, trivial⟩)
    refine H (fun (k9 : Int) (va10 : Int) (step11 : Int) => ∀ b, WL _ _ _ _ _ _ (mkE [(0, (.pointer f1)), (1, (.int .i64 k9)), (6, (.int .i64 va10)), (7, (.int .i64 step11))] b) h1) ?_
    intro k9 va10 step11 H b
    refine WL_round ?_
    refine W_seq ?_
    refine W_seq ?_
    refine W_region (.pu 0 (.pu 1 .fin)) rfl rfl ?_
    refine s_pu (d := some 18) (v := (.int .i64 step11)) rfl rfl rfl (r_move rfl) ?_
    refine s_pu (d := some 19) (v := (.bool (decide (0 < step11)))) rfl rfl rfl (r_gtr rfl rfl) ?_
    refine s_fin ?_
    show W _ _ _ _ _ _ _ _
    refine W_if (decide (0 < step11)) rfl (fun g55 => ?_) (fun g55 => ?_)
    · have H := H.1 g55
      refine W_skip ?_
      show W _ _ _ _ _ _ _ _
      refine W_seq ?_
      refine W_set ?_
      intro N16 eN16
      have H := H (fun (k13 : Int) (va14 : Int) => ∀ b, N16 [] (mkE [(0, (.pointer f1)), (1, (.int .i64 k13)), (6, (.int .i64 va14)), (7, (.int .i64 step11))] b) h1) (by
        intro k13 va14 H b
        rw [eN16]
        show W _ _ _ _ _ _ _ _
        refine W_region (.pu 0 (.pu 1 (.pu 2 .fin))) rfl rfl ?_
        refine s_pu (d := some 20) (v := (.int .i64 step11)) rfl rfl rfl (r_move rfl) ?_
        refine s_pu (d := some 21) (v := (.int .i64 (sShr .i64 step11 1))) rfl rfl rfl (r_shr rfl rfl (by decide)) ?_
        refine s_pu (d := some 7) (v := (.int .i64 (sShr .i64 step11 1))) rfl rfl rfl (r_assign rfl) ?_
        refine s_fin ?_
        exact WL_mk (l := [(0, (.pointer f1)), (1, (.int .i64 k13)), (6, (.int .i64 va14)), (7, (.int .i64 (sShr .i64 step11 1)))]) H ⟨rfl, rfl, rfl, rfl, trivial⟩)
      clear eN16
      refine W_block ?_
      refine W_seq ?_
      refine W_set ?_
      intro N19 eN19
      have H := H (fun (x17 : Bool) => ∀ b, N19 [] (mkE [(0, (.pointer f1)), (1, (.int .i64 k9)), (6, (.int .i64 va10)), (7, (.int .i64 step11)), (43, (.bool x17))] b) h1) (by
        intro x17 H b
        rw [eN19]
        show W _ _ _ _ _ _ _ _
        refine W_if x17 rfl (fun g32 => ?_) (fun g32 => ?_)
        · have H := H.1 g32
          refine W_seq ?_
          refine W_region (.pu 0 (.pu 1 (.pu 2 (.pu 3 .fin)))) rfl rfl ?_
          refine s_pu (d := some 44) (v := (.int .i64 va10)) rfl rfl rfl (r_move rfl) ?_
          refine s_pu (d := some 45) (v := (.int .i64 step11)) rfl rfl rfl (r_move rfl) ?_
          refine s_pu (d := some 46) (v := (.int .i64 (w64 (va10 + step11)))) rfl rfl rfl (r_add rfl rfl) ?_
          refine s_pu (d := some 6) (v := (.int .i64 (w64 (va10 + step11)))) rfl rfl rfl (r_assign rfl) ?_
          refine s_fin ?_
          show W _ _ _ _ _ _ _ _
          refine W_region (.pu 0 (.pu 1 (.pu 2 (.pu 3 (.rl 4 (.pu 5 (.pu 6 (.rl 7 (.pu 8 (.pu 9 .fin)))))))))) rfl rfl ?_
          refine s_pu (d := some 47) (v := (.int .i64 k9)) rfl rfl rfl (r_move rfl) ?_
          refine s_pu (d := some 48) (v := (.pointer f1)) rfl rfl rfl (r_move rfl) ?_
          obtain ⟨p20, e21, H⟩ := H
          refine s_pu (d := some 49) (v := (.pointer (some p20))) rfl rfl rfl (r_nilCheck rfl e21) ?_
          refine s_pu (d := some 50) (v := (.pointer (some (Addr.add p20 0)))) rfl rfl rfl (r_fieldAddr Try.underlying56 Try.sizeOf22 rfl rfl rfl) ?_
          obtain ⟨x22, e23, H⟩ := H
          refine s_rl (d := some 51) (v := (Sl.v x22)) rfl rfl rfl (fun dr => r_load1 Try.isAgg22 rfl e23) ?_
          refine s_pu (d := some 52) (v := (.int .i64 (w64 (va10 + step11)))) rfl rfl rfl (r_move rfl) ?_
          obtain ⟨p24, e25, e26, e27, H⟩ := H
          obtain ⟨q28, e29⟩ : ∃ q : Addr, q = Addr.add p24 (Int.toNat (w64 (va10 + step11)) * 1) := ⟨_, rfl⟩
          rw [← e29] at H
          refine s_pu (d := some 53) (v := (.pointer (some q28))) rfl rfl rfl (fun w => (r_indexAddr Try.underlying22 Try.sizeOf3 rfl rfl e25 e26 e27 w).trans (by rw [e29])) ?_
          obtain ⟨x30, e31, H⟩ := H
          refine s_rl (d := some 54) (v := (.int .i64 x30)) rfl rfl rfl (fun dr => r_load1 Try.isAgg3 rfl e31) ?_
          refine s_pu (d := some 55) (v := (.int .i64 (w64 (k9 - x30)))) rfl rfl rfl (r_sub rfl rfl) ?_
          refine s_pu (d := some 1) (v := (.int .i64 (w64 (k9 - x30)))) rfl rfl rfl (r_assign rfl) ?_
          refine s_fin ?_
          exact N_mk (l := [(0, (.pointer f1)), (1, (.int .i64 (w64 (k9 - x30)))), (6, (.int .i64 (w64 (va10 + step11)))), (7, (.int .i64 step11))]) H ⟨rfl, rfl, rfl, rfl, trivial⟩
        · have H := H.2 g32
          refine W_skip ?_
          exact N_mk (l := [(0, (.pointer f1)), (1, (.int .i64 k9)), (6, (.int .i64 va10)), (7, (.int .i64 step11))]) H ⟨rfl, rfl, rfl, rfl, trivial⟩)
      clear eN19
      refine W_region (.pu 0 (.pu 1 (.pu 2 (.pu 3 (.pu 4 (.pu 5 (.rl 6 (.pu 7 (.pu 8 (.pu 9 (.pu 10 (.pu 11 (.pu 12 (.rl 13 (.pu 14 (.pu 15 (.pu 16 (.pu 17 (.rl 18 (.pu 19 (.pu 20 (.pu 21 .fin)))))))))))))))))))))) rfl rfl ?_
      refine s_pu (d := some 22) (v := (.int .i64 va10)) rfl rfl rfl (r_move rfl) ?_
      refine s_pu (d := some 23) (v := (.int .i64 step11)) rfl rfl rfl (r_move rfl) ?_
      refine s_pu (d := some 24) (v := (.int .i64 (w64 (va10 + step11)))) rfl rfl rfl (r_add rfl rfl) ?_
      refine s_pu (d := some 25) (v := (.pointer f1)) rfl rfl rfl (r_move rfl) ?_
      obtain ⟨p33, e34, H⟩ := H
      refine s_pu (d := some 26) (v := (.pointer (some p33))) rfl rfl rfl (r_nilCheck rfl e34) ?_
      refine s_pu (d := some 27) (v := (.pointer (some (Addr.add p33 0)))) rfl rfl rfl (r_fieldAddr Try.underlying56 Try.sizeOf22 rfl rfl rfl) ?_
      obtain ⟨x35, e36, H⟩ := H
      refine s_rl (d := some 28) (v := (Sl.v x35)) rfl rfl rfl (fun dr => r_load1 Try.isAgg22 rfl e36) ?_
      refine s_pu (d := some 29) (v := (.int .i64 ((x35.len : Int)))) rfl rfl rfl (r_len Try.underlying22 rfl) ?_
      refine s_pu (d := some 30) (v := (.bool (decide ((w64 (va10 + step11)) < ((x35.len : Int)))))) rfl rfl rfl (r_lss rfl rfl) ?_
      refine s_pu (d := some 31) (v := (.bool (decide ((w64 (va10 + step11)) < ((x35.len : Int)))))) rfl rfl rfl (r_move rfl) ?_
      rcases Bool.eq_false_or_eq_true (decide ((w64 (va10 + step11)) < ((x35.len : Int)))) with g37 | g37
      · have H := H.1 g37
        refine s_pu (d := some 32) (v := (.pointer f1)) rfl rfl (wants_yes rfl rfl rfl rfl g37) (r_move rfl) ?_
        obtain ⟨p38, e39, H⟩ := H
        refine s_pu (d := some 33) (v := (.pointer (some p38))) rfl rfl (wants_yes rfl rfl rfl rfl g37) (r_nilCheck rfl e39) ?_
        refine s_pu (d := some 34) (v := (.pointer (some (Addr.add p38 0)))) rfl rfl (wants_yes rfl rfl rfl rfl g37) (r_fieldAddr Try.underlying56 Try.sizeOf22 rfl rfl rfl) ?_
        obtain ⟨x40, e41, H⟩ := H
        refine s_rl (d := some 35) (v := (Sl.v x40)) rfl rfl (wants_yes rfl rfl rfl rfl g37) (fun dr => r_load1 Try.isAgg22 rfl e41) ?_
        refine s_pu (d := some 36) (v := (.int .i64 va10)) rfl rfl (wants_yes rfl rfl rfl rfl g37) (r_move rfl) ?_
        refine s_pu (d := some 37) (v := (.int .i64 step11)) rfl rfl (wants_yes rfl rfl rfl rfl g37) (r_move rfl) ?_
        refine s_pu (d := some 38) (v := (.int .i64 (w64 (va10 + step11)))) rfl rfl (wants_yes rfl rfl rfl rfl g37) (r_add rfl rfl) ?_
        obtain ⟨p42, e43, e44, e45, H⟩ := H
        obtain ⟨q46, e47⟩ : ∃ q : Addr, q = Addr.add p42 (Int.toNat (w64 (va10 + step11)) * 1) := ⟨_, rfl⟩
        rw [← e47] at H
        refine s_pu (d := some 39) (v := (.pointer (some q46))) rfl rfl (wants_yes rfl rfl rfl rfl g37) (fun w => (r_indexAddr Try.underlying22 Try.sizeOf3 rfl rfl e43 e44 e45 w).trans (by rw [e47])) ?_
        obtain ⟨x48, e49, H⟩ := H
        refine s_rl (d := some 40) (v := (.int .i64 x48)) rfl rfl (wants_yes rfl rfl rfl rfl g37) (fun dr => r_load1 Try.isAgg3 rfl e49) ?_
        refine s_pu (d := some 41) (v := (.int .i64 k9)) rfl rfl (wants_yes rfl rfl rfl rfl g37) (r_move rfl) ?_
        refine s_pu (d := some 42) (v := (.bool (decide (x48 < k9)))) rfl rfl (wants_yes rfl rfl rfl rfl g37) (r_lss rfl rfl) ?_
        refine s_pu (d := some 43) (v := (.bool (decide (x48 < k9)))) rfl rfl rfl (r_pick1 rfl g37 rfl) ?_
        refine s_fin ?_
        exact N_mk (l := [(0, (.pointer f1)), (1, (.int .i64 k9)), (6, (.int .i64 va10)), (7, (.int .i64 step11)), (43, (.bool (decide (x48 < k9))))]) H ⟨rfl, rfl, rfl, rfl, rfl, trivial⟩
      · have H := H.2 g37
        refine s_sk (d := some 32) rfl rfl (wants_no rfl rfl rfl rfl g37) ?_
        refine s_sk (d := some 33) rfl rfl (wants_no rfl rfl rfl rfl g37) ?_
        refine s_sk (d := some 34) rfl rfl (wants_no rfl rfl rfl rfl g37) ?_
        refine s_skl (d := some 35) rfl rfl (wants_no rfl rfl rfl rfl g37) ?_
        refine s_sk (d := some 36) rfl rfl (wants_no rfl rfl rfl rfl g37) ?_
        refine s_sk (d := some 37) rfl rfl (wants_no rfl rfl rfl rfl g37) ?_
        refine s_sk (d := some 38) rfl rfl (wants_no rfl rfl rfl rfl g37) ?_
        refine s_sk (d := some 39) rfl rfl (wants_no rfl rfl rfl rfl g37) ?_
        refine s_skl (d := some 40) rfl rfl (wants_no rfl rfl rfl rfl g37) ?_
        refine s_sk (d := some 41) rfl rfl (wants_no rfl rfl rfl rfl g37) ?_
        refine s_sk (d := some 42) rfl rfl (wants_no rfl rfl rfl rfl g37) ?_
        refine s_pu (d := some 43) (v := (.bool false)) rfl rfl rfl (r_pick0 rfl g37 rfl) ?_
        refine s_fin ?_
        exact N_mk (l := [(0, (.pointer f1)), (1, (.int .i64 k9)), (6, (.int .i64 va10)), (7, (.int .i64 step11)), (43, (.bool false))]) H ⟨rfl, rfl, rfl, rfl, rfl, trivial⟩
    · have H := H.2 g55
      refine W_exit (inX_here ?_)
      show W _ _ _ _ _ _ _ _
      refine W_seq ?_
      refine W_seq ?_
      refine W_region (.pu 0 (.pu 1 (.pu 2 (.pu 3 (.rl 4 (.pu 5 (.pu 6 (.pu 7 .fin)))))))) rfl rfl ?_
      refine s_pu (d := some 56) (v := (.int .i64 va10)) rfl rfl rfl (r_move rfl) ?_
      refine s_pu (d := some 57) (v := (.pointer f1)) rfl rfl rfl (r_move rfl) ?_
      obtain ⟨p50, e51, H⟩ := H
      refine s_pu (d := some 58) (v := (.pointer (some p50))) rfl rfl rfl (r_nilCheck rfl e51) ?_
      refine s_pu (d := some 59) (v := (.pointer (some (Addr.add p50 0)))) rfl rfl rfl (r_fieldAddr Try.underlying56 Try.sizeOf22 rfl rfl rfl) ?_
      obtain ⟨x52, e53, H⟩ := H
      refine s_rl (d := some 60) (v := (Sl.v x52)) rfl rfl rfl (fun dr => r_load1 Try.isAgg22 rfl e53) ?_
      refine s_pu (d := some 61) (v := (.int .i64 ((x52.len : Int)))) rfl rfl rfl (r_len Try.underlying22 rfl) ?_
      refine s_pu (d := some 62) (v := (.int .i64 (w64 (((x52.len : Int)) - 1)))) rfl rfl rfl (r_sub rfl rfl) ?_
      refine s_pu (d := some 63) (v := (.bool (decide (va10 = (w64 (((x52.len : Int)) - 1)))))) rfl rfl rfl (r_eql rfl rfl) ?_
      refine s_fin ?_
      show W _ _ _ _ _ _ _ _
      refine W_if (decide (va10 = (w64 (((x52.len : Int)) - 1)))) rfl (fun g54 => ?_) (fun g54 => ?_)
      · have H := H.1 g54
        refine W_seq ?_
        refine W_region (.pu 0 (.pu 1 (.pu 2 .fin))) rfl rfl ?_
        refine s_pu (d := some 64) (v := ((.iface 54 (.int .i64 2)))) rfl rfl rfl (r_iface Try.underlying54 rfl rfl) ?_
        refine s_pu (d := some 4) (v := (.int .i64 0)) rfl rfl rfl (r_assign rfl) ?_
        refine s_pu (d := some 5) (v := ((.iface 54 (.int .i64 2)))) rfl rfl rfl (r_assign rfl) ?_
        refine s_fin ?_
        show W _ _ _ _ _ _ _ _
        refine W_ret ?_
        exact ⟨[(.int .i64 0), ((.iface 54 (.int .i64 2)))], ⟨_, _, rfl, rfl, ⟨_, _, rfl, rfl, rfl⟩⟩, 0, ((.iface 54 (.int .i64 2))), rfl, H⟩
      · have H := H.2 g54
        refine W_skip ?_
        show W _ _ _ _ _ _ _ _
        refine W_seq ?_
        refine W_region (.pu 0 (.pu 1 (.pu 2 (.pu 3 .fin)))) rfl rfl ?_
        refine s_pu (d := some 65) (v := (.int .i64 va10)) rfl rfl rfl (r_move rfl) ?_
        refine s_pu (d := some 66) (v := (.int .i64 (w64 (va10 + 1)))) rfl rfl rfl (r_add rfl rfl) ?_
        refine s_pu (d := some 4) (v := (.int .i64 (w64 (va10 + 1)))) rfl rfl rfl (r_assign rfl) ?_
        refine s_pu (d := some 5) (v := .nilIface) rfl rfl rfl (r_assign rfl) ?_
        refine s_fin ?_
        show W _ _ _ _ _ _ _ _
        refine W_ret ?_
        exact ⟨[(.int .i64 (w64 (va10 + 1))), .nilIface], ⟨_, _, rfl, rfl, ⟨_, _, rfl, rfl, rfl⟩⟩, (w64 (va10 + 1)), .nilIface, rfl, H⟩

/-! ### fen_Fen_Ints -/

def fen_Fen_Ints_F (r : World) (f1 : Option Addr) (h : Heap) (R : Sl → Heap → Prop) : Prop :=
  Ck f1 fun p2 =>
  LdS h (Addr.add p2 0) fun x4 =>
  ∀ X8 : Sl → Int → Heap → Prop, (∀ (out6 : Sl) (x7 : Int) (h1 : Heap),
    (Br (decide (x7 < (w64 (((x4.len : Int)) - 1)))) (
      fen_Fen_Sum r f1 x7 h1 fun y9 y10 h2 =>
      fen_Fen_Sum r f1 (w64 (x7 + 1)) h2 fun y11 y12 h3 =>
      New h3 (.cells #[(.int .i64 (w64 (y11 - y9)))] 3) fun p13 h4 =>
      App 3 1 8 (.int .i64 0) out6 ((⟨some p13, 1, 1⟩ : Sl)) h4 fun s16 h5 =>
      X8 s16 (w64 (x7 + 1)) h5) (
      R out6 h1)) →
    X8 out6 x7 h1) →
  X8 Sl.nil 0 h

set_option maxRecDepth 100000 in
theorem fen_Fen_Ints_of {r : World} {f1 : Option Addr} {h : Heap} {R : Sl → Heap → Prop} (H : fen_Fen_Ints_F r f1 h R) : fen_Fen_Ints r f1 h R := by
  unfold fen_Fen_Ints_F at H
  refine calls_of 39 [.tmp 2] Try.func23 rfl rfl rfl rfl rfl ?_
  refine W_seq ?_
  refine W_region (.pu 0 .fin) rfl rfl ?_
  refine s_pu (d := some 2) (v := (Sl.v Sl.nil)) rfl rfl rfl (r_assign rfl) ?_
  refine s_fin ?_
  show W _ _ _ _ _ _ _ _
  refine W_seq ?_
  refine W_region (.pu 0 .fin) rfl rfl ?_
  refine s_pu (d := some 3) (v := (Sl.v Sl.nil)) rfl rfl rfl (r_assign rfl) ?_
  refine s_fin ?_
  show W _ _ _ _ _ _ _ _
  refine W_seq ?_
  refine W_seq ?_
  refine W_region (.pu 0 (.pu 1 (.pu 2 (.rl 3 (.pu 4 (.pu 5 (.pu 6 .fin))))))) rfl rfl ?_
  refine s_pu (d := some 9) (v := (.pointer f1)) rfl rfl rfl (r_move rfl) ?_
  obtain ⟨p2, e3, H⟩ := H
  refine s_pu (d := some 10) (v := (.pointer (some p2))) rfl rfl rfl (r_nilCheck rfl e3) ?_
  refine s_pu (d := some 11) (v := (.pointer (some (Addr.add p2 0)))) rfl rfl rfl (r_fieldAddr Try.underlying56 Try.sizeOf22 rfl rfl rfl) ?_
  obtain ⟨x4, e5, H⟩ := H
  refine s_rl (d := some 12) (v := (Sl.v x4)) rfl rfl rfl (fun dr => r_load1 Try.isAgg22 rfl e5) ?_
  refine s_pu (d := some 13) (v := (.int .i64 ((x4.len : Int)))) rfl rfl rfl (r_len Try.underlying22 rfl) ?_
  refine s_pu (d := some 14) (v := (.int .i64 (w64 (((x4.len : Int)) - 1)))) rfl rfl rfl (r_sub rfl rfl) ?_
  refine s_pu (d := some 15) (v := (.int .i64 0)) rfl rfl rfl (r_move rfl) ?_
  refine s_fin ?_
  show W _ _ _ _ _ _ _ _
  refine W_block ?_
  refine W_loop (WL_mk (l := [(0, (.pointer f1)), (3, (Sl.v Sl.nil)), (14, (.int .i64 (w64 (((x4.len : Int)) - 1)))), (15, (.int .i64 0))]) ?_ ⟨rfl, rfl, rfl, rfl, trivial⟩)
  refine H (fun (out6 : Sl) (x7 : Int) (h1 : Heap) => ∀ b, WL _ _ _ _ _ _ (mkE [(0, (.pointer f1)), (3, (Sl.v out6)), (14, (.int .i64 (w64 (((x4.len : Int)) - 1)))), (15, (.int .i64 x7))] b) h1) ?_
  intro out6 x7 h1 H b
  refine WL_round ?_
  refine W_seq ?_
  refine W_region (.pu 0 .fin) rfl rfl ?_
  refine s_pu (d := some 16) (v := (.bool (decide (x7 < (w64 (((x4.len : Int)) - 1)))))) rfl rfl rfl (r_lss rfl rfl) ?_
  refine s_fin ?_
  show W _ _ _ _ _ _ _ _
  refine W_seq ?_
  refine W_if (decide (x7 < (w64 (((x4.len : Int)) - 1)))) rfl (fun g17 => ?_) (fun g17 => ?_)
  · have H := H.1 g17
    refine W_skip ?_
    show W _ _ _ _ _ _ _ _
    refine W_seq ?_
    refine W_block ?_
    refine W_seq ?_
    refine W_region (.pu 0 (.pu 1 .fin)) rfl rfl ?_
    refine s_pu (d := some 17) (v := (.int .i64 x7)) rfl rfl rfl (r_move rfl) ?_
    refine s_pu (d := some 4) (v := (.int .i64 x7)) rfl rfl rfl (r_assign rfl) ?_
    refine s_fin ?_
    show W _ _ _ _ _ _ _ _
    refine W_seq ?_
    refine W_region (.pu 0 (.pu 1 (.ef 2 [] (.pu 3 (.pu 4 (.pu 5 (.pu 6 (.pu 7 .fin))))) .no))) rfl rfl ?_
    refine s_pu (d := some 19) (v := (.pointer f1)) rfl rfl rfl (r_move rfl) ?_
    refine s_pu (d := some 20) (v := (.int .i64 x7)) rfl rfl rfl (r_move rfl) ?_
    refine s_ef (d := some 21) rfl rfl rfl (fun dr => r_call Try.call20 rfl rfl H) ?_ trivial
    rintro _ h2 ⟨y9, y10, rfl, H⟩
    refine ⟨trivial, ?_⟩
    refine s_pu (d := some 18) (v := (.tuple #[(.int .i64 y9), y10])) rfl rfl rfl (r_move rfl) ?_
    refine s_pu (d := some 22) (v := (.int .i64 y9)) rfl rfl rfl (r_extract rfl rfl) ?_
    refine s_pu (d := some 23) (v := y10) rfl rfl rfl (r_extract rfl rfl) ?_
    refine s_pu (d := some 5) (v := (.int .i64 y9)) rfl rfl rfl (r_assign rfl) ?_
    refine s_pu (d := some 6) (v := y10) rfl rfl rfl (r_assign rfl) ?_
    refine s_fin ?_
    show W _ _ _ _ _ _ _ _
    refine W_seq ?_
    refine W_region (.pu 0 (.pu 1 (.pu 2 (.ef 3 [] (.pu 4 (.pu 5 (.pu 6 (.pu 7 (.pu 8 .fin))))) .no)))) rfl rfl ?_
    refine s_pu (d := some 25) (v := (.pointer f1)) rfl rfl rfl (r_move rfl) ?_
    refine s_pu (d := some 26) (v := (.int .i64 x7)) rfl rfl rfl (r_move rfl) ?_
    refine s_pu (d := some 27) (v := (.int .i64 (w64 (x7 + 1)))) rfl rfl rfl (r_add rfl rfl) ?_
    refine s_ef (d := some 28) rfl rfl rfl (fun dr => r_call Try.call20 rfl rfl H) ?_ trivial
    rintro _ h3 ⟨y11, y12, rfl, H⟩
    refine ⟨trivial, ?_⟩
    refine s_pu (d := some 24) (v := (.tuple #[(.int .i64 y11), y12])) rfl rfl rfl (r_move rfl) ?_
    refine s_pu (d := some 29) (v := (.int .i64 y11)) rfl rfl rfl (r_extract rfl rfl) ?_
    refine s_pu (d := some 30) (v := y12) rfl rfl rfl (r_extract rfl rfl) ?_
    refine s_pu (d := some 7) (v := (.int .i64 y11)) rfl rfl rfl (r_assign rfl) ?_
    refine s_pu (d := some 8) (v := y12) rfl rfl rfl (r_assign rfl) ?_
    refine s_fin ?_
    show W _ _ _ _ _ _ _ _
    refine W_region (.pu 0 (.pu 1 (.pu 2 (.pu 3 (.ef 4 [] (.ef 5 [] (.pu 6 .fin) .no) .no))))) rfl rfl ?_
    refine s_pu (d := some 31) (v := (Sl.v out6)) rfl rfl rfl (r_move rfl) ?_
    refine s_pu (d := some 32) (v := (.int .i64 y11)) rfl rfl rfl (r_move rfl) ?_
    refine s_pu (d := some 33) (v := (.int .i64 y9)) rfl rfl rfl (r_move rfl) ?_
    refine s_pu (d := some 34) (v := (.int .i64 (w64 (y11 - y9)))) rfl rfl rfl (r_sub rfl rfl) ?_
    obtain ⟨p13, e14⟩ : ∃ p : Addr, p = ⟨h3.size, 0, none⟩ := ⟨_, rfl⟩
    obtain ⟨h4, e15⟩ : ∃ hh : Heap, hh = h3.push (.cells #[(.int .i64 (w64 (y11 - y9)))] 3) := ⟨_, rfl⟩
    have H := H p13 h4 e14 e15
    refine s_ef1 (d := some 35) (v := (Sl.v ((⟨some p13, 1, 1⟩ : Sl)))) (h' := h4) rfl rfl rfl (fun dr => (slFFen_22.build (cells := #[(.int .i64 (w64 (y11 - y9)))]) (by decide) rfl (by kernel_rfl)).trans (by rw [e14, e15]; rfl)) trivial ?_ trivial
    refine s_ef (d := some 36) rfl rfl rfl (fun dr => slFFen_22.append rfl rfl H) ?_ trivial
    rintro _ h5 ⟨s16, rfl, H⟩
    refine ⟨trivial, ?_⟩
    refine s_pu (d := some 3) (v := (Sl.v s16)) rfl rfl rfl (r_assign rfl) ?_
    refine s_fin ?_
    show W _ _ _ _ _ _ _ _
    refine W_region (.pu 0 (.pu 1 .fin)) rfl rfl ?_
    refine s_pu (d := some 37) (v := (.int .i64 (w64 (x7 + 1)))) rfl rfl rfl (r_add rfl rfl) ?_
    refine s_pu (d := some 15) (v := (.int .i64 (w64 (x7 + 1)))) rfl rfl rfl (r_move rfl) ?_
    refine s_fin ?_
    exact WL_mk (l := [(0, (.pointer f1)), (3, (Sl.v s16)), (14, (.int .i64 (w64 (((x4.len : Int)) - 1)))), (15, (.int .i64 (w64 (x7 + 1))))]) H ⟨rfl, rfl, rfl, rfl, trivial⟩
  · have H := H.2 g17
    refine W_exit (inX_here ?_)
    show W _ _ _ _ _ _ _ _
    refine W_seq ?_
    refine W_region (.pu 0 (.pu 1 .fin)) rfl rfl ?_
    refine s_pu (d := some 38) (v := (Sl.v out6)) rfl rfl rfl (r_move rfl) ?_
    refine s_pu (d := some 2) (v := (Sl.v out6)) rfl rfl rfl (r_assign rfl) ?_
    refine s_fin ?_
    show W _ _ _ _ _ _ _ _
    refine W_ret ?_
    exact ⟨[(Sl.v out6)], ⟨_, _, rfl, rfl, rfl⟩, out6, rfl, H⟩

/-! ### law5_fenned -/

def law5_fenned_F (r : World)  (h : Heap) (R : Bool → Heap → Prop) : Prop :=
  fen_New r 2 h fun y1 y2 h1 =>
  (isIface y2 = true) ∧
  Br ((!(isNil y2)) || (Option.isNone y1)) (
    R false h1) (
    fen_Fen_Add r y1 1 5 h1 fun y7 h2 =>
    fen_Fen_Sum r y1 2 h2 fun y8 y9 h3 =>
    fen_Fen_Find r y1 3 h3 fun y10 y11 h4 =>
    (isIface y7 = true) ∧
    (isIface y9 = true) ∧
    (isIface y11 = true) ∧
    ∀ x27 : Bool, x27 = (((((isNil y7) && (isNil y9)) && (isNil y11)) && (decide (y8 = 5))) && (decide (y10 = 2))) →
    R x27 h4)

set_option maxRecDepth 100000 in
theorem law5_fenned_of {r : World}  {h : Heap} {R : Bool → Heap → Prop} (H : law5_fenned_F r  h R) : law5_fenned r  h R := by
  unfold law5_fenned_F at H
  refine calls_of 48 [.tmp 0] Try.func17 rfl rfl rfl rfl rfl ?_
  refine W_seq ?_
  refine W_region (.pu 0 .fin) rfl rfl ?_
  refine s_pu (d := some 0) (v := (.bool false)) rfl rfl rfl (r_assign rfl) ?_
  refine s_fin ?_
  show W _ _ _ _ _ _ _ _
  refine W_seq ?_
  refine W_region (.ef 0 [] (.pu 1 (.pu 2 (.pu 3 (.pu 4 (.pu 5 .fin))))) .no) rfl rfl ?_
  refine s_ef (d := some 9) rfl rfl rfl (fun dr => r_call Try.call18 rfl rfl H) ?_ trivial
  rintro _ h1 ⟨y1, y2, rfl, H⟩
  refine ⟨trivial, ?_⟩
  refine s_pu (d := some 8) (v := (.tuple #[(.pointer y1), y2])) rfl rfl rfl (r_move rfl) ?_
  refine s_pu (d := some 10) (v := (.pointer y1)) rfl rfl rfl (r_extract rfl rfl) ?_
  refine s_pu (d := some 11) (v := y2) rfl rfl rfl (r_extract rfl rfl) ?_
  refine s_pu (d := some 1) (v := (.pointer y1)) rfl rfl rfl (r_assign rfl) ?_
  refine s_pu (d := some 2) (v := y2) rfl rfl rfl (r_assign rfl) ?_
  refine s_fin ?_
  show W _ _ _ _ _ _ _ _
  refine W_seq ?_
  refine W_seq ?_
  refine W_region (.pu 0 (.pu 1 (.pu 2 (.pu 3 (.pu 4 (.pu 5 .fin)))))) rfl rfl ?_
  refine s_pu (d := some 12) (v := y2) rfl rfl rfl (r_move rfl) ?_
  obtain ⟨e3, H⟩ := H
  refine s_pu (d := some 13) (v := (.bool (!(isNil y2)))) rfl rfl rfl (r_notNilI Try.underlying34 rfl e3 rfl) ?_
  refine s_pu (d := some 14) (v := (.bool (!(isNil y2)))) rfl rfl rfl (r_move rfl) ?_
  refine S_meet (l := [(1, (.pointer y1)), (17, (.bool ((!(isNil y2)) || (Option.isNone y1))))]) (i := 3) ?_ (fun HJ => ?_)
  · intro b
    show S _ _ _ _ _ _
    refine s_fin ?_
    show W _ _ _ _ _ _ _ _
    refine W_if ((!(isNil y2)) || (Option.isNone y1)) rfl (fun g33 => ?_) (fun g33 => ?_)
    · have H := H.1 g33
      refine W_seq ?_
      refine W_region (.pu 0 .fin) rfl rfl ?_
      refine s_pu (d := some 0) (v := (.bool false)) rfl rfl rfl (r_assign rfl) ?_
      refine s_fin ?_
      show W _ _ _ _ _ _ _ _
      refine W_ret ?_
      exact ⟨[(.bool false)], ⟨_, _, rfl, rfl, rfl⟩, false, rfl, H⟩
    · have H := H.2 g33
      refine W_skip ?_
      show W _ _ _ _ _ _ _ _
      refine W_seq ?_
      refine W_region (.pu 0 (.ef 1 [] (.pu 2 .fin) .no)) rfl rfl ?_
      refine s_pu (d := some 18) (v := (.pointer y1)) rfl rfl rfl (r_move rfl) ?_
      refine s_ef (d := some 19) rfl rfl rfl (fun dr => r_call Try.call19 rfl rfl H) ?_ trivial
      rintro y7 h2 H
      refine ⟨trivial, ?_⟩
      refine s_pu (d := some 3) (v := y7) rfl rfl rfl (r_assign rfl) ?_
      refine s_fin ?_
      show W _ _ _ _ _ _ _ _
      refine W_seq ?_
      refine W_region (.pu 0 (.ef 1 [] (.pu 2 (.pu 3 (.pu 4 (.pu 5 (.pu 6 .fin))))) .no)) rfl rfl ?_
      refine s_pu (d := some 21) (v := (.pointer y1)) rfl rfl rfl (r_move rfl) ?_
      refine s_ef (d := some 22) rfl rfl rfl (fun dr => r_call Try.call20 rfl rfl H) ?_ trivial
      rintro _ h3 ⟨y8, y9, rfl, H⟩
      refine ⟨trivial, ?_⟩
      refine s_pu (d := some 20) (v := (.tuple #[(.int .i64 y8), y9])) rfl rfl rfl (r_move rfl) ?_
      refine s_pu (d := some 23) (v := (.int .i64 y8)) rfl rfl rfl (r_extract rfl rfl) ?_
      refine s_pu (d := some 24) (v := y9) rfl rfl rfl (r_extract rfl rfl) ?_
      refine s_pu (d := some 4) (v := (.int .i64 y8)) rfl rfl rfl (r_assign rfl) ?_
      refine s_pu (d := some 5) (v := y9) rfl rfl rfl (r_assign rfl) ?_
      refine s_fin ?_
      show W _ _ _ _ _ _ _ _
      refine W_seq ?_
      refine W_region (.pu 0 (.ef 1 [] (.pu 2 (.pu 3 (.pu 4 (.pu 5 (.pu 6 .fin))))) .no)) rfl rfl ?_
      refine s_pu (d := some 26) (v := (.pointer y1)) rfl rfl rfl (r_move rfl) ?_
      refine s_ef (d := some 27) rfl rfl rfl (fun dr => r_call Try.call21 rfl rfl H) ?_ trivial
      rintro _ h4 ⟨y10, y11, rfl, H⟩
      refine ⟨trivial, ?_⟩
      refine s_pu (d := some 25) (v := (.tuple #[(.int .i64 y10), y11])) rfl rfl rfl (r_move rfl) ?_
      refine s_pu (d := some 28) (v := (.int .i64 y10)) rfl rfl rfl (r_extract rfl rfl) ?_
      refine s_pu (d := some 29) (v := y11) rfl rfl rfl (r_extract rfl rfl) ?_
      refine s_pu (d := some 6) (v := (.int .i64 y10)) rfl rfl rfl (r_assign rfl) ?_
      refine s_pu (d := some 7) (v := y11) rfl rfl rfl (r_assign rfl) ?_
      refine s_fin ?_
      show W _ _ _ _ _ _ _ _
      refine W_seq ?_
      refine W_region (.pu 0 (.pu 1 (.pu 2 (.pu 3 (.pu 4 (.pu 5 (.pu 6 (.pu 7 (.pu 8 (.pu 9 (.pu 10 (.pu 11 (.pu 12 (.pu 13 (.pu 14 (.pu 15 (.pu 16 (.pu 17 (.pu 18 .fin))))))))))))))))))) rfl rfl ?_
      refine s_pu (d := some 30) (v := y7) rfl rfl rfl (r_move rfl) ?_
      obtain ⟨e12, H⟩ := H
      refine s_pu (d := some 31) (v := (.bool (isNil y7))) rfl rfl rfl (r_nilI Try.underlying34 rfl e12 rfl) ?_
      refine s_pu (d := some 32) (v := (.bool (isNil y7))) rfl rfl rfl (r_move rfl) ?_
      obtain ⟨e14, H⟩ := H
      refine S_meet (l := [(4, (.int .i64 y8)), (6, (.int .i64 y10)), (7, y11), (35, (.bool ((isNil y7) && (isNil y9))))]) (i := 3) ?_ (fun HJ => ?_)
      · intro b
        show S _ _ _ _ _ _
        refine s_pu (d := some 36) (v := (.bool ((isNil y7) && (isNil y9)))) rfl rfl rfl (r_move rfl) ?_
        obtain ⟨e18, H⟩ := H
        refine S_meet (l := [(4, (.int .i64 y8)), (6, (.int .i64 y10)), (39, (.bool (((isNil y7) && (isNil y9)) && (isNil y11))))]) (i := 3) ?_ (fun HJ => ?_)
        · intro b
          show S _ _ _ _ _ _
          refine s_pu (d := some 40) (v := (.bool (((isNil y7) && (isNil y9)) && (isNil y11)))) rfl rfl rfl (r_move rfl) ?_
          refine S_meet (l := [(6, (.int .i64 y10)), (43, (.bool ((((isNil y7) && (isNil y9)) && (isNil y11)) && (decide (y8 = 5)))))]) (i := 3) ?_ (fun HJ => ?_)
          · intro b
            show S _ _ _ _ _ _
            refine s_pu (d := some 44) (v := (.bool ((((isNil y7) && (isNil y9)) && (isNil y11)) && (decide (y8 = 5))))) rfl rfl rfl (r_move rfl) ?_
            refine S_meet (l := [(47, (.bool (((((isNil y7) && (isNil y9)) && (isNil y11)) && (decide (y8 = 5))) && (decide (y10 = 2)))))]) (i := 3) ?_ (fun HJ => ?_)
            · intro b
              show S _ _ _ _ _ _
              obtain ⟨x27, e28⟩ : ∃ x : Bool, x = (((((isNil y7) && (isNil y9)) && (isNil y11)) && (decide (y8 = 5))) && (decide (y10 = 2))) := ⟨_, rfl⟩
              have H := H x27 e28
              refine s_pu (d := some 0) (v := (.bool x27)) rfl rfl rfl (r_assign (congrArg Value.bool e28.symm)) ?_
              refine s_fin ?_
              show W _ _ _ _ _ _ _ _
              refine W_ret ?_
              exact ⟨[(.bool x27)], ⟨_, _, rfl, rfl, rfl⟩, x27, rfl, H⟩
            · rcases Bool.eq_false_or_eq_true ((((isNil y7) && (isNil y9)) && (isNil y11)) && (decide (y8 = 5))) with g24 | g24
              · refine s_pu (d := some 45) (v := (.int .i64 y10)) rfl rfl (wants_yes rfl rfl rfl rfl g24) (r_move rfl) ?_
                refine s_pu (d := some 46) (v := (.bool (decide (y10 = 2)))) rfl rfl (wants_yes rfl rfl rfl rfl g24) (r_eql rfl rfl) ?_
                refine s_pu (d := some 47) (v := (.bool (decide (y10 = 2)))) rfl rfl rfl (r_pick1 rfl g24 rfl) ?_
                exact S_mk (l := [(47, (.bool (((((isNil y7) && (isNil y9)) && (isNil y11)) && (decide (y8 = 5))) && (decide (y10 = 2)))))]) HJ ⟨(by rw [g24]; rfl), trivial⟩
              · refine s_sk (d := some 45) rfl rfl (wants_no rfl rfl rfl rfl g24) ?_
                refine s_sk (d := some 46) rfl rfl (wants_no rfl rfl rfl rfl g24) ?_
                refine s_pu (d := some 47) (v := (.bool false)) rfl rfl rfl (r_pick0 rfl g24 rfl) ?_
                exact S_mk (l := [(47, (.bool (((((isNil y7) && (isNil y9)) && (isNil y11)) && (decide (y8 = 5))) && (decide (y10 = 2)))))]) HJ ⟨(by rw [g24]; rfl), trivial⟩
          · rcases Bool.eq_false_or_eq_true (((isNil y7) && (isNil y9)) && (isNil y11)) with g21 | g21
            · refine s_pu (d := some 41) (v := (.int .i64 y8)) rfl rfl (wants_yes rfl rfl rfl rfl g21) (r_move rfl) ?_
              refine s_pu (d := some 42) (v := (.bool (decide (y8 = 5)))) rfl rfl (wants_yes rfl rfl rfl rfl g21) (r_eql rfl rfl) ?_
              refine s_pu (d := some 43) (v := (.bool (decide (y8 = 5)))) rfl rfl rfl (r_pick1 rfl g21 rfl) ?_
              exact S_mk (l := [(6, (.int .i64 y10)), (43, (.bool ((((isNil y7) && (isNil y9)) && (isNil y11)) && (decide (y8 = 5)))))]) HJ ⟨rfl, (by rw [g21]; rfl), trivial⟩
            · refine s_sk (d := some 41) rfl rfl (wants_no rfl rfl rfl rfl g21) ?_
              refine s_sk (d := some 42) rfl rfl (wants_no rfl rfl rfl rfl g21) ?_
              refine s_pu (d := some 43) (v := (.bool false)) rfl rfl rfl (r_pick0 rfl g21 rfl) ?_
              exact S_mk (l := [(6, (.int .i64 y10)), (43, (.bool ((((isNil y7) && (isNil y9)) && (isNil y11)) && (decide (y8 = 5)))))]) HJ ⟨rfl, (by rw [g21]; rfl), trivial⟩
        · rcases Bool.eq_false_or_eq_true ((isNil y7) && (isNil y9)) with g17 | g17
          · refine s_pu (d := some 37) (v := y11) rfl rfl (wants_yes rfl rfl rfl rfl g17) (r_move rfl) ?_
            refine s_pu (d := some 38) (v := (.bool (isNil y11))) rfl rfl (wants_yes rfl rfl rfl rfl g17) (r_nilI Try.underlying34 rfl e18 rfl) ?_
            refine s_pu (d := some 39) (v := (.bool (isNil y11))) rfl rfl rfl (r_pick1 rfl g17 rfl) ?_
            exact S_mk (l := [(4, (.int .i64 y8)), (6, (.int .i64 y10)), (39, (.bool (((isNil y7) && (isNil y9)) && (isNil y11))))]) HJ ⟨rfl, rfl, (by rw [g17]; rfl), trivial⟩
          · refine s_sk (d := some 37) rfl rfl (wants_no rfl rfl rfl rfl g17) ?_
            refine s_sk (d := some 38) rfl rfl (wants_no rfl rfl rfl rfl g17) ?_
            refine s_pu (d := some 39) (v := (.bool false)) rfl rfl rfl (r_pick0 rfl g17 rfl) ?_
            exact S_mk (l := [(4, (.int .i64 y8)), (6, (.int .i64 y10)), (39, (.bool (((isNil y7) && (isNil y9)) && (isNil y11))))]) HJ ⟨rfl, rfl, (by rw [g17]; rfl), trivial⟩
      · rcases Bool.eq_false_or_eq_true (isNil y7) with g13 | g13
        · refine s_pu (d := some 33) (v := y9) rfl rfl (wants_yes rfl rfl rfl rfl g13) (r_move rfl) ?_
          refine s_pu (d := some 34) (v := (.bool (isNil y9))) rfl rfl (wants_yes rfl rfl rfl rfl g13) (r_nilI Try.underlying34 rfl e14 rfl) ?_
          refine s_pu (d := some 35) (v := (.bool (isNil y9))) rfl rfl rfl (r_pick1 rfl g13 rfl) ?_
          exact S_mk (l := [(4, (.int .i64 y8)), (6, (.int .i64 y10)), (7, y11), (35, (.bool ((isNil y7) && (isNil y9))))]) HJ ⟨rfl, rfl, rfl, (by rw [g13]; rfl), trivial⟩
        · refine s_sk (d := some 33) rfl rfl (wants_no rfl rfl rfl rfl g13) ?_
          refine s_sk (d := some 34) rfl rfl (wants_no rfl rfl rfl rfl g13) ?_
          refine s_pu (d := some 35) (v := (.bool false)) rfl rfl rfl (r_pick0 rfl g13 rfl) ?_
          exact S_mk (l := [(4, (.int .i64 y8)), (6, (.int .i64 y10)), (7, y11), (35, (.bool ((isNil y7) && (isNil y9))))]) HJ ⟨rfl, rfl, rfl, (by rw [g13]; rfl), trivial⟩
  · rcases Bool.eq_false_or_eq_true (!(isNil y2)) with g4 | g4
    · refine s_sk (d := some 15) rfl rfl (wants_no rfl rfl rfl rfl g4) ?_
      refine s_sk (d := some 16) rfl rfl (wants_no rfl rfl rfl rfl g4) ?_
      refine s_pu (d := some 17) (v := (.bool true)) rfl rfl rfl (r_pick1 rfl g4 rfl) ?_
      exact S_mk (l := [(1, (.pointer y1)), (17, (.bool ((!(isNil y2)) || (Option.isNone y1))))]) HJ ⟨rfl, (by rw [g4]; rfl), trivial⟩
    · refine s_pu (d := some 15) (v := (.pointer y1)) rfl rfl (wants_yes rfl rfl rfl rfl g4) (r_move rfl) ?_
      refine s_pu (d := some 16) (v := (.bool (Option.isNone y1))) rfl rfl (wants_yes rfl rfl rfl rfl g4) (r_nilP Try.underlying32 rfl rfl) ?_
      refine s_pu (d := some 17) (v := (.bool (Option.isNone y1))) rfl rfl rfl (r_pick0 rfl g4 rfl) ?_
      exact S_mk (l := [(1, (.pointer y1)), (17, (.bool ((!(isNil y2)) || (Option.isNone y1))))]) HJ ⟨rfl, (by rw [g4]; rfl), trivial⟩

/-! ### law5_FenFinds -/

def law5_FenFinds_F (r : World) (n1 : Int) (is2 : Sl) (xs3 : Sl) (i4 : Int) (k5 : Int) (h : Heap) (R : Bool → Heap → Prop) : Prop :=
  law5_fenned r h fun y6 h1 =>
  fen_New r n1 h1 fun y7 y8 h2 =>
  Br (!y6) (
    R false h2) (
    (isIface y8 = true) ∧
    Br ((((!(isNil y8)) || (Option.isNone y7)) || (decide (200 < n1))) || (decide (100 < ((is2.len : Int))))) (
      (isIface y8 = true) ∧
      R ((!(isNil y8)) || (!(Option.isNone y7))) h2) (
      ∀ X25 : Int → Heap → Prop, (∀ (a24 : Int) (h3 : Heap),
        (Br ((decide (a24 < ((is2.len : Int)))) && (decide (a24 < ((xs3.len : Int))))) (
          Ix is2 a24 1 fun q33 =>
          LdI h3 q33 fun x35 =>
          Ix xs3 a24 1 fun q41 =>
          LdI h3 q41 fun x43 =>
          fen_Fen_Add r y7 x35 x43 h3 fun y45 h4 =>
          X25 (w64 (a24 + 1)) h4) (
          fen_Fen_Sum r y7 i4 h3 fun y46 y47 h5 =>
          fen_Fen_Find r y7 k5 h5 fun y48 y49 h6 =>
          (isIface y47 = true) ∧
          Br (!(isNil y47)) (
            R ((decide (i4 < 0)) || (decide (n1 < i4))) h6) (
            ∀ J55 : Heap → Prop, (∀ (h7 : Heap),
              ((isIface y49 = true) ∧
              Br (!(isNil y49)) (
                fen_Fen_Sum r y7 n1 h7 fun y58 y59 h8 =>
                (isIface y59 = true) ∧
                R ((isNil y59) && (decide (y58 < k5))) h8) (
                R ((decide (k5 ≤ y46)) == (decide (y48 ≤ i4))) h7)) →
              J55 h7) →
            Br (decide (i4 < n1)) (
              fen_Fen_Sum r y7 (w64 (i4 + 1)) h6 fun y66 y67 h9 =>
              (isIface y67 = true) ∧
              Br ((!(isNil y67)) || (decide (y66 < y46))) (
                R false h9) (
                J55 h9)) (
              J55 h6)))) →
        X25 a24 h3) →
      X25 0 h2))

set_option maxRecDepth 100000 in
theorem law5_FenFinds_of {r : World} {n1 : Int} {is2 : Sl} {xs3 : Sl} {i4 : Int} {k5 : Int} {h : Heap} {R : Bool → Heap → Prop} (H : law5_FenFinds_F r n1 is2 xs3 i4 k5 h R) : law5_FenFinds r n1 is2 xs3 i4 k5 h R := by
  unfold law5_FenFinds_F at H
  refine calls_of 134 [.tmp 10] Try.func7 rfl rfl rfl rfl rfl ?_
  refine W_seq ?_
  refine W_region (.pu 0 .fin) rfl rfl ?_
  refine s_pu (d := some 10) (v := (.bool false)) rfl rfl rfl (r_assign rfl) ?_
  refine s_fin ?_
  show W _ _ _ _ _ _ _ _
  refine W_seq ?_
  refine W_region (.ef 0 [] (.pu 1 .fin) .no) rfl rfl ?_
  refine s_ef (d := some 23) rfl rfl rfl (fun dr => r_call Try.call17 rfl rfl H) ?_ trivial
  rintro _ h1 ⟨y6, rfl, H⟩
  refine ⟨trivial, ?_⟩
  refine s_pu (d := some 11) (v := (.bool y6)) rfl rfl rfl (r_assign rfl) ?_
  refine s_fin ?_
  show W _ _ _ _ _ _ _ _
  refine W_seq ?_
  refine W_region (.pu 0 (.ef 1 [] (.pu 2 (.pu 3 (.pu 4 (.pu 5 (.pu 6 .fin))))) .no)) rfl rfl ?_
  refine s_pu (d := some 25) (v := (.int .i64 n1)) rfl rfl rfl (r_move rfl) ?_
  refine s_ef (d := some 26) rfl rfl rfl (fun dr => r_call Try.call18 rfl rfl H) ?_ trivial
  rintro _ h2 ⟨y7, y8, rfl, H⟩
  refine ⟨trivial, ?_⟩
  refine s_pu (d := some 24) (v := (.tuple #[(.pointer y7), y8])) rfl rfl rfl (r_move rfl) ?_
  refine s_pu (d := some 27) (v := (.pointer y7)) rfl rfl rfl (r_extract rfl rfl) ?_
  refine s_pu (d := some 28) (v := y8) rfl rfl rfl (r_extract rfl rfl) ?_
  refine s_pu (d := some 12) (v := (.pointer y7)) rfl rfl rfl (r_assign rfl) ?_
  refine s_pu (d := some 13) (v := y8) rfl rfl rfl (r_assign rfl) ?_
  refine s_fin ?_
  show W _ _ _ _ _ _ _ _
  refine W_seq ?_
  refine W_seq ?_
  refine W_region (.pu 0 (.pu 1 .fin)) rfl rfl ?_
  refine s_pu (d := some 29) (v := (.bool y6)) rfl rfl rfl (r_move rfl) ?_
  refine s_pu (d := some 30) (v := (.bool (!y6))) rfl rfl rfl (r_not rfl) ?_
  refine s_fin ?_
  show W _ _ _ _ _ _ _ _
  refine W_if (!y6) rfl (fun g82 => ?_) (fun g82 => ?_)
  · have H := H.1 g82
    refine W_seq ?_
    refine W_region (.pu 0 .fin) rfl rfl ?_
    refine s_pu (d := some 10) (v := (.bool false)) rfl rfl rfl (r_assign rfl) ?_
    refine s_fin ?_
    show W _ _ _ _ _ _ _ _
    refine W_ret ?_
    exact ⟨[(.bool false)], ⟨_, _, rfl, rfl, rfl⟩, false, rfl, H⟩
  · have H := H.2 g82
    refine W_skip ?_
    show W _ _ _ _ _ _ _ _
    refine W_seq ?_
    refine W_seq ?_
    refine W_region (.pu 0 (.pu 1 (.pu 2 (.pu 3 (.pu 4 (.pu 5 (.pu 6 (.pu 7 (.pu 8 (.pu 9 (.pu 10 (.pu 11 (.pu 12 (.pu 13 (.pu 14 .fin))))))))))))))) rfl rfl ?_
    refine s_pu (d := some 31) (v := y8) rfl rfl rfl (r_move rfl) ?_
    obtain ⟨e9, H⟩ := H
    refine s_pu (d := some 32) (v := (.bool (!(isNil y8)))) rfl rfl rfl (r_notNilI Try.underlying34 rfl e9 rfl) ?_
    refine s_pu (d := some 33) (v := (.bool (!(isNil y8)))) rfl rfl rfl (r_move rfl) ?_
    refine S_meet (l := [(0, (.int .i64 n1)), (1, (Sl.v is2)), (2, (Sl.v xs3)), (3, (.int .i64 i4)), (4, (.int .i64 k5)), (12, (.pointer y7)), (13, y8), (36, (.bool ((!(isNil y8)) || (Option.isNone y7))))]) (i := 3) ?_ (fun HJ => ?_)
    · intro b
      show S _ _ _ _ _ _
      refine s_pu (d := some 37) (v := (.bool ((!(isNil y8)) || (Option.isNone y7)))) rfl rfl rfl (r_move rfl) ?_
      refine S_meet (l := [(0, (.int .i64 n1)), (1, (Sl.v is2)), (2, (Sl.v xs3)), (3, (.int .i64 i4)), (4, (.int .i64 k5)), (12, (.pointer y7)), (13, y8), (40, (.bool (((!(isNil y8)) || (Option.isNone y7)) || (decide (200 < n1)))))]) (i := 3) ?_ (fun HJ => ?_)
      · intro b
        show S _ _ _ _ _ _
        refine s_pu (d := some 41) (v := (.bool (((!(isNil y8)) || (Option.isNone y7)) || (decide (200 < n1))))) rfl rfl rfl (r_move rfl) ?_
        refine S_meet (l := [(0, (.int .i64 n1)), (1, (Sl.v is2)), (2, (Sl.v xs3)), (3, (.int .i64 i4)), (4, (.int .i64 k5)), (12, (.pointer y7)), (13, y8), (45, (.bool ((((!(isNil y8)) || (Option.isNone y7)) || (decide (200 < n1))) || (decide (100 < ((is2.len : Int)))))))]) (i := 4) ?_ (fun HJ => ?_)
        · intro b
          show S _ _ _ _ _ _
          refine s_fin ?_
          show W _ _ _ _ _ _ _ _
          refine W_if ((((!(isNil y8)) || (Option.isNone y7)) || (decide (200 < n1))) || (decide (100 < ((is2.len : Int))))) rfl (fun g78 => ?_) (fun g78 => ?_)
          · have H := H.1 g78
            refine W_seq ?_
            refine W_region (.pu 0 (.pu 1 (.pu 2 (.pu 3 (.pu 4 (.pu 5 (.pu 6 .fin))))))) rfl rfl ?_
            refine s_pu (d := some 46) (v := y8) rfl rfl rfl (r_move rfl) ?_
            obtain ⟨e19, H⟩ := H
            refine s_pu (d := some 47) (v := (.bool (!(isNil y8)))) rfl rfl rfl (r_notNilI Try.underlying34 rfl e19 rfl) ?_
            refine s_pu (d := some 48) (v := (.bool (!(isNil y8)))) rfl rfl rfl (r_move rfl) ?_
            refine S_meet (l := [(51, (.bool ((!(isNil y8)) || (!(Option.isNone y7)))))]) (i := 3) ?_ (fun HJ => ?_)
            · intro b
              show S _ _ _ _ _ _
              refine s_pu (d := some 10) (v := (.bool ((!(isNil y8)) || (!(Option.isNone y7))))) rfl rfl rfl (r_assign rfl) ?_
              refine s_fin ?_
              show W _ _ _ _ _ _ _ _
              refine W_ret ?_
              exact ⟨[(.bool ((!(isNil y8)) || (!(Option.isNone y7))))], ⟨_, _, rfl, rfl, rfl⟩, ((!(isNil y8)) || (!(Option.isNone y7))), rfl, H⟩
            · rcases Bool.eq_false_or_eq_true (!(isNil y8)) with g20 | g20
              · refine s_sk (d := some 49) rfl rfl (wants_no rfl rfl rfl rfl g20) ?_
                refine s_sk (d := some 50) rfl rfl (wants_no rfl rfl rfl rfl g20) ?_
                refine s_pu (d := some 51) (v := (.bool true)) rfl rfl rfl (r_pick1 rfl g20 rfl) ?_
                exact S_mk (l := [(51, (.bool ((!(isNil y8)) || (!(Option.isNone y7)))))]) HJ ⟨(by rw [g20]; rfl), trivial⟩
              · refine s_pu (d := some 49) (v := (.pointer y7)) rfl rfl (wants_yes rfl rfl rfl rfl g20) (r_move rfl) ?_
                refine s_pu (d := some 50) (v := (.bool (!(Option.isNone y7)))) rfl rfl (wants_yes rfl rfl rfl rfl g20) (r_notNilP Try.underlying32 rfl rfl) ?_
                refine s_pu (d := some 51) (v := (.bool (!(Option.isNone y7)))) rfl rfl rfl (r_pick0 rfl g20 rfl) ?_
                exact S_mk (l := [(51, (.bool ((!(isNil y8)) || (!(Option.isNone y7)))))]) HJ ⟨(by rw [g20]; rfl), trivial⟩
          · have H := H.2 g78
            refine W_skip ?_
            show W _ _ _ _ _ _ _ _
            refine W_seq ?_
            refine W_seq ?_
            refine W_region (.pu 0 .fin) rfl rfl ?_
            refine s_pu (d := some 14) (v := (.int .i64 0)) rfl rfl rfl (r_assign rfl) ?_
            refine s_fin ?_
            show W _ _ _ _ _ _ _ _
            refine W_block ?_
            refine W_loop (WL_mk (l := [(0, (.int .i64 n1)), (1, (Sl.v is2)), (2, (Sl.v xs3)), (3, (.int .i64 i4)), (4, (.int .i64 k5)), (12, (.pointer y7)), (14, (.int .i64 0))]) ?_ ⟨rfl, rfl, rfl, rfl, rfl, rfl, rfl, trivial⟩)
            refine H (fun (a24 : Int) (h3 : Heap) => ∀ b, WL _ _ _ _ _ _ (mkE [(0, (.int .i64 n1)), (1, (Sl.v is2)), (2, (Sl.v xs3)), (3, (.int .i64 i4)), (4, (.int .i64 k5)), (12, (.pointer y7)), (14, (.int .i64 a24))] b) h3) ?_
            intro a24 h3 H b
            refine WL_round ?_
            refine W_seq ?_
            refine W_seq ?_
            refine W_region (.pu 0 (.pu 1 (.pu 2 (.pu 3 (.pu 4 (.pu 5 (.pu 6 (.pu 7 (.pu 8 (.pu 9 .fin)))))))))) rfl rfl ?_
            refine s_pu (d := some 52) (v := (.int .i64 a24)) rfl rfl rfl (r_move rfl) ?_
            refine s_pu (d := some 53) (v := (Sl.v is2)) rfl rfl rfl (r_move rfl) ?_
            refine s_pu (d := some 54) (v := (.int .i64 ((is2.len : Int)))) rfl rfl rfl (r_len Try.underlying22 rfl) ?_
            refine s_pu (d := some 55) (v := (.bool (decide (a24 < ((is2.len : Int)))))) rfl rfl rfl (r_lss rfl rfl) ?_
            refine s_pu (d := some 56) (v := (.bool (decide (a24 < ((is2.len : Int)))))) rfl rfl rfl (r_move rfl) ?_
            refine S_meet (l := [(0, (.int .i64 n1)), (1, (Sl.v is2)), (2, (Sl.v xs3)), (3, (.int .i64 i4)), (4, (.int .i64 k5)), (12, (.pointer y7)), (14, (.int .i64 a24)), (61, (.bool ((decide (a24 < ((is2.len : Int)))) && (decide (a24 < ((xs3.len : Int)))))))]) (i := 5) ?_ (fun HJ => ?_)
            · intro b
              show S _ _ _ _ _ _
              refine s_fin ?_
              show W _ _ _ _ _ _ _ _
              refine W_if ((decide (a24 < ((is2.len : Int)))) && (decide (a24 < ((xs3.len : Int))))) rfl (fun g76 => ?_) (fun g76 => ?_)
              · have H := H.1 g76
                refine W_skip ?_
                show W _ _ _ _ _ _ _ _
                refine W_seq ?_
                refine W_block ?_
                refine W_draw [0, 0, 0, 6, 14, 0, 0, 96, 224, 511] (.pu 0 (.pu 1 (.pu 2 (.pu 3 (.rd 4 (.pu 5 (.pu 6 (.pu 7 (.rd 8 (.ef 9 [4, 8] .fin .no)))))))))) (by kernel_rfl) (by kernel_rfl) ?_
                refine s_pu (d := some 64) (v := (.pointer y7)) rfl rfl rfl (r_move rfl) ?_
                refine s_pu (d := some 65) (v := (Sl.v is2)) rfl rfl rfl (r_move rfl) ?_
                refine s_pu (d := some 66) (v := (.int .i64 a24)) rfl rfl rfl (r_move rfl) ?_
                obtain ⟨p29, e30, e31, e32, H⟩ := H
                obtain ⟨q33, e34⟩ : ∃ q : Addr, q = Addr.add p29 (Int.toNat a24 * 1) := ⟨_, rfl⟩
                rw [← e34] at H
                refine s_pu (d := some 67) (v := (.pointer (some q33))) rfl rfl rfl (fun w => (r_indexAddr Try.underlying22 Try.sizeOf3 rfl rfl e30 e31 e32 w).trans (by rw [e34])) ?_
                obtain ⟨x35, e36, H⟩ := H
                refine s_rd (d := some 68) (v := (.int .i64 x35)) rfl rfl rfl (fun dr => r_load1 Try.isAgg3 rfl e36) ?_
                refine s_pu (d := some 69) (v := (Sl.v xs3)) rfl rfl rfl (r_move rfl) ?_
                refine s_pu (d := some 70) (v := (.int .i64 a24)) rfl rfl rfl (r_move rfl) ?_
                obtain ⟨p37, e38, e39, e40, H⟩ := H
                obtain ⟨q41, e42⟩ : ∃ q : Addr, q = Addr.add p37 (Int.toNat a24 * 1) := ⟨_, rfl⟩
                rw [← e42] at H
                refine s_pu (d := some 71) (v := (.pointer (some q41))) rfl rfl rfl (fun w => (r_indexAddr Try.underlying22 Try.sizeOf3 rfl rfl e38 e39 e40 w).trans (by rw [e42])) ?_
                obtain ⟨x43, e44, H⟩ := H
                refine s_rd (d := some 72) (v := (.int .i64 x43)) rfl rfl rfl (fun dr => r_load1 Try.isAgg3 rfl e44) ?_
                refine s_ef (d := some 73) rfl rfl rfl (fun dr => r_call Try.call19 rfl rfl H) ?_ trivial
                rintro y45 h4 H
                refine ⟨⟨trivial, trivial, trivial⟩, ?_⟩
                refine s_fin ?_
                show W _ _ _ _ _ _ _ _
                refine W_region (.pu 0 (.pu 1 (.pu 2 .fin))) rfl rfl ?_
                refine s_pu (d := some 62) (v := (.int .i64 a24)) rfl rfl rfl (r_move rfl) ?_
                refine s_pu (d := some 63) (v := (.int .i64 (w64 (a24 + 1)))) rfl rfl rfl (r_add rfl rfl) ?_
                refine s_pu (d := some 14) (v := (.int .i64 (w64 (a24 + 1)))) rfl rfl rfl (r_assign rfl) ?_
                refine s_fin ?_
                exact WL_mk (l := [(0, (.int .i64 n1)), (1, (Sl.v is2)), (2, (Sl.v xs3)), (3, (.int .i64 i4)), (4, (.int .i64 k5)), (12, (.pointer y7)), (14, (.int .i64 (w64 (a24 + 1))))]) H ⟨rfl, rfl, rfl, rfl, rfl, rfl, rfl, trivial⟩
              · have H := H.2 g76
                refine W_exit (inX_here ?_)
                show W _ _ _ _ _ _ _ _
                refine W_seq ?_
                refine W_region (.pu 0 (.pu 1 (.ef 2 [] (.pu 3 (.pu 4 (.pu 5 (.pu 6 (.pu 7 .fin))))) .no))) rfl rfl ?_
                refine s_pu (d := some 75) (v := (.pointer y7)) rfl rfl rfl (r_move rfl) ?_
                refine s_pu (d := some 76) (v := (.int .i64 i4)) rfl rfl rfl (r_move rfl) ?_
                refine s_ef (d := some 77) rfl rfl rfl (fun dr => r_call Try.call20 rfl rfl H) ?_ trivial
                rintro _ h5 ⟨y46, y47, rfl, H⟩
                refine ⟨trivial, ?_⟩
                refine s_pu (d := some 74) (v := (.tuple #[(.int .i64 y46), y47])) rfl rfl rfl (r_move rfl) ?_
                refine s_pu (d := some 78) (v := (.int .i64 y46)) rfl rfl rfl (r_extract rfl rfl) ?_
                refine s_pu (d := some 79) (v := y47) rfl rfl rfl (r_extract rfl rfl) ?_
                refine s_pu (d := some 15) (v := (.int .i64 y46)) rfl rfl rfl (r_assign rfl) ?_
                refine s_pu (d := some 16) (v := y47) rfl rfl rfl (r_assign rfl) ?_
                refine s_fin ?_
                show W _ _ _ _ _ _ _ _
                refine W_seq ?_
                refine W_region (.pu 0 (.pu 1 (.ef 2 [] (.pu 3 (.pu 4 (.pu 5 (.pu 6 (.pu 7 .fin))))) .no))) rfl rfl ?_
                refine s_pu (d := some 81) (v := (.pointer y7)) rfl rfl rfl (r_move rfl) ?_
                refine s_pu (d := some 82) (v := (.int .i64 k5)) rfl rfl rfl (r_move rfl) ?_
                refine s_ef (d := some 83) rfl rfl rfl (fun dr => r_call Try.call21 rfl rfl H) ?_ trivial
                rintro _ h6 ⟨y48, y49, rfl, H⟩
                refine ⟨trivial, ?_⟩
                refine s_pu (d := some 80) (v := (.tuple #[(.int .i64 y48), y49])) rfl rfl rfl (r_move rfl) ?_
                refine s_pu (d := some 84) (v := (.int .i64 y48)) rfl rfl rfl (r_extract rfl rfl) ?_
                refine s_pu (d := some 85) (v := y49) rfl rfl rfl (r_extract rfl rfl) ?_
                refine s_pu (d := some 17) (v := (.int .i64 y48)) rfl rfl rfl (r_assign rfl) ?_
                refine s_pu (d := some 18) (v := y49) rfl rfl rfl (r_assign rfl) ?_
                refine s_fin ?_
                show W _ _ _ _ _ _ _ _
                refine W_seq ?_
                refine W_seq ?_
                refine W_region (.pu 0 (.pu 1 .fin)) rfl rfl ?_
                refine s_pu (d := some 86) (v := y47) rfl rfl rfl (r_move rfl) ?_
                obtain ⟨e50, H⟩ := H
                refine s_pu (d := some 87) (v := (.bool (!(isNil y47)))) rfl rfl rfl (r_notNilI Try.underlying34 rfl e50 rfl) ?_
                refine s_fin ?_
                show W _ _ _ _ _ _ _ _
                refine W_if (!(isNil y47)) rfl (fun g75 => ?_) (fun g75 => ?_)
                · have H := H.1 g75
                  refine W_seq ?_
                  refine W_region (.pu 0 (.pu 1 (.pu 2 (.pu 3 (.pu 4 (.pu 5 (.pu 6 (.pu 7 .fin)))))))) rfl rfl ?_
                  refine s_pu (d := some 88) (v := (.int .i64 i4)) rfl rfl rfl (r_move rfl) ?_
                  refine s_pu (d := some 89) (v := (.bool (decide (i4 < 0)))) rfl rfl rfl (r_lss rfl rfl) ?_
                  refine s_pu (d := some 90) (v := (.bool (decide (i4 < 0)))) rfl rfl rfl (r_move rfl) ?_
                  refine S_meet (l := [(94, (.bool ((decide (i4 < 0)) || (decide (n1 < i4)))))]) (i := 4) ?_ (fun HJ => ?_)
                  · intro b
                    show S _ _ _ _ _ _
                    refine s_pu (d := some 10) (v := (.bool ((decide (i4 < 0)) || (decide (n1 < i4))))) rfl rfl rfl (r_assign rfl) ?_
                    refine s_fin ?_
                    show W _ _ _ _ _ _ _ _
                    refine W_ret ?_
                    exact ⟨[(.bool ((decide (i4 < 0)) || (decide (n1 < i4))))], ⟨_, _, rfl, rfl, rfl⟩, ((decide (i4 < 0)) || (decide (n1 < i4))), rfl, H⟩
                  · rcases Bool.eq_false_or_eq_true (decide (i4 < 0)) with g51 | g51
                    · refine s_sk (d := some 91) rfl rfl (wants_no rfl rfl rfl rfl g51) ?_
                      refine s_sk (d := some 92) rfl rfl (wants_no rfl rfl rfl rfl g51) ?_
                      refine s_sk (d := some 93) rfl rfl (wants_no rfl rfl rfl rfl g51) ?_
                      refine s_pu (d := some 94) (v := (.bool true)) rfl rfl rfl (r_pick1 rfl g51 rfl) ?_
                      exact S_mk (l := [(94, (.bool ((decide (i4 < 0)) || (decide (n1 < i4)))))]) HJ ⟨(by rw [g51]; rfl), trivial⟩
                    · refine s_pu (d := some 91) (v := (.int .i64 i4)) rfl rfl (wants_yes rfl rfl rfl rfl g51) (r_move rfl) ?_
                      refine s_pu (d := some 92) (v := (.int .i64 n1)) rfl rfl (wants_yes rfl rfl rfl rfl g51) (r_move rfl) ?_
                      refine s_pu (d := some 93) (v := (.bool (decide (n1 < i4)))) rfl rfl (wants_yes rfl rfl rfl rfl g51) (r_gtr rfl rfl) ?_
                      refine s_pu (d := some 94) (v := (.bool (decide (n1 < i4)))) rfl rfl rfl (r_pick0 rfl g51 rfl) ?_
                      exact S_mk (l := [(94, (.bool ((decide (i4 < 0)) || (decide (n1 < i4)))))]) HJ ⟨(by rw [g51]; rfl), trivial⟩
                · have H := H.2 g75
                  refine W_skip ?_
                  show W _ _ _ _ _ _ _ _
                  refine W_seq ?_
                  refine W_seq ?_
                  refine W_region (.pu 0 (.pu 1 (.pu 2 .fin))) rfl rfl ?_
                  refine s_pu (d := some 95) (v := (.int .i64 i4)) rfl rfl rfl (r_move rfl) ?_
                  refine s_pu (d := some 96) (v := (.int .i64 n1)) rfl rfl rfl (r_move rfl) ?_
                  refine s_pu (d := some 97) (v := (.bool (decide (i4 < n1)))) rfl rfl rfl (r_lss rfl rfl) ?_
                  refine s_fin ?_
                  show W _ _ _ _ _ _ _ _
                  refine W_set ?_
                  intro N56 eN56
                  have H := H (fun (h7 : Heap) => ∀ b, N56 [] (mkE [(0, (.int .i64 n1)), (3, (.int .i64 i4)), (4, (.int .i64 k5)), (12, (.pointer y7)), (15, (.int .i64 y46)), (17, (.int .i64 y48)), (18, y49)] b) h7) (by
                    intro h7 H b
                    rw [eN56]
                    show W _ _ _ _ _ _ _ _
                    refine W_seq ?_
                    refine W_seq ?_
                    refine W_region (.pu 0 (.pu 1 .fin)) rfl rfl ?_
                    refine s_pu (d := some 112) (v := y49) rfl rfl rfl (r_move rfl) ?_
                    obtain ⟨e57, H⟩ := H
                    refine s_pu (d := some 113) (v := (.bool (!(isNil y49)))) rfl rfl rfl (r_notNilI Try.underlying34 rfl e57 rfl) ?_
                    refine s_fin ?_
                    show W _ _ _ _ _ _ _ _
                    refine W_if (!(isNil y49)) rfl (fun g65 => ?_) (fun g65 => ?_)
                    · have H := H.1 g65
                      refine W_seq ?_
                      refine W_region (.pu 0 (.pu 1 (.ef 2 [] (.pu 3 (.pu 4 (.pu 5 (.pu 6 (.pu 7 .fin))))) .no))) rfl rfl ?_
                      refine s_pu (d := some 115) (v := (.pointer y7)) rfl rfl rfl (r_move rfl) ?_
                      refine s_pu (d := some 116) (v := (.int .i64 n1)) rfl rfl rfl (r_move rfl) ?_
                      refine s_ef (d := some 117) rfl rfl rfl (fun dr => r_call Try.call20 rfl rfl H) ?_ trivial
                      rintro _ h8 ⟨y58, y59, rfl, H⟩
                      refine ⟨trivial, ?_⟩
                      refine s_pu (d := some 114) (v := (.tuple #[(.int .i64 y58), y59])) rfl rfl rfl (r_move rfl) ?_
                      refine s_pu (d := some 118) (v := (.int .i64 y58)) rfl rfl rfl (r_extract rfl rfl) ?_
                      refine s_pu (d := some 119) (v := y59) rfl rfl rfl (r_extract rfl rfl) ?_
                      refine s_pu (d := some 21) (v := (.int .i64 y58)) rfl rfl rfl (r_assign rfl) ?_
                      refine s_pu (d := some 22) (v := y59) rfl rfl rfl (r_assign rfl) ?_
                      refine s_fin ?_
                      show W _ _ _ _ _ _ _ _
                      refine W_seq ?_
                      refine W_region (.pu 0 (.pu 1 (.pu 2 (.pu 3 (.pu 4 (.pu 5 (.pu 6 (.pu 7 .fin)))))))) rfl rfl ?_
                      refine s_pu (d := some 120) (v := y59) rfl rfl rfl (r_move rfl) ?_
                      obtain ⟨e60, H⟩ := H
                      refine s_pu (d := some 121) (v := (.bool (isNil y59))) rfl rfl rfl (r_nilI Try.underlying34 rfl e60 rfl) ?_
                      refine s_pu (d := some 122) (v := (.bool (isNil y59))) rfl rfl rfl (r_move rfl) ?_
                      refine S_meet (l := [(126, (.bool ((isNil y59) && (decide (y58 < k5)))))]) (i := 4) ?_ (fun HJ => ?_)
                      · intro b
                        show S _ _ _ _ _ _
                        refine s_pu (d := some 10) (v := (.bool ((isNil y59) && (decide (y58 < k5))))) rfl rfl rfl (r_assign rfl) ?_
                        refine s_fin ?_
                        show W _ _ _ _ _ _ _ _
                        refine W_ret ?_
                        exact ⟨[(.bool ((isNil y59) && (decide (y58 < k5))))], ⟨_, _, rfl, rfl, rfl⟩, ((isNil y59) && (decide (y58 < k5))), rfl, H⟩
                      · rcases Bool.eq_false_or_eq_true (isNil y59) with g61 | g61
                        · refine s_pu (d := some 123) (v := (.int .i64 y58)) rfl rfl (wants_yes rfl rfl rfl rfl g61) (r_move rfl) ?_
                          refine s_pu (d := some 124) (v := (.int .i64 k5)) rfl rfl (wants_yes rfl rfl rfl rfl g61) (r_move rfl) ?_
                          refine s_pu (d := some 125) (v := (.bool (decide (y58 < k5)))) rfl rfl (wants_yes rfl rfl rfl rfl g61) (r_lss rfl rfl) ?_
                          refine s_pu (d := some 126) (v := (.bool (decide (y58 < k5)))) rfl rfl rfl (r_pick1 rfl g61 rfl) ?_
                          exact S_mk (l := [(126, (.bool ((isNil y59) && (decide (y58 < k5)))))]) HJ ⟨(by rw [g61]; rfl), trivial⟩
                        · refine s_sk (d := some 123) rfl rfl (wants_no rfl rfl rfl rfl g61) ?_
                          refine s_sk (d := some 124) rfl rfl (wants_no rfl rfl rfl rfl g61) ?_
                          refine s_sk (d := some 125) rfl rfl (wants_no rfl rfl rfl rfl g61) ?_
                          refine s_pu (d := some 126) (v := (.bool false)) rfl rfl rfl (r_pick0 rfl g61 rfl) ?_
                          exact S_mk (l := [(126, (.bool ((isNil y59) && (decide (y58 < k5)))))]) HJ ⟨(by rw [g61]; rfl), trivial⟩
                    · have H := H.2 g65
                      refine W_skip ?_
                      show W _ _ _ _ _ _ _ _
                      refine W_seq ?_
                      refine W_region (.pu 0 (.pu 1 (.pu 2 (.pu 3 (.pu 4 (.pu 5 (.pu 6 (.pu 7 .fin)))))))) rfl rfl ?_
                      refine s_pu (d := some 127) (v := (.int .i64 y46)) rfl rfl rfl (r_move rfl) ?_
                      refine s_pu (d := some 128) (v := (.int .i64 k5)) rfl rfl rfl (r_move rfl) ?_
                      refine s_pu (d := some 129) (v := (.bool (decide (k5 ≤ y46)))) rfl rfl rfl (r_geq rfl rfl) ?_
                      refine s_pu (d := some 130) (v := (.int .i64 i4)) rfl rfl rfl (r_move rfl) ?_
                      refine s_pu (d := some 131) (v := (.int .i64 y48)) rfl rfl rfl (r_move rfl) ?_
                      refine s_pu (d := some 132) (v := (.bool (decide (y48 ≤ i4)))) rfl rfl rfl (r_geq rfl rfl) ?_
                      refine s_pu (d := some 133) (v := (.bool ((decide (k5 ≤ y46)) == (decide (y48 ≤ i4))))) rfl rfl rfl (r_eqlB Try.underlying4 rfl rfl) ?_
                      refine s_pu (d := some 10) (v := (.bool ((decide (k5 ≤ y46)) == (decide (y48 ≤ i4))))) rfl rfl rfl (r_assign rfl) ?_
                      refine s_fin ?_
                      show W _ _ _ _ _ _ _ _
                      refine W_ret ?_
                      exact ⟨[(.bool ((decide (k5 ≤ y46)) == (decide (y48 ≤ i4))))], ⟨_, _, rfl, rfl, rfl⟩, ((decide (k5 ≤ y46)) == (decide (y48 ≤ i4))), rfl, H⟩)
                  clear eN56
                  refine W_if (decide (i4 < n1)) rfl (fun g74 => ?_) (fun g74 => ?_)
                  · have H := H.1 g74
                    refine W_seq ?_
                    refine W_region (.pu 0 (.pu 1 (.pu 2 (.ef 3 [] (.pu 4 (.pu 5 (.pu 6 (.pu 7 (.pu 8 .fin))))) .no)))) rfl rfl ?_
                    refine s_pu (d := some 99) (v := (.pointer y7)) rfl rfl rfl (r_move rfl) ?_
                    refine s_pu (d := some 100) (v := (.int .i64 i4)) rfl rfl rfl (r_move rfl) ?_
                    refine s_pu (d := some 101) (v := (.int .i64 (w64 (i4 + 1)))) rfl rfl rfl (r_add rfl rfl) ?_
                    refine s_ef (d := some 102) rfl rfl rfl (fun dr => r_call Try.call20 rfl rfl H) ?_ trivial
                    rintro _ h9 ⟨y66, y67, rfl, H⟩
                    refine ⟨trivial, ?_⟩
                    refine s_pu (d := some 98) (v := (.tuple #[(.int .i64 y66), y67])) rfl rfl rfl (r_move rfl) ?_
                    refine s_pu (d := some 103) (v := (.int .i64 y66)) rfl rfl rfl (r_extract rfl rfl) ?_
                    refine s_pu (d := some 104) (v := y67) rfl rfl rfl (r_extract rfl rfl) ?_
                    refine s_pu (d := some 19) (v := (.int .i64 y66)) rfl rfl rfl (r_assign rfl) ?_
                    refine s_pu (d := some 20) (v := y67) rfl rfl rfl (r_assign rfl) ?_
                    refine s_fin ?_
                    show W _ _ _ _ _ _ _ _
                    refine W_seq ?_
                    refine W_region (.pu 0 (.pu 1 (.pu 2 (.pu 3 (.pu 4 (.pu 5 (.pu 6 .fin))))))) rfl rfl ?_
                    refine s_pu (d := some 105) (v := y67) rfl rfl rfl (r_move rfl) ?_
                    obtain ⟨e68, H⟩ := H
                    refine s_pu (d := some 106) (v := (.bool (!(isNil y67)))) rfl rfl rfl (r_notNilI Try.underlying34 rfl e68 rfl) ?_
                    refine s_pu (d := some 107) (v := (.bool (!(isNil y67)))) rfl rfl rfl (r_move rfl) ?_
                    refine S_meet (l := [(0, (.int .i64 n1)), (3, (.int .i64 i4)), (4, (.int .i64 k5)), (12, (.pointer y7)), (15, (.int .i64 y46)), (17, (.int .i64 y48)), (18, y49), (111, (.bool ((!(isNil y67)) || (decide (y66 < y46)))))]) (i := 4) ?_ (fun HJ => ?_)
                    · intro b
                      show S _ _ _ _ _ _
                      refine s_fin ?_
                      show W _ _ _ _ _ _ _ _
                      refine W_if ((!(isNil y67)) || (decide (y66 < y46))) rfl (fun g72 => ?_) (fun g72 => ?_)
                      · have H := H.1 g72
                        refine W_seq ?_
                        refine W_region (.pu 0 .fin) rfl rfl ?_
                        refine s_pu (d := some 10) (v := (.bool false)) rfl rfl rfl (r_assign rfl) ?_
                        refine s_fin ?_
                        show W _ _ _ _ _ _ _ _
                        refine W_ret ?_
                        exact ⟨[(.bool false)], ⟨_, _, rfl, rfl, rfl⟩, false, rfl, H⟩
                      · have H := H.2 g72
                        refine W_skip ?_
                        exact N_mk (l := [(0, (.int .i64 n1)), (3, (.int .i64 i4)), (4, (.int .i64 k5)), (12, (.pointer y7)), (15, (.int .i64 y46)), (17, (.int .i64 y48)), (18, y49)]) H ⟨rfl, rfl, rfl, rfl, rfl, rfl, rfl, trivial⟩
                    · rcases Bool.eq_false_or_eq_true (!(isNil y67)) with g69 | g69
                      · refine s_sk (d := some 108) rfl rfl (wants_no rfl rfl rfl rfl g69) ?_
                        refine s_sk (d := some 109) rfl rfl (wants_no rfl rfl rfl rfl g69) ?_
                        refine s_sk (d := some 110) rfl rfl (wants_no rfl rfl rfl rfl g69) ?_
                        refine s_pu (d := some 111) (v := (.bool true)) rfl rfl rfl (r_pick1 rfl g69 rfl) ?_
                        exact S_mk (l := [(0, (.int .i64 n1)), (3, (.int .i64 i4)), (4, (.int .i64 k5)), (12, (.pointer y7)), (15, (.int .i64 y46)), (17, (.int .i64 y48)), (18, y49), (111, (.bool ((!(isNil y67)) || (decide (y66 < y46)))))]) HJ ⟨rfl, rfl, rfl, rfl, rfl, rfl, rfl, (by rw [g69]; rfl), trivial⟩
                      · refine s_pu (d := some 108) (v := (.int .i64 y66)) rfl rfl (wants_yes rfl rfl rfl rfl g69) (r_move rfl) ?_
                        refine s_pu (d := some 109) (v := (.int .i64 y46)) rfl rfl (wants_yes rfl rfl rfl rfl g69) (r_move rfl) ?_
                        refine s_pu (d := some 110) (v := (.bool (decide (y66 < y46)))) rfl rfl (wants_yes rfl rfl rfl rfl g69) (r_lss rfl rfl) ?_
                        refine s_pu (d := some 111) (v := (.bool (decide (y66 < y46)))) rfl rfl rfl (r_pick0 rfl g69 rfl) ?_
                        exact S_mk (l := [(0, (.int .i64 n1)), (3, (.int .i64 i4)), (4, (.int .i64 k5)), (12, (.pointer y7)), (15, (.int .i64 y46)), (17, (.int .i64 y48)), (18, y49), (111, (.bool ((!(isNil y67)) || (decide (y66 < y46)))))]) HJ ⟨rfl, rfl, rfl, rfl, rfl, rfl, rfl, (by rw [g69]; rfl), trivial⟩
                  · have H := H.2 g74
                    refine W_skip ?_
                    exact N_mk (l := [(0, (.int .i64 n1)), (3, (.int .i64 i4)), (4, (.int .i64 k5)), (12, (.pointer y7)), (15, (.int .i64 y46)), (17, (.int .i64 y48)), (18, y49)]) H ⟨rfl, rfl, rfl, rfl, rfl, rfl, rfl, trivial⟩
            · rcases Bool.eq_false_or_eq_true (decide (a24 < ((is2.len : Int)))) with g26 | g26
              · refine s_pu (d := some 57) (v := (.int .i64 a24)) rfl rfl (wants_yes rfl rfl rfl rfl g26) (r_move rfl) ?_
                refine s_pu (d := some 58) (v := (Sl.v xs3)) rfl rfl (wants_yes rfl rfl rfl rfl g26) (r_move rfl) ?_
                refine s_pu (d := some 59) (v := (.int .i64 ((xs3.len : Int)))) rfl rfl (wants_yes rfl rfl rfl rfl g26) (r_len Try.underlying22 rfl) ?_
                refine s_pu (d := some 60) (v := (.bool (decide (a24 < ((xs3.len : Int)))))) rfl rfl (wants_yes rfl rfl rfl rfl g26) (r_lss rfl rfl) ?_
                refine s_pu (d := some 61) (v := (.bool (decide (a24 < ((xs3.len : Int)))))) rfl rfl rfl (r_pick1 rfl g26 rfl) ?_
                exact S_mk (l := [(0, (.int .i64 n1)), (1, (Sl.v is2)), (2, (Sl.v xs3)), (3, (.int .i64 i4)), (4, (.int .i64 k5)), (12, (.pointer y7)), (14, (.int .i64 a24)), (61, (.bool ((decide (a24 < ((is2.len : Int)))) && (decide (a24 < ((xs3.len : Int)))))))]) HJ ⟨rfl, rfl, rfl, rfl, rfl, rfl, rfl, (by rw [g26]; rfl), trivial⟩
              · refine s_sk (d := some 57) rfl rfl (wants_no rfl rfl rfl rfl g26) ?_
                refine s_sk (d := some 58) rfl rfl (wants_no rfl rfl rfl rfl g26) ?_
                refine s_sk (d := some 59) rfl rfl (wants_no rfl rfl rfl rfl g26) ?_
                refine s_sk (d := some 60) rfl rfl (wants_no rfl rfl rfl rfl g26) ?_
                refine s_pu (d := some 61) (v := (.bool false)) rfl rfl rfl (r_pick0 rfl g26 rfl) ?_
                exact S_mk (l := [(0, (.int .i64 n1)), (1, (Sl.v is2)), (2, (Sl.v xs3)), (3, (.int .i64 i4)), (4, (.int .i64 k5)), (12, (.pointer y7)), (14, (.int .i64 a24)), (61, (.bool ((decide (a24 < ((is2.len : Int)))) && (decide (a24 < ((xs3.len : Int)))))))]) HJ ⟨rfl, rfl, rfl, rfl, rfl, rfl, rfl, (by rw [g26]; rfl), trivial⟩
        · rcases Bool.eq_false_or_eq_true (((!(isNil y8)) || (Option.isNone y7)) || (decide (200 < n1))) with g16 | g16
          · refine s_sk (d := some 42) rfl rfl (wants_no rfl rfl rfl rfl g16) ?_
            refine s_sk (d := some 43) rfl rfl (wants_no rfl rfl rfl rfl g16) ?_
            refine s_sk (d := some 44) rfl rfl (wants_no rfl rfl rfl rfl g16) ?_
            refine s_pu (d := some 45) (v := (.bool true)) rfl rfl rfl (r_pick1 rfl g16 rfl) ?_
            exact S_mk (l := [(0, (.int .i64 n1)), (1, (Sl.v is2)), (2, (Sl.v xs3)), (3, (.int .i64 i4)), (4, (.int .i64 k5)), (12, (.pointer y7)), (13, y8), (45, (.bool ((((!(isNil y8)) || (Option.isNone y7)) || (decide (200 < n1))) || (decide (100 < ((is2.len : Int)))))))]) HJ ⟨rfl, rfl, rfl, rfl, rfl, rfl, rfl, (by rw [g16]; rfl), trivial⟩
          · refine s_pu (d := some 42) (v := (Sl.v is2)) rfl rfl (wants_yes rfl rfl rfl rfl g16) (r_move rfl) ?_
            refine s_pu (d := some 43) (v := (.int .i64 ((is2.len : Int)))) rfl rfl (wants_yes rfl rfl rfl rfl g16) (r_len Try.underlying22 rfl) ?_
            refine s_pu (d := some 44) (v := (.bool (decide (100 < ((is2.len : Int)))))) rfl rfl (wants_yes rfl rfl rfl rfl g16) (r_gtr rfl rfl) ?_
            refine s_pu (d := some 45) (v := (.bool (decide (100 < ((is2.len : Int)))))) rfl rfl rfl (r_pick0 rfl g16 rfl) ?_
            exact S_mk (l := [(0, (.int .i64 n1)), (1, (Sl.v is2)), (2, (Sl.v xs3)), (3, (.int .i64 i4)), (4, (.int .i64 k5)), (12, (.pointer y7)), (13, y8), (45, (.bool ((((!(isNil y8)) || (Option.isNone y7)) || (decide (200 < n1))) || (decide (100 < ((is2.len : Int)))))))]) HJ ⟨rfl, rfl, rfl, rfl, rfl, rfl, rfl, (by rw [g16]; rfl), trivial⟩
      · rcases Bool.eq_false_or_eq_true ((!(isNil y8)) || (Option.isNone y7)) with g13 | g13
        · refine s_sk (d := some 38) rfl rfl (wants_no rfl rfl rfl rfl g13) ?_
          refine s_sk (d := some 39) rfl rfl (wants_no rfl rfl rfl rfl g13) ?_
          refine s_pu (d := some 40) (v := (.bool true)) rfl rfl rfl (r_pick1 rfl g13 rfl) ?_
          exact S_mk (l := [(0, (.int .i64 n1)), (1, (Sl.v is2)), (2, (Sl.v xs3)), (3, (.int .i64 i4)), (4, (.int .i64 k5)), (12, (.pointer y7)), (13, y8), (40, (.bool (((!(isNil y8)) || (Option.isNone y7)) || (decide (200 < n1)))))]) HJ ⟨rfl, rfl, rfl, rfl, rfl, rfl, rfl, (by rw [g13]; rfl), trivial⟩
        · refine s_pu (d := some 38) (v := (.int .i64 n1)) rfl rfl (wants_yes rfl rfl rfl rfl g13) (r_move rfl) ?_
          refine s_pu (d := some 39) (v := (.bool (decide (200 < n1)))) rfl rfl (wants_yes rfl rfl rfl rfl g13) (r_gtr rfl rfl) ?_
          refine s_pu (d := some 40) (v := (.bool (decide (200 < n1)))) rfl rfl rfl (r_pick0 rfl g13 rfl) ?_
          exact S_mk (l := [(0, (.int .i64 n1)), (1, (Sl.v is2)), (2, (Sl.v xs3)), (3, (.int .i64 i4)), (4, (.int .i64 k5)), (12, (.pointer y7)), (13, y8), (40, (.bool (((!(isNil y8)) || (Option.isNone y7)) || (decide (200 < n1)))))]) HJ ⟨rfl, rfl, rfl, rfl, rfl, rfl, rfl, (by rw [g13]; rfl), trivial⟩
    · rcases Bool.eq_false_or_eq_true (!(isNil y8)) with g10 | g10
      · refine s_sk (d := some 34) rfl rfl (wants_no rfl rfl rfl rfl g10) ?_
        refine s_sk (d := some 35) rfl rfl (wants_no rfl rfl rfl rfl g10) ?_
        refine s_pu (d := some 36) (v := (.bool true)) rfl rfl rfl (r_pick1 rfl g10 rfl) ?_
        exact S_mk (l := [(0, (.int .i64 n1)), (1, (Sl.v is2)), (2, (Sl.v xs3)), (3, (.int .i64 i4)), (4, (.int .i64 k5)), (12, (.pointer y7)), (13, y8), (36, (.bool ((!(isNil y8)) || (Option.isNone y7))))]) HJ ⟨rfl, rfl, rfl, rfl, rfl, rfl, rfl, (by rw [g10]; rfl), trivial⟩
      · refine s_pu (d := some 34) (v := (.pointer y7)) rfl rfl (wants_yes rfl rfl rfl rfl g10) (r_move rfl) ?_
        refine s_pu (d := some 35) (v := (.bool (Option.isNone y7))) rfl rfl (wants_yes rfl rfl rfl rfl g10) (r_nilP Try.underlying32 rfl rfl) ?_
        refine s_pu (d := some 36) (v := (.bool (Option.isNone y7))) rfl rfl rfl (r_pick0 rfl g10 rfl) ?_
        exact S_mk (l := [(0, (.int .i64 n1)), (1, (Sl.v is2)), (2, (Sl.v xs3)), (3, (.int .i64 i4)), (4, (.int .i64 k5)), (12, (.pointer y7)), (13, y8), (36, (.bool ((!(isNil y8)) || (Option.isNone y7))))]) HJ ⟨rfl, rfl, rfl, rfl, rfl, rfl, rfl, (by rw [g10]; rfl), trivial⟩

/-! ### law5_FenOrder -/

def law5_FenOrder_F (r : World) (n1 : Int) (is2 : Sl) (xs3 : Sl) (h : Heap) (R : Bool → Heap → Prop) : Prop :=
  law5_fenned r h fun y4 h1 =>
  fen_New r n1 h1 fun y5 y6 h2 =>
  fen_New r n1 h2 fun y7 y8 h3 =>
  Br (!y4) (
    R false h3) (
    (isIface y6 = true) ∧
    (isIface y8 = true) ∧
    Br (((((((!(isNil y6)) || (!(isNil y8))) || (Option.isNone y5)) || (Option.isNone y7)) || (decide (200 < n1))) || (decide (100 < ((is2.len : Int))))) || (decide (((xs3.len : Int)) < ((is2.len : Int))))) (
      (isIface y6 = true) ∧
      R ((isNil y6) == (!(Option.isNone y5))) h3) (
      ∀ X31 : Int → Heap → Prop, (∀ (a30 : Int) (h4 : Heap),
        (Br (decide (a30 < ((is2.len : Int)))) (
          Ix is2 a30 1 fun q36 =>
          LdI h4 q36 fun x38 =>
          Ix xs3 a30 1 fun q44 =>
          LdI h4 q44 fun x46 =>
          fen_Fen_Add r y5 x38 x46 h4 fun y48 h5 =>
          Ix is2 (w64 ((w64 (((is2.len : Int)) - 1)) - a30)) 1 fun q53 =>
          LdI h5 q53 fun x55 =>
          Ix xs3 (w64 ((w64 (((is2.len : Int)) - 1)) - a30)) 1 fun q61 =>
          LdI h5 q61 fun x63 =>
          fen_Fen_Add r y7 x55 x63 h5 fun y65 h6 =>
          X31 (w64 (a30 + 1)) h6) (
          fen_Fen_Ints r y5 h4 fun y66 h7 =>
          fen_Fen_Ints r y7 h7 fun y67 h8 =>
          same_Ints r y66 y67 h8 fun y68 h9 =>
          R y68 h9)) →
        X31 a30 h4) →
      X31 0 h3))

set_option maxRecDepth 100000 in
theorem law5_FenOrder_of {r : World} {n1 : Int} {is2 : Sl} {xs3 : Sl} {h : Heap} {R : Bool → Heap → Prop} (H : law5_FenOrder_F r n1 is2 xs3 h R) : law5_FenOrder r n1 is2 xs3 h R := by
  unfold law5_FenOrder_F at H
  refine calls_of 100 [.tmp 6] Try.func8 rfl rfl rfl rfl rfl ?_
  refine W_seq ?_
  refine W_region (.pu 0 .fin) rfl rfl ?_
  refine s_pu (d := some 6) (v := (.bool false)) rfl rfl rfl (r_assign rfl) ?_
  refine s_fin ?_
  show W _ _ _ _ _ _ _ _
  refine W_seq ?_
  refine W_region (.ef 0 [] (.pu 1 .fin) .no) rfl rfl ?_
  refine s_ef (d := some 15) rfl rfl rfl (fun dr => r_call Try.call17 rfl rfl H) ?_ trivial
  rintro _ h1 ⟨y4, rfl, H⟩
  refine ⟨trivial, ?_⟩
  refine s_pu (d := some 7) (v := (.bool y4)) rfl rfl rfl (r_assign rfl) ?_
  refine s_fin ?_
  show W _ _ _ _ _ _ _ _
  refine W_seq ?_
  refine W_region (.pu 0 (.ef 1 [] (.pu 2 (.pu 3 (.pu 4 (.pu 5 (.pu 6 .fin))))) .no)) rfl rfl ?_
  refine s_pu (d := some 17) (v := (.int .i64 n1)) rfl rfl rfl (r_move rfl) ?_
  refine s_ef (d := some 18) rfl rfl rfl (fun dr => r_call Try.call18 rfl rfl H) ?_ trivial
  rintro _ h2 ⟨y5, y6, rfl, H⟩
  refine ⟨trivial, ?_⟩
  refine s_pu (d := some 16) (v := (.tuple #[(.pointer y5), y6])) rfl rfl rfl (r_move rfl) ?_
  refine s_pu (d := some 19) (v := (.pointer y5)) rfl rfl rfl (r_extract rfl rfl) ?_
  refine s_pu (d := some 20) (v := y6) rfl rfl rfl (r_extract rfl rfl) ?_
  refine s_pu (d := some 8) (v := (.pointer y5)) rfl rfl rfl (r_assign rfl) ?_
  refine s_pu (d := some 9) (v := y6) rfl rfl rfl (r_assign rfl) ?_
  refine s_fin ?_
  show W _ _ _ _ _ _ _ _
  refine W_seq ?_
  refine W_region (.pu 0 (.ef 1 [] (.pu 2 (.pu 3 (.pu 4 (.pu 5 (.pu 6 .fin))))) .no)) rfl rfl ?_
  refine s_pu (d := some 22) (v := (.int .i64 n1)) rfl rfl rfl (r_move rfl) ?_
  refine s_ef (d := some 23) rfl rfl rfl (fun dr => r_call Try.call18 rfl rfl H) ?_ trivial
  rintro _ h3 ⟨y7, y8, rfl, H⟩
  refine ⟨trivial, ?_⟩
  refine s_pu (d := some 21) (v := (.tuple #[(.pointer y7), y8])) rfl rfl rfl (r_move rfl) ?_
  refine s_pu (d := some 24) (v := (.pointer y7)) rfl rfl rfl (r_extract rfl rfl) ?_
  refine s_pu (d := some 25) (v := y8) rfl rfl rfl (r_extract rfl rfl) ?_
  refine s_pu (d := some 10) (v := (.pointer y7)) rfl rfl rfl (r_assign rfl) ?_
  refine s_pu (d := some 11) (v := y8) rfl rfl rfl (r_assign rfl) ?_
  refine s_fin ?_
  show W _ _ _ _ _ _ _ _
  refine W_seq ?_
  refine W_seq ?_
  refine W_region (.pu 0 (.pu 1 .fin)) rfl rfl ?_
  refine s_pu (d := some 26) (v := (.bool y4)) rfl rfl rfl (r_move rfl) ?_
  refine s_pu (d := some 27) (v := (.bool (!y4))) rfl rfl rfl (r_not rfl) ?_
  refine s_fin ?_
  show W _ _ _ _ _ _ _ _
  refine W_if (!y4) rfl (fun g77 => ?_) (fun g77 => ?_)
  · have H := H.1 g77
    refine W_seq ?_
    refine W_region (.pu 0 .fin) rfl rfl ?_
    refine s_pu (d := some 6) (v := (.bool false)) rfl rfl rfl (r_assign rfl) ?_
    refine s_fin ?_
    show W _ _ _ _ _ _ _ _
    refine W_ret ?_
    exact ⟨[(.bool false)], ⟨_, _, rfl, rfl, rfl⟩, false, rfl, H⟩
  · have H := H.2 g77
    refine W_skip ?_
    show W _ _ _ _ _ _ _ _
    refine W_seq ?_
    refine W_seq ?_
    refine W_region (.pu 0 (.pu 1 (.pu 2 (.pu 3 (.pu 4 (.pu 5 (.pu 6 (.pu 7 (.pu 8 (.pu 9 (.pu 10 (.pu 11 (.pu 12 (.pu 13 (.pu 14 (.pu 15 (.pu 16 (.pu 17 (.pu 18 (.pu 19 (.pu 20 (.pu 21 (.pu 22 (.pu 23 (.pu 24 (.pu 25 (.pu 26 (.pu 27 (.pu 28 (.pu 29 .fin)))))))))))))))))))))))))))))) rfl rfl ?_
    refine s_pu (d := some 28) (v := y6) rfl rfl rfl (r_move rfl) ?_
    obtain ⟨e9, H⟩ := H
    refine s_pu (d := some 29) (v := (.bool (!(isNil y6)))) rfl rfl rfl (r_notNilI Try.underlying34 rfl e9 rfl) ?_
    refine s_pu (d := some 30) (v := (.bool (!(isNil y6)))) rfl rfl rfl (r_move rfl) ?_
    obtain ⟨e11, H⟩ := H
    refine S_meet (l := [(0, (.int .i64 n1)), (1, (Sl.v is2)), (2, (Sl.v xs3)), (8, (.pointer y5)), (9, y6), (10, (.pointer y7)), (33, (.bool ((!(isNil y6)) || (!(isNil y8)))))]) (i := 3) ?_ (fun HJ => ?_)
    · intro b
      show S _ _ _ _ _ _
      refine s_pu (d := some 34) (v := (.bool ((!(isNil y6)) || (!(isNil y8))))) rfl rfl rfl (r_move rfl) ?_
      refine S_meet (l := [(0, (.int .i64 n1)), (1, (Sl.v is2)), (2, (Sl.v xs3)), (8, (.pointer y5)), (9, y6), (10, (.pointer y7)), (37, (.bool (((!(isNil y6)) || (!(isNil y8))) || (Option.isNone y5))))]) (i := 3) ?_ (fun HJ => ?_)
      · intro b
        show S _ _ _ _ _ _
        refine s_pu (d := some 38) (v := (.bool (((!(isNil y6)) || (!(isNil y8))) || (Option.isNone y5)))) rfl rfl rfl (r_move rfl) ?_
        refine S_meet (l := [(0, (.int .i64 n1)), (1, (Sl.v is2)), (2, (Sl.v xs3)), (8, (.pointer y5)), (9, y6), (10, (.pointer y7)), (41, (.bool ((((!(isNil y6)) || (!(isNil y8))) || (Option.isNone y5)) || (Option.isNone y7))))]) (i := 3) ?_ (fun HJ => ?_)
        · intro b
          show S _ _ _ _ _ _
          refine s_pu (d := some 42) (v := (.bool ((((!(isNil y6)) || (!(isNil y8))) || (Option.isNone y5)) || (Option.isNone y7)))) rfl rfl rfl (r_move rfl) ?_
          refine S_meet (l := [(1, (Sl.v is2)), (2, (Sl.v xs3)), (8, (.pointer y5)), (9, y6), (10, (.pointer y7)), (45, (.bool (((((!(isNil y6)) || (!(isNil y8))) || (Option.isNone y5)) || (Option.isNone y7)) || (decide (200 < n1)))))]) (i := 3) ?_ (fun HJ => ?_)
          · intro b
            show S _ _ _ _ _ _
            refine s_pu (d := some 46) (v := (.bool (((((!(isNil y6)) || (!(isNil y8))) || (Option.isNone y5)) || (Option.isNone y7)) || (decide (200 < n1))))) rfl rfl rfl (r_move rfl) ?_
            refine S_meet (l := [(1, (Sl.v is2)), (2, (Sl.v xs3)), (8, (.pointer y5)), (9, y6), (10, (.pointer y7)), (50, (.bool ((((((!(isNil y6)) || (!(isNil y8))) || (Option.isNone y5)) || (Option.isNone y7)) || (decide (200 < n1))) || (decide (100 < ((is2.len : Int)))))))]) (i := 4) ?_ (fun HJ => ?_)
            · intro b
              show S _ _ _ _ _ _
              refine s_pu (d := some 51) (v := (.bool ((((((!(isNil y6)) || (!(isNil y8))) || (Option.isNone y5)) || (Option.isNone y7)) || (decide (200 < n1))) || (decide (100 < ((is2.len : Int))))))) rfl rfl rfl (r_move rfl) ?_
              refine S_meet (l := [(1, (Sl.v is2)), (2, (Sl.v xs3)), (8, (.pointer y5)), (9, y6), (10, (.pointer y7)), (57, (.bool (((((((!(isNil y6)) || (!(isNil y8))) || (Option.isNone y5)) || (Option.isNone y7)) || (decide (200 < n1))) || (decide (100 < ((is2.len : Int))))) || (decide (((xs3.len : Int)) < ((is2.len : Int)))))))]) (i := 6) ?_ (fun HJ => ?_)
              · intro b
                show S _ _ _ _ _ _
                refine s_fin ?_
                show W _ _ _ _ _ _ _ _
                refine W_if (((((((!(isNil y6)) || (!(isNil y8))) || (Option.isNone y5)) || (Option.isNone y7)) || (decide (200 < n1))) || (decide (100 < ((is2.len : Int))))) || (decide (((xs3.len : Int)) < ((is2.len : Int))))) rfl (fun g70 => ?_) (fun g70 => ?_)
                · have H := H.1 g70
                  refine W_seq ?_
                  refine W_region (.pu 0 (.pu 1 (.pu 2 (.pu 3 (.pu 4 (.pu 5 .fin)))))) rfl rfl ?_
                  refine s_pu (d := some 58) (v := y6) rfl rfl rfl (r_move rfl) ?_
                  obtain ⟨e29, H⟩ := H
                  refine s_pu (d := some 59) (v := (.bool (isNil y6))) rfl rfl rfl (r_nilI Try.underlying34 rfl e29 rfl) ?_
                  refine s_pu (d := some 60) (v := (.pointer y5)) rfl rfl rfl (r_move rfl) ?_
                  refine s_pu (d := some 61) (v := (.bool (!(Option.isNone y5)))) rfl rfl rfl (r_notNilP Try.underlying32 rfl rfl) ?_
                  refine s_pu (d := some 62) (v := (.bool ((isNil y6) == (!(Option.isNone y5))))) rfl rfl rfl (r_eqlB Try.underlying4 rfl rfl) ?_
                  refine s_pu (d := some 6) (v := (.bool ((isNil y6) == (!(Option.isNone y5))))) rfl rfl rfl (r_assign rfl) ?_
                  refine s_fin ?_
                  show W _ _ _ _ _ _ _ _
                  refine W_ret ?_
                  exact ⟨[(.bool ((isNil y6) == (!(Option.isNone y5))))], ⟨_, _, rfl, rfl, rfl⟩, ((isNil y6) == (!(Option.isNone y5))), rfl, H⟩
                · have H := H.2 g70
                  refine W_skip ?_
                  show W _ _ _ _ _ _ _ _
                  refine W_seq ?_
                  refine W_seq ?_
                  refine W_region (.pu 0 .fin) rfl rfl ?_
                  refine s_pu (d := some 12) (v := (.int .i64 0)) rfl rfl rfl (r_assign rfl) ?_
                  refine s_fin ?_
                  show W _ _ _ _ _ _ _ _
                  refine W_block ?_
                  refine W_loop (WL_mk (l := [(1, (Sl.v is2)), (2, (Sl.v xs3)), (8, (.pointer y5)), (10, (.pointer y7)), (12, (.int .i64 0))]) ?_ ⟨rfl, rfl, rfl, rfl, rfl, trivial⟩)
                  refine H (fun (a30 : Int) (h4 : Heap) => ∀ b, WL _ _ _ _ _ _ (mkE [(1, (Sl.v is2)), (2, (Sl.v xs3)), (8, (.pointer y5)), (10, (.pointer y7)), (12, (.int .i64 a30))] b) h4) ?_
                  intro a30 h4 H b
                  refine WL_round ?_
                  refine W_seq ?_
                  refine W_seq ?_
                  refine W_region (.pu 0 (.pu 1 (.pu 2 (.pu 3 .fin)))) rfl rfl ?_
                  refine s_pu (d := some 63) (v := (.int .i64 a30)) rfl rfl rfl (r_move rfl) ?_
                  refine s_pu (d := some 64) (v := (Sl.v is2)) rfl rfl rfl (r_move rfl) ?_
                  refine s_pu (d := some 65) (v := (.int .i64 ((is2.len : Int)))) rfl rfl rfl (r_len Try.underlying22 rfl) ?_
                  refine s_pu (d := some 66) (v := (.bool (decide (a30 < ((is2.len : Int)))))) rfl rfl rfl (r_lss rfl rfl) ?_
                  refine s_fin ?_
                  show W _ _ _ _ _ _ _ _
                  refine W_if (decide (a30 < ((is2.len : Int)))) rfl (fun g69 => ?_) (fun g69 => ?_)
                  · have H := H.1 g69
                    refine W_skip ?_
                    show W _ _ _ _ _ _ _ _
                    refine W_seq ?_
                    refine W_block ?_
                    refine W_seq ?_
                    refine W_region (.pu 0 (.pu 1 (.pu 2 (.pu 3 (.pu 4 (.pu 5 .fin)))))) rfl rfl ?_
                    refine s_pu (d := some 69) (v := (Sl.v is2)) rfl rfl rfl (r_move rfl) ?_
                    refine s_pu (d := some 70) (v := (.int .i64 ((is2.len : Int)))) rfl rfl rfl (r_len Try.underlying22 rfl) ?_
                    refine s_pu (d := some 71) (v := (.int .i64 (w64 (((is2.len : Int)) - 1)))) rfl rfl rfl (r_sub rfl rfl) ?_
                    refine s_pu (d := some 72) (v := (.int .i64 a30)) rfl rfl rfl (r_move rfl) ?_
                    refine s_pu (d := some 73) (v := (.int .i64 (w64 ((w64 (((is2.len : Int)) - 1)) - a30)))) rfl rfl rfl (r_sub rfl rfl) ?_
                    refine s_pu (d := some 13) (v := (.int .i64 (w64 ((w64 (((is2.len : Int)) - 1)) - a30)))) rfl rfl rfl (r_assign rfl) ?_
                    refine s_fin ?_
                    show W _ _ _ _ _ _ _ _
                    refine W_seq ?_
                    refine W_draw [0, 0, 0, 6, 14, 0, 0, 96, 224, 511] (.pu 0 (.pu 1 (.pu 2 (.pu 3 (.rd 4 (.pu 5 (.pu 6 (.pu 7 (.rd 8 (.ef 9 [4, 8] .fin .no)))))))))) (by kernel_rfl) (by kernel_rfl) ?_
                    refine s_pu (d := some 74) (v := (.pointer y5)) rfl rfl rfl (r_move rfl) ?_
                    refine s_pu (d := some 75) (v := (Sl.v is2)) rfl rfl rfl (r_move rfl) ?_
                    refine s_pu (d := some 76) (v := (.int .i64 a30)) rfl rfl rfl (r_move rfl) ?_
                    obtain ⟨p32, e33, e34, e35, H⟩ := H
                    obtain ⟨q36, e37⟩ : ∃ q : Addr, q = Addr.add p32 (Int.toNat a30 * 1) := ⟨_, rfl⟩
                    rw [← e37] at H
                    refine s_pu (d := some 77) (v := (.pointer (some q36))) rfl rfl rfl (fun w => (r_indexAddr Try.underlying22 Try.sizeOf3 rfl rfl e33 e34 e35 w).trans (by rw [e37])) ?_
                    obtain ⟨x38, e39, H⟩ := H
                    refine s_rd (d := some 78) (v := (.int .i64 x38)) rfl rfl rfl (fun dr => r_load1 Try.isAgg3 rfl e39) ?_
                    refine s_pu (d := some 79) (v := (Sl.v xs3)) rfl rfl rfl (r_move rfl) ?_
                    refine s_pu (d := some 80) (v := (.int .i64 a30)) rfl rfl rfl (r_move rfl) ?_
                    obtain ⟨p40, e41, e42, e43, H⟩ := H
                    obtain ⟨q44, e45⟩ : ∃ q : Addr, q = Addr.add p40 (Int.toNat a30 * 1) := ⟨_, rfl⟩
                    rw [← e45] at H
                    refine s_pu (d := some 81) (v := (.pointer (some q44))) rfl rfl rfl (fun w => (r_indexAddr Try.underlying22 Try.sizeOf3 rfl rfl e41 e42 e43 w).trans (by rw [e45])) ?_
                    obtain ⟨x46, e47, H⟩ := H
                    refine s_rd (d := some 82) (v := (.int .i64 x46)) rfl rfl rfl (fun dr => r_load1 Try.isAgg3 rfl e47) ?_
                    refine s_ef (d := some 83) rfl rfl rfl (fun dr => r_call Try.call19 rfl rfl H) ?_ trivial
                    rintro y48 h5 H
                    refine ⟨⟨trivial, trivial, trivial⟩, ?_⟩
                    refine s_fin ?_
                    show W _ _ _ _ _ _ _ _
                    refine W_draw [0, 0, 0, 6, 14, 0, 0, 96, 224, 511] (.pu 0 (.pu 1 (.pu 2 (.pu 3 (.rd 4 (.pu 5 (.pu 6 (.pu 7 (.rd 8 (.ef 9 [4, 8] .fin .no)))))))))) (by kernel_rfl) (by kernel_rfl) ?_
                    refine s_pu (d := some 84) (v := (.pointer y7)) rfl rfl rfl (r_move rfl) ?_
                    refine s_pu (d := some 85) (v := (Sl.v is2)) rfl rfl rfl (r_move rfl) ?_
                    refine s_pu (d := some 86) (v := (.int .i64 (w64 ((w64 (((is2.len : Int)) - 1)) - a30)))) rfl rfl rfl (r_move rfl) ?_
                    obtain ⟨p49, e50, e51, e52, H⟩ := H
                    obtain ⟨q53, e54⟩ : ∃ q : Addr, q = Addr.add p49 (Int.toNat (w64 ((w64 (((is2.len : Int)) - 1)) - a30)) * 1) := ⟨_, rfl⟩
                    rw [← e54] at H
                    refine s_pu (d := some 87) (v := (.pointer (some q53))) rfl rfl rfl (fun w => (r_indexAddr Try.underlying22 Try.sizeOf3 rfl rfl e50 e51 e52 w).trans (by rw [e54])) ?_
                    obtain ⟨x55, e56, H⟩ := H
                    refine s_rd (d := some 88) (v := (.int .i64 x55)) rfl rfl rfl (fun dr => r_load1 Try.isAgg3 rfl e56) ?_
                    refine s_pu (d := some 89) (v := (Sl.v xs3)) rfl rfl rfl (r_move rfl) ?_
                    refine s_pu (d := some 90) (v := (.int .i64 (w64 ((w64 (((is2.len : Int)) - 1)) - a30)))) rfl rfl rfl (r_move rfl) ?_
                    obtain ⟨p57, e58, e59, e60, H⟩ := H
                    obtain ⟨q61, e62⟩ : ∃ q : Addr, q = Addr.add p57 (Int.toNat (w64 ((w64 (((is2.len : Int)) - 1)) - a30)) * 1) := ⟨_, rfl⟩
                    rw [← e62] at H
                    refine s_pu (d := some 91) (v := (.pointer (some q61))) rfl rfl rfl (fun w => (r_indexAddr Try.underlying22 Try.sizeOf3 rfl rfl e58 e59 e60 w).trans (by rw [e62])) ?_
                    obtain ⟨x63, e64, H⟩ := H
                    refine s_rd (d := some 92) (v := (.int .i64 x63)) rfl rfl rfl (fun dr => r_load1 Try.isAgg3 rfl e64) ?_
                    refine s_ef (d := some 93) rfl rfl rfl (fun dr => r_call Try.call19 rfl rfl H) ?_ trivial
                    rintro y65 h6 H
                    refine ⟨⟨trivial, trivial, trivial⟩, ?_⟩
                    refine s_fin ?_
                    show W _ _ _ _ _ _ _ _
                    refine W_region (.pu 0 (.pu 1 (.pu 2 .fin))) rfl rfl ?_
                    refine s_pu (d := some 67) (v := (.int .i64 a30)) rfl rfl rfl (r_move rfl) ?_
                    refine s_pu (d := some 68) (v := (.int .i64 (w64 (a30 + 1)))) rfl rfl rfl (r_add rfl rfl) ?_
                    refine s_pu (d := some 12) (v := (.int .i64 (w64 (a30 + 1)))) rfl rfl rfl (r_assign rfl) ?_
                    refine s_fin ?_
                    exact WL_mk (l := [(1, (Sl.v is2)), (2, (Sl.v xs3)), (8, (.pointer y5)), (10, (.pointer y7)), (12, (.int .i64 (w64 (a30 + 1))))]) H ⟨rfl, rfl, rfl, rfl, rfl, trivial⟩
                  · have H := H.2 g69
                    refine W_exit (inX_here ?_)
                    show W _ _ _ _ _ _ _ _
                    refine W_seq ?_
                    refine W_region (.pu 0 (.ef 1 [] (.pu 2 (.ef 3 [] (.ef 4 [] (.pu 5 .fin) .no) .no)) .no)) rfl rfl ?_
                    refine s_pu (d := some 94) (v := (.pointer y5)) rfl rfl rfl (r_move rfl) ?_
                    refine s_ef (d := some 95) rfl rfl rfl (fun dr => r_call Try.call23 rfl rfl H) ?_ trivial
                    rintro _ h7 ⟨y66, rfl, H⟩
                    refine ⟨trivial, ?_⟩
                    refine s_pu (d := some 96) (v := (.pointer y7)) rfl rfl rfl (r_move rfl) ?_
                    refine s_ef (d := some 97) rfl rfl rfl (fun dr => r_call Try.call23 rfl rfl H) ?_ trivial
                    rintro _ h8 ⟨y67, rfl, H⟩
                    refine ⟨trivial, ?_⟩
                    refine s_ef (d := some 98) rfl rfl rfl (fun dr => r_call Try.call22 rfl rfl H) ?_ trivial
                    rintro _ h9 ⟨y68, rfl, H⟩
                    refine ⟨trivial, ?_⟩
                    refine s_pu (d := some 14) (v := (.bool y68)) rfl rfl rfl (r_assign rfl) ?_
                    refine s_fin ?_
                    show W _ _ _ _ _ _ _ _
                    refine W_seq ?_
                    refine W_region (.pu 0 (.pu 1 .fin)) rfl rfl ?_
                    refine s_pu (d := some 99) (v := (.bool y68)) rfl rfl rfl (r_move rfl) ?_
                    refine s_pu (d := some 6) (v := (.bool y68)) rfl rfl rfl (r_assign rfl) ?_
                    refine s_fin ?_
                    show W _ _ _ _ _ _ _ _
                    refine W_ret ?_
                    exact ⟨[(.bool y68)], ⟨_, _, rfl, rfl, rfl⟩, y68, rfl, H⟩
              · rcases Bool.eq_false_or_eq_true ((((((!(isNil y6)) || (!(isNil y8))) || (Option.isNone y5)) || (Option.isNone y7)) || (decide (200 < n1))) || (decide (100 < ((is2.len : Int))))) with g26 | g26
                · refine s_sk (d := some 52) rfl rfl (wants_no rfl rfl rfl rfl g26) ?_
                  refine s_sk (d := some 53) rfl rfl (wants_no rfl rfl rfl rfl g26) ?_
                  refine s_sk (d := some 54) rfl rfl (wants_no rfl rfl rfl rfl g26) ?_
                  refine s_sk (d := some 55) rfl rfl (wants_no rfl rfl rfl rfl g26) ?_
                  refine s_sk (d := some 56) rfl rfl (wants_no rfl rfl rfl rfl g26) ?_
                  refine s_pu (d := some 57) (v := (.bool true)) rfl rfl rfl (r_pick1 rfl g26 rfl) ?_
                  exact S_mk (l := [(1, (Sl.v is2)), (2, (Sl.v xs3)), (8, (.pointer y5)), (9, y6), (10, (.pointer y7)), (57, (.bool (((((((!(isNil y6)) || (!(isNil y8))) || (Option.isNone y5)) || (Option.isNone y7)) || (decide (200 < n1))) || (decide (100 < ((is2.len : Int))))) || (decide (((xs3.len : Int)) < ((is2.len : Int)))))))]) HJ ⟨rfl, rfl, rfl, rfl, rfl, (by rw [g26]; rfl), trivial⟩
                · refine s_pu (d := some 52) (v := (Sl.v is2)) rfl rfl (wants_yes rfl rfl rfl rfl g26) (r_move rfl) ?_
                  refine s_pu (d := some 53) (v := (.int .i64 ((is2.len : Int)))) rfl rfl (wants_yes rfl rfl rfl rfl g26) (r_len Try.underlying22 rfl) ?_
                  refine s_pu (d := some 54) (v := (Sl.v xs3)) rfl rfl (wants_yes rfl rfl rfl rfl g26) (r_move rfl) ?_
                  refine s_pu (d := some 55) (v := (.int .i64 ((xs3.len : Int)))) rfl rfl (wants_yes rfl rfl rfl rfl g26) (r_len Try.underlying22 rfl) ?_
                  refine s_pu (d := some 56) (v := (.bool (decide (((xs3.len : Int)) < ((is2.len : Int)))))) rfl rfl (wants_yes rfl rfl rfl rfl g26) (r_gtr rfl rfl) ?_
                  refine s_pu (d := some 57) (v := (.bool (decide (((xs3.len : Int)) < ((is2.len : Int)))))) rfl rfl rfl (r_pick0 rfl g26 rfl) ?_
                  exact S_mk (l := [(1, (Sl.v is2)), (2, (Sl.v xs3)), (8, (.pointer y5)), (9, y6), (10, (.pointer y7)), (57, (.bool (((((((!(isNil y6)) || (!(isNil y8))) || (Option.isNone y5)) || (Option.isNone y7)) || (decide (200 < n1))) || (decide (100 < ((is2.len : Int))))) || (decide (((xs3.len : Int)) < ((is2.len : Int)))))))]) HJ ⟨rfl, rfl, rfl, rfl, rfl, (by rw [g26]; rfl), trivial⟩
            · rcases Bool.eq_false_or_eq_true (((((!(isNil y6)) || (!(isNil y8))) || (Option.isNone y5)) || (Option.isNone y7)) || (decide (200 < n1))) with g23 | g23
              · refine s_sk (d := some 47) rfl rfl (wants_no rfl rfl rfl rfl g23) ?_
                refine s_sk (d := some 48) rfl rfl (wants_no rfl rfl rfl rfl g23) ?_
                refine s_sk (d := some 49) rfl rfl (wants_no rfl rfl rfl rfl g23) ?_
                refine s_pu (d := some 50) (v := (.bool true)) rfl rfl rfl (r_pick1 rfl g23 rfl) ?_
                exact S_mk (l := [(1, (Sl.v is2)), (2, (Sl.v xs3)), (8, (.pointer y5)), (9, y6), (10, (.pointer y7)), (50, (.bool ((((((!(isNil y6)) || (!(isNil y8))) || (Option.isNone y5)) || (Option.isNone y7)) || (decide (200 < n1))) || (decide (100 < ((is2.len : Int)))))))]) HJ ⟨rfl, rfl, rfl, rfl, rfl, (by rw [g23]; rfl), trivial⟩
              · refine s_pu (d := some 47) (v := (Sl.v is2)) rfl rfl (wants_yes rfl rfl rfl rfl g23) (r_move rfl) ?_
                refine s_pu (d := some 48) (v := (.int .i64 ((is2.len : Int)))) rfl rfl (wants_yes rfl rfl rfl rfl g23) (r_len Try.underlying22 rfl) ?_
                refine s_pu (d := some 49) (v := (.bool (decide (100 < ((is2.len : Int)))))) rfl rfl (wants_yes rfl rfl rfl rfl g23) (r_gtr rfl rfl) ?_
                refine s_pu (d := some 50) (v := (.bool (decide (100 < ((is2.len : Int)))))) rfl rfl rfl (r_pick0 rfl g23 rfl) ?_
                exact S_mk (l := [(1, (Sl.v is2)), (2, (Sl.v xs3)), (8, (.pointer y5)), (9, y6), (10, (.pointer y7)), (50, (.bool ((((((!(isNil y6)) || (!(isNil y8))) || (Option.isNone y5)) || (Option.isNone y7)) || (decide (200 < n1))) || (decide (100 < ((is2.len : Int)))))))]) HJ ⟨rfl, rfl, rfl, rfl, rfl, (by rw [g23]; rfl), trivial⟩
          · rcases Bool.eq_false_or_eq_true ((((!(isNil y6)) || (!(isNil y8))) || (Option.isNone y5)) || (Option.isNone y7)) with g20 | g20
            · refine s_sk (d := some 43) rfl rfl (wants_no rfl rfl rfl rfl g20) ?_
              refine s_sk (d := some 44) rfl rfl (wants_no rfl rfl rfl rfl g20) ?_
              refine s_pu (d := some 45) (v := (.bool true)) rfl rfl rfl (r_pick1 rfl g20 rfl) ?_
              exact S_mk (l := [(1, (Sl.v is2)), (2, (Sl.v xs3)), (8, (.pointer y5)), (9, y6), (10, (.pointer y7)), (45, (.bool (((((!(isNil y6)) || (!(isNil y8))) || (Option.isNone y5)) || (Option.isNone y7)) || (decide (200 < n1)))))]) HJ ⟨rfl, rfl, rfl, rfl, rfl, (by rw [g20]; rfl), trivial⟩
            · refine s_pu (d := some 43) (v := (.int .i64 n1)) rfl rfl (wants_yes rfl rfl rfl rfl g20) (r_move rfl) ?_
              refine s_pu (d := some 44) (v := (.bool (decide (200 < n1)))) rfl rfl (wants_yes rfl rfl rfl rfl g20) (r_gtr rfl rfl) ?_
              refine s_pu (d := some 45) (v := (.bool (decide (200 < n1)))) rfl rfl rfl (r_pick0 rfl g20 rfl) ?_
              exact S_mk (l := [(1, (Sl.v is2)), (2, (Sl.v xs3)), (8, (.pointer y5)), (9, y6), (10, (.pointer y7)), (45, (.bool (((((!(isNil y6)) || (!(isNil y8))) || (Option.isNone y5)) || (Option.isNone y7)) || (decide (200 < n1)))))]) HJ ⟨rfl, rfl, rfl, rfl, rfl, (by rw [g20]; rfl), trivial⟩
        · rcases Bool.eq_false_or_eq_true (((!(isNil y6)) || (!(isNil y8))) || (Option.isNone y5)) with g17 | g17
          · refine s_sk (d := some 39) rfl rfl (wants_no rfl rfl rfl rfl g17) ?_
            refine s_sk (d := some 40) rfl rfl (wants_no rfl rfl rfl rfl g17) ?_
            refine s_pu (d := some 41) (v := (.bool true)) rfl rfl rfl (r_pick1 rfl g17 rfl) ?_
            exact S_mk (l := [(0, (.int .i64 n1)), (1, (Sl.v is2)), (2, (Sl.v xs3)), (8, (.pointer y5)), (9, y6), (10, (.pointer y7)), (41, (.bool ((((!(isNil y6)) || (!(isNil y8))) || (Option.isNone y5)) || (Option.isNone y7))))]) HJ ⟨rfl, rfl, rfl, rfl, rfl, rfl, (by rw [g17]; rfl), trivial⟩
          · refine s_pu (d := some 39) (v := (.pointer y7)) rfl rfl (wants_yes rfl rfl rfl rfl g17) (r_move rfl) ?_
            refine s_pu (d := some 40) (v := (.bool (Option.isNone y7))) rfl rfl (wants_yes rfl rfl rfl rfl g17) (r_nilP Try.underlying32 rfl rfl) ?_
            refine s_pu (d := some 41) (v := (.bool (Option.isNone y7))) rfl rfl rfl (r_pick0 rfl g17 rfl) ?_
            exact S_mk (l := [(0, (.int .i64 n1)), (1, (Sl.v is2)), (2, (Sl.v xs3)), (8, (.pointer y5)), (9, y6), (10, (.pointer y7)), (41, (.bool ((((!(isNil y6)) || (!(isNil y8))) || (Option.isNone y5)) || (Option.isNone y7))))]) HJ ⟨rfl, rfl, rfl, rfl, rfl, rfl, (by rw [g17]; rfl), trivial⟩
      · rcases Bool.eq_false_or_eq_true ((!(isNil y6)) || (!(isNil y8))) with g14 | g14
        · refine s_sk (d := some 35) rfl rfl (wants_no rfl rfl rfl rfl g14) ?_
          refine s_sk (d := some 36) rfl rfl (wants_no rfl rfl rfl rfl g14) ?_
          refine s_pu (d := some 37) (v := (.bool true)) rfl rfl rfl (r_pick1 rfl g14 rfl) ?_
          exact S_mk (l := [(0, (.int .i64 n1)), (1, (Sl.v is2)), (2, (Sl.v xs3)), (8, (.pointer y5)), (9, y6), (10, (.pointer y7)), (37, (.bool (((!(isNil y6)) || (!(isNil y8))) || (Option.isNone y5))))]) HJ ⟨rfl, rfl, rfl, rfl, rfl, rfl, (by rw [g14]; rfl), trivial⟩
        · refine s_pu (d := some 35) (v := (.pointer y5)) rfl rfl (wants_yes rfl rfl rfl rfl g14) (r_move rfl) ?_
          refine s_pu (d := some 36) (v := (.bool (Option.isNone y5))) rfl rfl (wants_yes rfl rfl rfl rfl g14) (r_nilP Try.underlying32 rfl rfl) ?_
          refine s_pu (d := some 37) (v := (.bool (Option.isNone y5))) rfl rfl rfl (r_pick0 rfl g14 rfl) ?_
          exact S_mk (l := [(0, (.int .i64 n1)), (1, (Sl.v is2)), (2, (Sl.v xs3)), (8, (.pointer y5)), (9, y6), (10, (.pointer y7)), (37, (.bool (((!(isNil y6)) || (!(isNil y8))) || (Option.isNone y5))))]) HJ ⟨rfl, rfl, rfl, rfl, rfl, rfl, (by rw [g14]; rfl), trivial⟩
    · rcases Bool.eq_false_or_eq_true (!(isNil y6)) with g10 | g10
      · refine s_sk (d := some 31) rfl rfl (wants_no rfl rfl rfl rfl g10) ?_
        refine s_sk (d := some 32) rfl rfl (wants_no rfl rfl rfl rfl g10) ?_
        refine s_pu (d := some 33) (v := (.bool true)) rfl rfl rfl (r_pick1 rfl g10 rfl) ?_
        exact S_mk (l := [(0, (.int .i64 n1)), (1, (Sl.v is2)), (2, (Sl.v xs3)), (8, (.pointer y5)), (9, y6), (10, (.pointer y7)), (33, (.bool ((!(isNil y6)) || (!(isNil y8)))))]) HJ ⟨rfl, rfl, rfl, rfl, rfl, rfl, (by rw [g10]; rfl), trivial⟩
      · refine s_pu (d := some 31) (v := y8) rfl rfl (wants_yes rfl rfl rfl rfl g10) (r_move rfl) ?_
        refine s_pu (d := some 32) (v := (.bool (!(isNil y8)))) rfl rfl (wants_yes rfl rfl rfl rfl g10) (r_notNilI Try.underlying34 rfl e11 rfl) ?_
        refine s_pu (d := some 33) (v := (.bool (!(isNil y8)))) rfl rfl rfl (r_pick0 rfl g10 rfl) ?_
        exact S_mk (l := [(0, (.int .i64 n1)), (1, (Sl.v is2)), (2, (Sl.v xs3)), (8, (.pointer y5)), (9, y6), (10, (.pointer y7)), (33, (.bool ((!(isNil y6)) || (!(isNil y8)))))]) HJ ⟨rfl, rfl, rfl, rfl, rfl, rfl, (by rw [g10]; rfl), trivial⟩

end Go.Proofs.Ythjfnfhgnbmgcaa
