/- Typed words of functions, and that they hold: printed by gen.py (an own tool of this claim) off the model's own form of each function. -/
import Derived.Test.YtfiemlcoliijoaaProg
import Derived.Test.YtfiemlcoliijoaaTwMore
import Derived.Test.YtfiemlcoliijoaaTwGrow
namespace Go.Proofs.Ytfiemlcoliijoaa
open Go Go.RowKit Go.Tw
set_option linter.unusedVariables false

abbrev txtHTab1 : ByteArray := ⟨#[0, 1, 2, 2, 3, 3, 3, 3, 4, 4, 4, 4, 4, 4, 4, 4, 5, 5, 5, 5, 5, 5, 5, 5, 5, 5, 5, 5, 5, 5, 5, 5, 6, 6, 6, 6, 6, 6, 6, 6, 6, 6, 6, 6, 6, 6, 6, 6, 6, 6, 6, 6, 6, 6, 6, 6, 6, 6, 6, 6, 6, 6, 6, 6, 7, 7, 7, 7, 7, 7, 7, 7, 7, 7, 7, 7, 7, 7, 7, 7, 7, 7, 7, 7, 7, 7, 7, 7, 7, 7, 7, 7, 7, 7, 7, 7, 7, 7, 7, 7, 7, 7, 7, 7, 7, 7, 7, 7, 7, 7, 7, 7, 7, 7, 7, 7, 7, 7, 7, 7, 7, 7, 7, 7, 7, 7, 7, 7, 8, 8, 8, 8, 8, 8, 8, 8, 8, 8, 8, 8, 8, 8, 8, 8, 8, 8, 8, 8, 8, 8, 8, 8, 8, 8, 8, 8, 8, 8, 8, 8, 8, 8, 8, 8, 8, 8, 8, 8, 8, 8, 8, 8, 8, 8, 8, 8, 8, 8, 8, 8, 8, 8, 8, 8, 8, 8, 8, 8, 8, 8, 8, 8, 8, 8, 8, 8, 8, 8, 8, 8, 8, 8, 8, 8, 8, 8, 8, 8, 8, 8, 8, 8, 8, 8, 8, 8, 8, 8, 8, 8, 8, 8, 8, 8, 8, 8, 8, 8, 8, 8, 8, 8, 8, 8, 8, 8, 8, 8, 8, 8, 8, 8, 8, 8, 8, 8, 8, 8, 8, 8, 8, 8, 8, 8, 8, 8]⟩
theorem slFHTab_22 : SlF Try.prog 22 3 1 8 (.int .i64 0) := ⟨Try.underlying22, ⟨Try.t3, by kernel_rfl, rfl, rfl, rfl⟩, rfl, Try.sizeOf3, Try.zeroValue3⟩
theorem slFHTab_59 : SlF Try.prog 59 22 1 24 (Sl.v Sl.nil) := ⟨Try.underlying59, ⟨Try.t22, by kernel_rfl, rfl, rfl, rfl⟩, rfl, Try.sizeOf22, Try.zeroValue22⟩

/-! ### the calls -/

abbrev math_bits_Len64 (r : World) (x1 : Int) (h : Heap) (R : Int → Heap → Prop) : Prop :=
  CallsH Try.prog r 54 [(.int .u64 x1)] h fun v h' => ∃ (y2 : Int), v = (.int .i64 y2) ∧ R y2 h'

theorem math_bits_Len64.mono {r : World} {x1 : Int} {h : Heap} {R R' : Int → Heap → Prop} (H : math_bits_Len64 r x1 h R) (hr : ∀ y2 h, R y2 h → R' y2 h) : math_bits_Len64 r x1 h R' :=
  CallsH.mono H fun _ _ hx => by
    obtain ⟨y2, hv, hR⟩ := hx
    exact ⟨y2, hv, hr _ _ hR⟩

abbrev math_bits_Len32 (r : World) (x1 : Int) (h : Heap) (R : Int → Heap → Prop) : Prop :=
  CallsH Try.prog r 53 [(.int .u32 x1)] h fun v h' => ∃ (y2 : Int), v = (.int .i64 y2) ∧ R y2 h'

theorem math_bits_Len32.mono {r : World} {x1 : Int} {h : Heap} {R R' : Int → Heap → Prop} (H : math_bits_Len32 r x1 h R) (hr : ∀ y2 h, R y2 h → R' y2 h) : math_bits_Len32 r x1 h R' :=
  CallsH.mono H fun _ _ hx => by
    obtain ⟨y2, hv, hR⟩ := hx
    exact ⟨y2, hv, hr _ _ hR⟩

abbrev math_bits_Len (r : World) (x1 : Int) (h : Heap) (R : Int → Heap → Prop) : Prop :=
  CallsH Try.prog r 44 [(.int .u64 x1)] h fun v h' => ∃ (y2 : Int), v = (.int .i64 y2) ∧ R y2 h'

theorem math_bits_Len.mono {r : World} {x1 : Int} {h : Heap} {R R' : Int → Heap → Prop} (H : math_bits_Len r x1 h R) (hr : ∀ y2 h, R y2 h → R' y2 h) : math_bits_Len r x1 h R' :=
  CallsH.mono H fun _ _ hx => by
    obtain ⟨y2, hv, hR⟩ := hx
    exact ⟨y2, hv, hr _ _ hR⟩

abbrev slices_Clone_int_int (r : World) (s1 : Sl) (h : Heap) (R : Sl → Heap → Prop) : Prop :=
  CallsH Try.prog r 17 [(Sl.v s1)] h fun v h' => ∃ (y2 : Sl), v = (Sl.v y2) ∧ R y2 h'

theorem slices_Clone_int_int.mono {r : World} {s1 : Sl} {h : Heap} {R R' : Sl → Heap → Prop} (H : slices_Clone_int_int r s1 h R) (hr : ∀ y2 h, R y2 h → R' y2 h) : slices_Clone_int_int r s1 h R' :=
  CallsH.mono H fun _ _ hx => by
    obtain ⟨y2, hv, hR⟩ := hx
    exact ⟨y2, hv, hr _ _ hR⟩

abbrev table_New (r : World) (l1 : Sl) (h : Heap) (R : Option Addr → Value → Heap → Prop) : Prop :=
  CallsH Try.prog r 6 [(Sl.v l1)] h fun v h' => ∃ (y2 : Option Addr) (y3 : Value), v = (.tuple #[(.pointer y2), y3]) ∧ R y2 y3 h'

theorem table_New.mono {r : World} {l1 : Sl} {h : Heap} {R R' : Option Addr → Value → Heap → Prop} (H : table_New r l1 h R) (hr : ∀ y2 y3 h, R y2 y3 h → R' y2 y3 h) : table_New r l1 h R' :=
  CallsH.mono H fun _ _ hx => by
    obtain ⟨y2, y3, hv, hR⟩ := hx
    exact ⟨y2, y3, hv, hr _ _ _ hR⟩

abbrev table_Table_next (r : World) (t1 : Option Addr) (row2 : Sl) (n3 : Int) (of4 : Value) (h : Heap) (R : Sl → Heap → Prop) : Prop :=
  CallsH Try.prog r 18 [(.pointer t1), (Sl.v row2), (.int .i64 n3), of4] h fun v h' => ∃ (y5 : Sl), v = (Sl.v y5) ∧ R y5 h'

theorem table_Table_next.mono {r : World} {t1 : Option Addr} {row2 : Sl} {n3 : Int} {of4 : Value} {h : Heap} {R R' : Sl → Heap → Prop} (H : table_Table_next r t1 row2 n3 of4 h R) (hr : ∀ y5 h, R y5 h → R' y5 h) : table_Table_next r t1 row2 n3 of4 h R' :=
  CallsH.mono H fun _ _ hx => by
    obtain ⟨y5, hv, hR⟩ := hx
    exact ⟨y5, hv, hr _ _ hR⟩

abbrev table_Table_low (r : World) (t1 : Option Addr) (i2 : Int) (j3 : Int) (h : Heap) (R : Int → Heap → Prop) : Prop :=
  CallsH Try.prog r 19 [(.pointer t1), (.int .i64 i2), (.int .i64 j3)] h fun v h' => ∃ (y4 : Int), v = (.int .i64 y4) ∧ R y4 h'

theorem table_Table_low.mono {r : World} {t1 : Option Addr} {i2 : Int} {j3 : Int} {h : Heap} {R R' : Int → Heap → Prop} (H : table_Table_low r t1 i2 j3 h R) (hr : ∀ y4 h, R y4 h → R' y4 h) : table_Table_low r t1 i2 j3 h R' :=
  CallsH.mono H fun _ _ hx => by
    obtain ⟨y4, hv, hR⟩ := hx
    exact ⟨y4, hv, hr _ _ hR⟩

abbrev table_Table_high (r : World) (t1 : Option Addr) (i2 : Int) (j3 : Int) (h : Heap) (R : Int → Heap → Prop) : Prop :=
  CallsH Try.prog r 20 [(.pointer t1), (.int .i64 i2), (.int .i64 j3)] h fun v h' => ∃ (y4 : Int), v = (.int .i64 y4) ∧ R y4 h'

theorem table_Table_high.mono {r : World} {t1 : Option Addr} {i2 : Int} {j3 : Int} {h : Heap} {R R' : Int → Heap → Prop} (H : table_Table_high r t1 i2 j3 h R) (hr : ∀ y4 h, R y4 h → R' y4 h) : table_Table_high r t1 i2 j3 h R' :=
  CallsH.mono H fun _ _ hx => by
    obtain ⟨y4, hv, hR⟩ := hx
    exact ⟨y4, hv, hr _ _ hR⟩

abbrev table_Table_told (r : World) (t1 : Option Addr) (rows2 : Sl) (i3 : Int) (j4 : Int) (of5 : Value) (h : Heap) (R : Int → Value → Heap → Prop) : Prop :=
  CallsH Try.prog r 28 [(.pointer t1), (Sl.v rows2), (.int .i64 i3), (.int .i64 j4), of5] h fun v h' => ∃ (y6 : Int) (y7 : Value), v = (.tuple #[(.int .i64 y6), y7]) ∧ R y6 y7 h'

theorem table_Table_told.mono {r : World} {t1 : Option Addr} {rows2 : Sl} {i3 : Int} {j4 : Int} {of5 : Value} {h : Heap} {R R' : Int → Value → Heap → Prop} (H : table_Table_told r t1 rows2 i3 j4 of5 h R) (hr : ∀ y6 y7 h, R y6 y7 h → R' y6 y7 h) : table_Table_told r t1 rows2 i3 j4 of5 h R' :=
  CallsH.mono H fun _ _ hx => by
    obtain ⟨y6, y7, hv, hR⟩ := hx
    exact ⟨y6, y7, hv, hr _ _ _ hR⟩

abbrev table_Table_Least (r : World) (t1 : Option Addr) (i2 : Int) (j3 : Int) (h : Heap) (R : Int → Value → Heap → Prop) : Prop :=
  CallsH Try.prog r 13 [(.pointer t1), (.int .i64 i2), (.int .i64 j3)] h fun v h' => ∃ (y4 : Int) (y5 : Value), v = (.tuple #[(.int .i64 y4), y5]) ∧ R y4 y5 h'

theorem table_Table_Least.mono {r : World} {t1 : Option Addr} {i2 : Int} {j3 : Int} {h : Heap} {R R' : Int → Value → Heap → Prop} (H : table_Table_Least r t1 i2 j3 h R) (hr : ∀ y4 y5 h, R y4 y5 h → R' y4 y5 h) : table_Table_Least r t1 i2 j3 h R' :=
  CallsH.mono H fun _ _ hx => by
    obtain ⟨y4, y5, hv, hR⟩ := hx
    exact ⟨y4, y5, hv, hr _ _ _ hR⟩

/-! ### math_bits_Len64 -/

def math_bits_Len64_F (r : World) (x1 : Int) (h : Heap) (R : Int → Heap → Prop) : Prop :=
  ∀ J4 : Int → Int → Prop, (∀ (x2 : Int) (n3 : Int),
    (∀ J8 : Int → Int → Prop, (∀ (x6 : Int) (n7 : Int),
      (∀ J12 : Int → Int → Prop, (∀ (x10 : Int) (n11 : Int),
        (0 ≤ (IntKind.wrap .u8 x10) ∧ (IntKind.wrap .u8 x10) < (ByteArray.size txtHTab1 : Int) ∧
        ∀ x16 : Int, x16 = (w64 (n11 + (w64 (strAt txtHTab1 (IntKind.wrap .u8 x10))))) →
        R x16 h) →
        J12 x10 n11) →
      Br (decide (256 ≤ x6)) (
        J12 (sShr .u64 x6 8) (w64 (n7 + 8))) (
        J12 x6 n7)) →
      J8 x6 n7) →
    Br (decide (65536 ≤ x2)) (
      J8 (sShr .u64 x2 16) (w64 (n3 + 16))) (
      J8 x2 n3)) →
    J4 x2 n3) →
  Br (decide (4294967296 ≤ x1)) (
    J4 (sShr .u64 x1 32) 32) (
    J4 x1 0)

set_option maxRecDepth 100000 in
theorem math_bits_Len64_of {r : World} {x1 : Int} {h : Heap} {R : Int → Heap → Prop} (H : math_bits_Len64_F r x1 h R) : math_bits_Len64 r x1 h R := by
  unfold math_bits_Len64_F at H
  refine calls_of 25 [.tmp 2] Try.func54 rfl rfl rfl rfl rfl ?_
  refine W_seq ?_
  refine W_region (.pu 0 .fin) rfl rfl ?_
  refine s_pu (d := some 2) (v := (.int .i64 0)) rfl rfl rfl (r_assign rfl) ?_
  refine s_fin ?_
  show W _ _ _ _ _ _ _ _
  refine W_seq ?_
  refine W_seq ?_
  refine W_region (.pu 0 (.pu 1 .fin)) rfl rfl ?_
  refine s_pu (d := some 3) (v := (.int .u64 x1)) rfl rfl rfl (r_move rfl) ?_
  refine s_pu (d := some 4) (v := (.bool (decide (4294967296 ≤ x1)))) rfl rfl rfl (r_geq rfl rfl) ?_
  refine s_fin ?_
  show W _ _ _ _ _ _ _ _
  refine W_set ?_
  intro N5 eN5
  have H := H (fun (x2 : Int) (n3 : Int) => ∀ b, N5 [] (mkE [(0, (.int .u64 x2)), (2, (.int .i64 n3))] b) h) (by
    intro x2 n3 H b
    rw [eN5]
    show W _ _ _ _ _ _ _ _
    refine W_seq ?_
    refine W_seq ?_
    refine W_region (.pu 0 (.pu 1 .fin)) rfl rfl ?_
    refine s_pu (d := some 7) (v := (.int .u64 x2)) rfl rfl rfl (r_move rfl) ?_
    refine s_pu (d := some 8) (v := (.bool (decide (65536 ≤ x2)))) rfl rfl rfl (r_geq rfl rfl) ?_
    refine s_fin ?_
    show W _ _ _ _ _ _ _ _
    refine W_set ?_
    intro N9 eN9
    have H := H (fun (x6 : Int) (n7 : Int) => ∀ b, N9 [] (mkE [(0, (.int .u64 x6)), (2, (.int .i64 n7))] b) h) (by
      intro x6 n7 H b
      rw [eN9]
      show W _ _ _ _ _ _ _ _
      refine W_seq ?_
      refine W_seq ?_
      refine W_region (.pu 0 (.pu 1 .fin)) rfl rfl ?_
      refine s_pu (d := some 13) (v := (.int .u64 x6)) rfl rfl rfl (r_move rfl) ?_
      refine s_pu (d := some 14) (v := (.bool (decide (256 ≤ x6)))) rfl rfl rfl (r_geq rfl rfl) ?_
      refine s_fin ?_
      show W _ _ _ _ _ _ _ _
      refine W_set ?_
      intro N13 eN13
      have H := H (fun (x10 : Int) (n11 : Int) => ∀ b, N13 [] (mkE [(0, (.int .u64 x10)), (2, (.int .i64 n11))] b) h) (by
        intro x10 n11 H b
        rw [eN13]
        show W _ _ _ _ _ _ _ _
        refine W_seq ?_
        refine W_region (.pu 0 (.pu 1 (.pu 2 (.pu 3 (.pu 4 (.pu 5 (.pu 6 .fin))))))) rfl rfl ?_
        refine s_pu (d := some 19) (v := (.int .i64 n11)) rfl rfl rfl (r_move rfl) ?_
        refine s_pu (d := some 20) (v := (.int .u64 x10)) rfl rfl rfl (r_move rfl) ?_
        refine s_pu (d := some 21) (v := (.int .u8 (IntKind.wrap .u8 x10))) rfl rfl rfl (r_conv Try.underlying108 Try.underlying5 rfl) ?_
        obtain ⟨e14, e15, H⟩ := H
        refine s_pu (d := some 22) (v := (.int .u8 (strAt txtHTab1 (IntKind.wrap .u8 x10)))) rfl rfl rfl (r_indexStr Try.underlying9 rfl rfl e14 e15) ?_
        refine s_pu (d := some 23) (v := (.int .i64 (w64 (strAt txtHTab1 (IntKind.wrap .u8 x10))))) rfl rfl rfl (r_conv Try.underlying5 Try.underlying3 rfl) ?_
        refine s_pu (d := some 24) (v := (.int .i64 (w64 (n11 + (w64 (strAt txtHTab1 (IntKind.wrap .u8 x10))))))) rfl rfl rfl (r_add rfl rfl) ?_
        obtain ⟨x16, e17⟩ : ∃ x : Int, x = (w64 (n11 + (w64 (strAt txtHTab1 (IntKind.wrap .u8 x10))))) := ⟨_, rfl⟩
        have H := H x16 e17
        refine s_pu (d := some 2) (v := (.int .i64 x16)) rfl rfl rfl (r_assign (congrArg (Value.int .i64) e17.symm)) ?_
        refine s_fin ?_
        show W _ _ _ _ _ _ _ _
        refine W_ret ?_
        exact ⟨[(.int .i64 x16)], ⟨_, _, rfl, rfl, rfl⟩, x16, rfl, H⟩)
      clear eN13
      refine W_if (decide (256 ≤ x6)) rfl (fun g18 => ?_) (fun g18 => ?_)
      · have H := H.1 g18
        refine W_seq ?_
        refine W_region (.pu 0 (.pu 1 (.pu 2 .fin))) rfl rfl ?_
        refine s_pu (d := some 15) (v := (.int .u64 x6)) rfl rfl rfl (r_move rfl) ?_
        refine s_pu (d := some 16) (v := (.int .u64 (sShr .u64 x6 8))) rfl rfl rfl (r_shr rfl rfl (by decide)) ?_
        refine s_pu (d := some 0) (v := (.int .u64 (sShr .u64 x6 8))) rfl rfl rfl (r_assign rfl) ?_
        refine s_fin ?_
        show W _ _ _ _ _ _ _ _
        refine W_region (.pu 0 (.pu 1 (.pu 2 .fin))) rfl rfl ?_
        refine s_pu (d := some 17) (v := (.int .i64 n7)) rfl rfl rfl (r_move rfl) ?_
        refine s_pu (d := some 18) (v := (.int .i64 (w64 (n7 + 8)))) rfl rfl rfl (r_add rfl rfl) ?_
        refine s_pu (d := some 2) (v := (.int .i64 (w64 (n7 + 8)))) rfl rfl rfl (r_assign rfl) ?_
        refine s_fin ?_
        exact N_mk (l := [(0, (.int .u64 (sShr .u64 x6 8))), (2, (.int .i64 (w64 (n7 + 8))))]) H ⟨rfl, rfl, trivial⟩
      · have H := H.2 g18
        refine W_skip ?_
        exact N_mk (l := [(0, (.int .u64 x6)), (2, (.int .i64 n7))]) H ⟨rfl, rfl, trivial⟩)
    clear eN9
    refine W_if (decide (65536 ≤ x2)) rfl (fun g19 => ?_) (fun g19 => ?_)
    · have H := H.1 g19
      refine W_seq ?_
      refine W_region (.pu 0 (.pu 1 (.pu 2 .fin))) rfl rfl ?_
      refine s_pu (d := some 9) (v := (.int .u64 x2)) rfl rfl rfl (r_move rfl) ?_
      refine s_pu (d := some 10) (v := (.int .u64 (sShr .u64 x2 16))) rfl rfl rfl (r_shr rfl rfl (by decide)) ?_
      refine s_pu (d := some 0) (v := (.int .u64 (sShr .u64 x2 16))) rfl rfl rfl (r_assign rfl) ?_
      refine s_fin ?_
      show W _ _ _ _ _ _ _ _
      refine W_region (.pu 0 (.pu 1 (.pu 2 .fin))) rfl rfl ?_
      refine s_pu (d := some 11) (v := (.int .i64 n3)) rfl rfl rfl (r_move rfl) ?_
      refine s_pu (d := some 12) (v := (.int .i64 (w64 (n3 + 16)))) rfl rfl rfl (r_add rfl rfl) ?_
      refine s_pu (d := some 2) (v := (.int .i64 (w64 (n3 + 16)))) rfl rfl rfl (r_assign rfl) ?_
      refine s_fin ?_
      exact N_mk (l := [(0, (.int .u64 (sShr .u64 x2 16))), (2, (.int .i64 (w64 (n3 + 16))))]) H ⟨rfl, rfl, trivial⟩
    · have H := H.2 g19
      refine W_skip ?_
      exact N_mk (l := [(0, (.int .u64 x2)), (2, (.int .i64 n3))]) H ⟨rfl, rfl, trivial⟩)
  clear eN5
  refine W_if (decide (4294967296 ≤ x1)) rfl (fun g20 => ?_) (fun g20 => ?_)
  · have H := H.1 g20
    refine W_seq ?_
    refine W_region (.pu 0 (.pu 1 (.pu 2 .fin))) rfl rfl ?_
    refine s_pu (d := some 5) (v := (.int .u64 x1)) rfl rfl rfl (r_move rfl) ?_
    refine s_pu (d := some 6) (v := (.int .u64 (sShr .u64 x1 32))) rfl rfl rfl (r_shr rfl rfl (by decide)) ?_
    refine s_pu (d := some 0) (v := (.int .u64 (sShr .u64 x1 32))) rfl rfl rfl (r_assign rfl) ?_
    refine s_fin ?_
    show W _ _ _ _ _ _ _ _
    refine W_region (.pu 0 .fin) rfl rfl ?_
    refine s_pu (d := some 2) (v := (.int .i64 32)) rfl rfl rfl (r_assign rfl) ?_
    refine s_fin ?_
    exact N_mk (l := [(0, (.int .u64 (sShr .u64 x1 32))), (2, (.int .i64 32))]) H ⟨rfl, rfl, trivial⟩
  · have H := H.2 g20
    refine W_skip ?_
    exact N_mk (l := [(0, (.int .u64 x1)), (2, (.int .i64 0))]) H ⟨rfl, rfl, trivial⟩

/-! ### math_bits_Len32 -/

def math_bits_Len32_F (r : World) (x1 : Int) (h : Heap) (R : Int → Heap → Prop) : Prop :=
  ∀ J4 : Int → Int → Prop, (∀ (x2 : Int) (n3 : Int),
    (∀ J8 : Int → Int → Prop, (∀ (x6 : Int) (n7 : Int),
      (0 ≤ (IntKind.wrap .u8 x6) ∧ (IntKind.wrap .u8 x6) < (ByteArray.size txtHTab1 : Int) ∧
      ∀ x12 : Int, x12 = (w64 (n7 + (w64 (strAt txtHTab1 (IntKind.wrap .u8 x6))))) →
      R x12 h) →
      J8 x6 n7) →
    Br (decide (256 ≤ x2)) (
      J8 (sShr .u32 x2 8) (w64 (n3 + 8))) (
      J8 x2 n3)) →
    J4 x2 n3) →
  Br (decide (65536 ≤ x1)) (
    J4 (sShr .u32 x1 16) 16) (
    J4 x1 0)

set_option maxRecDepth 100000 in
theorem math_bits_Len32_of {r : World} {x1 : Int} {h : Heap} {R : Int → Heap → Prop} (H : math_bits_Len32_F r x1 h R) : math_bits_Len32 r x1 h R := by
  unfold math_bits_Len32_F at H
  refine calls_of 19 [.tmp 2] Try.func53 rfl rfl rfl rfl rfl ?_
  refine W_seq ?_
  refine W_region (.pu 0 .fin) rfl rfl ?_
  refine s_pu (d := some 2) (v := (.int .i64 0)) rfl rfl rfl (r_assign rfl) ?_
  refine s_fin ?_
  show W _ _ _ _ _ _ _ _
  refine W_seq ?_
  refine W_seq ?_
  refine W_region (.pu 0 (.pu 1 .fin)) rfl rfl ?_
  refine s_pu (d := some 3) (v := (.int .u32 x1)) rfl rfl rfl (r_move rfl) ?_
  refine s_pu (d := some 4) (v := (.bool (decide (65536 ≤ x1)))) rfl rfl rfl (r_geq rfl rfl) ?_
  refine s_fin ?_
  show W _ _ _ _ _ _ _ _
  refine W_set ?_
  intro N5 eN5
  have H := H (fun (x2 : Int) (n3 : Int) => ∀ b, N5 [] (mkE [(0, (.int .u32 x2)), (2, (.int .i64 n3))] b) h) (by
    intro x2 n3 H b
    rw [eN5]
    show W _ _ _ _ _ _ _ _
    refine W_seq ?_
    refine W_seq ?_
    refine W_region (.pu 0 (.pu 1 .fin)) rfl rfl ?_
    refine s_pu (d := some 7) (v := (.int .u32 x2)) rfl rfl rfl (r_move rfl) ?_
    refine s_pu (d := some 8) (v := (.bool (decide (256 ≤ x2)))) rfl rfl rfl (r_geq rfl rfl) ?_
    refine s_fin ?_
    show W _ _ _ _ _ _ _ _
    refine W_set ?_
    intro N9 eN9
    have H := H (fun (x6 : Int) (n7 : Int) => ∀ b, N9 [] (mkE [(0, (.int .u32 x6)), (2, (.int .i64 n7))] b) h) (by
      intro x6 n7 H b
      rw [eN9]
      show W _ _ _ _ _ _ _ _
      refine W_seq ?_
      refine W_region (.pu 0 (.pu 1 (.pu 2 (.pu 3 (.pu 4 (.pu 5 (.pu 6 .fin))))))) rfl rfl ?_
      refine s_pu (d := some 13) (v := (.int .i64 n7)) rfl rfl rfl (r_move rfl) ?_
      refine s_pu (d := some 14) (v := (.int .u32 x6)) rfl rfl rfl (r_move rfl) ?_
      refine s_pu (d := some 15) (v := (.int .u8 (IntKind.wrap .u8 x6))) rfl rfl rfl (r_conv Try.underlying106 Try.underlying5 rfl) ?_
      obtain ⟨e10, e11, H⟩ := H
      refine s_pu (d := some 16) (v := (.int .u8 (strAt txtHTab1 (IntKind.wrap .u8 x6)))) rfl rfl rfl (r_indexStr Try.underlying9 rfl rfl e10 e11) ?_
      refine s_pu (d := some 17) (v := (.int .i64 (w64 (strAt txtHTab1 (IntKind.wrap .u8 x6))))) rfl rfl rfl (r_conv Try.underlying5 Try.underlying3 rfl) ?_
      refine s_pu (d := some 18) (v := (.int .i64 (w64 (n7 + (w64 (strAt txtHTab1 (IntKind.wrap .u8 x6))))))) rfl rfl rfl (r_add rfl rfl) ?_
      obtain ⟨x12, e13⟩ : ∃ x : Int, x = (w64 (n7 + (w64 (strAt txtHTab1 (IntKind.wrap .u8 x6))))) := ⟨_, rfl⟩
      have H := H x12 e13
      refine s_pu (d := some 2) (v := (.int .i64 x12)) rfl rfl rfl (r_assign (congrArg (Value.int .i64) e13.symm)) ?_
      refine s_fin ?_
      show W _ _ _ _ _ _ _ _
      refine W_ret ?_
      exact ⟨[(.int .i64 x12)], ⟨_, _, rfl, rfl, rfl⟩, x12, rfl, H⟩)
    clear eN9
    refine W_if (decide (256 ≤ x2)) rfl (fun g14 => ?_) (fun g14 => ?_)
    · have H := H.1 g14
      refine W_seq ?_
      refine W_region (.pu 0 (.pu 1 (.pu 2 .fin))) rfl rfl ?_
      refine s_pu (d := some 9) (v := (.int .u32 x2)) rfl rfl rfl (r_move rfl) ?_
      refine s_pu (d := some 10) (v := (.int .u32 (sShr .u32 x2 8))) rfl rfl rfl (r_shr rfl rfl (by decide)) ?_
      refine s_pu (d := some 0) (v := (.int .u32 (sShr .u32 x2 8))) rfl rfl rfl (r_assign rfl) ?_
      refine s_fin ?_
      show W _ _ _ _ _ _ _ _
      refine W_region (.pu 0 (.pu 1 (.pu 2 .fin))) rfl rfl ?_
      refine s_pu (d := some 11) (v := (.int .i64 n3)) rfl rfl rfl (r_move rfl) ?_
      refine s_pu (d := some 12) (v := (.int .i64 (w64 (n3 + 8)))) rfl rfl rfl (r_add rfl rfl) ?_
      refine s_pu (d := some 2) (v := (.int .i64 (w64 (n3 + 8)))) rfl rfl rfl (r_assign rfl) ?_
      refine s_fin ?_
      exact N_mk (l := [(0, (.int .u32 (sShr .u32 x2 8))), (2, (.int .i64 (w64 (n3 + 8))))]) H ⟨rfl, rfl, trivial⟩
    · have H := H.2 g14
      refine W_skip ?_
      exact N_mk (l := [(0, (.int .u32 x2)), (2, (.int .i64 n3))]) H ⟨rfl, rfl, trivial⟩)
  clear eN5
  refine W_if (decide (65536 ≤ x1)) rfl (fun g15 => ?_) (fun g15 => ?_)
  · have H := H.1 g15
    refine W_seq ?_
    refine W_region (.pu 0 (.pu 1 (.pu 2 .fin))) rfl rfl ?_
    refine s_pu (d := some 5) (v := (.int .u32 x1)) rfl rfl rfl (r_move rfl) ?_
    refine s_pu (d := some 6) (v := (.int .u32 (sShr .u32 x1 16))) rfl rfl rfl (r_shr rfl rfl (by decide)) ?_
    refine s_pu (d := some 0) (v := (.int .u32 (sShr .u32 x1 16))) rfl rfl rfl (r_assign rfl) ?_
    refine s_fin ?_
    show W _ _ _ _ _ _ _ _
    refine W_region (.pu 0 .fin) rfl rfl ?_
    refine s_pu (d := some 2) (v := (.int .i64 16)) rfl rfl rfl (r_assign rfl) ?_
    refine s_fin ?_
    exact N_mk (l := [(0, (.int .u32 (sShr .u32 x1 16))), (2, (.int .i64 16))]) H ⟨rfl, rfl, trivial⟩
  · have H := H.2 g15
    refine W_skip ?_
    exact N_mk (l := [(0, (.int .u32 x1)), (2, (.int .i64 0))]) H ⟨rfl, rfl, trivial⟩

/-! ### math_bits_Len -/

def math_bits_Len_F (r : World) (x1 : Int) (h : Heap) (R : Int → Heap → Prop) : Prop :=
  math_bits_Len64 r x1 h fun y2 h1 =>
  R y2 h1

set_option maxRecDepth 100000 in
theorem math_bits_Len_of {r : World} {x1 : Int} {h : Heap} {R : Int → Heap → Prop} (H : math_bits_Len_F r x1 h R) : math_bits_Len r x1 h R := by
  unfold math_bits_Len_F at H
  refine calls_of 8 [.tmp 2] Try.func44 rfl rfl rfl rfl rfl ?_
  refine W_seq ?_
  refine W_region (.pu 0 .fin) rfl rfl ?_
  refine s_pu (d := some 2) (v := (.int .i64 0)) rfl rfl rfl (r_assign rfl) ?_
  refine s_fin ?_
  show W _ _ _ _ _ _ _ _
  refine W_seq ?_
  refine W_if false rfl (fun hg => by cases hg) (fun _ => ?_)
  refine W_skip ?_
  show W _ _ _ _ _ _ _ _
  refine W_seq ?_
  refine W_region (.pu 0 (.ef 1 [] (.pu 2 .fin) .no)) rfl rfl ?_
  refine s_pu (d := some 6) (v := (.int .u64 x1)) rfl rfl rfl (r_move rfl) ?_
  refine s_ef (d := some 7) rfl rfl rfl (fun dr => r_call Try.call54 rfl rfl H) ?_ trivial
  rintro _ h1 ⟨y2, rfl, H⟩
  refine ⟨trivial, ?_⟩
  refine s_pu (d := some 2) (v := (.int .i64 y2)) rfl rfl rfl (r_assign rfl) ?_
  refine s_fin ?_
  show W _ _ _ _ _ _ _ _
  refine W_ret ?_
  exact ⟨[(.int .i64 y2)], ⟨_, _, rfl, rfl, rfl⟩, y2, rfl, H⟩

/-! ### slices_Clone_int_int -/

def slices_Clone_int_int_F (r : World) (s1 : Sl) (h : Heap) (R : Sl → Heap → Prop) : Prop :=
  Br (Option.isNone s1.a) (
    R Sl.nil h) (
    New h (.cells #[] 3) fun p2 h1 =>
    App 3 1 8 (.int .i64 0) ((⟨some p2, 0, 0⟩ : Sl)) s1 h1 fun s5 h2 =>
    R s5 h2)

set_option maxRecDepth 100000 in
theorem slices_Clone_int_int_of {r : World} {s1 : Sl} {h : Heap} {R : Sl → Heap → Prop} (H : slices_Clone_int_int_F r s1 h R) : slices_Clone_int_int r s1 h R := by
  unfold slices_Clone_int_int_F at H
  refine calls_of 8 [.tmp 2] Try.func17 rfl rfl rfl rfl rfl ?_
  refine W_seq ?_
  refine W_region (.pu 0 .fin) rfl rfl ?_
  refine s_pu (d := some 2) (v := (Sl.v Sl.nil)) rfl rfl rfl (r_assign rfl) ?_
  refine s_fin ?_
  show W _ _ _ _ _ _ _ _
  refine W_seq ?_
  refine W_seq ?_
  refine W_region (.pu 0 (.pu 1 .fin)) rfl rfl ?_
  refine s_pu (d := some 3) (v := (Sl.v s1)) rfl rfl rfl (r_move rfl) ?_
  refine s_pu (d := some 4) (v := (.bool (Option.isNone s1.a))) rfl rfl rfl (r_nilS Try.underlying22 rfl rfl) ?_
  refine s_fin ?_
  show W _ _ _ _ _ _ _ _
  refine W_if (Option.isNone s1.a) rfl (fun g6 => ?_) (fun g6 => ?_)
  · have H := H.1 g6
    refine W_seq ?_
    refine W_region (.pu 0 .fin) rfl rfl ?_
    refine s_pu (d := some 2) (v := (Sl.v Sl.nil)) rfl rfl rfl (r_assign rfl) ?_
    refine s_fin ?_
    show W _ _ _ _ _ _ _ _
    refine W_ret ?_
    exact ⟨[(Sl.v Sl.nil)], ⟨_, _, rfl, rfl, rfl⟩, Sl.nil, rfl, H⟩
  · have H := H.2 g6
    refine W_skip ?_
    show W _ _ _ _ _ _ _ _
    refine W_seq ?_
    refine W_region (.ef 0 [] (.pu 1 (.ef 2 [] (.pu 3 .fin) .no)) .no) rfl rfl ?_
    obtain ⟨p2, e3⟩ : ∃ p : Addr, p = ⟨h.size, 0, none⟩ := ⟨_, rfl⟩
    obtain ⟨h1, e4⟩ : ∃ hh : Heap, hh = h.push (.cells #[] 3) := ⟨_, rfl⟩
    have H := H p2 h1 e3 e4
    refine s_ef1 (d := some 5) (v := (Sl.v ((⟨some p2, 0, 0⟩ : Sl)))) (h' := h1) rfl rfl rfl (fun dr => (slFHTab_22.build0).trans (by rw [e3, e4]; rfl)) trivial ?_ trivial
    refine s_pu (d := some 6) (v := (Sl.v s1)) rfl rfl rfl (r_move rfl) ?_
    refine s_ef (d := some 7) rfl rfl rfl (fun dr => slFHTab_22.append rfl rfl H) ?_ trivial
    rintro _ h2 ⟨s5, rfl, H⟩
    refine ⟨trivial, ?_⟩
    refine s_pu (d := some 2) (v := (Sl.v s5)) rfl rfl rfl (r_assign rfl) ?_
    refine s_fin ?_
    show W _ _ _ _ _ _ _ _
    refine W_ret ?_
    exact ⟨[(Sl.v s5)], ⟨_, _, rfl, rfl, rfl⟩, s5, rfl, H⟩

/-! ### table_New -/

def table_New_F (r : World) (l1 : Sl) (h : Heap) (R : Option Addr → Value → Heap → Prop) : Prop :=
  Br (decide (5000 < ((l1.len : Int)))) (
    R none ((.iface 51 (.int .i64 4))) h) (
    slices_Clone_int_int r l1 h fun y2 h1 =>
    New h1 (.cells #[(Sl.v y2), (Sl.v Sl.nil), (Sl.v Sl.nil)] 61) fun p3 h2 =>
    ∀ X8 : Sl → Int → Heap → Prop, (∀ (row6 : Sl) (x7 : Int) (h3 : Heap),
      (Br (decide (x7 < ((l1.len : Int)))) (
        New h3 (.cells #[(.int .i64 x7)] 3) fun p9 h4 =>
        App 3 1 8 (.int .i64 0) row6 ((⟨some p9, 1, 1⟩ : Sl)) h4 fun s12 h5 =>
        X8 s12 (w64 (x7 + 1)) h5) (
        ∀ X16 : Sl → Sl → Int → Heap → Prop, (∀ (low13 : Sl) (high14 : Sl) (n15 : Int) (h6 : Heap),
          (Br (decide (n15 ≤ ((l1.len : Int)))) (
            ∀ J17 : Heap → Prop, (∀ (h7 : Heap),
              (table_Table_next r (some p3) low13 n15 ((.func (.func 19) #[(.pointer (some p3))] #[])) h7 fun y19 h8 =>
              table_Table_next r (some p3) high14 n15 ((.func (.func 20) #[(.pointer (some p3))] #[])) h8 fun y20 h9 =>
              X16 y19 y20 (w64 (n15 * 2)) h9) →
              J17 h7) →
            LdS h6 (Addr.add p3 1) fun x21 =>
            LdS h6 (Addr.add p3 2) fun x23 =>
            (New h6 (.cells #[(Sl.v low13)] 22) fun p25 h10 =>
            (hcell h10 (Addr.add p3 2) = some (Sl.v x23)) ∧
            (hcell h10 (Addr.add p3 1) = some (Sl.v x21)) ∧
            (App 22 1 24 (Sl.v Sl.nil) x21 ((⟨some p25, 1, 1⟩ : Sl)) h10 fun s30 h11 =>
            (hcell h11 (Addr.add p3 2) = some (Sl.v x23)) ∧
            New h11 (.cells #[(Sl.v high14)] 22) fun p32 h12 =>
            (hcell h12 (Addr.add p3 2) = some (Sl.v x23)) ∧
            (hcell h12 (Addr.add p3 1) = some (Sl.v x21)) ∧
            App 22 1 24 (Sl.v Sl.nil) x23 ((⟨some p32, 1, 1⟩ : Sl)) h12 fun s37 h13 =>
            St h13 (Addr.add p3 1) 1 [(Sl.v s30)] fun h14 =>
            St h14 (Addr.add p3 2) 1 [(Sl.v s37)] fun h15 =>
            J17 h15) ∧
            (New h10 (.cells #[(Sl.v high14)] 22) fun p42 h16 =>
            (hcell h16 (Addr.add p3 2) = some (Sl.v x23)) ∧
            (hcell h16 (Addr.add p3 1) = some (Sl.v x21)) ∧
            App 22 1 24 (Sl.v Sl.nil) x21 ((⟨some p25, 1, 1⟩ : Sl)) h16 fun s47 h17 =>
            (hcell h17 (Addr.add p3 2) = some (Sl.v x23)) ∧
            App 22 1 24 (Sl.v Sl.nil) x23 ((⟨some p42, 1, 1⟩ : Sl)) h17 fun s49 h18 =>
            St h18 (Addr.add p3 1) 1 [(Sl.v s47)] fun h19 =>
            St h19 (Addr.add p3 2) 1 [(Sl.v s49)] fun h20 =>
            J17 h20)) ∧
            (New h6 (.cells #[(Sl.v high14)] 22) fun p54 h21 =>
            (hcell h21 (Addr.add p3 2) = some (Sl.v x23)) ∧
            (hcell h21 (Addr.add p3 1) = some (Sl.v x21)) ∧
            New h21 (.cells #[(Sl.v low13)] 22) fun p59 h22 =>
            (hcell h22 (Addr.add p3 2) = some (Sl.v x23)) ∧
            (hcell h22 (Addr.add p3 1) = some (Sl.v x21)) ∧
            App 22 1 24 (Sl.v Sl.nil) x21 ((⟨some p59, 1, 1⟩ : Sl)) h22 fun s64 h23 =>
            (hcell h23 (Addr.add p3 2) = some (Sl.v x23)) ∧
            App 22 1 24 (Sl.v Sl.nil) x23 ((⟨some p54, 1, 1⟩ : Sl)) h23 fun s66 h24 =>
            St h24 (Addr.add p3 1) 1 [(Sl.v s64)] fun h25 =>
            St h25 (Addr.add p3 2) 1 [(Sl.v s66)] fun h26 =>
            J17 h26)) (
            R (some p3) .nilIface h6)) →
          X16 low13 high14 n15 h6) →
        X16 row6 row6 1 h3)) →
      X8 row6 x7 h3) →
    X8 Sl.nil 0 h2)

set_option maxRecDepth 100000 in
theorem table_New_of {r : World} {l1 : Sl} {h : Heap} {R : Option Addr → Value → Heap → Prop} (H : table_New_F r l1 h R) : table_New r l1 h R := by
  unfold table_New_F at H
  refine calls_of 69 [.tmp 2, .tmp 3] Try.func6 rfl rfl rfl rfl rfl ?_
  refine W_seq ?_
  refine W_region (.pu 0 (.pu 1 .fin)) rfl rfl ?_
  refine s_pu (d := some 2) (v := (.pointer none)) rfl rfl rfl (r_assign rfl) ?_
  refine s_pu (d := some 3) (v := .nilIface) rfl rfl rfl (r_assign rfl) ?_
  refine s_fin ?_
  show W _ _ _ _ _ _ _ _
  refine W_seq ?_
  refine W_seq ?_
  refine W_region (.pu 0 (.pu 1 (.pu 2 .fin))) rfl rfl ?_
  refine s_pu (d := some 10) (v := (Sl.v l1)) rfl rfl rfl (r_move rfl) ?_
  refine s_pu (d := some 11) (v := (.int .i64 ((l1.len : Int)))) rfl rfl rfl (r_len Try.underlying22 rfl) ?_
  refine s_pu (d := some 12) (v := (.bool (decide (5000 < ((l1.len : Int)))))) rfl rfl rfl (r_gtr rfl rfl) ?_
  refine s_fin ?_
  show W _ _ _ _ _ _ _ _
  refine W_if (decide (5000 < ((l1.len : Int)))) rfl (fun g73 => ?_) (fun g73 => ?_)
  · have H := H.1 g73
    refine W_seq ?_
    refine W_region (.pu 0 (.pu 1 (.pu 2 .fin))) rfl rfl ?_
    refine s_pu (d := some 13) (v := ((.iface 51 (.int .i64 4)))) rfl rfl rfl (r_iface Try.underlying51 rfl rfl) ?_
    refine s_pu (d := some 2) (v := (.pointer none)) rfl rfl rfl (r_assign rfl) ?_
    refine s_pu (d := some 3) (v := ((.iface 51 (.int .i64 4)))) rfl rfl rfl (r_assign rfl) ?_
    refine s_fin ?_
    show W _ _ _ _ _ _ _ _
    refine W_ret ?_
    exact ⟨[(.pointer none), ((.iface 51 (.int .i64 4)))], ⟨_, _, rfl, rfl, ⟨_, _, rfl, rfl, rfl⟩⟩, none, ((.iface 51 (.int .i64 4))), rfl, H⟩
  · have H := H.2 g73
    refine W_skip ?_
    show W _ _ _ _ _ _ _ _
    refine W_seq ?_
    refine W_region (.pu 0 (.ef 1 [] (.pu 2 (.ef 3 [] (.pu 4 .fin) .no)) .no)) rfl rfl ?_
    refine s_pu (d := some 14) (v := (Sl.v l1)) rfl rfl rfl (r_move rfl) ?_
    refine s_ef (d := some 15) rfl rfl rfl (fun dr => r_call Try.call17 rfl rfl H) ?_ trivial
    rintro _ h1 ⟨y2, rfl, H⟩
    refine ⟨trivial, ?_⟩
    refine s_pu (d := some 16) (v := (.agg #[(Sl.v y2), (Sl.v Sl.nil), (Sl.v Sl.nil)])) rfl rfl rfl (fun w => by kernel_rfl) ?_
    obtain ⟨p3, e4⟩ : ∃ p : Addr, p = ⟨h1.size, 0, none⟩ := ⟨_, rfl⟩
    obtain ⟨h2, e5⟩ : ∃ hh : Heap, hh = h1.push (.cells #[(Sl.v y2), (Sl.v Sl.nil), (Sl.v Sl.nil)] 61) := ⟨_, rfl⟩
    have H := H p3 h2 e4 e5
    refine s_ef1 (d := some 17) (v := (.pointer (some p3))) (h' := h2) rfl rfl rfl (fun dr => (r_box (v := (.agg #[(Sl.v y2), (Sl.v Sl.nil), (Sl.v Sl.nil)])) rfl).trans (by rw [e4, e5]; rfl)) trivial ?_ trivial
    refine s_pu (d := some 4) (v := (.pointer (some p3))) rfl rfl rfl (r_assign rfl) ?_
    refine s_fin ?_
    show W _ _ _ _ _ _ _ _
    refine W_seq ?_
    refine W_region (.pu 0 .fin) rfl rfl ?_
    refine s_pu (d := some 5) (v := (Sl.v Sl.nil)) rfl rfl rfl (r_assign rfl) ?_
    refine s_fin ?_
    show W _ _ _ _ _ _ _ _
    refine W_seq ?_
    refine W_seq ?_
    refine W_region (.pu 0 (.pu 1 (.pu 2 .fin))) rfl rfl ?_
    refine s_pu (d := some 18) (v := (Sl.v l1)) rfl rfl rfl (r_move rfl) ?_
    refine s_pu (d := some 19) (v := (.int .i64 ((l1.len : Int)))) rfl rfl rfl (r_len Try.underlying22 rfl) ?_
    refine s_pu (d := some 20) (v := (.int .i64 0)) rfl rfl rfl (r_move rfl) ?_
    refine s_fin ?_
    show W _ _ _ _ _ _ _ _
    refine W_block ?_
    refine W_loop (WL_mk (l := [(0, (Sl.v l1)), (4, (.pointer (some p3))), (5, (Sl.v Sl.nil)), (19, (.int .i64 ((l1.len : Int)))), (20, (.int .i64 0))]) ?_ ⟨rfl, rfl, rfl, rfl, rfl, trivial⟩)
    refine H (fun (row6 : Sl) (x7 : Int) (h3 : Heap) => ∀ b, WL _ _ _ _ _ _ (mkE [(0, (Sl.v l1)), (4, (.pointer (some p3))), (5, (Sl.v row6)), (19, (.int .i64 ((l1.len : Int)))), (20, (.int .i64 x7))] b) h3) ?_
    intro row6 x7 h3 H b
    refine WL_round ?_
    refine W_seq ?_
    refine W_region (.pu 0 .fin) rfl rfl ?_
    refine s_pu (d := some 21) (v := (.bool (decide (x7 < ((l1.len : Int)))))) rfl rfl rfl (r_lss rfl rfl) ?_
    refine s_fin ?_
    show W _ _ _ _ _ _ _ _
    refine W_seq ?_
    refine W_if (decide (x7 < ((l1.len : Int)))) rfl (fun g72 => ?_) (fun g72 => ?_)
    · have H := H.1 g72
      refine W_skip ?_
      show W _ _ _ _ _ _ _ _
      refine W_seq ?_
      refine W_block ?_
      refine W_seq ?_
      refine W_region (.pu 0 (.pu 1 .fin)) rfl rfl ?_
      refine s_pu (d := some 22) (v := (.int .i64 x7)) rfl rfl rfl (r_move rfl) ?_
      refine s_pu (d := some 6) (v := (.int .i64 x7)) rfl rfl rfl (r_assign rfl) ?_
      refine s_fin ?_
      show W _ _ _ _ _ _ _ _
      refine W_region (.pu 0 (.pu 1 (.ef 2 [] (.ef 3 [] (.pu 4 .fin) .no) .no))) rfl rfl ?_
      refine s_pu (d := some 23) (v := (Sl.v row6)) rfl rfl rfl (r_move rfl) ?_
      refine s_pu (d := some 24) (v := (.int .i64 x7)) rfl rfl rfl (r_move rfl) ?_
      obtain ⟨p9, e10⟩ : ∃ p : Addr, p = ⟨h3.size, 0, none⟩ := ⟨_, rfl⟩
      obtain ⟨h4, e11⟩ : ∃ hh : Heap, hh = h3.push (.cells #[(.int .i64 x7)] 3) := ⟨_, rfl⟩
      have H := H p9 h4 e10 e11
      refine s_ef1 (d := some 25) (v := (Sl.v ((⟨some p9, 1, 1⟩ : Sl)))) (h' := h4) rfl rfl rfl (fun dr => (slFHTab_22.build (cells := #[(.int .i64 x7)]) (by decide) rfl (by kernel_rfl)).trans (by rw [e10, e11]; rfl)) trivial ?_ trivial
      refine s_ef (d := some 26) rfl rfl rfl (fun dr => slFHTab_22.append rfl rfl H) ?_ trivial
      rintro _ h5 ⟨s12, rfl, H⟩
      refine ⟨trivial, ?_⟩
      refine s_pu (d := some 5) (v := (Sl.v s12)) rfl rfl rfl (r_assign rfl) ?_
      refine s_fin ?_
      show W _ _ _ _ _ _ _ _
      refine W_region (.pu 0 (.pu 1 .fin)) rfl rfl ?_
      refine s_pu (d := some 27) (v := (.int .i64 (w64 (x7 + 1)))) rfl rfl rfl (r_add rfl rfl) ?_
      refine s_pu (d := some 20) (v := (.int .i64 (w64 (x7 + 1)))) rfl rfl rfl (r_move rfl) ?_
      refine s_fin ?_
      exact WL_mk (l := [(0, (Sl.v l1)), (4, (.pointer (some p3))), (5, (Sl.v s12)), (19, (.int .i64 ((l1.len : Int)))), (20, (.int .i64 (w64 (x7 + 1))))]) H ⟨rfl, rfl, rfl, rfl, rfl, trivial⟩
    · have H := H.2 g72
      refine W_exit (inX_here ?_)
      show W _ _ _ _ _ _ _ _
      refine W_seq ?_
      refine W_region (.pu 0 (.pu 1 (.pu 2 (.pu 3 .fin)))) rfl rfl ?_
      refine s_pu (d := some 28) (v := (Sl.v row6)) rfl rfl rfl (r_move rfl) ?_
      refine s_pu (d := some 29) (v := (Sl.v row6)) rfl rfl rfl (r_move rfl) ?_
      refine s_pu (d := some 7) (v := (Sl.v row6)) rfl rfl rfl (r_assign rfl) ?_
      refine s_pu (d := some 8) (v := (Sl.v row6)) rfl rfl rfl (r_assign rfl) ?_
      refine s_fin ?_
      show W _ _ _ _ _ _ _ _
      refine W_seq ?_
      refine W_seq ?_
      refine W_region (.pu 0 .fin) rfl rfl ?_
      refine s_pu (d := some 9) (v := (.int .i64 1)) rfl rfl rfl (r_assign rfl) ?_
      refine s_fin ?_
      show W _ _ _ _ _ _ _ _
      refine W_block ?_
      refine W_loop (WL_mk (l := [(0, (Sl.v l1)), (4, (.pointer (some p3))), (7, (Sl.v row6)), (8, (Sl.v row6)), (9, (.int .i64 1))]) ?_ ⟨rfl, rfl, rfl, rfl, rfl, trivial⟩)
      refine H (fun (low13 : Sl) (high14 : Sl) (n15 : Int) (h6 : Heap) => ∀ b, WL _ _ _ _ _ _ (mkE [(0, (Sl.v l1)), (4, (.pointer (some p3))), (7, (Sl.v low13)), (8, (Sl.v high14)), (9, (.int .i64 n15))] b) h6) ?_
      intro low13 high14 n15 h6 H b
      refine WL_round ?_
      refine W_seq ?_
      refine W_seq ?_
      refine W_region (.pu 0 (.pu 1 (.pu 2 (.pu 3 .fin)))) rfl rfl ?_
      refine s_pu (d := some 30) (v := (.int .i64 n15)) rfl rfl rfl (r_move rfl) ?_
      refine s_pu (d := some 31) (v := (Sl.v l1)) rfl rfl rfl (r_move rfl) ?_
      refine s_pu (d := some 32) (v := (.int .i64 ((l1.len : Int)))) rfl rfl rfl (r_len Try.underlying22 rfl) ?_
      refine s_pu (d := some 33) (v := (.bool (decide (n15 ≤ ((l1.len : Int)))))) rfl rfl rfl (r_leq rfl rfl) ?_
      refine s_fin ?_
      show W _ _ _ _ _ _ _ _
      refine W_if (decide (n15 ≤ ((l1.len : Int)))) rfl (fun g71 => ?_) (fun g71 => ?_)
      · have H := H.1 g71
        refine W_skip ?_
        show W _ _ _ _ _ _ _ _
        refine W_seq ?_
        refine W_block ?_
        refine W_seq ?_
        refine W_set ?_
        intro N18 eN18
        have H := H (fun (h7 : Heap) => ∀ b, N18 [] (mkE [(0, (Sl.v l1)), (4, (.pointer (some p3))), (7, (Sl.v low13)), (8, (Sl.v high14)), (9, (.int .i64 n15))] b) h7) (by
          intro h7 H b
          rw [eN18]
          show W _ _ _ _ _ _ _ _
          refine W_region (.pu 0 (.pu 1 (.pu 2 (.pu 3 (.pu 4 (.ef 5 [] (.pu 6 (.pu 7 (.pu 8 (.pu 9 (.pu 10 (.ef 11 [] (.pu 12 (.pu 13 .fin)) .no)))))) .no)))))) rfl rfl ?_
          refine s_pu (d := some 56) (v := (.pointer (some p3))) rfl rfl rfl (r_move rfl) ?_
          refine s_pu (d := some 57) (v := (Sl.v low13)) rfl rfl rfl (r_move rfl) ?_
          refine s_pu (d := some 58) (v := (.int .i64 n15)) rfl rfl rfl (r_move rfl) ?_
          refine s_pu (d := some 59) (v := (.pointer (some p3))) rfl rfl rfl (r_move rfl) ?_
          refine s_pu (d := some 60) (v := ((.func (.func 19) #[(.pointer (some p3))] #[]))) rfl rfl rfl (r_makeFunc rfl rfl) ?_
          refine s_ef (d := some 61) rfl rfl rfl (fun dr => r_call Try.call18 rfl rfl H) ?_ trivial
          rintro _ h8 ⟨y19, rfl, H⟩
          refine ⟨trivial, ?_⟩
          refine s_pu (d := some 62) (v := (.pointer (some p3))) rfl rfl rfl (r_move rfl) ?_
          refine s_pu (d := some 63) (v := (Sl.v high14)) rfl rfl rfl (r_move rfl) ?_
          refine s_pu (d := some 64) (v := (.int .i64 n15)) rfl rfl rfl (r_move rfl) ?_
          refine s_pu (d := some 65) (v := (.pointer (some p3))) rfl rfl rfl (r_move rfl) ?_
          refine s_pu (d := some 66) (v := ((.func (.func 20) #[(.pointer (some p3))] #[]))) rfl rfl rfl (r_makeFunc rfl rfl) ?_
          refine s_ef (d := some 67) rfl rfl rfl (fun dr => r_call Try.call18 rfl rfl H) ?_ trivial
          rintro _ h9 ⟨y20, rfl, H⟩
          refine ⟨trivial, ?_⟩
          refine s_pu (d := some 7) (v := (Sl.v y19)) rfl rfl rfl (r_assign rfl) ?_
          refine s_pu (d := some 8) (v := (Sl.v y20)) rfl rfl rfl (r_assign rfl) ?_
          refine s_fin ?_
          show W _ _ _ _ _ _ _ _
          refine W_region (.pu 0 (.pu 1 (.pu 2 .fin))) rfl rfl ?_
          refine s_pu (d := some 34) (v := (.int .i64 n15)) rfl rfl rfl (r_move rfl) ?_
          refine s_pu (d := some 35) (v := (.int .i64 (w64 (n15 * 2)))) rfl rfl rfl (r_mul rfl rfl) ?_
          refine s_pu (d := some 9) (v := (.int .i64 (w64 (n15 * 2)))) rfl rfl rfl (r_assign rfl) ?_
          refine s_fin ?_
          exact WL_mk (l := [(0, (Sl.v l1)), (4, (.pointer (some p3))), (7, (Sl.v y19)), (8, (Sl.v y20)), (9, (.int .i64 (w64 (n15 * 2))))]) H ⟨rfl, rfl, rfl, rfl, rfl, trivial⟩)
        clear eN18
        refine W_draw [0, 0, 0, 4, 12, 28, 0, 64, 252, 0, 512, 1536, 3584, 0, 8192, 32764, 65533, 131069, 262141, 524287, 1048575, 2097151] (.pu 0 (.pu 1 (.pu 2 (.pu 3 (.pu 4 (.rd 5 (.pu 6 (.pu 9 (.pu 10 (.pu 11 (.rd 12 (.pu 13 (.ef 7 [] (.ef 8 [5] (.ef 14 [] (.ef 15 [5, 12] (.pu 16 (.pu 17 (.ef 18 [5, 12] (.pu 19 (.pu 20 (.ef 21 [5, 12] .fin .no))) .no))) .no) .no) (.ef 14 [] (.ef 8 [5] (.ef 15 [5, 12] (.pu 16 (.pu 17 (.ef 18 [5, 12] (.pu 19 (.pu 20 (.ef 21 [5, 12] .fin .no))) .no))) .no) .no) .no)) (.ef 14 [] (.ef 7 [] (.ef 8 [5] (.ef 15 [5, 12] (.pu 16 (.pu 17 (.ef 18 [5, 12] (.pu 19 (.pu 20 (.ef 21 [5, 12] .fin .no))) .no))) .no) .no) .no) .no)))))))))))))) (by kernel_rfl) (by kernel_rfl) ?_
        refine s_pu (d := some 36) (v := (.pointer (some p3))) rfl rfl rfl (r_move rfl) ?_
        refine s_pu (d := some 37) (v := (.pointer (some p3))) rfl rfl rfl (r_move rfl) ?_
        refine s_pu (d := some 38) (v := (.pointer (some p3))) rfl rfl rfl (r_move rfl) ?_
        refine s_pu (d := some 39) (v := (.pointer (some p3))) rfl rfl rfl (r_nilCheck rfl rfl) ?_
        refine s_pu (d := some 40) (v := (.pointer (some (Addr.add p3 1)))) rfl rfl rfl (r_fieldAddr Try.underlying61 Try.sizeOf59 rfl rfl rfl) ?_
        obtain ⟨x21, e22, H⟩ := H
        refine s_rd (d := some 41) (v := (Sl.v x21)) rfl rfl rfl (fun dr => r_load1 Try.isAgg59 rfl e22) ?_
        refine s_pu (d := some 42) (v := (Sl.v low13)) rfl rfl rfl (r_move rfl) ?_
        refine s_pu (d := some 45) (v := (.pointer (some p3))) rfl rfl rfl (r_move rfl) ?_
        refine s_pu (d := some 46) (v := (.pointer (some p3))) rfl rfl rfl (r_nilCheck rfl rfl) ?_
        refine s_pu (d := some 47) (v := (.pointer (some (Addr.add p3 2)))) rfl rfl rfl (r_fieldAddr Try.underlying61 Try.sizeOf59 rfl rfl rfl) ?_
        obtain ⟨x23, e24, H⟩ := H
        refine s_rd (d := some 48) (v := (Sl.v x23)) rfl rfl rfl (fun dr => r_load1 Try.isAgg59 rfl e24) ?_
        refine s_pu (d := some 49) (v := (Sl.v high14)) rfl rfl rfl (r_move rfl) ?_
        refine s_or ?_ ?_
        · have H := H.1
          obtain ⟨p25, e26⟩ : ∃ p : Addr, p = ⟨h6.size, 0, none⟩ := ⟨_, rfl⟩
          obtain ⟨h10, e27⟩ : ∃ hh : Heap, hh = h6.push (.cells #[(Sl.v low13)] 22) := ⟨_, rfl⟩
          have H := H p25 h10 e26 e27
          obtain ⟨e28, H⟩ := H
          obtain ⟨e29, H⟩ := H
          refine s_ef1 (d := some 43) (v := (Sl.v ((⟨some p25, 1, 1⟩ : Sl)))) (h' := h10) rfl rfl rfl (fun dr => (slFHTab_59.build (cells := #[(Sl.v low13)]) (by decide) rfl (by kernel_rfl)).trans (by rw [e26, e27]; rfl)) ⟨(.inl ⟨rfl, fun dr => r_load1 Try.isAgg59 rfl e28⟩), (.inl ⟨rfl, fun dr => r_load1 Try.isAgg59 rfl e29⟩), trivial⟩ ?_ trivial
          refine s_or ?_ ?_
          · have H := H.1
            refine s_ef (d := some 44) rfl rfl rfl (fun dr => slFHTab_59.append rfl rfl H) ?_ trivial
            rintro _ h11 ⟨s30, rfl, H⟩
            obtain ⟨e31, H⟩ := H
            refine ⟨⟨(.inl ⟨rfl, fun dr => r_load1 Try.isAgg59 rfl e31⟩), trivial, trivial⟩, ?_⟩
            obtain ⟨p32, e33⟩ : ∃ p : Addr, p = ⟨h11.size, 0, none⟩ := ⟨_, rfl⟩
            obtain ⟨h12, e34⟩ : ∃ hh : Heap, hh = h11.push (.cells #[(Sl.v high14)] 22) := ⟨_, rfl⟩
            have H := H p32 h12 e33 e34
            obtain ⟨e35, H⟩ := H
            obtain ⟨e36, H⟩ := H
            refine s_ef1 (d := some 50) (v := (Sl.v ((⟨some p32, 1, 1⟩ : Sl)))) (h' := h12) rfl rfl rfl (fun dr => (slFHTab_59.build (cells := #[(Sl.v high14)]) (by decide) rfl (by kernel_rfl)).trans (by rw [e33, e34]; rfl)) ⟨(.inl ⟨rfl, fun dr => r_load1 Try.isAgg59 rfl e35⟩), (.inl ⟨rfl, fun dr => r_load1 Try.isAgg59 rfl e36⟩), trivial⟩ ?_ trivial
            refine s_ef (d := some 51) rfl rfl rfl (fun dr => slFHTab_59.append rfl rfl H) ?_ trivial
            rintro _ h13 ⟨s37, rfl, H⟩
            refine ⟨⟨trivial, trivial, trivial⟩, ?_⟩
            refine s_pu (d := some 52) (v := (.pointer (some p3))) rfl rfl rfl (r_nilCheck rfl rfl) ?_
            refine s_pu (d := some 53) (v := (.pointer (some (Addr.add p3 1)))) rfl rfl rfl (r_fieldAddr Try.underlying61 Try.sizeOf59 rfl rfl rfl) ?_
            obtain ⟨e39, H⟩ := H
            obtain ⟨h14, e38⟩ : ∃ hh : Heap, hh = hsets h13 (Addr.add p3 1) 0 [(Sl.v s30)] := ⟨_, rfl⟩
            have H := H h14 e38
            refine s_st (d := none) (h' := h14) rfl rfl rfl (fun dr => (r_store (v := (Sl.v s30)) Try.sizeOf59 rfl rfl rfl (one_all rfl) e39).trans (by rw [e38]; rfl)) ⟨trivial, trivial, trivial⟩ ?_ trivial
            refine s_pu (d := some 54) (v := (.pointer (some p3))) rfl rfl rfl (r_nilCheck rfl rfl) ?_
            refine s_pu (d := some 55) (v := (.pointer (some (Addr.add p3 2)))) rfl rfl rfl (r_fieldAddr Try.underlying61 Try.sizeOf59 rfl rfl rfl) ?_
            obtain ⟨e41, H⟩ := H
            obtain ⟨h15, e40⟩ : ∃ hh : Heap, hh = hsets h14 (Addr.add p3 2) 0 [(Sl.v s37)] := ⟨_, rfl⟩
            have H := H h15 e40
            refine s_st (d := none) (h' := h15) rfl rfl rfl (fun dr => (r_store (v := (Sl.v s37)) Try.sizeOf59 rfl rfl rfl (one_all rfl) e41).trans (by rw [e40]; rfl)) ⟨trivial, trivial, trivial⟩ ?_ trivial
            refine s_fin ?_
            exact N_mk (l := [(0, (Sl.v l1)), (4, (.pointer (some p3))), (7, (Sl.v low13)), (8, (Sl.v high14)), (9, (.int .i64 n15))]) H ⟨rfl, rfl, rfl, rfl, rfl, trivial⟩
          · have H := H.2
            obtain ⟨p42, e43⟩ : ∃ p : Addr, p = ⟨h10.size, 0, none⟩ := ⟨_, rfl⟩
            obtain ⟨h16, e44⟩ : ∃ hh : Heap, hh = h10.push (.cells #[(Sl.v high14)] 22) := ⟨_, rfl⟩
            have H := H p42 h16 e43 e44
            obtain ⟨e45, H⟩ := H
            obtain ⟨e46, H⟩ := H
            refine s_ef1 (d := some 50) (v := (Sl.v ((⟨some p42, 1, 1⟩ : Sl)))) (h' := h16) rfl rfl rfl (fun dr => (slFHTab_59.build (cells := #[(Sl.v high14)]) (by decide) rfl (by kernel_rfl)).trans (by rw [e43, e44]; rfl)) ⟨(.inl ⟨rfl, fun dr => r_load1 Try.isAgg59 rfl e45⟩), (.inl ⟨rfl, fun dr => r_load1 Try.isAgg59 rfl e46⟩), trivial⟩ ?_ trivial
            refine s_ef (d := some 44) rfl rfl rfl (fun dr => slFHTab_59.append rfl rfl H) ?_ trivial
            rintro _ h17 ⟨s47, rfl, H⟩
            obtain ⟨e48, H⟩ := H
            refine ⟨⟨(.inl ⟨rfl, fun dr => r_load1 Try.isAgg59 rfl e48⟩), trivial, trivial⟩, ?_⟩
            refine s_ef (d := some 51) rfl rfl rfl (fun dr => slFHTab_59.append rfl rfl H) ?_ trivial
            rintro _ h18 ⟨s49, rfl, H⟩
            refine ⟨⟨trivial, trivial, trivial⟩, ?_⟩
            refine s_pu (d := some 52) (v := (.pointer (some p3))) rfl rfl rfl (r_nilCheck rfl rfl) ?_
            refine s_pu (d := some 53) (v := (.pointer (some (Addr.add p3 1)))) rfl rfl rfl (r_fieldAddr Try.underlying61 Try.sizeOf59 rfl rfl rfl) ?_
            obtain ⟨e51, H⟩ := H
            obtain ⟨h19, e50⟩ : ∃ hh : Heap, hh = hsets h18 (Addr.add p3 1) 0 [(Sl.v s47)] := ⟨_, rfl⟩
            have H := H h19 e50
            refine s_st (d := none) (h' := h19) rfl rfl rfl (fun dr => (r_store (v := (Sl.v s47)) Try.sizeOf59 rfl rfl rfl (one_all rfl) e51).trans (by rw [e50]; rfl)) ⟨trivial, trivial, trivial⟩ ?_ trivial
            refine s_pu (d := some 54) (v := (.pointer (some p3))) rfl rfl rfl (r_nilCheck rfl rfl) ?_
            refine s_pu (d := some 55) (v := (.pointer (some (Addr.add p3 2)))) rfl rfl rfl (r_fieldAddr Try.underlying61 Try.sizeOf59 rfl rfl rfl) ?_
            obtain ⟨e53, H⟩ := H
            obtain ⟨h20, e52⟩ : ∃ hh : Heap, hh = hsets h19 (Addr.add p3 2) 0 [(Sl.v s49)] := ⟨_, rfl⟩
            have H := H h20 e52
            refine s_st (d := none) (h' := h20) rfl rfl rfl (fun dr => (r_store (v := (Sl.v s49)) Try.sizeOf59 rfl rfl rfl (one_all rfl) e53).trans (by rw [e52]; rfl)) ⟨trivial, trivial, trivial⟩ ?_ trivial
            refine s_fin ?_
            exact N_mk (l := [(0, (Sl.v l1)), (4, (.pointer (some p3))), (7, (Sl.v low13)), (8, (Sl.v high14)), (9, (.int .i64 n15))]) H ⟨rfl, rfl, rfl, rfl, rfl, trivial⟩
        · have H := H.2
          obtain ⟨p54, e55⟩ : ∃ p : Addr, p = ⟨h6.size, 0, none⟩ := ⟨_, rfl⟩
          obtain ⟨h21, e56⟩ : ∃ hh : Heap, hh = h6.push (.cells #[(Sl.v high14)] 22) := ⟨_, rfl⟩
          have H := H p54 h21 e55 e56
          obtain ⟨e57, H⟩ := H
          obtain ⟨e58, H⟩ := H
          refine s_ef1 (d := some 50) (v := (Sl.v ((⟨some p54, 1, 1⟩ : Sl)))) (h' := h21) rfl rfl rfl (fun dr => (slFHTab_59.build (cells := #[(Sl.v high14)]) (by decide) rfl (by kernel_rfl)).trans (by rw [e55, e56]; rfl)) ⟨(.inl ⟨rfl, fun dr => r_load1 Try.isAgg59 rfl e57⟩), (.inl ⟨rfl, fun dr => r_load1 Try.isAgg59 rfl e58⟩), trivial⟩ ?_ trivial
          obtain ⟨p59, e60⟩ : ∃ p : Addr, p = ⟨h21.size, 0, none⟩ := ⟨_, rfl⟩
          obtain ⟨h22, e61⟩ : ∃ hh : Heap, hh = h21.push (.cells #[(Sl.v low13)] 22) := ⟨_, rfl⟩
          have H := H p59 h22 e60 e61
          obtain ⟨e62, H⟩ := H
          obtain ⟨e63, H⟩ := H
          refine s_ef1 (d := some 43) (v := (Sl.v ((⟨some p59, 1, 1⟩ : Sl)))) (h' := h22) rfl rfl rfl (fun dr => (slFHTab_59.build (cells := #[(Sl.v low13)]) (by decide) rfl (by kernel_rfl)).trans (by rw [e60, e61]; rfl)) ⟨(.inl ⟨rfl, fun dr => r_load1 Try.isAgg59 rfl e62⟩), (.inl ⟨rfl, fun dr => r_load1 Try.isAgg59 rfl e63⟩), trivial⟩ ?_ trivial
          refine s_ef (d := some 44) rfl rfl rfl (fun dr => slFHTab_59.append rfl rfl H) ?_ trivial
          rintro _ h23 ⟨s64, rfl, H⟩
          obtain ⟨e65, H⟩ := H
          refine ⟨⟨(.inl ⟨rfl, fun dr => r_load1 Try.isAgg59 rfl e65⟩), trivial, trivial⟩, ?_⟩
          refine s_ef (d := some 51) rfl rfl rfl (fun dr => slFHTab_59.append rfl rfl H) ?_ trivial
          rintro _ h24 ⟨s66, rfl, H⟩
          refine ⟨⟨trivial, trivial, trivial⟩, ?_⟩
          refine s_pu (d := some 52) (v := (.pointer (some p3))) rfl rfl rfl (r_nilCheck rfl rfl) ?_
          refine s_pu (d := some 53) (v := (.pointer (some (Addr.add p3 1)))) rfl rfl rfl (r_fieldAddr Try.underlying61 Try.sizeOf59 rfl rfl rfl) ?_
          obtain ⟨e68, H⟩ := H
          obtain ⟨h25, e67⟩ : ∃ hh : Heap, hh = hsets h24 (Addr.add p3 1) 0 [(Sl.v s64)] := ⟨_, rfl⟩
          have H := H h25 e67
          refine s_st (d := none) (h' := h25) rfl rfl rfl (fun dr => (r_store (v := (Sl.v s64)) Try.sizeOf59 rfl rfl rfl (one_all rfl) e68).trans (by rw [e67]; rfl)) ⟨trivial, trivial, trivial⟩ ?_ trivial
          refine s_pu (d := some 54) (v := (.pointer (some p3))) rfl rfl rfl (r_nilCheck rfl rfl) ?_
          refine s_pu (d := some 55) (v := (.pointer (some (Addr.add p3 2)))) rfl rfl rfl (r_fieldAddr Try.underlying61 Try.sizeOf59 rfl rfl rfl) ?_
          obtain ⟨e70, H⟩ := H
          obtain ⟨h26, e69⟩ : ∃ hh : Heap, hh = hsets h25 (Addr.add p3 2) 0 [(Sl.v s66)] := ⟨_, rfl⟩
          have H := H h26 e69
          refine s_st (d := none) (h' := h26) rfl rfl rfl (fun dr => (r_store (v := (Sl.v s66)) Try.sizeOf59 rfl rfl rfl (one_all rfl) e70).trans (by rw [e69]; rfl)) ⟨trivial, trivial, trivial⟩ ?_ trivial
          refine s_fin ?_
          exact N_mk (l := [(0, (Sl.v l1)), (4, (.pointer (some p3))), (7, (Sl.v low13)), (8, (Sl.v high14)), (9, (.int .i64 n15))]) H ⟨rfl, rfl, rfl, rfl, rfl, trivial⟩
      · have H := H.2 g71
        refine W_exit (inX_here ?_)
        show W _ _ _ _ _ _ _ _
        refine W_seq ?_
        refine W_region (.pu 0 (.pu 1 (.pu 2 .fin))) rfl rfl ?_
        refine s_pu (d := some 68) (v := (.pointer (some p3))) rfl rfl rfl (r_move rfl) ?_
        refine s_pu (d := some 2) (v := (.pointer (some p3))) rfl rfl rfl (r_assign rfl) ?_
        refine s_pu (d := some 3) (v := .nilIface) rfl rfl rfl (r_assign rfl) ?_
        refine s_fin ?_
        show W _ _ _ _ _ _ _ _
        refine W_ret ?_
        exact ⟨[(.pointer (some p3)), .nilIface], ⟨_, _, rfl, rfl, ⟨_, _, rfl, rfl, rfl⟩⟩, (some p3), .nilIface, rfl, H⟩

/-! ### table_Table_next -/

def table_Table_next_F (r : World) (t1 : Option Addr) (row2 : Sl) (n3 : Int) (of4 : Value) (h : Heap) (R : Sl → Heap → Prop) : Prop :=
  ∀ X7 : Sl → Int → Heap → Prop, (∀ (out5 : Sl) (i6 : Int) (h1 : Heap),
    (Br (decide ((w64 (i6 + n3)) < ((row2.len : Int)))) (
      Ix row2 i6 1 fun q12 =>
      LdI h1 q12 fun x14 =>
      Ix row2 (w64 (i6 + n3)) 1 fun q20 =>
      LdI h1 q20 fun x22 =>
      CallV Try.prog r of4 [(.int .i64 x14), (.int .i64 x22)] h1 fun v29 h2 => ∃ (y24 : Int), v29 = (.int .i64 y24) ∧
      New h2 (.cells #[(.int .i64 y24)] 3) fun p25 h3 =>
      App 3 1 8 (.int .i64 0) out5 ((⟨some p25, 1, 1⟩ : Sl)) h3 fun s28 h4 =>
      X7 s28 (w64 (i6 + 1)) h4) (
      R out5 h1)) →
    X7 out5 i6 h1) →
  X7 Sl.nil 0 h

set_option maxRecDepth 100000 in
theorem table_Table_next_of {r : World} {t1 : Option Addr} {row2 : Sl} {n3 : Int} {of4 : Value} {h : Heap} {R : Sl → Heap → Prop} (H : table_Table_next_F r t1 row2 n3 of4 h R) : table_Table_next r t1 row2 n3 of4 h R := by
  unfold table_Table_next_F at H
  refine calls_of 35 [.tmp 8] Try.func18 rfl rfl rfl rfl rfl ?_
  refine W_seq ?_
  refine W_region (.pu 0 .fin) rfl rfl ?_
  refine s_pu (d := some 8) (v := (Sl.v Sl.nil)) rfl rfl rfl (r_assign rfl) ?_
  refine s_fin ?_
  show W _ _ _ _ _ _ _ _
  refine W_seq ?_
  refine W_region (.pu 0 .fin) rfl rfl ?_
  refine s_pu (d := some 9) (v := (Sl.v Sl.nil)) rfl rfl rfl (r_assign rfl) ?_
  refine s_fin ?_
  show W _ _ _ _ _ _ _ _
  refine W_seq ?_
  refine W_seq ?_
  refine W_region (.pu 0 .fin) rfl rfl ?_
  refine s_pu (d := some 10) (v := (.int .i64 0)) rfl rfl rfl (r_assign rfl) ?_
  refine s_fin ?_
  show W _ _ _ _ _ _ _ _
  refine W_block ?_
  refine W_loop (WL_mk (l := [(1, (Sl.v row2)), (2, (.int .i64 n3)), (3, of4), (9, (Sl.v Sl.nil)), (10, (.int .i64 0))]) ?_ ⟨rfl, rfl, rfl, rfl, rfl, trivial⟩)
  refine H (fun (out5 : Sl) (i6 : Int) (h1 : Heap) => ∀ b, WL _ _ _ _ _ _ (mkE [(1, (Sl.v row2)), (2, (.int .i64 n3)), (3, of4), (9, (Sl.v out5)), (10, (.int .i64 i6))] b) h1) ?_
  intro out5 i6 h1 H b
  refine WL_round ?_
  refine W_seq ?_
  refine W_seq ?_
  refine W_region (.pu 0 (.pu 1 (.pu 2 (.pu 3 (.pu 4 (.pu 5 .fin)))))) rfl rfl ?_
  refine s_pu (d := some 11) (v := (.int .i64 i6)) rfl rfl rfl (r_move rfl) ?_
  refine s_pu (d := some 12) (v := (.int .i64 n3)) rfl rfl rfl (r_move rfl) ?_
  refine s_pu (d := some 13) (v := (.int .i64 (w64 (i6 + n3)))) rfl rfl rfl (r_add rfl rfl) ?_
  refine s_pu (d := some 14) (v := (Sl.v row2)) rfl rfl rfl (r_move rfl) ?_
  refine s_pu (d := some 15) (v := (.int .i64 ((row2.len : Int)))) rfl rfl rfl (r_len Try.underlying22 rfl) ?_
  refine s_pu (d := some 16) (v := (.bool (decide ((w64 (i6 + n3)) < ((row2.len : Int)))))) rfl rfl rfl (r_lss rfl rfl) ?_
  refine s_fin ?_
  show W _ _ _ _ _ _ _ _
  refine W_if (decide ((w64 (i6 + n3)) < ((row2.len : Int)))) rfl (fun g30 => ?_) (fun g30 => ?_)
  · have H := H.1 g30
    refine W_skip ?_
    show W _ _ _ _ _ _ _ _
    refine W_seq ?_
    refine W_block ?_
    refine W_draw [0, 0, 0, 0, 12, 28, 0, 0, 0, 384, 960, 1984, 4094, 8190, 16383, 32767] (.pu 0 (.pu 1 (.pu 2 (.pu 3 (.pu 4 (.rd 5 (.pu 6 (.pu 7 (.pu 8 (.pu 9 (.pu 10 (.rd 11 (.ef 12 [5, 11] (.ef 13 [5, 11] (.ef 14 [5, 11] (.pu 15 .fin) .no) .no) .no))))))))))))) (by kernel_rfl) (by kernel_rfl) ?_
    refine s_pu (d := some 19) (v := (Sl.v out5)) rfl rfl rfl (r_move rfl) ?_
    refine s_pu (d := some 20) (v := of4) rfl rfl rfl (r_move rfl) ?_
    refine s_pu (d := some 21) (v := (Sl.v row2)) rfl rfl rfl (r_move rfl) ?_
    refine s_pu (d := some 22) (v := (.int .i64 i6)) rfl rfl rfl (r_move rfl) ?_
    obtain ⟨p8, e9, e10, e11, H⟩ := H
    obtain ⟨q12, e13⟩ : ∃ q : Addr, q = Addr.add p8 (Int.toNat i6 * 1) := ⟨_, rfl⟩
    rw [← e13] at H
    refine s_pu (d := some 23) (v := (.pointer (some q12))) rfl rfl rfl (fun w => (r_indexAddr Try.underlying22 Try.sizeOf3 rfl rfl e9 e10 e11 w).trans (by rw [e13])) ?_
    obtain ⟨x14, e15, H⟩ := H
    refine s_rd (d := some 24) (v := (.int .i64 x14)) rfl rfl rfl (fun dr => r_load1 Try.isAgg3 rfl e15) ?_
    refine s_pu (d := some 25) (v := (Sl.v row2)) rfl rfl rfl (r_move rfl) ?_
    refine s_pu (d := some 26) (v := (.int .i64 i6)) rfl rfl rfl (r_move rfl) ?_
    refine s_pu (d := some 27) (v := (.int .i64 n3)) rfl rfl rfl (r_move rfl) ?_
    refine s_pu (d := some 28) (v := (.int .i64 (w64 (i6 + n3)))) rfl rfl rfl (r_add rfl rfl) ?_
    obtain ⟨p16, e17, e18, e19, H⟩ := H
    obtain ⟨q20, e21⟩ : ∃ q : Addr, q = Addr.add p16 (Int.toNat (w64 (i6 + n3)) * 1) := ⟨_, rfl⟩
    rw [← e21] at H
    refine s_pu (d := some 29) (v := (.pointer (some q20))) rfl rfl rfl (fun w => (r_indexAddr Try.underlying22 Try.sizeOf3 rfl rfl e17 e18 e19 w).trans (by rw [e21])) ?_
    obtain ⟨x22, e23, H⟩ := H
    refine s_rd (d := some 30) (v := (.int .i64 x22)) rfl rfl rfl (fun dr => r_load1 Try.isAgg3 rfl e23) ?_
    refine s_ef (d := some 31) rfl rfl rfl (fun dr => r_callV rfl rfl H) ?_ trivial
    rintro _ h2 ⟨y24, rfl, H⟩
    refine ⟨⟨trivial, trivial, trivial⟩, ?_⟩
    obtain ⟨p25, e26⟩ : ∃ p : Addr, p = ⟨h2.size, 0, none⟩ := ⟨_, rfl⟩
    obtain ⟨h3, e27⟩ : ∃ hh : Heap, hh = h2.push (.cells #[(.int .i64 y24)] 3) := ⟨_, rfl⟩
    have H := H p25 h3 e26 e27
    refine s_ef1 (d := some 32) (v := (Sl.v ((⟨some p25, 1, 1⟩ : Sl)))) (h' := h3) rfl rfl rfl (fun dr => (slFHTab_22.build (cells := #[(.int .i64 y24)]) (by decide) rfl (by kernel_rfl)).trans (by rw [e26, e27]; rfl)) ⟨trivial, trivial, trivial⟩ ?_ trivial
    refine s_ef (d := some 33) rfl rfl rfl (fun dr => slFHTab_22.append rfl rfl H) ?_ trivial
    rintro _ h4 ⟨s28, rfl, H⟩
    refine ⟨⟨trivial, trivial, trivial⟩, ?_⟩
    refine s_pu (d := some 9) (v := (Sl.v s28)) rfl rfl rfl (r_assign rfl) ?_
    refine s_fin ?_
    show W _ _ _ _ _ _ _ _
    refine W_region (.pu 0 (.pu 1 (.pu 2 .fin))) rfl rfl ?_
    refine s_pu (d := some 17) (v := (.int .i64 i6)) rfl rfl rfl (r_move rfl) ?_
    refine s_pu (d := some 18) (v := (.int .i64 (w64 (i6 + 1)))) rfl rfl rfl (r_add rfl rfl) ?_
    refine s_pu (d := some 10) (v := (.int .i64 (w64 (i6 + 1)))) rfl rfl rfl (r_assign rfl) ?_
    refine s_fin ?_
    exact WL_mk (l := [(1, (Sl.v row2)), (2, (.int .i64 n3)), (3, of4), (9, (Sl.v s28)), (10, (.int .i64 (w64 (i6 + 1))))]) H ⟨rfl, rfl, rfl, rfl, rfl, trivial⟩
  · have H := H.2 g30
    refine W_exit (inX_here ?_)
    show W _ _ _ _ _ _ _ _
    refine W_seq ?_
    refine W_region (.pu 0 (.pu 1 .fin)) rfl rfl ?_
    refine s_pu (d := some 34) (v := (Sl.v out5)) rfl rfl rfl (r_move rfl) ?_
    refine s_pu (d := some 8) (v := (Sl.v out5)) rfl rfl rfl (r_assign rfl) ?_
    refine s_fin ?_
    show W _ _ _ _ _ _ _ _
    refine W_ret ?_
    exact ⟨[(Sl.v out5)], ⟨_, _, rfl, rfl, rfl⟩, out5, rfl, H⟩

/-! ### table_Table_low -/

def table_Table_low_F (r : World) (t1 : Option Addr) (i2 : Int) (j3 : Int) (h : Heap) (R : Int → Heap → Prop) : Prop :=
  Ck t1 fun p4 =>
  LdS h (Addr.add p4 0) fun x6 =>
  Ix x6 j3 1 fun q12 =>
  LdI h q12 fun x14 =>
  Ck t1 fun p16 =>
  LdS h (Addr.add p16 0) fun x18 =>
  Ix x18 i2 1 fun q24 =>
  LdI h q24 fun x26 =>
  Br (decide (x14 < x26)) (
    R j3 h) (
    R i2 h)

set_option maxRecDepth 100000 in
theorem table_Table_low_of {r : World} {t1 : Option Addr} {i2 : Int} {j3 : Int} {h : Heap} {R : Int → Heap → Prop} (H : table_Table_low_F r t1 i2 j3 h R) : table_Table_low r t1 i2 j3 h R := by
  unfold table_Table_low_F at H
  refine calls_of 24 [.tmp 6] Try.func19 rfl rfl rfl rfl rfl ?_
  refine W_seq ?_
  refine W_region (.pu 0 .fin) rfl rfl ?_
  refine s_pu (d := some 6) (v := (.int .i64 0)) rfl rfl rfl (r_assign rfl) ?_
  refine s_fin ?_
  show W _ _ _ _ _ _ _ _
  refine W_seq ?_
  refine W_seq ?_
  refine W_draw [0, 1, 3, 7, 0, 31, 63, 0, 128, 384, 896, 0, 3968, 8064, 16383] (.pu 0 (.pu 1 (.pu 2 (.rd 3 (.pu 4 (.pu 5 (.rd 6 (.pu 7 (.pu 8 (.pu 9 (.rd 10 (.pu 11 (.pu 12 (.rd 13 (.pu 14 .fin))))))))))))))) (by kernel_rfl) (by kernel_rfl) ?_
  refine s_pu (d := some 7) (v := (.pointer t1)) rfl rfl rfl (r_move rfl) ?_
  obtain ⟨p4, e5, H⟩ := H
  refine s_pu (d := some 8) (v := (.pointer (some p4))) rfl rfl rfl (r_nilCheck rfl e5) ?_
  refine s_pu (d := some 9) (v := (.pointer (some (Addr.add p4 0)))) rfl rfl rfl (r_fieldAddr Try.underlying61 Try.sizeOf22 rfl rfl rfl) ?_
  obtain ⟨x6, e7, H⟩ := H
  refine s_rd (d := some 10) (v := (Sl.v x6)) rfl rfl rfl (fun dr => r_load1 Try.isAgg22 rfl e7) ?_
  refine s_pu (d := some 11) (v := (.int .i64 j3)) rfl rfl rfl (r_move rfl) ?_
  obtain ⟨p8, e9, e10, e11, H⟩ := H
  obtain ⟨q12, e13⟩ : ∃ q : Addr, q = Addr.add p8 (Int.toNat j3 * 1) := ⟨_, rfl⟩
  rw [← e13] at H
  refine s_pu (d := some 12) (v := (.pointer (some q12))) rfl rfl rfl (fun w => (r_indexAddr Try.underlying22 Try.sizeOf3 rfl rfl e9 e10 e11 w).trans (by rw [e13])) ?_
  obtain ⟨x14, e15, H⟩ := H
  refine s_rd (d := some 13) (v := (.int .i64 x14)) rfl rfl rfl (fun dr => r_load1 Try.isAgg3 rfl e15) ?_
  refine s_pu (d := some 14) (v := (.pointer t1)) rfl rfl rfl (r_move rfl) ?_
  obtain ⟨p16, e17, H⟩ := H
  refine s_pu (d := some 15) (v := (.pointer (some p16))) rfl rfl rfl (r_nilCheck rfl e17) ?_
  refine s_pu (d := some 16) (v := (.pointer (some (Addr.add p16 0)))) rfl rfl rfl (r_fieldAddr Try.underlying61 Try.sizeOf22 rfl rfl rfl) ?_
  obtain ⟨x18, e19, H⟩ := H
  refine s_rd (d := some 17) (v := (Sl.v x18)) rfl rfl rfl (fun dr => r_load1 Try.isAgg22 rfl e19) ?_
  refine s_pu (d := some 18) (v := (.int .i64 i2)) rfl rfl rfl (r_move rfl) ?_
  obtain ⟨p20, e21, e22, e23, H⟩ := H
  obtain ⟨q24, e25⟩ : ∃ q : Addr, q = Addr.add p20 (Int.toNat i2 * 1) := ⟨_, rfl⟩
  rw [← e25] at H
  refine s_pu (d := some 19) (v := (.pointer (some q24))) rfl rfl rfl (fun w => (r_indexAddr Try.underlying22 Try.sizeOf3 rfl rfl e21 e22 e23 w).trans (by rw [e25])) ?_
  obtain ⟨x26, e27, H⟩ := H
  refine s_rd (d := some 20) (v := (.int .i64 x26)) rfl rfl rfl (fun dr => r_load1 Try.isAgg3 rfl e27) ?_
  refine s_pu (d := some 21) (v := (.bool (decide (x14 < x26)))) rfl rfl rfl (r_lss rfl rfl) ?_
  refine s_fin ?_
  show W _ _ _ _ _ _ _ _
  refine W_if (decide (x14 < x26)) rfl (fun g28 => ?_) (fun g28 => ?_)
  · have H := H.1 g28
    refine W_seq ?_
    refine W_region (.pu 0 (.pu 1 .fin)) rfl rfl ?_
    refine s_pu (d := some 22) (v := (.int .i64 j3)) rfl rfl rfl (r_move rfl) ?_
    refine s_pu (d := some 6) (v := (.int .i64 j3)) rfl rfl rfl (r_assign rfl) ?_
    refine s_fin ?_
    show W _ _ _ _ _ _ _ _
    refine W_ret ?_
    exact ⟨[(.int .i64 j3)], ⟨_, _, rfl, rfl, rfl⟩, j3, rfl, H⟩
  · have H := H.2 g28
    refine W_skip ?_
    show W _ _ _ _ _ _ _ _
    refine W_seq ?_
    refine W_region (.pu 0 (.pu 1 .fin)) rfl rfl ?_
    refine s_pu (d := some 23) (v := (.int .i64 i2)) rfl rfl rfl (r_move rfl) ?_
    refine s_pu (d := some 6) (v := (.int .i64 i2)) rfl rfl rfl (r_assign rfl) ?_
    refine s_fin ?_
    show W _ _ _ _ _ _ _ _
    refine W_ret ?_
    exact ⟨[(.int .i64 i2)], ⟨_, _, rfl, rfl, rfl⟩, i2, rfl, H⟩

/-! ### table_Table_high -/

def table_Table_high_F (r : World) (t1 : Option Addr) (i2 : Int) (j3 : Int) (h : Heap) (R : Int → Heap → Prop) : Prop :=
  Ck t1 fun p4 =>
  LdS h (Addr.add p4 0) fun x6 =>
  Ix x6 j3 1 fun q12 =>
  LdI h q12 fun x14 =>
  Ck t1 fun p16 =>
  LdS h (Addr.add p16 0) fun x18 =>
  Ix x18 i2 1 fun q24 =>
  LdI h q24 fun x26 =>
  Br (decide (x26 < x14)) (
    R j3 h) (
    R i2 h)

set_option maxRecDepth 100000 in
theorem table_Table_high_of {r : World} {t1 : Option Addr} {i2 : Int} {j3 : Int} {h : Heap} {R : Int → Heap → Prop} (H : table_Table_high_F r t1 i2 j3 h R) : table_Table_high r t1 i2 j3 h R := by
  unfold table_Table_high_F at H
  refine calls_of 24 [.tmp 6] Try.func20 rfl rfl rfl rfl rfl ?_
  refine W_seq ?_
  refine W_region (.pu 0 .fin) rfl rfl ?_
  refine s_pu (d := some 6) (v := (.int .i64 0)) rfl rfl rfl (r_assign rfl) ?_
  refine s_fin ?_
  show W _ _ _ _ _ _ _ _
  refine W_seq ?_
  refine W_seq ?_
  refine W_draw [0, 1, 3, 7, 0, 31, 63, 0, 128, 384, 896, 0, 3968, 8064, 16383] (.pu 0 (.pu 1 (.pu 2 (.rd 3 (.pu 4 (.pu 5 (.rd 6 (.pu 7 (.pu 8 (.pu 9 (.rd 10 (.pu 11 (.pu 12 (.rd 13 (.pu 14 .fin))))))))))))))) (by kernel_rfl) (by kernel_rfl) ?_
  refine s_pu (d := some 7) (v := (.pointer t1)) rfl rfl rfl (r_move rfl) ?_
  obtain ⟨p4, e5, H⟩ := H
  refine s_pu (d := some 8) (v := (.pointer (some p4))) rfl rfl rfl (r_nilCheck rfl e5) ?_
  refine s_pu (d := some 9) (v := (.pointer (some (Addr.add p4 0)))) rfl rfl rfl (r_fieldAddr Try.underlying61 Try.sizeOf22 rfl rfl rfl) ?_
  obtain ⟨x6, e7, H⟩ := H
  refine s_rd (d := some 10) (v := (Sl.v x6)) rfl rfl rfl (fun dr => r_load1 Try.isAgg22 rfl e7) ?_
  refine s_pu (d := some 11) (v := (.int .i64 j3)) rfl rfl rfl (r_move rfl) ?_
  obtain ⟨p8, e9, e10, e11, H⟩ := H
  obtain ⟨q12, e13⟩ : ∃ q : Addr, q = Addr.add p8 (Int.toNat j3 * 1) := ⟨_, rfl⟩
  rw [← e13] at H
  refine s_pu (d := some 12) (v := (.pointer (some q12))) rfl rfl rfl (fun w => (r_indexAddr Try.underlying22 Try.sizeOf3 rfl rfl e9 e10 e11 w).trans (by rw [e13])) ?_
  obtain ⟨x14, e15, H⟩ := H
  refine s_rd (d := some 13) (v := (.int .i64 x14)) rfl rfl rfl (fun dr => r_load1 Try.isAgg3 rfl e15) ?_
  refine s_pu (d := some 14) (v := (.pointer t1)) rfl rfl rfl (r_move rfl) ?_
  obtain ⟨p16, e17, H⟩ := H
  refine s_pu (d := some 15) (v := (.pointer (some p16))) rfl rfl rfl (r_nilCheck rfl e17) ?_
  refine s_pu (d := some 16) (v := (.pointer (some (Addr.add p16 0)))) rfl rfl rfl (r_fieldAddr Try.underlying61 Try.sizeOf22 rfl rfl rfl) ?_
  obtain ⟨x18, e19, H⟩ := H
  refine s_rd (d := some 17) (v := (Sl.v x18)) rfl rfl rfl (fun dr => r_load1 Try.isAgg22 rfl e19) ?_
  refine s_pu (d := some 18) (v := (.int .i64 i2)) rfl rfl rfl (r_move rfl) ?_
  obtain ⟨p20, e21, e22, e23, H⟩ := H
  obtain ⟨q24, e25⟩ : ∃ q : Addr, q = Addr.add p20 (Int.toNat i2 * 1) := ⟨_, rfl⟩
  rw [← e25] at H
  refine s_pu (d := some 19) (v := (.pointer (some q24))) rfl rfl rfl (fun w => (r_indexAddr Try.underlying22 Try.sizeOf3 rfl rfl e21 e22 e23 w).trans (by rw [e25])) ?_
  obtain ⟨x26, e27, H⟩ := H
  refine s_rd (d := some 20) (v := (.int .i64 x26)) rfl rfl rfl (fun dr => r_load1 Try.isAgg3 rfl e27) ?_
  refine s_pu (d := some 21) (v := (.bool (decide (x26 < x14)))) rfl rfl rfl (r_gtr rfl rfl) ?_
  refine s_fin ?_
  show W _ _ _ _ _ _ _ _
  refine W_if (decide (x26 < x14)) rfl (fun g28 => ?_) (fun g28 => ?_)
  · have H := H.1 g28
    refine W_seq ?_
    refine W_region (.pu 0 (.pu 1 .fin)) rfl rfl ?_
    refine s_pu (d := some 22) (v := (.int .i64 j3)) rfl rfl rfl (r_move rfl) ?_
    refine s_pu (d := some 6) (v := (.int .i64 j3)) rfl rfl rfl (r_assign rfl) ?_
    refine s_fin ?_
    show W _ _ _ _ _ _ _ _
    refine W_ret ?_
    exact ⟨[(.int .i64 j3)], ⟨_, _, rfl, rfl, rfl⟩, j3, rfl, H⟩
  · have H := H.2 g28
    refine W_skip ?_
    show W _ _ _ _ _ _ _ _
    refine W_seq ?_
    refine W_region (.pu 0 (.pu 1 .fin)) rfl rfl ?_
    refine s_pu (d := some 23) (v := (.int .i64 i2)) rfl rfl rfl (r_move rfl) ?_
    refine s_pu (d := some 6) (v := (.int .i64 i2)) rfl rfl rfl (r_assign rfl) ?_
    refine s_fin ?_
    show W _ _ _ _ _ _ _ _
    refine W_ret ?_
    exact ⟨[(.int .i64 i2)], ⟨_, _, rfl, rfl, rfl⟩, i2, rfl, H⟩

/-! ### table_Table_told -/

def table_Table_told_F (r : World) (t1 : Option Addr) (rows2 : Sl) (i3 : Int) (j4 : Int) (of5 : Value) (h : Heap) (R : Int → Value → Heap → Prop) : Prop :=
  ∀ J7 : Bool → Prop, (∀ (x6 : Bool),
    (Br x6 (
      R 0 ((.iface 51 (.int .i64 1))) h) (
      Br (decide (i3 = j4)) (
        R 0 ((.iface 51 (.int .i64 2))) h) (
        math_bits_Len r (IntKind.wrap .u64 (w64 (j4 - i3))) h fun y9 h1 =>
        Ix rows2 (w64 (y9 - 1)) 1 fun q14 =>
        LdS h1 q14 fun x16 =>
        Ix x16 i3 1 fun q22 =>
        LdI h1 q22 fun x24 =>
        Ix rows2 (w64 (y9 - 1)) 1 fun q30 =>
        LdS h1 q30 fun x32 =>
        (0 ≤ (w64 (y9 - 1))) ∧
        Ix x32 (w64 (j4 - (sShl .i64 1 (w64 (y9 - 1))))) 1 fun q39 =>
        LdI h1 q39 fun x41 =>
        CallV Try.prog r of5 [(.int .i64 x24), (.int .i64 x41)] h1 fun v44 h2 => ∃ (y43 : Int), v44 = (.int .i64 y43) ∧
        R y43 .nilIface h2))) →
    J7 x6) →
  Br (decide (i3 < 0)) (
    J7 true) (
    Br (decide (j4 < i3)) (
      J7 true) (
      Ck t1 fun p49 =>
      LdS h (Addr.add p49 0) fun x51 =>
      J7 (decide (((x51.len : Int)) < j4))))

set_option maxRecDepth 100000 in
theorem table_Table_told_of {r : World} {t1 : Option Addr} {rows2 : Sl} {i3 : Int} {j4 : Int} {of5 : Value} {h : Heap} {R : Int → Value → Heap → Prop} (H : table_Table_told_F r t1 rows2 i3 j4 of5 h R) : table_Table_told r t1 rows2 i3 j4 of5 h R := by
  unfold table_Table_told_F at H
  refine calls_of 59 [.tmp 10, .tmp 11] Try.func28 rfl rfl rfl rfl rfl ?_
  refine W_seq ?_
  refine W_region (.pu 0 (.pu 1 .fin)) rfl rfl ?_
  refine s_pu (d := some 10) (v := (.int .i64 0)) rfl rfl rfl (r_assign rfl) ?_
  refine s_pu (d := some 11) (v := .nilIface) rfl rfl rfl (r_assign rfl) ?_
  refine s_fin ?_
  show W _ _ _ _ _ _ _ _
  refine W_seq ?_
  refine W_seq ?_
  refine W_set ?_
  intro N8 eN8
  have H := H (fun (x6 : Bool) => ∀ b, N8 [] (mkE [(1, (Sl.v rows2)), (2, (.int .i64 i3)), (3, (.int .i64 j4)), (4, of5), (28, (.bool x6))] b) h) (by
    intro x6 H b
    rw [eN8]
    show W _ _ _ _ _ _ _ _
    refine W_if x6 rfl (fun g46 => ?_) (fun g46 => ?_)
    · have H := H.1 g46
      refine W_seq ?_
      refine W_region (.pu 0 (.pu 1 (.pu 2 .fin))) rfl rfl ?_
      refine s_pu (d := some 29) (v := ((.iface 51 (.int .i64 1)))) rfl rfl rfl (r_iface Try.underlying51 rfl rfl) ?_
      refine s_pu (d := some 10) (v := (.int .i64 0)) rfl rfl rfl (r_assign rfl) ?_
      refine s_pu (d := some 11) (v := ((.iface 51 (.int .i64 1)))) rfl rfl rfl (r_assign rfl) ?_
      refine s_fin ?_
      show W _ _ _ _ _ _ _ _
      refine W_ret ?_
      exact ⟨[(.int .i64 0), ((.iface 51 (.int .i64 1)))], ⟨_, _, rfl, rfl, ⟨_, _, rfl, rfl, rfl⟩⟩, 0, ((.iface 51 (.int .i64 1))), rfl, H⟩
    · have H := H.2 g46
      refine W_skip ?_
      show W _ _ _ _ _ _ _ _
      refine W_seq ?_
      refine W_seq ?_
      refine W_region (.pu 0 (.pu 1 (.pu 2 .fin))) rfl rfl ?_
      refine s_pu (d := some 30) (v := (.int .i64 i3)) rfl rfl rfl (r_move rfl) ?_
      refine s_pu (d := some 31) (v := (.int .i64 j4)) rfl rfl rfl (r_move rfl) ?_
      refine s_pu (d := some 32) (v := (.bool (decide (i3 = j4)))) rfl rfl rfl (r_eql rfl rfl) ?_
      refine s_fin ?_
      show W _ _ _ _ _ _ _ _
      refine W_if (decide (i3 = j4)) rfl (fun g45 => ?_) (fun g45 => ?_)
      · have H := H.1 g45
        refine W_seq ?_
        refine W_region (.pu 0 (.pu 1 (.pu 2 .fin))) rfl rfl ?_
        refine s_pu (d := some 33) (v := ((.iface 51 (.int .i64 2)))) rfl rfl rfl (r_iface Try.underlying51 rfl rfl) ?_
        refine s_pu (d := some 10) (v := (.int .i64 0)) rfl rfl rfl (r_assign rfl) ?_
        refine s_pu (d := some 11) (v := ((.iface 51 (.int .i64 2)))) rfl rfl rfl (r_assign rfl) ?_
        refine s_fin ?_
        show W _ _ _ _ _ _ _ _
        refine W_ret ?_
        exact ⟨[(.int .i64 0), ((.iface 51 (.int .i64 2)))], ⟨_, _, rfl, rfl, ⟨_, _, rfl, rfl, rfl⟩⟩, 0, ((.iface 51 (.int .i64 2))), rfl, H⟩
      · have H := H.2 g45
        refine W_skip ?_
        show W _ _ _ _ _ _ _ _
        refine W_seq ?_
        refine W_region (.pu 0 (.pu 1 (.pu 2 (.pu 3 (.ef 4 [] (.pu 5 (.pu 6 .fin)) .no))))) rfl rfl ?_
        refine s_pu (d := some 34) (v := (.int .i64 j4)) rfl rfl rfl (r_move rfl) ?_
        refine s_pu (d := some 35) (v := (.int .i64 i3)) rfl rfl rfl (r_move rfl) ?_
        refine s_pu (d := some 36) (v := (.int .i64 (w64 (j4 - i3)))) rfl rfl rfl (r_sub rfl rfl) ?_
        refine s_pu (d := some 37) (v := (.int .u64 (IntKind.wrap .u64 (w64 (j4 - i3))))) rfl rfl rfl (r_conv Try.underlying3 Try.underlying90 rfl) ?_
        refine s_ef (d := some 38) rfl rfl rfl (fun dr => r_call Try.call44 rfl rfl H) ?_ trivial
        rintro _ h1 ⟨y9, rfl, H⟩
        refine ⟨trivial, ?_⟩
        refine s_pu (d := some 39) (v := (.int .i64 (w64 (y9 - 1)))) rfl rfl rfl (r_sub rfl rfl) ?_
        refine s_pu (d := some 12) (v := (.int .i64 (w64 (y9 - 1)))) rfl rfl rfl (r_assign rfl) ?_
        refine s_fin ?_
        show W _ _ _ _ _ _ _ _
        refine W_seq ?_
        refine W_draw [0, 0, 0, 6, 14, 0, 62, 126, 0, 0, 768, 1792, 0, 0, 8192, 28672, 65280, 130816, 262143, 524287, 1048575] (.pu 0 (.pu 1 (.pu 2 (.pu 3 (.rd 4 (.pu 5 (.pu 6 (.rd 7 (.pu 8 (.pu 9 (.pu 10 (.rd 11 (.pu 12 (.pu 13 (.pu 14 (.pu 15 (.pu 16 (.rd 17 (.ef 18 [4, 7, 11, 17] (.pu 19 (.pu 20 .fin)) .no))))))))))))))))))) (by kernel_rfl) (by kernel_rfl) ?_
        refine s_pu (d := some 40) (v := of5) rfl rfl rfl (r_move rfl) ?_
        refine s_pu (d := some 41) (v := (Sl.v rows2)) rfl rfl rfl (r_move rfl) ?_
        refine s_pu (d := some 42) (v := (.int .i64 (w64 (y9 - 1)))) rfl rfl rfl (r_move rfl) ?_
        obtain ⟨p10, e11, e12, e13, H⟩ := H
        obtain ⟨q14, e15⟩ : ∃ q : Addr, q = Addr.add p10 (Int.toNat (w64 (y9 - 1)) * 1) := ⟨_, rfl⟩
        rw [← e15] at H
        refine s_pu (d := some 43) (v := (.pointer (some q14))) rfl rfl rfl (fun w => (r_indexAddr Try.underlying59 Try.sizeOf22 rfl rfl e11 e12 e13 w).trans (by rw [e15])) ?_
        obtain ⟨x16, e17, H⟩ := H
        refine s_rd (d := some 44) (v := (Sl.v x16)) rfl rfl rfl (fun dr => r_load1 Try.isAgg22 rfl e17) ?_
        refine s_pu (d := some 45) (v := (.int .i64 i3)) rfl rfl rfl (r_move rfl) ?_
        obtain ⟨p18, e19, e20, e21, H⟩ := H
        obtain ⟨q22, e23⟩ : ∃ q : Addr, q = Addr.add p18 (Int.toNat i3 * 1) := ⟨_, rfl⟩
        rw [← e23] at H
        refine s_pu (d := some 46) (v := (.pointer (some q22))) rfl rfl rfl (fun w => (r_indexAddr Try.underlying22 Try.sizeOf3 rfl rfl e19 e20 e21 w).trans (by rw [e23])) ?_
        obtain ⟨x24, e25, H⟩ := H
        refine s_rd (d := some 47) (v := (.int .i64 x24)) rfl rfl rfl (fun dr => r_load1 Try.isAgg3 rfl e25) ?_
        refine s_pu (d := some 48) (v := (Sl.v rows2)) rfl rfl rfl (r_move rfl) ?_
        refine s_pu (d := some 49) (v := (.int .i64 (w64 (y9 - 1)))) rfl rfl rfl (r_move rfl) ?_
        obtain ⟨p26, e27, e28, e29, H⟩ := H
        obtain ⟨q30, e31⟩ : ∃ q : Addr, q = Addr.add p26 (Int.toNat (w64 (y9 - 1)) * 1) := ⟨_, rfl⟩
        rw [← e31] at H
        refine s_pu (d := some 50) (v := (.pointer (some q30))) rfl rfl rfl (fun w => (r_indexAddr Try.underlying59 Try.sizeOf22 rfl rfl e27 e28 e29 w).trans (by rw [e31])) ?_
        obtain ⟨x32, e33, H⟩ := H
        refine s_rd (d := some 51) (v := (Sl.v x32)) rfl rfl rfl (fun dr => r_load1 Try.isAgg22 rfl e33) ?_
        refine s_pu (d := some 52) (v := (.int .i64 j4)) rfl rfl rfl (r_move rfl) ?_
        refine s_pu (d := some 53) (v := (.int .i64 (w64 (y9 - 1)))) rfl rfl rfl (r_move rfl) ?_
        obtain ⟨e34, H⟩ := H
        refine s_pu (d := some 54) (v := (.int .i64 (sShl .i64 1 (w64 (y9 - 1))))) rfl rfl rfl (r_shl rfl rfl e34) ?_
        refine s_pu (d := some 55) (v := (.int .i64 (w64 (j4 - (sShl .i64 1 (w64 (y9 - 1))))))) rfl rfl rfl (r_sub rfl rfl) ?_
        obtain ⟨p35, e36, e37, e38, H⟩ := H
        obtain ⟨q39, e40⟩ : ∃ q : Addr, q = Addr.add p35 (Int.toNat (w64 (j4 - (sShl .i64 1 (w64 (y9 - 1))))) * 1) := ⟨_, rfl⟩
        rw [← e40] at H
        refine s_pu (d := some 56) (v := (.pointer (some q39))) rfl rfl rfl (fun w => (r_indexAddr Try.underlying22 Try.sizeOf3 rfl rfl e36 e37 e38 w).trans (by rw [e40])) ?_
        obtain ⟨x41, e42, H⟩ := H
        refine s_rd (d := some 57) (v := (.int .i64 x41)) rfl rfl rfl (fun dr => r_load1 Try.isAgg3 rfl e42) ?_
        refine s_ef (d := some 58) rfl rfl rfl (fun dr => r_callV rfl rfl H) ?_ trivial
        rintro _ h2 ⟨y43, rfl, H⟩
        refine ⟨⟨trivial, trivial, trivial, trivial, trivial⟩, ?_⟩
        refine s_pu (d := some 10) (v := (.int .i64 y43)) rfl rfl rfl (r_assign rfl) ?_
        refine s_pu (d := some 11) (v := .nilIface) rfl rfl rfl (r_assign rfl) ?_
        refine s_fin ?_
        show W _ _ _ _ _ _ _ _
        refine W_ret ?_
        exact ⟨[(.int .i64 y43), .nilIface], ⟨_, _, rfl, rfl, ⟨_, _, rfl, rfl, rfl⟩⟩, y43, .nilIface, rfl, H⟩)
  clear eN8
  refine W_region (.pu 0 (.pu 1 (.pu 2 (.pu 3 (.pu 4 (.pu 5 (.pu 6 (.pu 7 (.pu 8 (.pu 9 (.pu 10 (.pu 11 (.rl 12 (.pu 13 (.pu 14 (.pu 15 .fin)))))))))))))))) rfl rfl ?_
  refine s_pu (d := some 13) (v := (.int .i64 i3)) rfl rfl rfl (r_move rfl) ?_
  refine s_pu (d := some 14) (v := (.bool (decide (i3 < 0)))) rfl rfl rfl (r_lss rfl rfl) ?_
  refine s_pu (d := some 15) (v := (.bool (decide (i3 < 0)))) rfl rfl rfl (r_move rfl) ?_
  rcases Bool.eq_false_or_eq_true (decide (i3 < 0)) with g47 | g47
  · have H := H.1 g47
    refine s_sk (d := some 16) rfl rfl (wants_no rfl rfl rfl rfl g47) ?_
    refine s_sk (d := some 17) rfl rfl (wants_no rfl rfl rfl rfl g47) ?_
    refine s_sk (d := some 18) rfl rfl (wants_no rfl rfl rfl rfl g47) ?_
    refine s_pu (d := some 19) (v := (.bool true)) rfl rfl rfl (r_pick1 rfl g47 rfl) ?_
    refine s_pu (d := some 20) (v := (.bool true)) rfl rfl rfl (r_move rfl) ?_
    refine s_sk (d := some 21) rfl rfl (wants_no rfl rfl rfl rfl rfl) ?_
    refine s_sk (d := some 22) rfl rfl (wants_no rfl rfl rfl rfl rfl) ?_
    refine s_sk (d := some 23) rfl rfl (wants_no rfl rfl rfl rfl rfl) ?_
    refine s_sk (d := some 24) rfl rfl (wants_no rfl rfl rfl rfl rfl) ?_
    refine s_skl (d := some 25) rfl rfl (wants_no rfl rfl rfl rfl rfl) ?_
    refine s_sk (d := some 26) rfl rfl (wants_no rfl rfl rfl rfl rfl) ?_
    refine s_sk (d := some 27) rfl rfl (wants_no rfl rfl rfl rfl rfl) ?_
    refine s_pu (d := some 28) (v := (.bool true)) rfl rfl rfl (r_pick1 rfl rfl rfl) ?_
    refine s_fin ?_
    exact N_mk (l := [(1, (Sl.v rows2)), (2, (.int .i64 i3)), (3, (.int .i64 j4)), (4, of5), (28, (.bool true))]) H ⟨rfl, rfl, rfl, rfl, rfl, trivial⟩
  · have H := H.2 g47
    refine s_pu (d := some 16) (v := (.int .i64 j4)) rfl rfl (wants_yes rfl rfl rfl rfl g47) (r_move rfl) ?_
    refine s_pu (d := some 17) (v := (.int .i64 i3)) rfl rfl (wants_yes rfl rfl rfl rfl g47) (r_move rfl) ?_
    refine s_pu (d := some 18) (v := (.bool (decide (j4 < i3)))) rfl rfl (wants_yes rfl rfl rfl rfl g47) (r_lss rfl rfl) ?_
    refine s_pu (d := some 19) (v := (.bool (decide (j4 < i3)))) rfl rfl rfl (r_pick0 rfl g47 rfl) ?_
    refine s_pu (d := some 20) (v := (.bool (decide (j4 < i3)))) rfl rfl rfl (r_move rfl) ?_
    rcases Bool.eq_false_or_eq_true (decide (j4 < i3)) with g48 | g48
    · have H := H.1 g48
      refine s_sk (d := some 21) rfl rfl (wants_no rfl rfl rfl rfl g48) ?_
      refine s_sk (d := some 22) rfl rfl (wants_no rfl rfl rfl rfl g48) ?_
      refine s_sk (d := some 23) rfl rfl (wants_no rfl rfl rfl rfl g48) ?_
      refine s_sk (d := some 24) rfl rfl (wants_no rfl rfl rfl rfl g48) ?_
      refine s_skl (d := some 25) rfl rfl (wants_no rfl rfl rfl rfl g48) ?_
      refine s_sk (d := some 26) rfl rfl (wants_no rfl rfl rfl rfl g48) ?_
      refine s_sk (d := some 27) rfl rfl (wants_no rfl rfl rfl rfl g48) ?_
      refine s_pu (d := some 28) (v := (.bool true)) rfl rfl rfl (r_pick1 rfl g48 rfl) ?_
      refine s_fin ?_
      exact N_mk (l := [(1, (Sl.v rows2)), (2, (.int .i64 i3)), (3, (.int .i64 j4)), (4, of5), (28, (.bool true))]) H ⟨rfl, rfl, rfl, rfl, rfl, trivial⟩
    · have H := H.2 g48
      refine s_pu (d := some 21) (v := (.int .i64 j4)) rfl rfl (wants_yes rfl rfl rfl rfl g48) (r_move rfl) ?_
      refine s_pu (d := some 22) (v := (.pointer t1)) rfl rfl (wants_yes rfl rfl rfl rfl g48) (r_move rfl) ?_
      obtain ⟨p49, e50, H⟩ := H
      refine s_pu (d := some 23) (v := (.pointer (some p49))) rfl rfl (wants_yes rfl rfl rfl rfl g48) (r_nilCheck rfl e50) ?_
      refine s_pu (d := some 24) (v := (.pointer (some (Addr.add p49 0)))) rfl rfl (wants_yes rfl rfl rfl rfl g48) (r_fieldAddr Try.underlying61 Try.sizeOf22 rfl rfl rfl) ?_
      obtain ⟨x51, e52, H⟩ := H
      refine s_rl (d := some 25) (v := (Sl.v x51)) rfl rfl (wants_yes rfl rfl rfl rfl g48) (fun dr => r_load1 Try.isAgg22 rfl e52) ?_
      refine s_pu (d := some 26) (v := (.int .i64 ((x51.len : Int)))) rfl rfl (wants_yes rfl rfl rfl rfl g48) (r_len Try.underlying22 rfl) ?_
      refine s_pu (d := some 27) (v := (.bool (decide (((x51.len : Int)) < j4)))) rfl rfl (wants_yes rfl rfl rfl rfl g48) (r_gtr rfl rfl) ?_
      refine s_pu (d := some 28) (v := (.bool (decide (((x51.len : Int)) < j4)))) rfl rfl rfl (r_pick0 rfl g48 rfl) ?_
      refine s_fin ?_
      exact N_mk (l := [(1, (Sl.v rows2)), (2, (.int .i64 i3)), (3, (.int .i64 j4)), (4, of5), (28, (.bool (decide (((x51.len : Int)) < j4))))]) H ⟨rfl, rfl, rfl, rfl, rfl, trivial⟩

/-! ### table_Table_Least -/

def table_Table_Least_F (r : World) (t1 : Option Addr) (i2 : Int) (j3 : Int) (h : Heap) (R : Int → Value → Heap → Prop) : Prop :=
  Ck t1 fun p4 =>
  LdS h (Addr.add p4 1) fun x6 =>
  table_Table_told r t1 x6 i2 j3 ((.func (.func 19) #[(.pointer t1)] #[])) h fun y8 y9 h1 =>
  R y8 y9 h1

set_option maxRecDepth 100000 in
theorem table_Table_Least_of {r : World} {t1 : Option Addr} {i2 : Int} {j3 : Int} {h : Heap} {R : Int → Value → Heap → Prop} (H : table_Table_Least_F r t1 i2 j3 h R) : table_Table_Least r t1 i2 j3 h R := by
  unfold table_Table_Least_F at H
  refine calls_of 20 [.tmp 6, .tmp 7] Try.func13 rfl rfl rfl rfl rfl ?_
  refine W_seq ?_
  refine W_region (.pu 0 (.pu 1 .fin)) rfl rfl ?_
  refine s_pu (d := some 6) (v := (.int .i64 0)) rfl rfl rfl (r_assign rfl) ?_
  refine s_pu (d := some 7) (v := .nilIface) rfl rfl rfl (r_assign rfl) ?_
  refine s_fin ?_
  show W _ _ _ _ _ _ _ _
  refine W_seq ?_
  refine W_region (.pu 0 (.pu 1 (.pu 2 (.pu 3 (.rl 4 (.pu 5 (.pu 6 (.pu 7 (.pu 8 (.ef 9 [] (.pu 10 (.pu 11 (.pu 12 (.pu 13 .fin)))) .no)))))))))) rfl rfl ?_
  refine s_pu (d := some 8) (v := (.pointer t1)) rfl rfl rfl (r_move rfl) ?_
  refine s_pu (d := some 9) (v := (.pointer t1)) rfl rfl rfl (r_move rfl) ?_
  obtain ⟨p4, e5, H⟩ := H
  refine s_pu (d := some 10) (v := (.pointer (some p4))) rfl rfl rfl (r_nilCheck rfl e5) ?_
  refine s_pu (d := some 11) (v := (.pointer (some (Addr.add p4 1)))) rfl rfl rfl (r_fieldAddr Try.underlying61 Try.sizeOf59 rfl rfl rfl) ?_
  obtain ⟨x6, e7, H⟩ := H
  refine s_rl (d := some 12) (v := (Sl.v x6)) rfl rfl rfl (fun dr => r_load1 Try.isAgg59 rfl e7) ?_
  refine s_pu (d := some 13) (v := (.int .i64 i2)) rfl rfl rfl (r_move rfl) ?_
  refine s_pu (d := some 14) (v := (.int .i64 j3)) rfl rfl rfl (r_move rfl) ?_
  refine s_pu (d := some 15) (v := (.pointer t1)) rfl rfl rfl (r_move rfl) ?_
  refine s_pu (d := some 16) (v := ((.func (.func 19) #[(.pointer t1)] #[]))) rfl rfl rfl (r_makeFunc rfl rfl) ?_
  refine s_ef (d := some 17) rfl rfl rfl (fun dr => r_call Try.call28 rfl rfl H) ?_ trivial
  rintro _ h1 ⟨y8, y9, rfl, H⟩
  refine ⟨trivial, ?_⟩
  refine s_pu (d := some 18) (v := (.int .i64 y8)) rfl rfl rfl (r_extract rfl rfl) ?_
  refine s_pu (d := some 19) (v := y9) rfl rfl rfl (r_extract rfl rfl) ?_
  refine s_pu (d := some 6) (v := (.int .i64 y8)) rfl rfl rfl (r_assign rfl) ?_
  refine s_pu (d := some 7) (v := y9) rfl rfl rfl (r_assign rfl) ?_
  refine s_fin ?_
  show W _ _ _ _ _ _ _ _
  refine W_ret ?_
  exact ⟨[(.int .i64 y8), y9], ⟨_, _, rfl, rfl, ⟨_, _, rfl, rfl, rfl⟩⟩, y8, y9, rfl, H⟩

end Go.Proofs.Ytfiemlcoliijoaa
