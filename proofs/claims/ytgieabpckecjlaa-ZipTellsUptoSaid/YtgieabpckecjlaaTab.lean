/- Typed words of functions, and that they hold: printed by gen.py (an own tool of this claim) off the model's own form of each function. -/
import Derived.Test.YtgieabpckecjlaaProg
import Derived.Test.YtgieabpckecjlaaTwFam
namespace Go.Proofs.Ytgieabpckecjlaa
open Go Go.RowKit Go.Tw
set_option linter.unusedVariables false

abbrev txtTab1 : ByteArray := ⟨#[0, 1, 2, 2, 3, 3, 3, 3, 4, 4, 4, 4, 4, 4, 4, 4, 5, 5, 5, 5, 5, 5, 5, 5, 5, 5, 5, 5, 5, 5, 5, 5, 6, 6, 6, 6, 6, 6, 6, 6, 6, 6, 6, 6, 6, 6, 6, 6, 6, 6, 6, 6, 6, 6, 6, 6, 6, 6, 6, 6, 6, 6, 6, 6, 7, 7, 7, 7, 7, 7, 7, 7, 7, 7, 7, 7, 7, 7, 7, 7, 7, 7, 7, 7, 7, 7, 7, 7, 7, 7, 7, 7, 7, 7, 7, 7, 7, 7, 7, 7, 7, 7, 7, 7, 7, 7, 7, 7, 7, 7, 7, 7, 7, 7, 7, 7, 7, 7, 7, 7, 7, 7, 7, 7, 7, 7, 7, 7, 8, 8, 8, 8, 8, 8, 8, 8, 8, 8, 8, 8, 8, 8, 8, 8, 8, 8, 8, 8, 8, 8, 8, 8, 8, 8, 8, 8, 8, 8, 8, 8, 8, 8, 8, 8, 8, 8, 8, 8, 8, 8, 8, 8, 8, 8, 8, 8, 8, 8, 8, 8, 8, 8, 8, 8, 8, 8, 8, 8, 8, 8, 8, 8, 8, 8, 8, 8, 8, 8, 8, 8, 8, 8, 8, 8, 8, 8, 8, 8, 8, 8, 8, 8, 8, 8, 8, 8, 8, 8, 8, 8, 8, 8, 8, 8, 8, 8, 8, 8, 8, 8, 8, 8, 8, 8, 8, 8, 8, 8, 8, 8, 8, 8, 8, 8, 8, 8, 8, 8, 8, 8, 8, 8, 8, 8, 8, 8]⟩
theorem slFTab_22 : SlF Try.prog 22 3 1 8 (.int .i64 0) := ⟨Try.underlying22, ⟨Try.t3, by kernel_rfl, rfl, rfl, rfl⟩, rfl, Try.sizeOf3, Try.zeroValue3⟩
theorem slFTab_60 : SlF Try.prog 60 22 1 24 (Sl.v Sl.nil) := ⟨Try.underlying60, ⟨Try.t22, by kernel_rfl, rfl, rfl, rfl⟩, rfl, Try.sizeOf22, Try.zeroValue22⟩

/-! ### the calls -/

abbrev same_Ints (r : World) (a1 : Sl) (vb2 : Sl) (h : Heap) (R : Bool → Heap → Prop) : Prop :=
  CallsH Try.prog r 16 [(Sl.v a1), (Sl.v vb2)] h fun v h' => ∃ (y3 : Bool), v = (.bool y3) ∧ R y3 h'

theorem same_Ints.mono {r : World} {a1 : Sl} {vb2 : Sl} {h : Heap} {R R' : Bool → Heap → Prop} (H : same_Ints r a1 vb2 h R) (hr : ∀ y3 h, R y3 h → R' y3 h) : same_Ints r a1 vb2 h R' :=
  CallsH.mono H fun _ _ hx => by
    obtain ⟨y3, hv, hR⟩ := hx
    exact ⟨y3, hv, hr _ _ hR⟩

abbrev math_bits_Len64 (r : World) (x1 : Int) (h : Heap) (R : Int → Heap → Prop) : Prop :=
  CallsH Try.prog r 67 [(.int .u64 x1)] h fun v h' => ∃ (y2 : Int), v = (.int .i64 y2) ∧ R y2 h'

theorem math_bits_Len64.mono {r : World} {x1 : Int} {h : Heap} {R R' : Int → Heap → Prop} (H : math_bits_Len64 r x1 h R) (hr : ∀ y2 h, R y2 h → R' y2 h) : math_bits_Len64 r x1 h R' :=
  CallsH.mono H fun _ _ hx => by
    obtain ⟨y2, hv, hR⟩ := hx
    exact ⟨y2, hv, hr _ _ hR⟩

abbrev math_bits_Len32 (r : World) (x1 : Int) (h : Heap) (R : Int → Heap → Prop) : Prop :=
  CallsH Try.prog r 66 [(.int .u32 x1)] h fun v h' => ∃ (y2 : Int), v = (.int .i64 y2) ∧ R y2 h'

theorem math_bits_Len32.mono {r : World} {x1 : Int} {h : Heap} {R R' : Int → Heap → Prop} (H : math_bits_Len32 r x1 h R) (hr : ∀ y2 h, R y2 h → R' y2 h) : math_bits_Len32 r x1 h R' :=
  CallsH.mono H fun _ _ hx => by
    obtain ⟨y2, hv, hR⟩ := hx
    exact ⟨y2, hv, hr _ _ hR⟩

abbrev math_bits_Len (r : World) (x1 : Int) (h : Heap) (R : Int → Heap → Prop) : Prop :=
  CallsH Try.prog r 57 [(.int .u64 x1)] h fun v h' => ∃ (y2 : Int), v = (.int .i64 y2) ∧ R y2 h'

theorem math_bits_Len.mono {r : World} {x1 : Int} {h : Heap} {R R' : Int → Heap → Prop} (H : math_bits_Len r x1 h R) (hr : ∀ y2 h, R y2 h → R' y2 h) : math_bits_Len r x1 h R' :=
  CallsH.mono H fun _ _ hx => by
    obtain ⟨y2, hv, hR⟩ := hx
    exact ⟨y2, hv, hr _ _ hR⟩

abbrev slices_Clone_int_int (r : World) (s1 : Sl) (h : Heap) (R : Sl → Heap → Prop) : Prop :=
  CallsH Try.prog r 39 [(Sl.v s1)] h fun v h' => ∃ (y2 : Sl), v = (Sl.v y2) ∧ R y2 h'

theorem slices_Clone_int_int.mono {r : World} {s1 : Sl} {h : Heap} {R R' : Sl → Heap → Prop} (H : slices_Clone_int_int r s1 h R) (hr : ∀ y2 h, R y2 h → R' y2 h) : slices_Clone_int_int r s1 h R' :=
  CallsH.mono H fun _ _ hx => by
    obtain ⟨y2, hv, hR⟩ := hx
    exact ⟨y2, hv, hr _ _ hR⟩

abbrev table_New (r : World) (l1 : Sl) (h : Heap) (R : Option Addr → Value → Heap → Prop) : Prop :=
  CallsH Try.prog r 10 [(Sl.v l1)] h fun v h' => ∃ (y2 : Option Addr) (y3 : Value), v = (.tuple #[(.pointer y2), y3]) ∧ R y2 y3 h'

theorem table_New.mono {r : World} {l1 : Sl} {h : Heap} {R R' : Option Addr → Value → Heap → Prop} (H : table_New r l1 h R) (hr : ∀ y2 y3 h, R y2 y3 h → R' y2 y3 h) : table_New r l1 h R' :=
  CallsH.mono H fun _ _ hx => by
    obtain ⟨y2, y3, hv, hR⟩ := hx
    exact ⟨y2, y3, hv, hr _ _ _ hR⟩

abbrev table_Table_next (r : World) (t1 : Option Addr) (row2 : Sl) (n3 : Int) (of4 : Value) (h : Heap) (R : Sl → Heap → Prop) : Prop :=
  CallsH Try.prog r 40 [(.pointer t1), (Sl.v row2), (.int .i64 n3), of4] h fun v h' => ∃ (y5 : Sl), v = (Sl.v y5) ∧ R y5 h'

theorem table_Table_next.mono {r : World} {t1 : Option Addr} {row2 : Sl} {n3 : Int} {of4 : Value} {h : Heap} {R R' : Sl → Heap → Prop} (H : table_Table_next r t1 row2 n3 of4 h R) (hr : ∀ y5 h, R y5 h → R' y5 h) : table_Table_next r t1 row2 n3 of4 h R' :=
  CallsH.mono H fun _ _ hx => by
    obtain ⟨y5, hv, hR⟩ := hx
    exact ⟨y5, hv, hr _ _ hR⟩

abbrev table_Table_low (r : World) (t1 : Option Addr) (i2 : Int) (j3 : Int) (h : Heap) (R : Int → Heap → Prop) : Prop :=
  CallsH Try.prog r 41 [(.pointer t1), (.int .i64 i2), (.int .i64 j3)] h fun v h' => ∃ (y4 : Int), v = (.int .i64 y4) ∧ R y4 h'

theorem table_Table_low.mono {r : World} {t1 : Option Addr} {i2 : Int} {j3 : Int} {h : Heap} {R R' : Int → Heap → Prop} (H : table_Table_low r t1 i2 j3 h R) (hr : ∀ y4 h, R y4 h → R' y4 h) : table_Table_low r t1 i2 j3 h R' :=
  CallsH.mono H fun _ _ hx => by
    obtain ⟨y4, hv, hR⟩ := hx
    exact ⟨y4, hv, hr _ _ hR⟩

abbrev table_Table_high (r : World) (t1 : Option Addr) (i2 : Int) (j3 : Int) (h : Heap) (R : Int → Heap → Prop) : Prop :=
  CallsH Try.prog r 42 [(.pointer t1), (.int .i64 i2), (.int .i64 j3)] h fun v h' => ∃ (y4 : Int), v = (.int .i64 y4) ∧ R y4 h'

theorem table_Table_high.mono {r : World} {t1 : Option Addr} {i2 : Int} {j3 : Int} {h : Heap} {R R' : Int → Heap → Prop} (H : table_Table_high r t1 i2 j3 h R) (hr : ∀ y4 h, R y4 h → R' y4 h) : table_Table_high r t1 i2 j3 h R' :=
  CallsH.mono H fun _ _ hx => by
    obtain ⟨y4, hv, hR⟩ := hx
    exact ⟨y4, hv, hr _ _ hR⟩

abbrev table_Table_told (r : World) (t1 : Option Addr) (rows2 : Sl) (i3 : Int) (j4 : Int) (of5 : Value) (h : Heap) (R : Int → Value → Heap → Prop) : Prop :=
  CallsH Try.prog r 43 [(.pointer t1), (Sl.v rows2), (.int .i64 i3), (.int .i64 j4), of5] h fun v h' => ∃ (y6 : Int) (y7 : Value), v = (.tuple #[(.int .i64 y6), y7]) ∧ R y6 y7 h'

theorem table_Table_told.mono {r : World} {t1 : Option Addr} {rows2 : Sl} {i3 : Int} {j4 : Int} {of5 : Value} {h : Heap} {R R' : Int → Value → Heap → Prop} (H : table_Table_told r t1 rows2 i3 j4 of5 h R) (hr : ∀ y6 y7 h, R y6 y7 h → R' y6 y7 h) : table_Table_told r t1 rows2 i3 j4 of5 h R' :=
  CallsH.mono H fun _ _ hx => by
    obtain ⟨y6, y7, hv, hR⟩ := hx
    exact ⟨y6, y7, hv, hr _ _ _ hR⟩

abbrev table_Table_Least (r : World) (t1 : Option Addr) (i2 : Int) (j3 : Int) (h : Heap) (R : Int → Value → Heap → Prop) : Prop :=
  CallsH Try.prog r 11 [(.pointer t1), (.int .i64 i2), (.int .i64 j3)] h fun v h' => ∃ (y4 : Int) (y5 : Value), v = (.tuple #[(.int .i64 y4), y5]) ∧ R y4 y5 h'

theorem table_Table_Least.mono {r : World} {t1 : Option Addr} {i2 : Int} {j3 : Int} {h : Heap} {R R' : Int → Value → Heap → Prop} (H : table_Table_Least r t1 i2 j3 h R) (hr : ∀ y4 y5 h, R y4 y5 h → R' y4 y5 h) : table_Table_Least r t1 i2 j3 h R' :=
  CallsH.mono H fun _ _ hx => by
    obtain ⟨y4, y5, hv, hR⟩ := hx
    exact ⟨y4, y5, hv, hr _ _ _ hR⟩

abbrev table_Table_Most (r : World) (t1 : Option Addr) (i2 : Int) (j3 : Int) (h : Heap) (R : Int → Value → Heap → Prop) : Prop :=
  CallsH Try.prog r 12 [(.pointer t1), (.int .i64 i2), (.int .i64 j3)] h fun v h' => ∃ (y4 : Int) (y5 : Value), v = (.tuple #[(.int .i64 y4), y5]) ∧ R y4 y5 h'

theorem table_Table_Most.mono {r : World} {t1 : Option Addr} {i2 : Int} {j3 : Int} {h : Heap} {R R' : Int → Value → Heap → Prop} (H : table_Table_Most r t1 i2 j3 h R) (hr : ∀ y4 y5 h, R y4 y5 h → R' y4 y5 h) : table_Table_Most r t1 i2 j3 h R' :=
  CallsH.mono H fun _ _ hx => by
    obtain ⟨y4, y5, hv, hR⟩ := hx
    exact ⟨y4, y5, hv, hr _ _ _ hR⟩

abbrev table_Table_Rows (r : World) (t1 : Option Addr) (h : Heap) (R : Int → Heap → Prop) : Prop :=
  CallsH Try.prog r 38 [(.pointer t1)] h fun v h' => ∃ (y2 : Int), v = (.int .i64 y2) ∧ R y2 h'

theorem table_Table_Rows.mono {r : World} {t1 : Option Addr} {h : Heap} {R R' : Int → Heap → Prop} (H : table_Table_Rows r t1 h R) (hr : ∀ y2 h, R y2 h → R' y2 h) : table_Table_Rows r t1 h R' :=
  CallsH.mono H fun _ _ hx => by
    obtain ⟨y2, hv, hR⟩ := hx
    exact ⟨y2, hv, hr _ _ hR⟩

abbrev law5_tabled (r : World)  (h : Heap) (R : Bool → Heap → Prop) : Prop :=
  CallsH Try.prog r 9 [] h fun v h' => ∃ (y1 : Bool), v = (.bool y1) ∧ R y1 h'

theorem law5_tabled.mono {r : World}  {h : Heap} {R R' : Bool → Heap → Prop} (H : law5_tabled r  h R) (hr : ∀ y1 h, R y1 h → R' y1 h) : law5_tabled r  h R' :=
  CallsH.mono H fun _ _ hx => by
    obtain ⟨y1, hv, hR⟩ := hx
    exact ⟨y1, hv, hr _ _ hR⟩

abbrev law5_TableParts (r : World) (l1 : Sl) (i2 : Int) (j3 : Int) (a4 : Int) (vb5 : Int) (k6 : Int) (h : Heap) (R : Bool → Heap → Prop) : Prop :=
  CallsH Try.prog r 3 [(Sl.v l1), (.int .i64 i2), (.int .i64 j3), (.int .i64 a4), (.int .i64 vb5), (.int .i64 k6)] h fun v h' => ∃ (y7 : Bool), v = (.bool y7) ∧ R y7 h'

theorem law5_TableParts.mono {r : World} {l1 : Sl} {i2 : Int} {j3 : Int} {a4 : Int} {vb5 : Int} {k6 : Int} {h : Heap} {R R' : Bool → Heap → Prop} (H : law5_TableParts r l1 i2 j3 a4 vb5 k6 h R) (hr : ∀ y7 h, R y7 h → R' y7 h) : law5_TableParts r l1 i2 j3 a4 vb5 k6 h R' :=
  CallsH.mono H fun _ _ hx => by
    obtain ⟨y7, hv, hR⟩ := hx
    exact ⟨y7, hv, hr _ _ hR⟩

/-! ### same_Ints -/

def same_Ints_F (r : World) (a1 : Sl) (vb2 : Sl) (h : Heap) (R : Bool → Heap → Prop) : Prop :=
  Br (!decide (((a1.len : Int)) = ((vb2.len : Int)))) (
    R false h) (
    ∀ X4 : Int → Prop, (∀ (i3 : Int),
      (Br (decide (i3 < ((a1.len : Int)))) (
        Ix a1 i3 1 fun q9 =>
        LdI h q9 fun x11 =>
        Ix vb2 i3 1 fun q17 =>
        LdI h q17 fun x19 =>
        Br (!decide (x11 = x19)) (
          R false h) (
          X4 (w64 (i3 + 1)))) (
        R true h)) →
      X4 i3) →
    X4 0)

set_option maxRecDepth 100000 in
theorem same_Ints_of {r : World} {a1 : Sl} {vb2 : Sl} {h : Heap} {R : Bool → Heap → Prop} (H : same_Ints_F r a1 vb2 h R) : same_Ints r a1 vb2 h R := by
  unfold same_Ints_F at H
  refine calls_of 26 [.tmp 4] Try.func16 rfl rfl rfl rfl rfl ?_
  refine W_seq ?_
  refine W_region (.pu 0 .fin) rfl rfl ?_
  refine s_pu (d := some 4) (v := (.bool false)) rfl rfl rfl (r_assign rfl) ?_
  refine s_fin ?_
  show W _ _ _ _ _ _ _ _
  refine W_seq ?_
  refine W_seq ?_
  refine W_region (.pu 0 (.pu 1 (.pu 2 (.pu 3 (.pu 4 .fin))))) rfl rfl ?_
  refine s_pu (d := some 6) (v := (Sl.v a1)) rfl rfl rfl (r_move rfl) ?_
  refine s_pu (d := some 7) (v := (.int .i64 ((a1.len : Int)))) rfl rfl rfl (r_len Try.underlying22 rfl) ?_
  refine s_pu (d := some 8) (v := (Sl.v vb2)) rfl rfl rfl (r_move rfl) ?_
  refine s_pu (d := some 9) (v := (.int .i64 ((vb2.len : Int)))) rfl rfl rfl (r_len Try.underlying22 rfl) ?_
  refine s_pu (d := some 10) (v := (.bool (!decide (((a1.len : Int)) = ((vb2.len : Int)))))) rfl rfl rfl (r_neq rfl rfl) ?_
  refine s_fin ?_
  show W _ _ _ _ _ _ _ _
  refine W_if (!decide (((a1.len : Int)) = ((vb2.len : Int)))) rfl (fun g23 => ?_) (fun g23 => ?_)
  · have H := H.1 g23
    refine W_seq ?_
    refine W_region (.pu 0 .fin) rfl rfl ?_
    refine s_pu (d := some 4) (v := (.bool false)) rfl rfl rfl (r_assign rfl) ?_
    refine s_fin ?_
    show W _ _ _ _ _ _ _ _
    refine W_ret ?_
    exact ⟨[(.bool false)], ⟨_, _, rfl, rfl, rfl⟩, false, rfl, H⟩
  · have H := H.2 g23
    refine W_skip ?_
    show W _ _ _ _ _ _ _ _
    refine W_seq ?_
    refine W_seq ?_
    refine W_region (.pu 0 .fin) rfl rfl ?_
    refine s_pu (d := some 5) (v := (.int .i64 0)) rfl rfl rfl (r_assign rfl) ?_
    refine s_fin ?_
    show W _ _ _ _ _ _ _ _
    refine W_block ?_
    refine W_loop (WL_mk (l := [(0, (Sl.v a1)), (1, (Sl.v vb2)), (5, (.int .i64 0))]) ?_ ⟨rfl, rfl, rfl, trivial⟩)
    refine H (fun (i3 : Int) => ∀ b, WL _ _ _ _ _ _ (mkE [(0, (Sl.v a1)), (1, (Sl.v vb2)), (5, (.int .i64 i3))] b) h) ?_
    intro i3 H b
    refine WL_round ?_
    refine W_seq ?_
    refine W_seq ?_
    refine W_region (.pu 0 (.pu 1 (.pu 2 (.pu 3 .fin)))) rfl rfl ?_
    refine s_pu (d := some 11) (v := (.int .i64 i3)) rfl rfl rfl (r_move rfl) ?_
    refine s_pu (d := some 12) (v := (Sl.v a1)) rfl rfl rfl (r_move rfl) ?_
    refine s_pu (d := some 13) (v := (.int .i64 ((a1.len : Int)))) rfl rfl rfl (r_len Try.underlying22 rfl) ?_
    refine s_pu (d := some 14) (v := (.bool (decide (i3 < ((a1.len : Int)))))) rfl rfl rfl (r_lss rfl rfl) ?_
    refine s_fin ?_
    show W _ _ _ _ _ _ _ _
    refine W_if (decide (i3 < ((a1.len : Int)))) rfl (fun g22 => ?_) (fun g22 => ?_)
    · have H := H.1 g22
      refine W_skip ?_
      show W _ _ _ _ _ _ _ _
      refine W_seq ?_
      refine W_block ?_
      refine W_seq ?_
      refine W_draw [0, 0, 3, 7, 0, 0, 48, 112, 255] (.pu 0 (.pu 1 (.pu 2 (.rd 3 (.pu 4 (.pu 5 (.pu 6 (.rd 7 (.pu 8 .fin))))))))) (by kernel_rfl) (by kernel_rfl) ?_
      refine s_pu (d := some 17) (v := (Sl.v a1)) rfl rfl rfl (r_move rfl) ?_
      refine s_pu (d := some 18) (v := (.int .i64 i3)) rfl rfl rfl (r_move rfl) ?_
      obtain ⟨p5, e6, e7, e8, H⟩ := H
      obtain ⟨q9, e10⟩ : ∃ q : Addr, q = Addr.add p5 (Int.toNat i3 * 1) := ⟨_, rfl⟩
      rw [← e10] at H
      refine s_pu (d := some 19) (v := (.pointer (some q9))) rfl rfl rfl (fun w => (r_indexAddr Try.underlying22 Try.sizeOf3 rfl rfl e6 e7 e8 w).trans (by rw [e10])) ?_
      obtain ⟨x11, e12, H⟩ := H
      refine s_rd (d := some 20) (v := (.int .i64 x11)) rfl rfl rfl (fun dr => r_load1 Try.isAgg3 rfl e12) ?_
      refine s_pu (d := some 21) (v := (Sl.v vb2)) rfl rfl rfl (r_move rfl) ?_
      refine s_pu (d := some 22) (v := (.int .i64 i3)) rfl rfl rfl (r_move rfl) ?_
      obtain ⟨p13, e14, e15, e16, H⟩ := H
      obtain ⟨q17, e18⟩ : ∃ q : Addr, q = Addr.add p13 (Int.toNat i3 * 1) := ⟨_, rfl⟩
      rw [← e18] at H
      refine s_pu (d := some 23) (v := (.pointer (some q17))) rfl rfl rfl (fun w => (r_indexAddr Try.underlying22 Try.sizeOf3 rfl rfl e14 e15 e16 w).trans (by rw [e18])) ?_
      obtain ⟨x19, e20, H⟩ := H
      refine s_rd (d := some 24) (v := (.int .i64 x19)) rfl rfl rfl (fun dr => r_load1 Try.isAgg3 rfl e20) ?_
      refine s_pu (d := some 25) (v := (.bool (!decide (x11 = x19)))) rfl rfl rfl (r_neq rfl rfl) ?_
      refine s_fin ?_
      show W _ _ _ _ _ _ _ _
      refine W_if (!decide (x11 = x19)) rfl (fun g21 => ?_) (fun g21 => ?_)
      · have H := H.1 g21
        refine W_seq ?_
        refine W_region (.pu 0 .fin) rfl rfl ?_
        refine s_pu (d := some 4) (v := (.bool false)) rfl rfl rfl (r_assign rfl) ?_
        refine s_fin ?_
        show W _ _ _ _ _ _ _ _
        refine W_ret ?_
        exact ⟨[(.bool false)], ⟨_, _, rfl, rfl, rfl⟩, false, rfl, H⟩
      · have H := H.2 g21
        refine W_skip ?_
        show W _ _ _ _ _ _ _ _
        refine W_region (.pu 0 (.pu 1 (.pu 2 .fin))) rfl rfl ?_
        refine s_pu (d := some 15) (v := (.int .i64 i3)) rfl rfl rfl (r_move rfl) ?_
        refine s_pu (d := some 16) (v := (.int .i64 (w64 (i3 + 1)))) rfl rfl rfl (r_add rfl rfl) ?_
        refine s_pu (d := some 5) (v := (.int .i64 (w64 (i3 + 1)))) rfl rfl rfl (r_assign rfl) ?_
        refine s_fin ?_
        exact WL_mk (l := [(0, (Sl.v a1)), (1, (Sl.v vb2)), (5, (.int .i64 (w64 (i3 + 1))))]) H ⟨rfl, rfl, rfl, trivial⟩
    · have H := H.2 g22
      refine W_exit (inX_here ?_)
      show W _ _ _ _ _ _ _ _
      refine W_seq ?_
      refine W_region (.pu 0 .fin) rfl rfl ?_
      refine s_pu (d := some 4) (v := (.bool true)) rfl rfl rfl (r_assign rfl) ?_
      refine s_fin ?_
      show W _ _ _ _ _ _ _ _
      refine W_ret ?_
      exact ⟨[(.bool true)], ⟨_, _, rfl, rfl, rfl⟩, true, rfl, H⟩

/-! ### math_bits_Len64 -/

def math_bits_Len64_F (r : World) (x1 : Int) (h : Heap) (R : Int → Heap → Prop) : Prop :=
  ∀ J4 : Int → Int → Prop, (∀ (x2 : Int) (n3 : Int),
    (∀ J8 : Int → Int → Prop, (∀ (x6 : Int) (n7 : Int),
      (∀ J12 : Int → Int → Prop, (∀ (x10 : Int) (n11 : Int),
        (0 ≤ (IntKind.wrap .u8 x10) ∧ (IntKind.wrap .u8 x10) < (ByteArray.size txtTab1 : Int) ∧
        ∀ x16 : Int, x16 = (w64 (n11 + (w64 (strAt txtTab1 (IntKind.wrap .u8 x10))))) →
        R x16 h) →
        J12 x10 n11) →
      Br (decide (256 ≤ x6)) (
        J12 (sShr .u64 x6 8) (w64 (n7 + 8))) (
        J12 x6 n7)) →
      J8 x6 n7) →
    Br (decide (65536 ≤ x2)) (
      J8 (sShr .u64 x2 16) (w64 (n3 + 16))) (
      J8 x2 n3)) →
    J4 x2 n3) →
  Br (decide (4294967296 ≤ x1)) (
    J4 (sShr .u64 x1 32) 32) (
    J4 x1 0)

set_option maxRecDepth 100000 in
theorem math_bits_Len64_of {r : World} {x1 : Int} {h : Heap} {R : Int → Heap → Prop} (H : math_bits_Len64_F r x1 h R) : math_bits_Len64 r x1 h R := by
  unfold math_bits_Len64_F at H
  refine calls_of 25 [.tmp 2] Try.func67 rfl rfl rfl rfl rfl ?_
  refine W_seq ?_
  refine W_region (.pu 0 .fin) rfl rfl ?_
  refine s_pu (d := some 2) (v := (.int .i64 0)) rfl rfl rfl (r_assign rfl) ?_
  refine s_fin ?_
  show W _ _ _ _ _ _ _ _
  refine W_seq ?_
  refine W_seq ?_
  refine W_region (.pu 0 (.pu 1 .fin)) rfl rfl ?_
  refine s_pu (d := some 3) (v := (.int .u64 x1)) rfl rfl rfl (r_move rfl) ?_
  refine s_pu (d := some 4) (v := (.bool (decide (4294967296 ≤ x1)))) rfl rfl rfl (r_geq rfl rfl) ?_
  refine s_fin ?_
  show W _ _ _ _ _ _ _ _
  refine W_set ?_
  intro N5 eN5
  have H := H (fun (x2 : Int) (n3 : Int) => ∀ b, N5 [] (mkE [(0, (.int .u64 x2)), (2, (.int .i64 n3))] b) h) (by
    intro x2 n3 H b
    rw [eN5]
    show W _ _ _ _ _ _ _ _
    refine W_seq ?_
    refine W_seq ?_
    refine W_region (.pu 0 (.pu 1 .fin)) rfl rfl ?_
    refine s_pu (d := some 7) (v := (.int .u64 x2)) rfl rfl rfl (r_move rfl) ?_
    refine s_pu (d := some 8) (v := (.bool (decide (65536 ≤ x2)))) rfl rfl rfl (r_geq rfl rfl) ?_
    refine s_fin ?_
    show W _ _ _ _ _ _ _ _
    refine W_set ?_
    intro N9 eN9
    have H := H (fun (x6 : Int) (n7 : Int) => ∀ b, N9 [] (mkE [(0, (.int .u64 x6)), (2, (.int .i64 n7))] b) h) (by
      intro x6 n7 H b
      rw [eN9]
      show W _ _ _ _ _ _ _ _
      refine W_seq ?_
      refine W_seq ?_
      refine W_region (.pu 0 (.pu 1 .fin)) rfl rfl ?_
      refine s_pu (d := some 13) (v := (.int .u64 x6)) rfl rfl rfl (r_move rfl) ?_
      refine s_pu (d := some 14) (v := (.bool (decide (256 ≤ x6)))) rfl rfl rfl (r_geq rfl rfl) ?_
      refine s_fin ?_
      show W _ _ _ _ _ _ _ _
      refine W_set ?_
      intro N13 eN13
      have H := H (fun (x10 : Int) (n11 : Int) => ∀ b, N13 [] (mkE [(0, (.int .u64 x10)), (2, (.int .i64 n11))] b) h) (by
        intro x10 n11 H b
        rw [eN13]
        show W _ _ _ _ _ _ _ _
        refine W_seq ?_
        refine W_region (.pu 0 (.pu 1 (.pu 2 (.pu 3 (.pu 4 (.pu 5 (.pu 6 .fin))))))) rfl rfl ?_
        refine s_pu (d := some 19) (v := (.int .i64 n11)) rfl rfl rfl (r_move rfl) ?_
        refine s_pu (d := some 20) (v := (.int .u64 x10)) rfl rfl rfl (r_move rfl) ?_
        refine s_pu (d := some 21) (v := (.int .u8 (IntKind.wrap .u8 x10))) rfl rfl rfl (r_conv Try.underlying103 Try.underlying5 rfl) ?_
        obtain ⟨e14, e15, H⟩ := H
        refine s_pu (d := some 22) (v := (.int .u8 (strAt txtTab1 (IntKind.wrap .u8 x10)))) rfl rfl rfl (r_indexStr Try.underlying9 rfl rfl e14 e15) ?_
        refine s_pu (d := some 23) (v := (.int .i64 (w64 (strAt txtTab1 (IntKind.wrap .u8 x10))))) rfl rfl rfl (r_conv Try.underlying5 Try.underlying3 rfl) ?_
        refine s_pu (d := some 24) (v := (.int .i64 (w64 (n11 + (w64 (strAt txtTab1 (IntKind.wrap .u8 x10))))))) rfl rfl rfl (r_add rfl rfl) ?_
        obtain ⟨x16, e17⟩ : ∃ x : Int, x = (w64 (n11 + (w64 (strAt txtTab1 (IntKind.wrap .u8 x10))))) := ⟨_, rfl⟩
        have H := H x16 e17
        refine s_pu (d := some 2) (v := (.int .i64 x16)) rfl rfl rfl (r_assign (congrArg (Value.int .i64) e17.symm)) ?_
        refine s_fin ?_
        show W _ _ _ _ _ _ _ _
        refine W_ret ?_
        exact ⟨[(.int .i64 x16)], ⟨_, _, rfl, rfl, rfl⟩, x16, rfl, H⟩)
      clear eN13
      refine W_if (decide (256 ≤ x6)) rfl (fun g18 => ?_) (fun g18 => ?_)
      · have H := H.1 g18
        refine W_seq ?_
        refine W_region (.pu 0 (.pu 1 (.pu 2 .fin))) rfl rfl ?_
        refine s_pu (d := some 15) (v := (.int .u64 x6)) rfl rfl rfl (r_move rfl) ?_
        refine s_pu (d := some 16) (v := (.int .u64 (sShr .u64 x6 8))) rfl rfl rfl (r_shr rfl rfl (by decide)) ?_
        refine s_pu (d := some 0) (v := (.int .u64 (sShr .u64 x6 8))) rfl rfl rfl (r_assign rfl) ?_
        refine s_fin ?_
        show W _ _ _ _ _ _ _ _
        refine W_region (.pu 0 (.pu 1 (.pu 2 .fin))) rfl rfl ?_
        refine s_pu (d := some 17) (v := (.int .i64 n7)) rfl rfl rfl (r_move rfl) ?_
        refine s_pu (d := some 18) (v := (.int .i64 (w64 (n7 + 8)))) rfl rfl rfl (r_add rfl rfl) ?_
        refine s_pu (d := some 2) (v := (.int .i64 (w64 (n7 + 8)))) rfl rfl rfl (r_assign rfl) ?_
        refine s_fin ?_
        exact N_mk (l := [(0, (.int .u64 (sShr .u64 x6 8))), (2, (.int .i64 (w64 (n7 + 8))))]) H ⟨rfl, rfl, trivial⟩
      · have H := H.2 g18
        refine W_skip ?_
        exact N_mk (l := [(0, (.int .u64 x6)), (2, (.int .i64 n7))]) H ⟨rfl, rfl, trivial⟩)
    clear eN9
    refine W_if (decide (65536 ≤ x2)) rfl (fun g19 => ?_) (fun g19 => ?_)
    · have H := H.1 g19
      refine W_seq ?_
      refine W_region (.pu 0 (.pu 1 (.pu 2 .fin))) rfl rfl ?_
      refine s_pu (d := some 9) (v := (.int .u64 x2)) rfl rfl rfl (r_move rfl) ?_
      refine s_pu (d := some 10) (v := (.int .u64 (sShr .u64 x2 16))) rfl rfl rfl (r_shr rfl rfl (by decide)) ?_
      refine s_pu (d := some 0) (v := (.int .u64 (sShr .u64 x2 16))) rfl rfl rfl (r_assign rfl) ?_
      refine s_fin ?_
      show W _ _ _ _ _ _ _ _
      refine W_region (.pu 0 (.pu 1 (.pu 2 .fin))) rfl rfl ?_
      refine s_pu (d := some 11) (v := (.int .i64 n3)) rfl rfl rfl (r_move rfl) ?_
      refine s_pu (d := some 12) (v := (.int .i64 (w64 (n3 + 16)))) rfl rfl rfl (r_add rfl rfl) ?_
      refine s_pu (d := some 2) (v := (.int .i64 (w64 (n3 + 16)))) rfl rfl rfl (r_assign rfl) ?_
      refine s_fin ?_
      exact N_mk (l := [(0, (.int .u64 (sShr .u64 x2 16))), (2, (.int .i64 (w64 (n3 + 16))))]) H ⟨rfl, rfl, trivial⟩
    · have H := H.2 g19
      refine W_skip ?_
      exact N_mk (l := [(0, (.int .u64 x2)), (2, (.int .i64 n3))]) H ⟨rfl, rfl, trivial⟩)
  clear eN5
  refine W_if (decide (4294967296 ≤ x1)) rfl (fun g20 => ?_) (fun g20 => ?_)
  · have H := H.1 g20
    refine W_seq ?_
    refine W_region (.pu 0 (.pu 1 (.pu 2 .fin))) rfl rfl ?_
    refine s_pu (d := some 5) (v := (.int .u64 x1)) rfl rfl rfl (r_move rfl) ?_
    refine s_pu (d := some 6) (v := (.int .u64 (sShr .u64 x1 32))) rfl rfl rfl (r_shr rfl rfl (by decide)) ?_
    refine s_pu (d := some 0) (v := (.int .u64 (sShr .u64 x1 32))) rfl rfl rfl (r_assign rfl) ?_
    refine s_fin ?_
    show W _ _ _ _ _ _ _ _
    refine W_region (.pu 0 .fin) rfl rfl ?_
    refine s_pu (d := some 2) (v := (.int .i64 32)) rfl rfl rfl (r_assign rfl) ?_
    refine s_fin ?_
    exact N_mk (l := [(0, (.int .u64 (sShr .u64 x1 32))), (2, (.int .i64 32))]) H ⟨rfl, rfl, trivial⟩
  · have H := H.2 g20
    refine W_skip ?_
    exact N_mk (l := [(0, (.int .u64 x1)), (2, (.int .i64 0))]) H ⟨rfl, rfl, trivial⟩

/-! ### math_bits_Len32 -/

def math_bits_Len32_F (r : World) (x1 : Int) (h : Heap) (R : Int → Heap → Prop) : Prop :=
  ∀ J4 : Int → Int → Prop, (∀ (x2 : Int) (n3 : Int),
    (∀ J8 : Int → Int → Prop, (∀ (x6 : Int) (n7 : Int),
      (0 ≤ (IntKind.wrap .u8 x6) ∧ (IntKind.wrap .u8 x6) < (ByteArray.size txtTab1 : Int) ∧
      ∀ x12 : Int, x12 = (w64 (n7 + (w64 (strAt txtTab1 (IntKind.wrap .u8 x6))))) →
      R x12 h) →
      J8 x6 n7) →
    Br (decide (256 ≤ x2)) (
      J8 (sShr .u32 x2 8) (w64 (n3 + 8))) (
      J8 x2 n3)) →
    J4 x2 n3) →
  Br (decide (65536 ≤ x1)) (
    J4 (sShr .u32 x1 16) 16) (
    J4 x1 0)

set_option maxRecDepth 100000 in
theorem math_bits_Len32_of {r : World} {x1 : Int} {h : Heap} {R : Int → Heap → Prop} (H : math_bits_Len32_F r x1 h R) : math_bits_Len32 r x1 h R := by
  unfold math_bits_Len32_F at H
  refine calls_of 19 [.tmp 2] Try.func66 rfl rfl rfl rfl rfl ?_
  refine W_seq ?_
  refine W_region (.pu 0 .fin) rfl rfl ?_
  refine s_pu (d := some 2) (v := (.int .i64 0)) rfl rfl rfl (r_assign rfl) ?_
  refine s_fin ?_
  show W _ _ _ _ _ _ _ _
  refine W_seq ?_
  refine W_seq ?_
  refine W_region (.pu 0 (.pu 1 .fin)) rfl rfl ?_
  refine s_pu (d := some 3) (v := (.int .u32 x1)) rfl rfl rfl (r_move rfl) ?_
  refine s_pu (d := some 4) (v := (.bool (decide (65536 ≤ x1)))) rfl rfl rfl (r_geq rfl rfl) ?_
  refine s_fin ?_
  show W _ _ _ _ _ _ _ _
  refine W_set ?_
  intro N5 eN5
  have H := H (fun (x2 : Int) (n3 : Int) => ∀ b, N5 [] (mkE [(0, (.int .u32 x2)), (2, (.int .i64 n3))] b) h) (by
    intro x2 n3 H b
    rw [eN5]
    show W _ _ _ _ _ _ _ _
    refine W_seq ?_
    refine W_seq ?_
    refine W_region (.pu 0 (.pu 1 .fin)) rfl rfl ?_
    refine s_pu (d := some 7) (v := (.int .u32 x2)) rfl rfl rfl (r_move rfl) ?_
    refine s_pu (d := some 8) (v := (.bool (decide (256 ≤ x2)))) rfl rfl rfl (r_geq rfl rfl) ?_
    refine s_fin ?_
    show W _ _ _ _ _ _ _ _
    refine W_set ?_
    intro N9 eN9
    have H := H (fun (x6 : Int) (n7 : Int) => ∀ b, N9 [] (mkE [(0, (.int .u32 x6)), (2, (.int .i64 n7))] b) h) (by
      intro x6 n7 H b
      rw [eN9]
      show W _ _ _ _ _ _ _ _
      refine W_seq ?_
      refine W_region (.pu 0 (.pu 1 (.pu 2 (.pu 3 (.pu 4 (.pu 5 (.pu 6 .fin))))))) rfl rfl ?_
      refine s_pu (d := some 13) (v := (.int .i64 n7)) rfl rfl rfl (r_move rfl) ?_
      refine s_pu (d := some 14) (v := (.int .u32 x6)) rfl rfl rfl (r_move rfl) ?_
      refine s_pu (d := some 15) (v := (.int .u8 (IntKind.wrap .u8 x6))) rfl rfl rfl (r_conv Try.underlying101 Try.underlying5 rfl) ?_
      obtain ⟨e10, e11, H⟩ := H
      refine s_pu (d := some 16) (v := (.int .u8 (strAt txtTab1 (IntKind.wrap .u8 x6)))) rfl rfl rfl (r_indexStr Try.underlying9 rfl rfl e10 e11) ?_
      refine s_pu (d := some 17) (v := (.int .i64 (w64 (strAt txtTab1 (IntKind.wrap .u8 x6))))) rfl rfl rfl (r_conv Try.underlying5 Try.underlying3 rfl) ?_
      refine s_pu (d := some 18) (v := (.int .i64 (w64 (n7 + (w64 (strAt txtTab1 (IntKind.wrap .u8 x6))))))) rfl rfl rfl (r_add rfl rfl) ?_
      obtain ⟨x12, e13⟩ : ∃ x : Int, x = (w64 (n7 + (w64 (strAt txtTab1 (IntKind.wrap .u8 x6))))) := ⟨_, rfl⟩
      have H := H x12 e13
      refine s_pu (d := some 2) (v := (.int .i64 x12)) rfl rfl rfl (r_assign (congrArg (Value.int .i64) e13.symm)) ?_
      refine s_fin ?_
      show W _ _ _ _ _ _ _ _
      refine W_ret ?_
      exact ⟨[(.int .i64 x12)], ⟨_, _, rfl, rfl, rfl⟩, x12, rfl, H⟩)
    clear eN9
    refine W_if (decide (256 ≤ x2)) rfl (fun g14 => ?_) (fun g14 => ?_)
    · have H := H.1 g14
      refine W_seq ?_
      refine W_region (.pu 0 (.pu 1 (.pu 2 .fin))) rfl rfl ?_
      refine s_pu (d := some 9) (v := (.int .u32 x2)) rfl rfl rfl (r_move rfl) ?_
      refine s_pu (d := some 10) (v := (.int .u32 (sShr .u32 x2 8))) rfl rfl rfl (r_shr rfl rfl (by decide)) ?_
      refine s_pu (d := some 0) (v := (.int .u32 (sShr .u32 x2 8))) rfl rfl rfl (r_assign rfl) ?_
      refine s_fin ?_
      show W _ _ _ _ _ _ _ _
      refine W_region (.pu 0 (.pu 1 (.pu 2 .fin))) rfl rfl ?_
      refine s_pu (d := some 11) (v := (.int .i64 n3)) rfl rfl rfl (r_move rfl) ?_
      refine s_pu (d := some 12) (v := (.int .i64 (w64 (n3 + 8)))) rfl rfl rfl (r_add rfl rfl) ?_
      refine s_pu (d := some 2) (v := (.int .i64 (w64 (n3 + 8)))) rfl rfl rfl (r_assign rfl) ?_
      refine s_fin ?_
      exact N_mk (l := [(0, (.int .u32 (sShr .u32 x2 8))), (2, (.int .i64 (w64 (n3 + 8))))]) H ⟨rfl, rfl, trivial⟩
    · have H := H.2 g14
      refine W_skip ?_
      exact N_mk (l := [(0, (.int .u32 x2)), (2, (.int .i64 n3))]) H ⟨rfl, rfl, trivial⟩)
  clear eN5
  refine W_if (decide (65536 ≤ x1)) rfl (fun g15 => ?_) (fun g15 => ?_)
  · have H := H.1 g15
    refine W_seq ?_
    refine W_region (.pu 0 (.pu 1 (.pu 2 .fin))) rfl rfl ?_
    refine s_pu (d := some 5) (v := (.int .u32 x1)) rfl rfl rfl (r_move rfl) ?_
    refine s_pu (d := some 6) (v := (.int .u32 (sShr .u32 x1 16))) rfl rfl rfl (r_shr rfl rfl (by decide)) ?_
    refine s_pu (d := some 0) (v := (.int .u32 (sShr .u32 x1 16))) rfl rfl rfl (r_assign rfl) ?_
    refine s_fin ?_
    show W _ _ _ _ _ _ _ _
    refine W_region (.pu 0 .fin) rfl rfl ?_
    refine s_pu (d := some 2) (v := (.int .i64 16)) rfl rfl rfl (r_assign rfl) ?_
    refine s_fin ?_
    exact N_mk (l := [(0, (.int .u32 (sShr .u32 x1 16))), (2, (.int .i64 16))]) H ⟨rfl, rfl, trivial⟩
  · have H := H.2 g15
    refine W_skip ?_
    exact N_mk (l := [(0, (.int .u32 x1)), (2, (.int .i64 0))]) H ⟨rfl, rfl, trivial⟩

/-! ### math_bits_Len -/

def math_bits_Len_F (r : World) (x1 : Int) (h : Heap) (R : Int → Heap → Prop) : Prop :=
  math_bits_Len64 r x1 h fun y2 h1 =>
  R y2 h1

set_option maxRecDepth 100000 in
theorem math_bits_Len_of {r : World} {x1 : Int} {h : Heap} {R : Int → Heap → Prop} (H : math_bits_Len_F r x1 h R) : math_bits_Len r x1 h R := by
  unfold math_bits_Len_F at H
  refine calls_of 8 [.tmp 2] Try.func57 rfl rfl rfl rfl rfl ?_
  refine W_seq ?_
  refine W_region (.pu 0 .fin) rfl rfl ?_
  refine s_pu (d := some 2) (v := (.int .i64 0)) rfl rfl rfl (r_assign rfl) ?_
  refine s_fin ?_
  show W _ _ _ _ _ _ _ _
  refine W_seq ?_
  refine W_if false rfl (fun hg => by cases hg) (fun _ => ?_)
  refine W_skip ?_
  show W _ _ _ _ _ _ _ _
  refine W_seq ?_
  refine W_region (.pu 0 (.ef 1 [] (.pu 2 .fin) .no)) rfl rfl ?_
  refine s_pu (d := some 6) (v := (.int .u64 x1)) rfl rfl rfl (r_move rfl) ?_
  refine s_ef (d := some 7) rfl rfl rfl (fun dr => r_call Try.call67 rfl rfl H) ?_ trivial
  rintro _ h1 ⟨y2, rfl, H⟩
  refine ⟨trivial, ?_⟩
  refine s_pu (d := some 2) (v := (.int .i64 y2)) rfl rfl rfl (r_assign rfl) ?_
  refine s_fin ?_
  show W _ _ _ _ _ _ _ _
  refine W_ret ?_
  exact ⟨[(.int .i64 y2)], ⟨_, _, rfl, rfl, rfl⟩, y2, rfl, H⟩

/-! ### slices_Clone_int_int -/

def slices_Clone_int_int_F (r : World) (s1 : Sl) (h : Heap) (R : Sl → Heap → Prop) : Prop :=
  Br (Option.isNone s1.a) (
    R Sl.nil h) (
    New h (.cells #[] 3) fun p2 h1 =>
    App 3 1 8 (.int .i64 0) ((⟨some p2, 0, 0⟩ : Sl)) s1 h1 fun s5 h2 =>
    R s5 h2)

set_option maxRecDepth 100000 in
theorem slices_Clone_int_int_of {r : World} {s1 : Sl} {h : Heap} {R : Sl → Heap → Prop} (H : slices_Clone_int_int_F r s1 h R) : slices_Clone_int_int r s1 h R := by
  unfold slices_Clone_int_int_F at H
  refine calls_of 8 [.tmp 2] Try.func39 rfl rfl rfl rfl rfl ?_
  refine W_seq ?_
  refine W_region (.pu 0 .fin) rfl rfl ?_
  refine s_pu (d := some 2) (v := (Sl.v Sl.nil)) rfl rfl rfl (r_assign rfl) ?_
  refine s_fin ?_
  show W _ _ _ _ _ _ _ _
  refine W_seq ?_
  refine W_seq ?_
  refine W_region (.pu 0 (.pu 1 .fin)) rfl rfl ?_
  refine s_pu (d := some 3) (v := (Sl.v s1)) rfl rfl rfl (r_move rfl) ?_
  refine s_pu (d := some 4) (v := (.bool (Option.isNone s1.a))) rfl rfl rfl (r_nilS Try.underlying22 rfl rfl) ?_
  refine s_fin ?_
  show W _ _ _ _ _ _ _ _
  refine W_if (Option.isNone s1.a) rfl (fun g6 => ?_) (fun g6 => ?_)
  · have H := H.1 g6
    refine W_seq ?_
    refine W_region (.pu 0 .fin) rfl rfl ?_
    refine s_pu (d := some 2) (v := (Sl.v Sl.nil)) rfl rfl rfl (r_assign rfl) ?_
    refine s_fin ?_
    show W _ _ _ _ _ _ _ _
    refine W_ret ?_
    exact ⟨[(Sl.v Sl.nil)], ⟨_, _, rfl, rfl, rfl⟩, Sl.nil, rfl, H⟩
  · have H := H.2 g6
    refine W_skip ?_
    show W _ _ _ _ _ _ _ _
    refine W_seq ?_
    refine W_region (.ef 0 [] (.pu 1 (.ef 2 [] (.pu 3 .fin) .no)) .no) rfl rfl ?_
    obtain ⟨p2, e3⟩ : ∃ p : Addr, p = ⟨h.size, 0, none⟩ := ⟨_, rfl⟩
    obtain ⟨h1, e4⟩ : ∃ hh : Heap, hh = h.push (.cells #[] 3) := ⟨_, rfl⟩
    have H := H p2 h1 e3 e4
    refine s_ef1 (d := some 5) (v := (Sl.v ((⟨some p2, 0, 0⟩ : Sl)))) (h' := h1) rfl rfl rfl (fun dr => (slFTab_22.build0).trans (by rw [e3, e4]; rfl)) trivial ?_ trivial
    refine s_pu (d := some 6) (v := (Sl.v s1)) rfl rfl rfl (r_move rfl) ?_
    refine s_ef (d := some 7) rfl rfl rfl (fun dr => slFTab_22.append rfl rfl H) ?_ trivial
    rintro _ h2 ⟨s5, rfl, H⟩
    refine ⟨trivial, ?_⟩
    refine s_pu (d := some 2) (v := (Sl.v s5)) rfl rfl rfl (r_assign rfl) ?_
    refine s_fin ?_
    show W _ _ _ _ _ _ _ _
    refine W_ret ?_
    exact ⟨[(Sl.v s5)], ⟨_, _, rfl, rfl, rfl⟩, s5, rfl, H⟩

/-! ### table_New -/

def table_New_F (r : World) (l1 : Sl) (h : Heap) (R : Option Addr → Value → Heap → Prop) : Prop :=
  Br (decide (5000 < ((l1.len : Int)))) (
    R none ((.iface 58 (.int .i64 4))) h) (
    slices_Clone_int_int r l1 h fun y2 h1 =>
    New h1 (.cells #[(Sl.v y2), (Sl.v Sl.nil), (Sl.v Sl.nil)] 62) fun p3 h2 =>
    ∀ X8 : Sl → Int → Heap → Prop, (∀ (row6 : Sl) (x7 : Int) (h3 : Heap),
      (Br (decide (x7 < ((l1.len : Int)))) (
        New h3 (.cells #[(.int .i64 x7)] 3) fun p9 h4 =>
        App 3 1 8 (.int .i64 0) row6 ((⟨some p9, 1, 1⟩ : Sl)) h4 fun s12 h5 =>
        X8 s12 (w64 (x7 + 1)) h5) (
        ∀ X16 : Sl → Sl → Int → Heap → Prop, (∀ (low13 : Sl) (high14 : Sl) (n15 : Int) (h6 : Heap),
          (Br (decide (n15 ≤ ((l1.len : Int)))) (
            ∀ J17 : Heap → Prop, (∀ (h7 : Heap),
              (table_Table_next r (some p3) low13 n15 ((.func (.func 41) #[(.pointer (some p3))] #[])) h7 fun y19 h8 =>
              table_Table_next r (some p3) high14 n15 ((.func (.func 42) #[(.pointer (some p3))] #[])) h8 fun y20 h9 =>
              X16 y19 y20 (w64 (n15 * 2)) h9) →
              J17 h7) →
            LdS h6 (Addr.add p3 1) fun x21 =>
            LdS h6 (Addr.add p3 2) fun x23 =>
            (New h6 (.cells #[(Sl.v low13)] 22) fun p25 h10 =>
            (hcell h10 (Addr.add p3 2) = some (Sl.v x23)) ∧
            (hcell h10 (Addr.add p3 1) = some (Sl.v x21)) ∧
            (App 22 1 24 (Sl.v Sl.nil) x21 ((⟨some p25, 1, 1⟩ : Sl)) h10 fun s30 h11 =>
            (hcell h11 (Addr.add p3 2) = some (Sl.v x23)) ∧
            New h11 (.cells #[(Sl.v high14)] 22) fun p32 h12 =>
            (hcell h12 (Addr.add p3 2) = some (Sl.v x23)) ∧
            (hcell h12 (Addr.add p3 1) = some (Sl.v x21)) ∧
            App 22 1 24 (Sl.v Sl.nil) x23 ((⟨some p32, 1, 1⟩ : Sl)) h12 fun s37 h13 =>
            St h13 (Addr.add p3 1) 1 [(Sl.v s30)] fun h14 =>
            St h14 (Addr.add p3 2) 1 [(Sl.v s37)] fun h15 =>
            J17 h15) ∧
            (New h10 (.cells #[(Sl.v high14)] 22) fun p42 h16 =>
            (hcell h16 (Addr.add p3 2) = some (Sl.v x23)) ∧
            (hcell h16 (Addr.add p3 1) = some (Sl.v x21)) ∧
            App 22 1 24 (Sl.v Sl.nil) x21 ((⟨some p25, 1, 1⟩ : Sl)) h16 fun s47 h17 =>
            (hcell h17 (Addr.add p3 2) = some (Sl.v x23)) ∧
            App 22 1 24 (Sl.v Sl.nil) x23 ((⟨some p42, 1, 1⟩ : Sl)) h17 fun s49 h18 =>
            St h18 (Addr.add p3 1) 1 [(Sl.v s47)] fun h19 =>
            St h19 (Addr.add p3 2) 1 [(Sl.v s49)] fun h20 =>
            J17 h20)) ∧
            (New h6 (.cells #[(Sl.v high14)] 22) fun p54 h21 =>
            (hcell h21 (Addr.add p3 2) = some (Sl.v x23)) ∧
            (hcell h21 (Addr.add p3 1) = some (Sl.v x21)) ∧
            New h21 (.cells #[(Sl.v low13)] 22) fun p59 h22 =>
            (hcell h22 (Addr.add p3 2) = some (Sl.v x23)) ∧
            (hcell h22 (Addr.add p3 1) = some (Sl.v x21)) ∧
            App 22 1 24 (Sl.v Sl.nil) x21 ((⟨some p59, 1, 1⟩ : Sl)) h22 fun s64 h23 =>
            (hcell h23 (Addr.add p3 2) = some (Sl.v x23)) ∧
            App 22 1 24 (Sl.v Sl.nil) x23 ((⟨some p54, 1, 1⟩ : Sl)) h23 fun s66 h24 =>
            St h24 (Addr.add p3 1) 1 [(Sl.v s64)] fun h25 =>
            St h25 (Addr.add p3 2) 1 [(Sl.v s66)] fun h26 =>
            J17 h26)) (
            R (some p3) .nilIface h6)) →
          X16 low13 high14 n15 h6) →
        X16 row6 row6 1 h3)) →
      X8 row6 x7 h3) →
    X8 Sl.nil 0 h2)

set_option maxRecDepth 100000 in
theorem table_New_of {r : World} {l1 : Sl} {h : Heap} {R : Option Addr → Value → Heap → Prop} (H : table_New_F r l1 h R) : table_New r l1 h R := by
  unfold table_New_F at H
  refine calls_of 69 [.tmp 2, .tmp 3] Try.func10 rfl rfl rfl rfl rfl ?_
  refine W_seq ?_
  refine W_region (.pu 0 (.pu 1 .fin)) rfl rfl ?_
  refine s_pu (d := some 2) (v := (.pointer none)) rfl rfl rfl (r_assign rfl) ?_
  refine s_pu (d := some 3) (v := .nilIface) rfl rfl rfl (r_assign rfl) ?_
  refine s_fin ?_
  show W _ _ _ _ _ _ _ _
  refine W_seq ?_
  refine W_seq ?_
  refine W_region (.pu 0 (.pu 1 (.pu 2 .fin))) rfl rfl ?_
  refine s_pu (d := some 10) (v := (Sl.v l1)) rfl rfl rfl (r_move rfl) ?_
  refine s_pu (d := some 11) (v := (.int .i64 ((l1.len : Int)))) rfl rfl rfl (r_len Try.underlying22 rfl) ?_
  refine s_pu (d := some 12) (v := (.bool (decide (5000 < ((l1.len : Int)))))) rfl rfl rfl (r_gtr rfl rfl) ?_
  refine s_fin ?_
  show W _ _ _ _ _ _ _ _
  refine W_if (decide (5000 < ((l1.len : Int)))) rfl (fun g73 => ?_) (fun g73 => ?_)
  · have H := H.1 g73
    refine W_seq ?_
    refine W_region (.pu 0 (.pu 1 (.pu 2 .fin))) rfl rfl ?_
    refine s_pu (d := some 13) (v := ((.iface 58 (.int .i64 4)))) rfl rfl rfl (r_iface Try.underlying58 rfl rfl) ?_
    refine s_pu (d := some 2) (v := (.pointer none)) rfl rfl rfl (r_assign rfl) ?_
    refine s_pu (d := some 3) (v := ((.iface 58 (.int .i64 4)))) rfl rfl rfl (r_assign rfl) ?_
    refine s_fin ?_
    show W _ _ _ _ _ _ _ _
    refine W_ret ?_
    exact ⟨[(.pointer none), ((.iface 58 (.int .i64 4)))], ⟨_, _, rfl, rfl, ⟨_, _, rfl, rfl, rfl⟩⟩, none, ((.iface 58 (.int .i64 4))), rfl, H⟩
  · have H := H.2 g73
    refine W_skip ?_
    show W _ _ _ _ _ _ _ _
    refine W_seq ?_
    refine W_region (.pu 0 (.ef 1 [] (.pu 2 (.ef 3 [] (.pu 4 .fin) .no)) .no)) rfl rfl ?_
    refine s_pu (d := some 14) (v := (Sl.v l1)) rfl rfl rfl (r_move rfl) ?_
    refine s_ef (d := some 15) rfl rfl rfl (fun dr => r_call Try.call39 rfl rfl H) ?_ trivial
    rintro _ h1 ⟨y2, rfl, H⟩
    refine ⟨trivial, ?_⟩
    refine s_pu (d := some 16) (v := (.agg #[(Sl.v y2), (Sl.v Sl.nil), (Sl.v Sl.nil)])) rfl rfl rfl (fun w => by kernel_rfl) ?_
    obtain ⟨p3, e4⟩ : ∃ p : Addr, p = ⟨h1.size, 0, none⟩ := ⟨_, rfl⟩
    obtain ⟨h2, e5⟩ : ∃ hh : Heap, hh = h1.push (.cells #[(Sl.v y2), (Sl.v Sl.nil), (Sl.v Sl.nil)] 62) := ⟨_, rfl⟩
    have H := H p3 h2 e4 e5
    refine s_ef1 (d := some 17) (v := (.pointer (some p3))) (h' := h2) rfl rfl rfl (fun dr => (r_box (v := (.agg #[(Sl.v y2), (Sl.v Sl.nil), (Sl.v Sl.nil)])) rfl).trans (by rw [e4, e5]; rfl)) trivial ?_ trivial
    refine s_pu (d := some 4) (v := (.pointer (some p3))) rfl rfl rfl (r_assign rfl) ?_
    refine s_fin ?_
    show W _ _ _ _ _ _ _ _
    refine W_seq ?_
    refine W_region (.pu 0 .fin) rfl rfl ?_
    refine s_pu (d := some 5) (v := (Sl.v Sl.nil)) rfl rfl rfl (r_assign rfl) ?_
    refine s_fin ?_
    show W _ _ _ _ _ _ _ _
    refine W_seq ?_
    refine W_seq ?_
    refine W_region (.pu 0 (.pu 1 (.pu 2 .fin))) rfl rfl ?_
    refine s_pu (d := some 18) (v := (Sl.v l1)) rfl rfl rfl (r_move rfl) ?_
    refine s_pu (d := some 19) (v := (.int .i64 ((l1.len : Int)))) rfl rfl rfl (r_len Try.underlying22 rfl) ?_
    refine s_pu (d := some 20) (v := (.int .i64 0)) rfl rfl rfl (r_move rfl) ?_
    refine s_fin ?_
    show W _ _ _ _ _ _ _ _
    refine W_block ?_
    refine W_loop (WL_mk (l := [(0, (Sl.v l1)), (4, (.pointer (some p3))), (5, (Sl.v Sl.nil)), (19, (.int .i64 ((l1.len : Int)))), (20, (.int .i64 0))]) ?_ ⟨rfl, rfl, rfl, rfl, rfl, trivial⟩)
    refine H (fun (row6 : Sl) (x7 : Int) (h3 : Heap) => ∀ b, WL _ _ _ _ _ _ (mkE [(0, (Sl.v l1)), (4, (.pointer (some p3))), (5, (Sl.v row6)), (19, (.int .i64 ((l1.len : Int)))), (20, (.int .i64 x7))] b) h3) ?_
    intro row6 x7 h3 H b
    refine WL_round ?_
    refine W_seq ?_
    refine W_region (.pu 0 .fin) rfl rfl ?_
    refine s_pu (d := some 21) (v := (.bool (decide (x7 < ((l1.len : Int)))))) rfl rfl rfl (r_lss rfl rfl) ?_
    refine s_fin ?_
    show W _ _ _ _ _ _ _ _
    refine W_seq ?_
    refine W_if (decide (x7 < ((l1.len : Int)))) rfl (fun g72 => ?_) (fun g72 => ?_)
    · have H := H.1 g72
      refine W_skip ?_
      show W _ _ _ _ _ _ _ _
      refine W_seq ?_
      refine W_block ?_
      refine W_seq ?_
      refine W_region (.pu 0 (.pu 1 .fin)) rfl rfl ?_
      refine s_pu (d := some 22) (v := (.int .i64 x7)) rfl rfl rfl (r_move rfl) ?_
      refine s_pu (d := some 6) (v := (.int .i64 x7)) rfl rfl rfl (r_assign rfl) ?_
      refine s_fin ?_
      show W _ _ _ _ _ _ _ _
      refine W_region (.pu 0 (.pu 1 (.ef 2 [] (.ef 3 [] (.pu 4 .fin) .no) .no))) rfl rfl ?_
      refine s_pu (d := some 23) (v := (Sl.v row6)) rfl rfl rfl (r_move rfl) ?_
      refine s_pu (d := some 24) (v := (.int .i64 x7)) rfl rfl rfl (r_move rfl) ?_
      obtain ⟨p9, e10⟩ : ∃ p : Addr, p = ⟨h3.size, 0, none⟩ := ⟨_, rfl⟩
      obtain ⟨h4, e11⟩ : ∃ hh : Heap, hh = h3.push (.cells #[(.int .i64 x7)] 3) := ⟨_, rfl⟩
      have H := H p9 h4 e10 e11
      refine s_ef1 (d := some 25) (v := (Sl.v ((⟨some p9, 1, 1⟩ : Sl)))) (h' := h4) rfl rfl rfl (fun dr => (slFTab_22.build (cells := #[(.int .i64 x7)]) (by decide) rfl (by kernel_rfl)).trans (by rw [e10, e11]; rfl)) trivial ?_ trivial
      refine s_ef (d := some 26) rfl rfl rfl (fun dr => slFTab_22.append rfl rfl H) ?_ trivial
      rintro _ h5 ⟨s12, rfl, H⟩
      refine ⟨trivial, ?_⟩
      refine s_pu (d := some 5) (v := (Sl.v s12)) rfl rfl rfl (r_assign rfl) ?_
      refine s_fin ?_
      show W _ _ _ _ _ _ _ _
      refine W_region (.pu 0 (.pu 1 .fin)) rfl rfl ?_
      refine s_pu (d := some 27) (v := (.int .i64 (w64 (x7 + 1)))) rfl rfl rfl (r_add rfl rfl) ?_
      refine s_pu (d := some 20) (v := (.int .i64 (w64 (x7 + 1)))) rfl rfl rfl (r_move rfl) ?_
      refine s_fin ?_
      exact WL_mk (l := [(0, (Sl.v l1)), (4, (.pointer (some p3))), (5, (Sl.v s12)), (19, (.int .i64 ((l1.len : Int)))), (20, (.int .i64 (w64 (x7 + 1))))]) H ⟨rfl, rfl, rfl, rfl, rfl, trivial⟩
    · have H := H.2 g72
      refine W_exit (inX_here ?_)
      show W _ _ _ _ _ _ _ _
      refine W_seq ?_
      refine W_region (.pu 0 (.pu 1 (.pu 2 (.pu 3 .fin)))) rfl rfl ?_
      refine s_pu (d := some 28) (v := (Sl.v row6)) rfl rfl rfl (r_move rfl) ?_
      refine s_pu (d := some 29) (v := (Sl.v row6)) rfl rfl rfl (r_move rfl) ?_
      refine s_pu (d := some 7) (v := (Sl.v row6)) rfl rfl rfl (r_assign rfl) ?_
      refine s_pu (d := some 8) (v := (Sl.v row6)) rfl rfl rfl (r_assign rfl) ?_
      refine s_fin ?_
      show W _ _ _ _ _ _ _ _
      refine W_seq ?_
      refine W_seq ?_
      refine W_region (.pu 0 .fin) rfl rfl ?_
      refine s_pu (d := some 9) (v := (.int .i64 1)) rfl rfl rfl (r_assign rfl) ?_
      refine s_fin ?_
      show W _ _ _ _ _ _ _ _
      refine W_block ?_
      refine W_loop (WL_mk (l := [(0, (Sl.v l1)), (4, (.pointer (some p3))), (7, (Sl.v row6)), (8, (Sl.v row6)), (9, (.int .i64 1))]) ?_ ⟨rfl, rfl, rfl, rfl, rfl, trivial⟩)
      refine H (fun (low13 : Sl) (high14 : Sl) (n15 : Int) (h6 : Heap) => ∀ b, WL _ _ _ _ _ _ (mkE [(0, (Sl.v l1)), (4, (.pointer (some p3))), (7, (Sl.v low13)), (8, (Sl.v high14)), (9, (.int .i64 n15))] b) h6) ?_
      intro low13 high14 n15 h6 H b
      refine WL_round ?_
      refine W_seq ?_
      refine W_seq ?_
      refine W_region (.pu 0 (.pu 1 (.pu 2 (.pu 3 .fin)))) rfl rfl ?_
      refine s_pu (d := some 30) (v := (.int .i64 n15)) rfl rfl rfl (r_move rfl) ?_
      refine s_pu (d := some 31) (v := (Sl.v l1)) rfl rfl rfl (r_move rfl) ?_
      refine s_pu (d := some 32) (v := (.int .i64 ((l1.len : Int)))) rfl rfl rfl (r_len Try.underlying22 rfl) ?_
      refine s_pu (d := some 33) (v := (.bool (decide (n15 ≤ ((l1.len : Int)))))) rfl rfl rfl (r_leq rfl rfl) ?_
      refine s_fin ?_
      show W _ _ _ _ _ _ _ _
      refine W_if (decide (n15 ≤ ((l1.len : Int)))) rfl (fun g71 => ?_) (fun g71 => ?_)
      · have H := H.1 g71
        refine W_skip ?_
        show W _ _ _ _ _ _ _ _
        refine W_seq ?_
        refine W_block ?_
        refine W_seq ?_
        refine W_set ?_
        intro N18 eN18
        have H := H (fun (h7 : Heap) => ∀ b, N18 [] (mkE [(0, (Sl.v l1)), (4, (.pointer (some p3))), (7, (Sl.v low13)), (8, (Sl.v high14)), (9, (.int .i64 n15))] b) h7) (by
          intro h7 H b
          rw [eN18]
          show W _ _ _ _ _ _ _ _
          refine W_region (.pu 0 (.pu 1 (.pu 2 (.pu 3 (.pu 4 (.ef 5 [] (.pu 6 (.pu 7 (.pu 8 (.pu 9 (.pu 10 (.ef 11 [] (.pu 12 (.pu 13 .fin)) .no)))))) .no)))))) rfl rfl ?_
          refine s_pu (d := some 56) (v := (.pointer (some p3))) rfl rfl rfl (r_move rfl) ?_
          refine s_pu (d := some 57) (v := (Sl.v low13)) rfl rfl rfl (r_move rfl) ?_
          refine s_pu (d := some 58) (v := (.int .i64 n15)) rfl rfl rfl (r_move rfl) ?_
          refine s_pu (d := some 59) (v := (.pointer (some p3))) rfl rfl rfl (r_move rfl) ?_
          refine s_pu (d := some 60) (v := ((.func (.func 41) #[(.pointer (some p3))] #[]))) rfl rfl rfl (r_makeFunc rfl rfl) ?_
          refine s_ef (d := some 61) rfl rfl rfl (fun dr => r_call Try.call40 rfl rfl H) ?_ trivial
          rintro _ h8 ⟨y19, rfl, H⟩
          refine ⟨trivial, ?_⟩
          refine s_pu (d := some 62) (v := (.pointer (some p3))) rfl rfl rfl (r_move rfl) ?_
          refine s_pu (d := some 63) (v := (Sl.v high14)) rfl rfl rfl (r_move rfl) ?_
          refine s_pu (d := some 64) (v := (.int .i64 n15)) rfl rfl rfl (r_move rfl) ?_
          refine s_pu (d := some 65) (v := (.pointer (some p3))) rfl rfl rfl (r_move rfl) ?_
          refine s_pu (d := some 66) (v := ((.func (.func 42) #[(.pointer (some p3))] #[]))) rfl rfl rfl (r_makeFunc rfl rfl) ?_
          refine s_ef (d := some 67) rfl rfl rfl (fun dr => r_call Try.call40 rfl rfl H) ?_ trivial
          rintro _ h9 ⟨y20, rfl, H⟩
          refine ⟨trivial, ?_⟩
          refine s_pu (d := some 7) (v := (Sl.v y19)) rfl rfl rfl (r_assign rfl) ?_
          refine s_pu (d := some 8) (v := (Sl.v y20)) rfl rfl rfl (r_assign rfl) ?_
          refine s_fin ?_
          show W _ _ _ _ _ _ _ _
          refine W_region (.pu 0 (.pu 1 (.pu 2 .fin))) rfl rfl ?_
          refine s_pu (d := some 34) (v := (.int .i64 n15)) rfl rfl rfl (r_move rfl) ?_
          refine s_pu (d := some 35) (v := (.int .i64 (w64 (n15 * 2)))) rfl rfl rfl (r_mul rfl rfl) ?_
          refine s_pu (d := some 9) (v := (.int .i64 (w64 (n15 * 2)))) rfl rfl rfl (r_assign rfl) ?_
          refine s_fin ?_
          exact WL_mk (l := [(0, (Sl.v l1)), (4, (.pointer (some p3))), (7, (Sl.v y19)), (8, (Sl.v y20)), (9, (.int .i64 (w64 (n15 * 2))))]) H ⟨rfl, rfl, rfl, rfl, rfl, trivial⟩)
        clear eN18
        refine W_draw [0, 0, 0, 4, 12, 28, 0, 64, 252, 0, 512, 1536, 3584, 0, 8192, 32764, 65533, 131069, 262141, 524287, 1048575, 2097151] (.pu 0 (.pu 1 (.pu 2 (.pu 3 (.pu 4 (.rd 5 (.pu 6 (.pu 9 (.pu 10 (.pu 11 (.rd 12 (.pu 13 (.ef 7 [] (.ef 8 [5] (.ef 14 [] (.ef 15 [5, 12] (.pu 16 (.pu 17 (.ef 18 [5, 12] (.pu 19 (.pu 20 (.ef 21 [5, 12] .fin .no))) .no))) .no) .no) (.ef 14 [] (.ef 8 [5] (.ef 15 [5, 12] (.pu 16 (.pu 17 (.ef 18 [5, 12] (.pu 19 (.pu 20 (.ef 21 [5, 12] .fin .no))) .no))) .no) .no) .no)) (.ef 14 [] (.ef 7 [] (.ef 8 [5] (.ef 15 [5, 12] (.pu 16 (.pu 17 (.ef 18 [5, 12] (.pu 19 (.pu 20 (.ef 21 [5, 12] .fin .no))) .no))) .no) .no) .no) .no)))))))))))))) (by kernel_rfl) (by kernel_rfl) ?_
        refine s_pu (d := some 36) (v := (.pointer (some p3))) rfl rfl rfl (r_move rfl) ?_
        refine s_pu (d := some 37) (v := (.pointer (some p3))) rfl rfl rfl (r_move rfl) ?_
        refine s_pu (d := some 38) (v := (.pointer (some p3))) rfl rfl rfl (r_move rfl) ?_
        refine s_pu (d := some 39) (v := (.pointer (some p3))) rfl rfl rfl (r_nilCheck rfl rfl) ?_
        refine s_pu (d := some 40) (v := (.pointer (some (Addr.add p3 1)))) rfl rfl rfl (r_fieldAddr Try.underlying62 Try.sizeOf60 rfl rfl rfl) ?_
        obtain ⟨x21, e22, H⟩ := H
        refine s_rd (d := some 41) (v := (Sl.v x21)) rfl rfl rfl (fun dr => r_load1 Try.isAgg60 rfl e22) ?_
        refine s_pu (d := some 42) (v := (Sl.v low13)) rfl rfl rfl (r_move rfl) ?_
        refine s_pu (d := some 45) (v := (.pointer (some p3))) rfl rfl rfl (r_move rfl) ?_
        refine s_pu (d := some 46) (v := (.pointer (some p3))) rfl rfl rfl (r_nilCheck rfl rfl) ?_
        refine s_pu (d := some 47) (v := (.pointer (some (Addr.add p3 2)))) rfl rfl rfl (r_fieldAddr Try.underlying62 Try.sizeOf60 rfl rfl rfl) ?_
        obtain ⟨x23, e24, H⟩ := H
        refine s_rd (d := some 48) (v := (Sl.v x23)) rfl rfl rfl (fun dr => r_load1 Try.isAgg60 rfl e24) ?_
        refine s_pu (d := some 49) (v := (Sl.v high14)) rfl rfl rfl (r_move rfl) ?_
        refine s_or ?_ ?_
        · have H := H.1
          obtain ⟨p25, e26⟩ : ∃ p : Addr, p = ⟨h6.size, 0, none⟩ := ⟨_, rfl⟩
          obtain ⟨h10, e27⟩ : ∃ hh : Heap, hh = h6.push (.cells #[(Sl.v low13)] 22) := ⟨_, rfl⟩
          have H := H p25 h10 e26 e27
          obtain ⟨e28, H⟩ := H
          obtain ⟨e29, H⟩ := H
          refine s_ef1 (d := some 43) (v := (Sl.v ((⟨some p25, 1, 1⟩ : Sl)))) (h' := h10) rfl rfl rfl (fun dr => (slFTab_60.build (cells := #[(Sl.v low13)]) (by decide) rfl (by kernel_rfl)).trans (by rw [e26, e27]; rfl)) ⟨(.inl ⟨rfl, fun dr => r_load1 Try.isAgg60 rfl e28⟩), (.inl ⟨rfl, fun dr => r_load1 Try.isAgg60 rfl e29⟩), trivial⟩ ?_ trivial
          refine s_or ?_ ?_
          · have H := H.1
            refine s_ef (d := some 44) rfl rfl rfl (fun dr => slFTab_60.append rfl rfl H) ?_ trivial
            rintro _ h11 ⟨s30, rfl, H⟩
            obtain ⟨e31, H⟩ := H
            refine ⟨⟨(.inl ⟨rfl, fun dr => r_load1 Try.isAgg60 rfl e31⟩), trivial, trivial⟩, ?_⟩
            obtain ⟨p32, e33⟩ : ∃ p : Addr, p = ⟨h11.size, 0, none⟩ := ⟨_, rfl⟩
            obtain ⟨h12, e34⟩ : ∃ hh : Heap, hh = h11.push (.cells #[(Sl.v high14)] 22) := ⟨_, rfl⟩
            have H := H p32 h12 e33 e34
            obtain ⟨e35, H⟩ := H
            obtain ⟨e36, H⟩ := H
            refine s_ef1 (d := some 50) (v := (Sl.v ((⟨some p32, 1, 1⟩ : Sl)))) (h' := h12) rfl rfl rfl (fun dr => (slFTab_60.build (cells := #[(Sl.v high14)]) (by decide) rfl (by kernel_rfl)).trans (by rw [e33, e34]; rfl)) ⟨(.inl ⟨rfl, fun dr => r_load1 Try.isAgg60 rfl e35⟩), (.inl ⟨rfl, fun dr => r_load1 Try.isAgg60 rfl e36⟩), trivial⟩ ?_ trivial
            refine s_ef (d := some 51) rfl rfl rfl (fun dr => slFTab_60.append rfl rfl H) ?_ trivial
            rintro _ h13 ⟨s37, rfl, H⟩
            refine ⟨⟨trivial, trivial, trivial⟩, ?_⟩
            refine s_pu (d := some 52) (v := (.pointer (some p3))) rfl rfl rfl (r_nilCheck rfl rfl) ?_
            refine s_pu (d := some 53) (v := (.pointer (some (Addr.add p3 1)))) rfl rfl rfl (r_fieldAddr Try.underlying62 Try.sizeOf60 rfl rfl rfl) ?_
            obtain ⟨e39, H⟩ := H
            obtain ⟨h14, e38⟩ : ∃ hh : Heap, hh = hsets h13 (Addr.add p3 1) 0 [(Sl.v s30)] := ⟨_, rfl⟩
            have H := H h14 e38
            refine s_st (d := none) (h' := h14) rfl rfl rfl (fun dr => (r_store (v := (Sl.v s30)) Try.sizeOf60 rfl rfl rfl (one_all rfl) e39).trans (by rw [e38]; rfl)) ⟨trivial, trivial, trivial⟩ ?_ trivial
            refine s_pu (d := some 54) (v := (.pointer (some p3))) rfl rfl rfl (r_nilCheck rfl rfl) ?_
            refine s_pu (d := some 55) (v := (.pointer (some (Addr.add p3 2)))) rfl rfl rfl (r_fieldAddr Try.underlying62 Try.sizeOf60 rfl rfl rfl) ?_
            obtain ⟨e41, H⟩ := H
            obtain ⟨h15, e40⟩ : ∃ hh : Heap, hh = hsets h14 (Addr.add p3 2) 0 [(Sl.v s37)] := ⟨_, rfl⟩
            have H := H h15 e40
            refine s_st (d := none) (h' := h15) rfl rfl rfl (fun dr => (r_store (v := (Sl.v s37)) Try.sizeOf60 rfl rfl rfl (one_all rfl) e41).trans (by rw [e40]; rfl)) ⟨trivial, trivial, trivial⟩ ?_ trivial
            refine s_fin ?_
            exact N_mk (l := [(0, (Sl.v l1)), (4, (.pointer (some p3))), (7, (Sl.v low13)), (8, (Sl.v high14)), (9, (.int .i64 n15))]) H ⟨rfl, rfl, rfl, rfl, rfl, trivial⟩
          · have H := H.2
            obtain ⟨p42, e43⟩ : ∃ p : Addr, p = ⟨h10.size, 0, none⟩ := ⟨_, rfl⟩
            obtain ⟨h16, e44⟩ : ∃ hh : Heap, hh = h10.push (.cells #[(Sl.v high14)] 22) := ⟨_, rfl⟩
            have H := H p42 h16 e43 e44
            obtain ⟨e45, H⟩ := H
            obtain ⟨e46, H⟩ := H
            refine s_ef1 (d := some 50) (v := (Sl.v ((⟨some p42, 1, 1⟩ : Sl)))) (h' := h16) rfl rfl rfl (fun dr => (slFTab_60.build (cells := #[(Sl.v high14)]) (by decide) rfl (by kernel_rfl)).trans (by rw [e43, e44]; rfl)) ⟨(.inl ⟨rfl, fun dr => r_load1 Try.isAgg60 rfl e45⟩), (.inl ⟨rfl, fun dr => r_load1 Try.isAgg60 rfl e46⟩), trivial⟩ ?_ trivial
            refine s_ef (d := some 44) rfl rfl rfl (fun dr => slFTab_60.append rfl rfl H) ?_ trivial
            rintro _ h17 ⟨s47, rfl, H⟩
            obtain ⟨e48, H⟩ := H
            refine ⟨⟨(.inl ⟨rfl, fun dr => r_load1 Try.isAgg60 rfl e48⟩), trivial, trivial⟩, ?_⟩
            refine s_ef (d := some 51) rfl rfl rfl (fun dr => slFTab_60.append rfl rfl H) ?_ trivial
            rintro _ h18 ⟨s49, rfl, H⟩
            refine ⟨⟨trivial, trivial, trivial⟩, ?_⟩
            refine s_pu (d := some 52) (v := (.pointer (some p3))) rfl rfl rfl (r_nilCheck rfl rfl) ?_
            refine s_pu (d := some 53) (v := (.pointer (some (Addr.add p3 1)))) rfl rfl rfl (r_fieldAddr Try.underlying62 Try.sizeOf60 rfl rfl rfl) ?_
            obtain ⟨e51, H⟩ := H
            obtain ⟨h19, e50⟩ : ∃ hh : Heap, hh = hsets h18 (Addr.add p3 1) 0 [(Sl.v s47)] := ⟨_, rfl⟩
            have H := H h19 e50
            refine s_st (d := none) (h' := h19) rfl rfl rfl (fun dr => (r_store (v := (Sl.v s47)) Try.sizeOf60 rfl rfl rfl (one_all rfl) e51).trans (by rw [e50]; rfl)) ⟨trivial, trivial, trivial⟩ ?_ trivial
            refine s_pu (d := some 54) (v := (.pointer (some p3))) rfl rfl rfl (r_nilCheck rfl rfl) ?_
            refine s_pu (d := some 55) (v := (.pointer (some (Addr.add p3 2)))) rfl rfl rfl (r_fieldAddr Try.underlying62 Try.sizeOf60 rfl rfl rfl) ?_
            obtain ⟨e53, H⟩ := H
            obtain ⟨h20, e52⟩ : ∃ hh : Heap, hh = hsets h19 (Addr.add p3 2) 0 [(Sl.v s49)] := ⟨_, rfl⟩
            have H := H h20 e52
            refine s_st (d := none) (h' := h20) rfl rfl rfl (fun dr => (r_store (v := (Sl.v s49)) Try.sizeOf60 rfl rfl rfl (one_all rfl) e53).trans (by rw [e52]; rfl)) ⟨trivial, trivial, trivial⟩ ?_ trivial
            refine s_fin ?_
            exact N_mk (l := [(0, (Sl.v l1)), (4, (.pointer (some p3))), (7, (Sl.v low13)), (8, (Sl.v high14)), (9, (.int .i64 n15))]) H ⟨rfl, rfl, rfl, rfl, rfl, trivial⟩
        · have H := H.2
          obtain ⟨p54, e55⟩ : ∃ p : Addr, p = ⟨h6.size, 0, none⟩ := ⟨_, rfl⟩
          obtain ⟨h21, e56⟩ : ∃ hh : Heap, hh = h6.push (.cells #[(Sl.v high14)] 22) := ⟨_, rfl⟩
          have H := H p54 h21 e55 e56
          obtain ⟨e57, H⟩ := H
          obtain ⟨e58, H⟩ := H
          refine s_ef1 (d := some 50) (v := (Sl.v ((⟨some p54, 1, 1⟩ : Sl)))) (h' := h21) rfl rfl rfl (fun dr => (slFTab_60.build (cells := #[(Sl.v high14)]) (by decide) rfl (by kernel_rfl)).trans (by rw [e55, e56]; rfl)) ⟨(.inl ⟨rfl, fun dr => r_load1 Try.isAgg60 rfl e57⟩), (.inl ⟨rfl, fun dr => r_load1 Try.isAgg60 rfl e58⟩), trivial⟩ ?_ trivial
          obtain ⟨p59, e60⟩ : ∃ p : Addr, p = ⟨h21.size, 0, none⟩ := ⟨_, rfl⟩
          obtain ⟨h22, e61⟩ : ∃ hh : Heap, hh = h21.push (.cells #[(Sl.v low13)] 22) := ⟨_, rfl⟩
          have H := H p59 h22 e60 e61
          obtain ⟨e62, H⟩ := H
          obtain ⟨e63, H⟩ := H
          refine s_ef1 (d := some 43) (v := (Sl.v ((⟨some p59, 1, 1⟩ : Sl)))) (h' := h22) rfl rfl rfl (fun dr => (slFTab_60.build (cells := #[(Sl.v low13)]) (by decide) rfl (by kernel_rfl)).trans (by rw [e60, e61]; rfl)) ⟨(.inl ⟨rfl, fun dr => r_load1 Try.isAgg60 rfl e62⟩), (.inl ⟨rfl, fun dr => r_load1 Try.isAgg60 rfl e63⟩), trivial⟩ ?_ trivial
          refine s_ef (d := some 44) rfl rfl rfl (fun dr => slFTab_60.append rfl rfl H) ?_ trivial
          rintro _ h23 ⟨s64, rfl, H⟩
          obtain ⟨e65, H⟩ := H
          refine ⟨⟨(.inl ⟨rfl, fun dr => r_load1 Try.isAgg60 rfl e65⟩), trivial, trivial⟩, ?_⟩
          refine s_ef (d := some 51) rfl rfl rfl (fun dr => slFTab_60.append rfl rfl H) ?_ trivial
          rintro _ h24 ⟨s66, rfl, H⟩
          refine ⟨⟨trivial, trivial, trivial⟩, ?_⟩
          refine s_pu (d := some 52) (v := (.pointer (some p3))) rfl rfl rfl (r_nilCheck rfl rfl) ?_
          refine s_pu (d := some 53) (v := (.pointer (some (Addr.add p3 1)))) rfl rfl rfl (r_fieldAddr Try.underlying62 Try.sizeOf60 rfl rfl rfl) ?_
          obtain ⟨e68, H⟩ := H
          obtain ⟨h25, e67⟩ : ∃ hh : Heap, hh = hsets h24 (Addr.add p3 1) 0 [(Sl.v s64)] := ⟨_, rfl⟩
          have H := H h25 e67
          refine s_st (d := none) (h' := h25) rfl rfl rfl (fun dr => (r_store (v := (Sl.v s64)) Try.sizeOf60 rfl rfl rfl (one_all rfl) e68).trans (by rw [e67]; rfl)) ⟨trivial, trivial, trivial⟩ ?_ trivial
          refine s_pu (d := some 54) (v := (.pointer (some p3))) rfl rfl rfl (r_nilCheck rfl rfl) ?_
          refine s_pu (d := some 55) (v := (.pointer (some (Addr.add p3 2)))) rfl rfl rfl (r_fieldAddr Try.underlying62 Try.sizeOf60 rfl rfl rfl) ?_
          obtain ⟨e70, H⟩ := H
          obtain ⟨h26, e69⟩ : ∃ hh : Heap, hh = hsets h25 (Addr.add p3 2) 0 [(Sl.v s66)] := ⟨_, rfl⟩
          have H := H h26 e69
          refine s_st (d := none) (h' := h26) rfl rfl rfl (fun dr => (r_store (v := (Sl.v s66)) Try.sizeOf60 rfl rfl rfl (one_all rfl) e70).trans (by rw [e69]; rfl)) ⟨trivial, trivial, trivial⟩ ?_ trivial
          refine s_fin ?_
          exact N_mk (l := [(0, (Sl.v l1)), (4, (.pointer (some p3))), (7, (Sl.v low13)), (8, (Sl.v high14)), (9, (.int .i64 n15))]) H ⟨rfl, rfl, rfl, rfl, rfl, trivial⟩
      · have H := H.2 g71
        refine W_exit (inX_here ?_)
        show W _ _ _ _ _ _ _ _
        refine W_seq ?_
        refine W_region (.pu 0 (.pu 1 (.pu 2 .fin))) rfl rfl ?_
        refine s_pu (d := some 68) (v := (.pointer (some p3))) rfl rfl rfl (r_move rfl) ?_
        refine s_pu (d := some 2) (v := (.pointer (some p3))) rfl rfl rfl (r_assign rfl) ?_
        refine s_pu (d := some 3) (v := .nilIface) rfl rfl rfl (r_assign rfl) ?_
        refine s_fin ?_
        show W _ _ _ _ _ _ _ _
        refine W_ret ?_
        exact ⟨[(.pointer (some p3)), .nilIface], ⟨_, _, rfl, rfl, ⟨_, _, rfl, rfl, rfl⟩⟩, (some p3), .nilIface, rfl, H⟩

/-! ### table_Table_next -/

def table_Table_next_F (r : World) (t1 : Option Addr) (row2 : Sl) (n3 : Int) (of4 : Value) (h : Heap) (R : Sl → Heap → Prop) : Prop :=
  ∀ X7 : Sl → Int → Heap → Prop, (∀ (out5 : Sl) (i6 : Int) (h1 : Heap),
    (Br (decide ((w64 (i6 + n3)) < ((row2.len : Int)))) (
      Ix row2 i6 1 fun q12 =>
      LdI h1 q12 fun x14 =>
      Ix row2 (w64 (i6 + n3)) 1 fun q20 =>
      LdI h1 q20 fun x22 =>
      CallV Try.prog r of4 [(.int .i64 x14), (.int .i64 x22)] h1 fun v29 h2 => ∃ (y24 : Int), v29 = (.int .i64 y24) ∧
      New h2 (.cells #[(.int .i64 y24)] 3) fun p25 h3 =>
      App 3 1 8 (.int .i64 0) out5 ((⟨some p25, 1, 1⟩ : Sl)) h3 fun s28 h4 =>
      X7 s28 (w64 (i6 + 1)) h4) (
      R out5 h1)) →
    X7 out5 i6 h1) →
  X7 Sl.nil 0 h

set_option maxRecDepth 100000 in
theorem table_Table_next_of {r : World} {t1 : Option Addr} {row2 : Sl} {n3 : Int} {of4 : Value} {h : Heap} {R : Sl → Heap → Prop} (H : table_Table_next_F r t1 row2 n3 of4 h R) : table_Table_next r t1 row2 n3 of4 h R := by
  unfold table_Table_next_F at H
  refine calls_of 35 [.tmp 8] Try.func40 rfl rfl rfl rfl rfl ?_
  refine W_seq ?_
  refine W_region (.pu 0 .fin) rfl rfl ?_
  refine s_pu (d := some 8) (v := (Sl.v Sl.nil)) rfl rfl rfl (r_assign rfl) ?_
  refine s_fin ?_
  show W _ _ _ _ _ _ _ _
  refine W_seq ?_
  refine W_region (.pu 0 .fin) rfl rfl ?_
  refine s_pu (d := some 9) (v := (Sl.v Sl.nil)) rfl rfl rfl (r_assign rfl) ?_
  refine s_fin ?_
  show W _ _ _ _ _ _ _ _
  refine W_seq ?_
  refine W_seq ?_
  refine W_region (.pu 0 .fin) rfl rfl ?_
  refine s_pu (d := some 10) (v := (.int .i64 0)) rfl rfl rfl (r_assign rfl) ?_
  refine s_fin ?_
  show W _ _ _ _ _ _ _ _
  refine W_block ?_
  refine W_loop (WL_mk (l := [(1, (Sl.v row2)), (2, (.int .i64 n3)), (3, of4), (9, (Sl.v Sl.nil)), (10, (.int .i64 0))]) ?_ ⟨rfl, rfl, rfl, rfl, rfl, trivial⟩)
  refine H (fun (out5 : Sl) (i6 : Int) (h1 : Heap) => ∀ b, WL _ _ _ _ _ _ (mkE [(1, (Sl.v row2)), (2, (.int .i64 n3)), (3, of4), (9, (Sl.v out5)), (10, (.int .i64 i6))] b) h1) ?_
  intro out5 i6 h1 H b
  refine WL_round ?_
  refine W_seq ?_
  refine W_seq ?_
  refine W_region (.pu 0 (.pu 1 (.pu 2 (.pu 3 (.pu 4 (.pu 5 .fin)))))) rfl rfl ?_
  refine s_pu (d := some 11) (v := (.int .i64 i6)) rfl rfl rfl (r_move rfl) ?_
  refine s_pu (d := some 12) (v := (.int .i64 n3)) rfl rfl rfl (r_move rfl) ?_
  refine s_pu (d := some 13) (v := (.int .i64 (w64 (i6 + n3)))) rfl rfl rfl (r_add rfl rfl) ?_
  refine s_pu (d := some 14) (v := (Sl.v row2)) rfl rfl rfl (r_move rfl) ?_
  refine s_pu (d := some 15) (v := (.int .i64 ((row2.len : Int)))) rfl rfl rfl (r_len Try.underlying22 rfl) ?_
  refine s_pu (d := some 16) (v := (.bool (decide ((w64 (i6 + n3)) < ((row2.len : Int)))))) rfl rfl rfl (r_lss rfl rfl) ?_
  refine s_fin ?_
  show W _ _ _ _ _ _ _ _
  refine W_if (decide ((w64 (i6 + n3)) < ((row2.len : Int)))) rfl (fun g30 => ?_) (fun g30 => ?_)
  · have H := H.1 g30
    refine W_skip ?_
    show W _ _ _ _ _ _ _ _
    refine W_seq ?_
    refine W_block ?_
    refine W_draw [0, 0, 0, 0, 12, 28, 0, 0, 0, 384, 960, 1984, 4094, 8190, 16383, 32767] (.pu 0 (.pu 1 (.pu 2 (.pu 3 (.pu 4 (.rd 5 (.pu 6 (.pu 7 (.pu 8 (.pu 9 (.pu 10 (.rd 11 (.ef 12 [5, 11] (.ef 13 [5, 11] (.ef 14 [5, 11] (.pu 15 .fin) .no) .no) .no))))))))))))) (by kernel_rfl) (by kernel_rfl) ?_
    refine s_pu (d := some 19) (v := (Sl.v out5)) rfl rfl rfl (r_move rfl) ?_
    refine s_pu (d := some 20) (v := of4) rfl rfl rfl (r_move rfl) ?_
    refine s_pu (d := some 21) (v := (Sl.v row2)) rfl rfl rfl (r_move rfl) ?_
    refine s_pu (d := some 22) (v := (.int .i64 i6)) rfl rfl rfl (r_move rfl) ?_
    obtain ⟨p8, e9, e10, e11, H⟩ := H
    obtain ⟨q12, e13⟩ : ∃ q : Addr, q = Addr.add p8 (Int.toNat i6 * 1) := ⟨_, rfl⟩
    rw [← e13] at H
    refine s_pu (d := some 23) (v := (.pointer (some q12))) rfl rfl rfl (fun w => (r_indexAddr Try.underlying22 Try.sizeOf3 rfl rfl e9 e10 e11 w).trans (by rw [e13])) ?_
    obtain ⟨x14, e15, H⟩ := H
    refine s_rd (d := some 24) (v := (.int .i64 x14)) rfl rfl rfl (fun dr => r_load1 Try.isAgg3 rfl e15) ?_
    refine s_pu (d := some 25) (v := (Sl.v row2)) rfl rfl rfl (r_move rfl) ?_
    refine s_pu (d := some 26) (v := (.int .i64 i6)) rfl rfl rfl (r_move rfl) ?_
    refine s_pu (d := some 27) (v := (.int .i64 n3)) rfl rfl rfl (r_move rfl) ?_
    refine s_pu (d := some 28) (v := (.int .i64 (w64 (i6 + n3)))) rfl rfl rfl (r_add rfl rfl) ?_
    obtain ⟨p16, e17, e18, e19, H⟩ := H
    obtain ⟨q20, e21⟩ : ∃ q : Addr, q = Addr.add p16 (Int.toNat (w64 (i6 + n3)) * 1) := ⟨_, rfl⟩
    rw [← e21] at H
    refine s_pu (d := some 29) (v := (.pointer (some q20))) rfl rfl rfl (fun w => (r_indexAddr Try.underlying22 Try.sizeOf3 rfl rfl e17 e18 e19 w).trans (by rw [e21])) ?_
    obtain ⟨x22, e23, H⟩ := H
    refine s_rd (d := some 30) (v := (.int .i64 x22)) rfl rfl rfl (fun dr => r_load1 Try.isAgg3 rfl e23) ?_
    refine s_ef (d := some 31) rfl rfl rfl (fun dr => r_callV rfl rfl H) ?_ trivial
    rintro _ h2 ⟨y24, rfl, H⟩
    refine ⟨⟨trivial, trivial, trivial⟩, ?_⟩
    obtain ⟨p25, e26⟩ : ∃ p : Addr, p = ⟨h2.size, 0, none⟩ := ⟨_, rfl⟩
    obtain ⟨h3, e27⟩ : ∃ hh : Heap, hh = h2.push (.cells #[(.int .i64 y24)] 3) := ⟨_, rfl⟩
    have H := H p25 h3 e26 e27
    refine s_ef1 (d := some 32) (v := (Sl.v ((⟨some p25, 1, 1⟩ : Sl)))) (h' := h3) rfl rfl rfl (fun dr => (slFTab_22.build (cells := #[(.int .i64 y24)]) (by decide) rfl (by kernel_rfl)).trans (by rw [e26, e27]; rfl)) ⟨trivial, trivial, trivial⟩ ?_ trivial
    refine s_ef (d := some 33) rfl rfl rfl (fun dr => slFTab_22.append rfl rfl H) ?_ trivial
    rintro _ h4 ⟨s28, rfl, H⟩
    refine ⟨⟨trivial, trivial, trivial⟩, ?_⟩
    refine s_pu (d := some 9) (v := (Sl.v s28)) rfl rfl rfl (r_assign rfl) ?_
    refine s_fin ?_
    show W _ _ _ _ _ _ _ _
    refine W_region (.pu 0 (.pu 1 (.pu 2 .fin))) rfl rfl ?_
    refine s_pu (d := some 17) (v := (.int .i64 i6)) rfl rfl rfl (r_move rfl) ?_
    refine s_pu (d := some 18) (v := (.int .i64 (w64 (i6 + 1)))) rfl rfl rfl (r_add rfl rfl) ?_
    refine s_pu (d := some 10) (v := (.int .i64 (w64 (i6 + 1)))) rfl rfl rfl (r_assign rfl) ?_
    refine s_fin ?_
    exact WL_mk (l := [(1, (Sl.v row2)), (2, (.int .i64 n3)), (3, of4), (9, (Sl.v s28)), (10, (.int .i64 (w64 (i6 + 1))))]) H ⟨rfl, rfl, rfl, rfl, rfl, trivial⟩
  · have H := H.2 g30
    refine W_exit (inX_here ?_)
    show W _ _ _ _ _ _ _ _
    refine W_seq ?_
    refine W_region (.pu 0 (.pu 1 .fin)) rfl rfl ?_
    refine s_pu (d := some 34) (v := (Sl.v out5)) rfl rfl rfl (r_move rfl) ?_
    refine s_pu (d := some 8) (v := (Sl.v out5)) rfl rfl rfl (r_assign rfl) ?_
    refine s_fin ?_
    show W _ _ _ _ _ _ _ _
    refine W_ret ?_
    exact ⟨[(Sl.v out5)], ⟨_, _, rfl, rfl, rfl⟩, out5, rfl, H⟩

/-! ### table_Table_low -/

def table_Table_low_F (r : World) (t1 : Option Addr) (i2 : Int) (j3 : Int) (h : Heap) (R : Int → Heap → Prop) : Prop :=
  Ck t1 fun p4 =>
  LdS h (Addr.add p4 0) fun x6 =>
  Ix x6 j3 1 fun q12 =>
  LdI h q12 fun x14 =>
  Ck t1 fun p16 =>
  LdS h (Addr.add p16 0) fun x18 =>
  Ix x18 i2 1 fun q24 =>
  LdI h q24 fun x26 =>
  Br (decide (x14 < x26)) (
    R j3 h) (
    R i2 h)

set_option maxRecDepth 100000 in
theorem table_Table_low_of {r : World} {t1 : Option Addr} {i2 : Int} {j3 : Int} {h : Heap} {R : Int → Heap → Prop} (H : table_Table_low_F r t1 i2 j3 h R) : table_Table_low r t1 i2 j3 h R := by
  unfold table_Table_low_F at H
  refine calls_of 24 [.tmp 6] Try.func41 rfl rfl rfl rfl rfl ?_
  refine W_seq ?_
  refine W_region (.pu 0 .fin) rfl rfl ?_
  refine s_pu (d := some 6) (v := (.int .i64 0)) rfl rfl rfl (r_assign rfl) ?_
  refine s_fin ?_
  show W _ _ _ _ _ _ _ _
  refine W_seq ?_
  refine W_seq ?_
  refine W_draw [0, 1, 3, 7, 0, 31, 63, 0, 128, 384, 896, 0, 3968, 8064, 16383] (.pu 0 (.pu 1 (.pu 2 (.rd 3 (.pu 4 (.pu 5 (.rd 6 (.pu 7 (.pu 8 (.pu 9 (.rd 10 (.pu 11 (.pu 12 (.rd 13 (.pu 14 .fin))))))))))))))) (by kernel_rfl) (by kernel_rfl) ?_
  refine s_pu (d := some 7) (v := (.pointer t1)) rfl rfl rfl (r_move rfl) ?_
  obtain ⟨p4, e5, H⟩ := H
  refine s_pu (d := some 8) (v := (.pointer (some p4))) rfl rfl rfl (r_nilCheck rfl e5) ?_
  refine s_pu (d := some 9) (v := (.pointer (some (Addr.add p4 0)))) rfl rfl rfl (r_fieldAddr Try.underlying62 Try.sizeOf22 rfl rfl rfl) ?_
  obtain ⟨x6, e7, H⟩ := H
  refine s_rd (d := some 10) (v := (Sl.v x6)) rfl rfl rfl (fun dr => r_load1 Try.isAgg22 rfl e7) ?_
  refine s_pu (d := some 11) (v := (.int .i64 j3)) rfl rfl rfl (r_move rfl) ?_
  obtain ⟨p8, e9, e10, e11, H⟩ := H
  obtain ⟨q12, e13⟩ : ∃ q : Addr, q = Addr.add p8 (Int.toNat j3 * 1) := ⟨_, rfl⟩
  rw [← e13] at H
  refine s_pu (d := some 12) (v := (.pointer (some q12))) rfl rfl rfl (fun w => (r_indexAddr Try.underlying22 Try.sizeOf3 rfl rfl e9 e10 e11 w).trans (by rw [e13])) ?_
  obtain ⟨x14, e15, H⟩ := H
  refine s_rd (d := some 13) (v := (.int .i64 x14)) rfl rfl rfl (fun dr => r_load1 Try.isAgg3 rfl e15) ?_
  refine s_pu (d := some 14) (v := (.pointer t1)) rfl rfl rfl (r_move rfl) ?_
  obtain ⟨p16, e17, H⟩ := H
  refine s_pu (d := some 15) (v := (.pointer (some p16))) rfl rfl rfl (r_nilCheck rfl e17) ?_
  refine s_pu (d := some 16) (v := (.pointer (some (Addr.add p16 0)))) rfl rfl rfl (r_fieldAddr Try.underlying62 Try.sizeOf22 rfl rfl rfl) ?_
  obtain ⟨x18, e19, H⟩ := H
  refine s_rd (d := some 17) (v := (Sl.v x18)) rfl rfl rfl (fun dr => r_load1 Try.isAgg22 rfl e19) ?_
  refine s_pu (d := some 18) (v := (.int .i64 i2)) rfl rfl rfl (r_move rfl) ?_
  obtain ⟨p20, e21, e22, e23, H⟩ := H
  obtain ⟨q24, e25⟩ : ∃ q : Addr, q = Addr.add p20 (Int.toNat i2 * 1) := ⟨_, rfl⟩
  rw [← e25] at H
  refine s_pu (d := some 19) (v := (.pointer (some q24))) rfl rfl rfl (fun w => (r_indexAddr Try.underlying22 Try.sizeOf3 rfl rfl e21 e22 e23 w).trans (by rw [e25])) ?_
  obtain ⟨x26, e27, H⟩ := H
  refine s_rd (d := some 20) (v := (.int .i64 x26)) rfl rfl rfl (fun dr => r_load1 Try.isAgg3 rfl e27) ?_
  refine s_pu (d := some 21) (v := (.bool (decide (x14 < x26)))) rfl rfl rfl (r_lss rfl rfl) ?_
  refine s_fin ?_
  show W _ _ _ _ _ _ _ _
  refine W_if (decide (x14 < x26)) rfl (fun g28 => ?_) (fun g28 => ?_)
  · have H := H.1 g28
    refine W_seq ?_
    refine W_region (.pu 0 (.pu 1 .fin)) rfl rfl ?_
    refine s_pu (d := some 22) (v := (.int .i64 j3)) rfl rfl rfl (r_move rfl) ?_
    refine s_pu (d := some 6) (v := (.int .i64 j3)) rfl rfl rfl (r_assign rfl) ?_
    refine s_fin ?_
    show W _ _ _ _ _ _ _ _
    refine W_ret ?_
    exact ⟨[(.int .i64 j3)], ⟨_, _, rfl, rfl, rfl⟩, j3, rfl, H⟩
  · have H := H.2 g28
    refine W_skip ?_
    show W _ _ _ _ _ _ _ _
    refine W_seq ?_
    refine W_region (.pu 0 (.pu 1 .fin)) rfl rfl ?_
    refine s_pu (d := some 23) (v := (.int .i64 i2)) rfl rfl rfl (r_move rfl) ?_
    refine s_pu (d := some 6) (v := (.int .i64 i2)) rfl rfl rfl (r_assign rfl) ?_
    refine s_fin ?_
    show W _ _ _ _ _ _ _ _
    refine W_ret ?_
    exact ⟨[(.int .i64 i2)], ⟨_, _, rfl, rfl, rfl⟩, i2, rfl, H⟩

/-! ### table_Table_high -/

def table_Table_high_F (r : World) (t1 : Option Addr) (i2 : Int) (j3 : Int) (h : Heap) (R : Int → Heap → Prop) : Prop :=
  Ck t1 fun p4 =>
  LdS h (Addr.add p4 0) fun x6 =>
  Ix x6 j3 1 fun q12 =>
  LdI h q12 fun x14 =>
  Ck t1 fun p16 =>
  LdS h (Addr.add p16 0) fun x18 =>
  Ix x18 i2 1 fun q24 =>
  LdI h q24 fun x26 =>
  Br (decide (x26 < x14)) (
    R j3 h) (
    R i2 h)

set_option maxRecDepth 100000 in
theorem table_Table_high_of {r : World} {t1 : Option Addr} {i2 : Int} {j3 : Int} {h : Heap} {R : Int → Heap → Prop} (H : table_Table_high_F r t1 i2 j3 h R) : table_Table_high r t1 i2 j3 h R := by
  unfold table_Table_high_F at H
  refine calls_of 24 [.tmp 6] Try.func42 rfl rfl rfl rfl rfl ?_
  refine W_seq ?_
  refine W_region (.pu 0 .fin) rfl rfl ?_
  refine s_pu (d := some 6) (v := (.int .i64 0)) rfl rfl rfl (r_assign rfl) ?_
  refine s_fin ?_
  show W _ _ _ _ _ _ _ _
  refine W_seq ?_
  refine W_seq ?_
  refine W_draw [0, 1, 3, 7, 0, 31, 63, 0, 128, 384, 896, 0, 3968, 8064, 16383] (.pu 0 (.pu 1 (.pu 2 (.rd 3 (.pu 4 (.pu 5 (.rd 6 (.pu 7 (.pu 8 (.pu 9 (.rd 10 (.pu 11 (.pu 12 (.rd 13 (.pu 14 .fin))))))))))))))) (by kernel_rfl) (by kernel_rfl) ?_
  refine s_pu (d := some 7) (v := (.pointer t1)) rfl rfl rfl (r_move rfl) ?_
  obtain ⟨p4, e5, H⟩ := H
  refine s_pu (d := some 8) (v := (.pointer (some p4))) rfl rfl rfl (r_nilCheck rfl e5) ?_
  refine s_pu (d := some 9) (v := (.pointer (some (Addr.add p4 0)))) rfl rfl rfl (r_fieldAddr Try.underlying62 Try.sizeOf22 rfl rfl rfl) ?_
  obtain ⟨x6, e7, H⟩ := H
  refine s_rd (d := some 10) (v := (Sl.v x6)) rfl rfl rfl (fun dr => r_load1 Try.isAgg22 rfl e7) ?_
  refine s_pu (d := some 11) (v := (.int .i64 j3)) rfl rfl rfl (r_move rfl) ?_
  obtain ⟨p8, e9, e10, e11, H⟩ := H
  obtain ⟨q12, e13⟩ : ∃ q : Addr, q = Addr.add p8 (Int.toNat j3 * 1) := ⟨_, rfl⟩
  rw [← e13] at H
  refine s_pu (d := some 12) (v := (.pointer (some q12))) rfl rfl rfl (fun w => (r_indexAddr Try.underlying22 Try.sizeOf3 rfl rfl e9 e10 e11 w).trans (by rw [e13])) ?_
  obtain ⟨x14, e15, H⟩ := H
  refine s_rd (d := some 13) (v := (.int .i64 x14)) rfl rfl rfl (fun dr => r_load1 Try.isAgg3 rfl e15) ?_
  refine s_pu (d := some 14) (v := (.pointer t1)) rfl rfl rfl (r_move rfl) ?_
  obtain ⟨p16, e17, H⟩ := H
  refine s_pu (d := some 15) (v := (.pointer (some p16))) rfl rfl rfl (r_nilCheck rfl e17) ?_
  refine s_pu (d := some 16) (v := (.pointer (some (Addr.add p16 0)))) rfl rfl rfl (r_fieldAddr Try.underlying62 Try.sizeOf22 rfl rfl rfl) ?_
  obtain ⟨x18, e19, H⟩ := H
  refine s_rd (d := some 17) (v := (Sl.v x18)) rfl rfl rfl (fun dr => r_load1 Try.isAgg22 rfl e19) ?_
  refine s_pu (d := some 18) (v := (.int .i64 i2)) rfl rfl rfl (r_move rfl) ?_
  obtain ⟨p20, e21, e22, e23, H⟩ := H
  obtain ⟨q24, e25⟩ : ∃ q : Addr, q = Addr.add p20 (Int.toNat i2 * 1) := ⟨_, rfl⟩
  rw [← e25] at H
  refine s_pu (d := some 19) (v := (.pointer (some q24))) rfl rfl rfl (fun w => (r_indexAddr Try.underlying22 Try.sizeOf3 rfl rfl e21 e22 e23 w).trans (by rw [e25])) ?_
  obtain ⟨x26, e27, H⟩ := H
  refine s_rd (d := some 20) (v := (.int .i64 x26)) rfl rfl rfl (fun dr => r_load1 Try.isAgg3 rfl e27) ?_
  refine s_pu (d := some 21) (v := (.bool (decide (x26 < x14)))) rfl rfl rfl (r_gtr rfl rfl) ?_
  refine s_fin ?_
  show W _ _ _ _ _ _ _ _
  refine W_if (decide (x26 < x14)) rfl (fun g28 => ?_) (fun g28 => ?_)
  · have H := H.1 g28
    refine W_seq ?_
    refine W_region (.pu 0 (.pu 1 .fin)) rfl rfl ?_
    refine s_pu (d := some 22) (v := (.int .i64 j3)) rfl rfl rfl (r_move rfl) ?_
    refine s_pu (d := some 6) (v := (.int .i64 j3)) rfl rfl rfl (r_assign rfl) ?_
    refine s_fin ?_
    show W _ _ _ _ _ _ _ _
    refine W_ret ?_
    exact ⟨[(.int .i64 j3)], ⟨_, _, rfl, rfl, rfl⟩, j3, rfl, H⟩
  · have H := H.2 g28
    refine W_skip ?_
    show W _ _ _ _ _ _ _ _
    refine W_seq ?_
    refine W_region (.pu 0 (.pu 1 .fin)) rfl rfl ?_
    refine s_pu (d := some 23) (v := (.int .i64 i2)) rfl rfl rfl (r_move rfl) ?_
    refine s_pu (d := some 6) (v := (.int .i64 i2)) rfl rfl rfl (r_assign rfl) ?_
    refine s_fin ?_
    show W _ _ _ _ _ _ _ _
    refine W_ret ?_
    exact ⟨[(.int .i64 i2)], ⟨_, _, rfl, rfl, rfl⟩, i2, rfl, H⟩

/-! ### table_Table_told -/

def table_Table_told_F (r : World) (t1 : Option Addr) (rows2 : Sl) (i3 : Int) (j4 : Int) (of5 : Value) (h : Heap) (R : Int → Value → Heap → Prop) : Prop :=
  ∀ J7 : Bool → Prop, (∀ (x6 : Bool),
    (Br x6 (
      R 0 ((.iface 58 (.int .i64 1))) h) (
      Br (decide (i3 = j4)) (
        R 0 ((.iface 58 (.int .i64 2))) h) (
        math_bits_Len r (IntKind.wrap .u64 (w64 (j4 - i3))) h fun y9 h1 =>
        Ix rows2 (w64 (y9 - 1)) 1 fun q14 =>
        LdS h1 q14 fun x16 =>
        Ix x16 i3 1 fun q22 =>
        LdI h1 q22 fun x24 =>
        Ix rows2 (w64 (y9 - 1)) 1 fun q30 =>
        LdS h1 q30 fun x32 =>
        (0 ≤ (w64 (y9 - 1))) ∧
        Ix x32 (w64 (j4 - (sShl .i64 1 (w64 (y9 - 1))))) 1 fun q39 =>
        LdI h1 q39 fun x41 =>
        CallV Try.prog r of5 [(.int .i64 x24), (.int .i64 x41)] h1 fun v44 h2 => ∃ (y43 : Int), v44 = (.int .i64 y43) ∧
        R y43 .nilIface h2))) →
    J7 x6) →
  Br (decide (i3 < 0)) (
    J7 true) (
    Br (decide (j4 < i3)) (
      J7 true) (
      Ck t1 fun p49 =>
      LdS h (Addr.add p49 0) fun x51 =>
      J7 (decide (((x51.len : Int)) < j4))))

set_option maxRecDepth 100000 in
theorem table_Table_told_of {r : World} {t1 : Option Addr} {rows2 : Sl} {i3 : Int} {j4 : Int} {of5 : Value} {h : Heap} {R : Int → Value → Heap → Prop} (H : table_Table_told_F r t1 rows2 i3 j4 of5 h R) : table_Table_told r t1 rows2 i3 j4 of5 h R := by
  unfold table_Table_told_F at H
  refine calls_of 59 [.tmp 10, .tmp 11] Try.func43 rfl rfl rfl rfl rfl ?_
  refine W_seq ?_
  refine W_region (.pu 0 (.pu 1 .fin)) rfl rfl ?_
  refine s_pu (d := some 10) (v := (.int .i64 0)) rfl rfl rfl (r_assign rfl) ?_
  refine s_pu (d := some 11) (v := .nilIface) rfl rfl rfl (r_assign rfl) ?_
  refine s_fin ?_
  show W _ _ _ _ _ _ _ _
  refine W_seq ?_
  refine W_seq ?_
  refine W_set ?_
  intro N8 eN8
  have H := H (fun (x6 : Bool) => ∀ b, N8 [] (mkE [(1, (Sl.v rows2)), (2, (.int .i64 i3)), (3, (.int .i64 j4)), (4, of5), (28, (.bool x6))] b) h) (by
    intro x6 H b
    rw [eN8]
    show W _ _ _ _ _ _ _ _
    refine W_if x6 rfl (fun g46 => ?_) (fun g46 => ?_)
    · have H := H.1 g46
      refine W_seq ?_
      refine W_region (.pu 0 (.pu 1 (.pu 2 .fin))) rfl rfl ?_
      refine s_pu (d := some 29) (v := ((.iface 58 (.int .i64 1)))) rfl rfl rfl (r_iface Try.underlying58 rfl rfl) ?_
      refine s_pu (d := some 10) (v := (.int .i64 0)) rfl rfl rfl (r_assign rfl) ?_
      refine s_pu (d := some 11) (v := ((.iface 58 (.int .i64 1)))) rfl rfl rfl (r_assign rfl) ?_
      refine s_fin ?_
      show W _ _ _ _ _ _ _ _
      refine W_ret ?_
      exact ⟨[(.int .i64 0), ((.iface 58 (.int .i64 1)))], ⟨_, _, rfl, rfl, ⟨_, _, rfl, rfl, rfl⟩⟩, 0, ((.iface 58 (.int .i64 1))), rfl, H⟩
    · have H := H.2 g46
      refine W_skip ?_
      show W _ _ _ _ _ _ _ _
      refine W_seq ?_
      refine W_seq ?_
      refine W_region (.pu 0 (.pu 1 (.pu 2 .fin))) rfl rfl ?_
      refine s_pu (d := some 30) (v := (.int .i64 i3)) rfl rfl rfl (r_move rfl) ?_
      refine s_pu (d := some 31) (v := (.int .i64 j4)) rfl rfl rfl (r_move rfl) ?_
      refine s_pu (d := some 32) (v := (.bool (decide (i3 = j4)))) rfl rfl rfl (r_eql rfl rfl) ?_
      refine s_fin ?_
      show W _ _ _ _ _ _ _ _
      refine W_if (decide (i3 = j4)) rfl (fun g45 => ?_) (fun g45 => ?_)
      · have H := H.1 g45
        refine W_seq ?_
        refine W_region (.pu 0 (.pu 1 (.pu 2 .fin))) rfl rfl ?_
        refine s_pu (d := some 33) (v := ((.iface 58 (.int .i64 2)))) rfl rfl rfl (r_iface Try.underlying58 rfl rfl) ?_
        refine s_pu (d := some 10) (v := (.int .i64 0)) rfl rfl rfl (r_assign rfl) ?_
        refine s_pu (d := some 11) (v := ((.iface 58 (.int .i64 2)))) rfl rfl rfl (r_assign rfl) ?_
        refine s_fin ?_
        show W _ _ _ _ _ _ _ _
        refine W_ret ?_
        exact ⟨[(.int .i64 0), ((.iface 58 (.int .i64 2)))], ⟨_, _, rfl, rfl, ⟨_, _, rfl, rfl, rfl⟩⟩, 0, ((.iface 58 (.int .i64 2))), rfl, H⟩
      · have H := H.2 g45
        refine W_skip ?_
        show W _ _ _ _ _ _ _ _
        refine W_seq ?_
        refine W_region (.pu 0 (.pu 1 (.pu 2 (.pu 3 (.ef 4 [] (.pu 5 (.pu 6 .fin)) .no))))) rfl rfl ?_
        refine s_pu (d := some 34) (v := (.int .i64 j4)) rfl rfl rfl (r_move rfl) ?_
        refine s_pu (d := some 35) (v := (.int .i64 i3)) rfl rfl rfl (r_move rfl) ?_
        refine s_pu (d := some 36) (v := (.int .i64 (w64 (j4 - i3)))) rfl rfl rfl (r_sub rfl rfl) ?_
        refine s_pu (d := some 37) (v := (.int .u64 (IntKind.wrap .u64 (w64 (j4 - i3))))) rfl rfl rfl (r_conv Try.underlying3 Try.underlying86 rfl) ?_
        refine s_ef (d := some 38) rfl rfl rfl (fun dr => r_call Try.call57 rfl rfl H) ?_ trivial
        rintro _ h1 ⟨y9, rfl, H⟩
        refine ⟨trivial, ?_⟩
        refine s_pu (d := some 39) (v := (.int .i64 (w64 (y9 - 1)))) rfl rfl rfl (r_sub rfl rfl) ?_
        refine s_pu (d := some 12) (v := (.int .i64 (w64 (y9 - 1)))) rfl rfl rfl (r_assign rfl) ?_
        refine s_fin ?_
        show W _ _ _ _ _ _ _ _
        refine W_seq ?_
        refine W_draw [0, 0, 0, 6, 14, 0, 62, 126, 0, 0, 768, 1792, 0, 0, 8192, 28672, 65280, 130816, 262143, 524287, 1048575] (.pu 0 (.pu 1 (.pu 2 (.pu 3 (.rd 4 (.pu 5 (.pu 6 (.rd 7 (.pu 8 (.pu 9 (.pu 10 (.rd 11 (.pu 12 (.pu 13 (.pu 14 (.pu 15 (.pu 16 (.rd 17 (.ef 18 [4, 7, 11, 17] (.pu 19 (.pu 20 .fin)) .no))))))))))))))))))) (by kernel_rfl) (by kernel_rfl) ?_
        refine s_pu (d := some 40) (v := of5) rfl rfl rfl (r_move rfl) ?_
        refine s_pu (d := some 41) (v := (Sl.v rows2)) rfl rfl rfl (r_move rfl) ?_
        refine s_pu (d := some 42) (v := (.int .i64 (w64 (y9 - 1)))) rfl rfl rfl (r_move rfl) ?_
        obtain ⟨p10, e11, e12, e13, H⟩ := H
        obtain ⟨q14, e15⟩ : ∃ q : Addr, q = Addr.add p10 (Int.toNat (w64 (y9 - 1)) * 1) := ⟨_, rfl⟩
        rw [← e15] at H
        refine s_pu (d := some 43) (v := (.pointer (some q14))) rfl rfl rfl (fun w => (r_indexAddr Try.underlying60 Try.sizeOf22 rfl rfl e11 e12 e13 w).trans (by rw [e15])) ?_
        obtain ⟨x16, e17, H⟩ := H
        refine s_rd (d := some 44) (v := (Sl.v x16)) rfl rfl rfl (fun dr => r_load1 Try.isAgg22 rfl e17) ?_
        refine s_pu (d := some 45) (v := (.int .i64 i3)) rfl rfl rfl (r_move rfl) ?_
        obtain ⟨p18, e19, e20, e21, H⟩ := H
        obtain ⟨q22, e23⟩ : ∃ q : Addr, q = Addr.add p18 (Int.toNat i3 * 1) := ⟨_, rfl⟩
        rw [← e23] at H
        refine s_pu (d := some 46) (v := (.pointer (some q22))) rfl rfl rfl (fun w => (r_indexAddr Try.underlying22 Try.sizeOf3 rfl rfl e19 e20 e21 w).trans (by rw [e23])) ?_
        obtain ⟨x24, e25, H⟩ := H
        refine s_rd (d := some 47) (v := (.int .i64 x24)) rfl rfl rfl (fun dr => r_load1 Try.isAgg3 rfl e25) ?_
        refine s_pu (d := some 48) (v := (Sl.v rows2)) rfl rfl rfl (r_move rfl) ?_
        refine s_pu (d := some 49) (v := (.int .i64 (w64 (y9 - 1)))) rfl rfl rfl (r_move rfl) ?_
        obtain ⟨p26, e27, e28, e29, H⟩ := H
        obtain ⟨q30, e31⟩ : ∃ q : Addr, q = Addr.add p26 (Int.toNat (w64 (y9 - 1)) * 1) := ⟨_, rfl⟩
        rw [← e31] at H
        refine s_pu (d := some 50) (v := (.pointer (some q30))) rfl rfl rfl (fun w => (r_indexAddr Try.underlying60 Try.sizeOf22 rfl rfl e27 e28 e29 w).trans (by rw [e31])) ?_
        obtain ⟨x32, e33, H⟩ := H
        refine s_rd (d := some 51) (v := (Sl.v x32)) rfl rfl rfl (fun dr => r_load1 Try.isAgg22 rfl e33) ?_
        refine s_pu (d := some 52) (v := (.int .i64 j4)) rfl rfl rfl (r_move rfl) ?_
        refine s_pu (d := some 53) (v := (.int .i64 (w64 (y9 - 1)))) rfl rfl rfl (r_move rfl) ?_
        obtain ⟨e34, H⟩ := H
        refine s_pu (d := some 54) (v := (.int .i64 (sShl .i64 1 (w64 (y9 - 1))))) rfl rfl rfl (r_shl rfl rfl e34) ?_
        refine s_pu (d := some 55) (v := (.int .i64 (w64 (j4 - (sShl .i64 1 (w64 (y9 - 1))))))) rfl rfl rfl (r_sub rfl rfl) ?_
        obtain ⟨p35, e36, e37, e38, H⟩ := H
        obtain ⟨q39, e40⟩ : ∃ q : Addr, q = Addr.add p35 (Int.toNat (w64 (j4 - (sShl .i64 1 (w64 (y9 - 1))))) * 1) := ⟨_, rfl⟩
        rw [← e40] at H
        refine s_pu (d := some 56) (v := (.pointer (some q39))) rfl rfl rfl (fun w => (r_indexAddr Try.underlying22 Try.sizeOf3 rfl rfl e36 e37 e38 w).trans (by rw [e40])) ?_
        obtain ⟨x41, e42, H⟩ := H
        refine s_rd (d := some 57) (v := (.int .i64 x41)) rfl rfl rfl (fun dr => r_load1 Try.isAgg3 rfl e42) ?_
        refine s_ef (d := some 58) rfl rfl rfl (fun dr => r_callV rfl rfl H) ?_ trivial
        rintro _ h2 ⟨y43, rfl, H⟩
        refine ⟨⟨trivial, trivial, trivial, trivial, trivial⟩, ?_⟩
        refine s_pu (d := some 10) (v := (.int .i64 y43)) rfl rfl rfl (r_assign rfl) ?_
        refine s_pu (d := some 11) (v := .nilIface) rfl rfl rfl (r_assign rfl) ?_
        refine s_fin ?_
        show W _ _ _ _ _ _ _ _
        refine W_ret ?_
        exact ⟨[(.int .i64 y43), .nilIface], ⟨_, _, rfl, rfl, ⟨_, _, rfl, rfl, rfl⟩⟩, y43, .nilIface, rfl, H⟩)
  clear eN8
  refine W_region (.pu 0 (.pu 1 (.pu 2 (.pu 3 (.pu 4 (.pu 5 (.pu 6 (.pu 7 (.pu 8 (.pu 9 (.pu 10 (.pu 11 (.rl 12 (.pu 13 (.pu 14 (.pu 15 .fin)))))))))))))))) rfl rfl ?_
  refine s_pu (d := some 13) (v := (.int .i64 i3)) rfl rfl rfl (r_move rfl) ?_
  refine s_pu (d := some 14) (v := (.bool (decide (i3 < 0)))) rfl rfl rfl (r_lss rfl rfl) ?_
  refine s_pu (d := some 15) (v := (.bool (decide (i3 < 0)))) rfl rfl rfl (r_move rfl) ?_
  rcases Bool.eq_false_or_eq_true (decide (i3 < 0)) with g47 | g47
  · have H := H.1 g47
    refine s_sk (d := some 16) rfl rfl (wants_no rfl rfl rfl rfl g47) ?_
    refine s_sk (d := some 17) rfl rfl (wants_no rfl rfl rfl rfl g47) ?_
    refine s_sk (d := some 18) rfl rfl (wants_no rfl rfl rfl rfl g47) ?_
    refine s_pu (d := some 19) (v := (.bool true)) rfl rfl rfl (r_pick1 rfl g47 rfl) ?_
    refine s_pu (d := some 20) (v := (.bool true)) rfl rfl rfl (r_move rfl) ?_
    refine s_sk (d := some 21) rfl rfl (wants_no rfl rfl rfl rfl rfl) ?_
    refine s_sk (d := some 22) rfl rfl (wants_no rfl rfl rfl rfl rfl) ?_
    refine s_sk (d := some 23) rfl rfl (wants_no rfl rfl rfl rfl rfl) ?_
    refine s_sk (d := some 24) rfl rfl (wants_no rfl rfl rfl rfl rfl) ?_
    refine s_skl (d := some 25) rfl rfl (wants_no rfl rfl rfl rfl rfl) ?_
    refine s_sk (d := some 26) rfl rfl (wants_no rfl rfl rfl rfl rfl) ?_
    refine s_sk (d := some 27) rfl rfl (wants_no rfl rfl rfl rfl rfl) ?_
    refine s_pu (d := some 28) (v := (.bool true)) rfl rfl rfl (r_pick1 rfl rfl rfl) ?_
    refine s_fin ?_
    exact N_mk (l := [(1, (Sl.v rows2)), (2, (.int .i64 i3)), (3, (.int .i64 j4)), (4, of5), (28, (.bool true))]) H ⟨rfl, rfl, rfl, rfl, rfl, trivial⟩
  · have H := H.2 g47
    refine s_pu (d := some 16) (v := (.int .i64 j4)) rfl rfl (wants_yes rfl rfl rfl rfl g47) (r_move rfl) ?_
    refine s_pu (d := some 17) (v := (.int .i64 i3)) rfl rfl (wants_yes rfl rfl rfl rfl g47) (r_move rfl) ?_
    refine s_pu (d := some 18) (v := (.bool (decide (j4 < i3)))) rfl rfl (wants_yes rfl rfl rfl rfl g47) (r_lss rfl rfl) ?_
    refine s_pu (d := some 19) (v := (.bool (decide (j4 < i3)))) rfl rfl rfl (r_pick0 rfl g47 rfl) ?_
    refine s_pu (d := some 20) (v := (.bool (decide (j4 < i3)))) rfl rfl rfl (r_move rfl) ?_
    rcases Bool.eq_false_or_eq_true (decide (j4 < i3)) with g48 | g48
    · have H := H.1 g48
      refine s_sk (d := some 21) rfl rfl (wants_no rfl rfl rfl rfl g48) ?_
      refine s_sk (d := some 22) rfl rfl (wants_no rfl rfl rfl rfl g48) ?_
      refine s_sk (d := some 23) rfl rfl (wants_no rfl rfl rfl rfl g48) ?_
      refine s_sk (d := some 24) rfl rfl (wants_no rfl rfl rfl rfl g48) ?_
      refine s_skl (d := some 25) rfl rfl (wants_no rfl rfl rfl rfl g48) ?_
      refine s_sk (d := some 26) rfl rfl (wants_no rfl rfl rfl rfl g48) ?_
      refine s_sk (d := some 27) rfl rfl (wants_no rfl rfl rfl rfl g48) ?_
      refine s_pu (d := some 28) (v := (.bool true)) rfl rfl rfl (r_pick1 rfl g48 rfl) ?_
      refine s_fin ?_
      exact N_mk (l := [(1, (Sl.v rows2)), (2, (.int .i64 i3)), (3, (.int .i64 j4)), (4, of5), (28, (.bool true))]) H ⟨rfl, rfl, rfl, rfl, rfl, trivial⟩
    · have H := H.2 g48
      refine s_pu (d := some 21) (v := (.int .i64 j4)) rfl rfl (wants_yes rfl rfl rfl rfl g48) (r_move rfl) ?_
      refine s_pu (d := some 22) (v := (.pointer t1)) rfl rfl (wants_yes rfl rfl rfl rfl g48) (r_move rfl) ?_
      obtain ⟨p49, e50, H⟩ := H
      refine s_pu (d := some 23) (v := (.pointer (some p49))) rfl rfl (wants_yes rfl rfl rfl rfl g48) (r_nilCheck rfl e50) ?_
      refine s_pu (d := some 24) (v := (.pointer (some (Addr.add p49 0)))) rfl rfl (wants_yes rfl rfl rfl rfl g48) (r_fieldAddr Try.underlying62 Try.sizeOf22 rfl rfl rfl) ?_
      obtain ⟨x51, e52, H⟩ := H
      refine s_rl (d := some 25) (v := (Sl.v x51)) rfl rfl (wants_yes rfl rfl rfl rfl g48) (fun dr => r_load1 Try.isAgg22 rfl e52) ?_
      refine s_pu (d := some 26) (v := (.int .i64 ((x51.len : Int)))) rfl rfl (wants_yes rfl rfl rfl rfl g48) (r_len Try.underlying22 rfl) ?_
      refine s_pu (d := some 27) (v := (.bool (decide (((x51.len : Int)) < j4)))) rfl rfl (wants_yes rfl rfl rfl rfl g48) (r_gtr rfl rfl) ?_
      refine s_pu (d := some 28) (v := (.bool (decide (((x51.len : Int)) < j4)))) rfl rfl rfl (r_pick0 rfl g48 rfl) ?_
      refine s_fin ?_
      exact N_mk (l := [(1, (Sl.v rows2)), (2, (.int .i64 i3)), (3, (.int .i64 j4)), (4, of5), (28, (.bool (decide (((x51.len : Int)) < j4))))]) H ⟨rfl, rfl, rfl, rfl, rfl, trivial⟩

/-! ### table_Table_Least -/

def table_Table_Least_F (r : World) (t1 : Option Addr) (i2 : Int) (j3 : Int) (h : Heap) (R : Int → Value → Heap → Prop) : Prop :=
  Ck t1 fun p4 =>
  LdS h (Addr.add p4 1) fun x6 =>
  table_Table_told r t1 x6 i2 j3 ((.func (.func 41) #[(.pointer t1)] #[])) h fun y8 y9 h1 =>
  R y8 y9 h1

set_option maxRecDepth 100000 in
theorem table_Table_Least_of {r : World} {t1 : Option Addr} {i2 : Int} {j3 : Int} {h : Heap} {R : Int → Value → Heap → Prop} (H : table_Table_Least_F r t1 i2 j3 h R) : table_Table_Least r t1 i2 j3 h R := by
  unfold table_Table_Least_F at H
  refine calls_of 20 [.tmp 6, .tmp 7] Try.func11 rfl rfl rfl rfl rfl ?_
  refine W_seq ?_
  refine W_region (.pu 0 (.pu 1 .fin)) rfl rfl ?_
  refine s_pu (d := some 6) (v := (.int .i64 0)) rfl rfl rfl (r_assign rfl) ?_
  refine s_pu (d := some 7) (v := .nilIface) rfl rfl rfl (r_assign rfl) ?_
  refine s_fin ?_
  show W _ _ _ _ _ _ _ _
  refine W_seq ?_
  refine W_region (.pu 0 (.pu 1 (.pu 2 (.pu 3 (.rl 4 (.pu 5 (.pu 6 (.pu 7 (.pu 8 (.ef 9 [] (.pu 10 (.pu 11 (.pu 12 (.pu 13 .fin)))) .no)))))))))) rfl rfl ?_
  refine s_pu (d := some 8) (v := (.pointer t1)) rfl rfl rfl (r_move rfl) ?_
  refine s_pu (d := some 9) (v := (.pointer t1)) rfl rfl rfl (r_move rfl) ?_
  obtain ⟨p4, e5, H⟩ := H
  refine s_pu (d := some 10) (v := (.pointer (some p4))) rfl rfl rfl (r_nilCheck rfl e5) ?_
  refine s_pu (d := some 11) (v := (.pointer (some (Addr.add p4 1)))) rfl rfl rfl (r_fieldAddr Try.underlying62 Try.sizeOf60 rfl rfl rfl) ?_
  obtain ⟨x6, e7, H⟩ := H
  refine s_rl (d := some 12) (v := (Sl.v x6)) rfl rfl rfl (fun dr => r_load1 Try.isAgg60 rfl e7) ?_
  refine s_pu (d := some 13) (v := (.int .i64 i2)) rfl rfl rfl (r_move rfl) ?_
  refine s_pu (d := some 14) (v := (.int .i64 j3)) rfl rfl rfl (r_move rfl) ?_
  refine s_pu (d := some 15) (v := (.pointer t1)) rfl rfl rfl (r_move rfl) ?_
  refine s_pu (d := some 16) (v := ((.func (.func 41) #[(.pointer t1)] #[]))) rfl rfl rfl (r_makeFunc rfl rfl) ?_
  refine s_ef (d := some 17) rfl rfl rfl (fun dr => r_call Try.call43 rfl rfl H) ?_ trivial
  rintro _ h1 ⟨y8, y9, rfl, H⟩
  refine ⟨trivial, ?_⟩
  refine s_pu (d := some 18) (v := (.int .i64 y8)) rfl rfl rfl (r_extract rfl rfl) ?_
  refine s_pu (d := some 19) (v := y9) rfl rfl rfl (r_extract rfl rfl) ?_
  refine s_pu (d := some 6) (v := (.int .i64 y8)) rfl rfl rfl (r_assign rfl) ?_
  refine s_pu (d := some 7) (v := y9) rfl rfl rfl (r_assign rfl) ?_
  refine s_fin ?_
  show W _ _ _ _ _ _ _ _
  refine W_ret ?_
  exact ⟨[(.int .i64 y8), y9], ⟨_, _, rfl, rfl, ⟨_, _, rfl, rfl, rfl⟩⟩, y8, y9, rfl, H⟩

/-! ### table_Table_Most -/

def table_Table_Most_F (r : World) (t1 : Option Addr) (i2 : Int) (j3 : Int) (h : Heap) (R : Int → Value → Heap → Prop) : Prop :=
  Ck t1 fun p4 =>
  LdS h (Addr.add p4 2) fun x6 =>
  table_Table_told r t1 x6 i2 j3 ((.func (.func 42) #[(.pointer t1)] #[])) h fun y8 y9 h1 =>
  R y8 y9 h1

set_option maxRecDepth 100000 in
theorem table_Table_Most_of {r : World} {t1 : Option Addr} {i2 : Int} {j3 : Int} {h : Heap} {R : Int → Value → Heap → Prop} (H : table_Table_Most_F r t1 i2 j3 h R) : table_Table_Most r t1 i2 j3 h R := by
  unfold table_Table_Most_F at H
  refine calls_of 20 [.tmp 6, .tmp 7] Try.func12 rfl rfl rfl rfl rfl ?_
  refine W_seq ?_
  refine W_region (.pu 0 (.pu 1 .fin)) rfl rfl ?_
  refine s_pu (d := some 6) (v := (.int .i64 0)) rfl rfl rfl (r_assign rfl) ?_
  refine s_pu (d := some 7) (v := .nilIface) rfl rfl rfl (r_assign rfl) ?_
  refine s_fin ?_
  show W _ _ _ _ _ _ _ _
  refine W_seq ?_
  refine W_region (.pu 0 (.pu 1 (.pu 2 (.pu 3 (.rl 4 (.pu 5 (.pu 6 (.pu 7 (.pu 8 (.ef 9 [] (.pu 10 (.pu 11 (.pu 12 (.pu 13 .fin)))) .no)))))))))) rfl rfl ?_
  refine s_pu (d := some 8) (v := (.pointer t1)) rfl rfl rfl (r_move rfl) ?_
  refine s_pu (d := some 9) (v := (.pointer t1)) rfl rfl rfl (r_move rfl) ?_
  obtain ⟨p4, e5, H⟩ := H
  refine s_pu (d := some 10) (v := (.pointer (some p4))) rfl rfl rfl (r_nilCheck rfl e5) ?_
  refine s_pu (d := some 11) (v := (.pointer (some (Addr.add p4 2)))) rfl rfl rfl (r_fieldAddr Try.underlying62 Try.sizeOf60 rfl rfl rfl) ?_
  obtain ⟨x6, e7, H⟩ := H
  refine s_rl (d := some 12) (v := (Sl.v x6)) rfl rfl rfl (fun dr => r_load1 Try.isAgg60 rfl e7) ?_
  refine s_pu (d := some 13) (v := (.int .i64 i2)) rfl rfl rfl (r_move rfl) ?_
  refine s_pu (d := some 14) (v := (.int .i64 j3)) rfl rfl rfl (r_move rfl) ?_
  refine s_pu (d := some 15) (v := (.pointer t1)) rfl rfl rfl (r_move rfl) ?_
  refine s_pu (d := some 16) (v := ((.func (.func 42) #[(.pointer t1)] #[]))) rfl rfl rfl (r_makeFunc rfl rfl) ?_
  refine s_ef (d := some 17) rfl rfl rfl (fun dr => r_call Try.call43 rfl rfl H) ?_ trivial
  rintro _ h1 ⟨y8, y9, rfl, H⟩
  refine ⟨trivial, ?_⟩
  refine s_pu (d := some 18) (v := (.int .i64 y8)) rfl rfl rfl (r_extract rfl rfl) ?_
  refine s_pu (d := some 19) (v := y9) rfl rfl rfl (r_extract rfl rfl) ?_
  refine s_pu (d := some 6) (v := (.int .i64 y8)) rfl rfl rfl (r_assign rfl) ?_
  refine s_pu (d := some 7) (v := y9) rfl rfl rfl (r_assign rfl) ?_
  refine s_fin ?_
  show W _ _ _ _ _ _ _ _
  refine W_ret ?_
  exact ⟨[(.int .i64 y8), y9], ⟨_, _, rfl, rfl, ⟨_, _, rfl, rfl, rfl⟩⟩, y8, y9, rfl, H⟩

/-! ### table_Table_Rows -/

def table_Table_Rows_F (r : World) (t1 : Option Addr) (h : Heap) (R : Int → Heap → Prop) : Prop :=
  Ck t1 fun p2 =>
  LdS h (Addr.add p2 1) fun x4 =>
  R ((x4.len : Int)) h

set_option maxRecDepth 100000 in
theorem table_Table_Rows_of {r : World} {t1 : Option Addr} {h : Heap} {R : Int → Heap → Prop} (H : table_Table_Rows_F r t1 h R) : table_Table_Rows r t1 h R := by
  unfold table_Table_Rows_F at H
  refine calls_of 8 [.tmp 2] Try.func38 rfl rfl rfl rfl rfl ?_
  refine W_seq ?_
  refine W_region (.pu 0 .fin) rfl rfl ?_
  refine s_pu (d := some 2) (v := (.int .i64 0)) rfl rfl rfl (r_assign rfl) ?_
  refine s_fin ?_
  show W _ _ _ _ _ _ _ _
  refine W_seq ?_
  refine W_region (.pu 0 (.pu 1 (.pu 2 (.rl 3 (.pu 4 (.pu 5 .fin)))))) rfl rfl ?_
  refine s_pu (d := some 3) (v := (.pointer t1)) rfl rfl rfl (r_move rfl) ?_
  obtain ⟨p2, e3, H⟩ := H
  refine s_pu (d := some 4) (v := (.pointer (some p2))) rfl rfl rfl (r_nilCheck rfl e3) ?_
  refine s_pu (d := some 5) (v := (.pointer (some (Addr.add p2 1)))) rfl rfl rfl (r_fieldAddr Try.underlying62 Try.sizeOf60 rfl rfl rfl) ?_
  obtain ⟨x4, e5, H⟩ := H
  refine s_rl (d := some 6) (v := (Sl.v x4)) rfl rfl rfl (fun dr => r_load1 Try.isAgg60 rfl e5) ?_
  refine s_pu (d := some 7) (v := (.int .i64 ((x4.len : Int)))) rfl rfl rfl (r_len Try.underlying60 rfl) ?_
  refine s_pu (d := some 2) (v := (.int .i64 ((x4.len : Int)))) rfl rfl rfl (r_assign rfl) ?_
  refine s_fin ?_
  show W _ _ _ _ _ _ _ _
  refine W_ret ?_
  exact ⟨[(.int .i64 ((x4.len : Int)))], ⟨_, _, rfl, rfl, rfl⟩, ((x4.len : Int)), rfl, H⟩

/-! ### law5_tabled -/

def law5_tabled_F (r : World)  (h : Heap) (R : Bool → Heap → Prop) : Prop :=
  New h (.cells #[(.int .i64 5), (.int .i64 3), (.int .i64 3)] 3) fun p1 h1 =>
  table_New r ((⟨some p1, 3, 3⟩ : Sl)) h1 fun y4 y5 h2 =>
  (isIface y5 = true) ∧
  Br ((!(isNil y5)) || (Option.isNone y4)) (
    R false h2) (
    table_Table_Least r y4 0 3 h2 fun y10 y11 h3 =>
    ∀ J13 : Bool → Heap → Prop, (∀ (x12 : Bool) (h4 : Heap),
      (R x12 h4) →
      J13 x12 h4) →
    (isIface y11 = true) ∧
    Br (isNil y11) (
      Br (decide (y10 = 1)) (
        table_Table_Rows r y4 h3 fun y18 h5 =>
        J13 (decide (y18 = 2)) h5) (
        J13 false h3)) (
      J13 false h3))

set_option maxRecDepth 100000 in
theorem law5_tabled_of {r : World}  {h : Heap} {R : Bool → Heap → Prop} (H : law5_tabled_F r  h R) : law5_tabled r  h R := by
  unfold law5_tabled_F at H
  refine calls_of 32 [.tmp 0] Try.func9 rfl rfl rfl rfl rfl ?_
  refine W_seq ?_
  refine W_region (.pu 0 .fin) rfl rfl ?_
  refine s_pu (d := some 0) (v := (.bool false)) rfl rfl rfl (r_assign rfl) ?_
  refine s_fin ?_
  show W _ _ _ _ _ _ _ _
  refine W_seq ?_
  refine W_region (.ef 0 [] (.ef 1 [] (.pu 2 (.pu 3 (.pu 4 (.pu 5 (.pu 6 .fin))))) .no) .no) rfl rfl ?_
  obtain ⟨p1, e2⟩ : ∃ p : Addr, p = ⟨h.size, 0, none⟩ := ⟨_, rfl⟩
  obtain ⟨h1, e3⟩ : ∃ hh : Heap, hh = h.push (.cells #[(.int .i64 5), (.int .i64 3), (.int .i64 3)] 3) := ⟨_, rfl⟩
  have H := H p1 h1 e2 e3
  refine s_ef1 (d := some 6) (v := (Sl.v ((⟨some p1, 3, 3⟩ : Sl)))) (h' := h1) rfl rfl rfl (fun dr => (slFTab_22.build (cells := #[(.int .i64 5), (.int .i64 3), (.int .i64 3)]) (by decide) rfl (by kernel_rfl)).trans (by rw [e2, e3]; rfl)) trivial ?_ trivial
  refine s_ef (d := some 7) rfl rfl rfl (fun dr => r_call Try.call10 rfl rfl H) ?_ trivial
  rintro _ h2 ⟨y4, y5, rfl, H⟩
  refine ⟨trivial, ?_⟩
  refine s_pu (d := some 5) (v := (.tuple #[(.pointer y4), y5])) rfl rfl rfl (r_move rfl) ?_
  refine s_pu (d := some 8) (v := (.pointer y4)) rfl rfl rfl (r_extract rfl rfl) ?_
  refine s_pu (d := some 9) (v := y5) rfl rfl rfl (r_extract rfl rfl) ?_
  refine s_pu (d := some 1) (v := (.pointer y4)) rfl rfl rfl (r_assign rfl) ?_
  refine s_pu (d := some 2) (v := y5) rfl rfl rfl (r_assign rfl) ?_
  refine s_fin ?_
  show W _ _ _ _ _ _ _ _
  refine W_seq ?_
  refine W_seq ?_
  refine W_region (.pu 0 (.pu 1 (.pu 2 (.pu 3 (.pu 4 (.pu 5 .fin)))))) rfl rfl ?_
  refine s_pu (d := some 10) (v := y5) rfl rfl rfl (r_move rfl) ?_
  obtain ⟨e6, H⟩ := H
  refine s_pu (d := some 11) (v := (.bool (!(isNil y5)))) rfl rfl rfl (r_notNilI Try.underlying26 rfl e6 rfl) ?_
  refine s_pu (d := some 12) (v := (.bool (!(isNil y5)))) rfl rfl rfl (r_move rfl) ?_
  refine S_meet (l := [(1, (.pointer y4)), (15, (.bool ((!(isNil y5)) || (Option.isNone y4))))]) (i := 3) ?_ (fun HJ => ?_)
  · intro b
    show S _ _ _ _ _ _
    refine s_fin ?_
    show W _ _ _ _ _ _ _ _
    refine W_if ((!(isNil y5)) || (Option.isNone y4)) rfl (fun g19 => ?_) (fun g19 => ?_)
    · have H := H.1 g19
      refine W_seq ?_
      refine W_region (.pu 0 .fin) rfl rfl ?_
      refine s_pu (d := some 0) (v := (.bool false)) rfl rfl rfl (r_assign rfl) ?_
      refine s_fin ?_
      show W _ _ _ _ _ _ _ _
      refine W_ret ?_
      exact ⟨[(.bool false)], ⟨_, _, rfl, rfl, rfl⟩, false, rfl, H⟩
    · have H := H.2 g19
      refine W_skip ?_
      show W _ _ _ _ _ _ _ _
      refine W_seq ?_
      refine W_region (.pu 0 (.ef 1 [] (.pu 2 (.pu 3 (.pu 4 (.pu 5 (.pu 6 .fin))))) .no)) rfl rfl ?_
      refine s_pu (d := some 17) (v := (.pointer y4)) rfl rfl rfl (r_move rfl) ?_
      refine s_ef (d := some 18) rfl rfl rfl (fun dr => r_call Try.call11 rfl rfl H) ?_ trivial
      rintro _ h3 ⟨y10, y11, rfl, H⟩
      refine ⟨trivial, ?_⟩
      refine s_pu (d := some 16) (v := (.tuple #[(.int .i64 y10), y11])) rfl rfl rfl (r_move rfl) ?_
      refine s_pu (d := some 19) (v := (.int .i64 y10)) rfl rfl rfl (r_extract rfl rfl) ?_
      refine s_pu (d := some 20) (v := y11) rfl rfl rfl (r_extract rfl rfl) ?_
      refine s_pu (d := some 3) (v := (.int .i64 y10)) rfl rfl rfl (r_assign rfl) ?_
      refine s_pu (d := some 4) (v := y11) rfl rfl rfl (r_assign rfl) ?_
      refine s_fin ?_
      show W _ _ _ _ _ _ _ _
      refine W_seq ?_
      refine W_set ?_
      intro N14 eN14
      have H := H (fun (x12 : Bool) (h4 : Heap) => ∀ b, N14 [] (mkE [(0, (.bool x12))] b) h4) (by
        intro x12 h4 H b
        rw [eN14]
        show W _ _ _ _ _ _ _ _
        refine W_ret ?_
        exact ⟨[(.bool x12)], ⟨_, _, rfl, rfl, rfl⟩, x12, rfl, H⟩)
      clear eN14
      refine W_region (.pu 0 (.pu 1 (.pu 2 (.pu 3 (.pu 4 (.pu 5 (.pu 6 (.pu 7 (.ef 8 [] (.pu 9 (.pu 10 (.pu 11 .fin))) .no))))))))) rfl rfl ?_
      refine s_pu (d := some 21) (v := y11) rfl rfl rfl (r_move rfl) ?_
      obtain ⟨e15, H⟩ := H
      refine s_pu (d := some 22) (v := (.bool (isNil y11))) rfl rfl rfl (r_nilI Try.underlying26 rfl e15 rfl) ?_
      refine s_pu (d := some 23) (v := (.bool (isNil y11))) rfl rfl rfl (r_move rfl) ?_
      rcases Bool.eq_false_or_eq_true (isNil y11) with g16 | g16
      · have H := H.1 g16
        refine s_pu (d := some 24) (v := (.int .i64 y10)) rfl rfl (wants_yes rfl rfl rfl rfl g16) (r_move rfl) ?_
        refine s_pu (d := some 25) (v := (.bool (decide (y10 = 1)))) rfl rfl (wants_yes rfl rfl rfl rfl g16) (r_eql rfl rfl) ?_
        refine s_pu (d := some 26) (v := (.bool (decide (y10 = 1)))) rfl rfl rfl (r_pick1 rfl g16 rfl) ?_
        refine s_pu (d := some 27) (v := (.bool (decide (y10 = 1)))) rfl rfl rfl (r_move rfl) ?_
        rcases Bool.eq_false_or_eq_true (decide (y10 = 1)) with g17 | g17
        · have H := H.1 g17
          refine s_pu (d := some 28) (v := (.pointer y4)) rfl rfl (wants_yes rfl rfl rfl rfl g17) (r_move rfl) ?_
          refine s_ef (d := some 29) rfl rfl (wants_yes rfl rfl rfl rfl g17) (fun dr => r_call Try.call38 rfl rfl H) ?_ trivial
          rintro _ h5 ⟨y18, rfl, H⟩
          refine ⟨trivial, ?_⟩
          refine s_pu (d := some 30) (v := (.bool (decide (y18 = 2)))) rfl rfl (wants_yes rfl rfl rfl rfl g17) (r_eql rfl rfl) ?_
          refine s_pu (d := some 31) (v := (.bool (decide (y18 = 2)))) rfl rfl rfl (r_pick1 rfl g17 rfl) ?_
          refine s_pu (d := some 0) (v := (.bool (decide (y18 = 2)))) rfl rfl rfl (r_assign rfl) ?_
          refine s_fin ?_
          exact N_mk (l := [(0, (.bool (decide (y18 = 2))))]) H ⟨rfl, trivial⟩
        · have H := H.2 g17
          refine s_sk (d := some 28) rfl rfl (wants_no rfl rfl rfl rfl g17) ?_
          refine s_skf (d := some 29) rfl rfl (wants_no rfl rfl rfl rfl g17) trivial ?_ trivial
          refine s_sk (d := some 30) rfl rfl (wants_no rfl rfl rfl rfl g17) ?_
          refine s_pu (d := some 31) (v := (.bool false)) rfl rfl rfl (r_pick0 rfl g17 rfl) ?_
          refine s_pu (d := some 0) (v := (.bool false)) rfl rfl rfl (r_assign rfl) ?_
          refine s_fin ?_
          exact N_mk (l := [(0, (.bool false))]) H ⟨rfl, trivial⟩
      · have H := H.2 g16
        refine s_sk (d := some 24) rfl rfl (wants_no rfl rfl rfl rfl g16) ?_
        refine s_sk (d := some 25) rfl rfl (wants_no rfl rfl rfl rfl g16) ?_
        refine s_pu (d := some 26) (v := (.bool false)) rfl rfl rfl (r_pick0 rfl g16 rfl) ?_
        refine s_pu (d := some 27) (v := (.bool false)) rfl rfl rfl (r_move rfl) ?_
        refine s_sk (d := some 28) rfl rfl (wants_no rfl rfl rfl rfl rfl) ?_
        refine s_skf (d := some 29) rfl rfl (wants_no rfl rfl rfl rfl rfl) trivial ?_ trivial
        refine s_sk (d := some 30) rfl rfl (wants_no rfl rfl rfl rfl rfl) ?_
        refine s_pu (d := some 31) (v := (.bool false)) rfl rfl rfl (r_pick0 rfl rfl rfl) ?_
        refine s_pu (d := some 0) (v := (.bool false)) rfl rfl rfl (r_assign rfl) ?_
        refine s_fin ?_
        exact N_mk (l := [(0, (.bool false))]) H ⟨rfl, trivial⟩
  · rcases Bool.eq_false_or_eq_true (!(isNil y5)) with g7 | g7
    · refine s_sk (d := some 13) rfl rfl (wants_no rfl rfl rfl rfl g7) ?_
      refine s_sk (d := some 14) rfl rfl (wants_no rfl rfl rfl rfl g7) ?_
      refine s_pu (d := some 15) (v := (.bool true)) rfl rfl rfl (r_pick1 rfl g7 rfl) ?_
      exact S_mk (l := [(1, (.pointer y4)), (15, (.bool ((!(isNil y5)) || (Option.isNone y4))))]) HJ ⟨rfl, (by rw [g7]; rfl), trivial⟩
    · refine s_pu (d := some 13) (v := (.pointer y4)) rfl rfl (wants_yes rfl rfl rfl rfl g7) (r_move rfl) ?_
      refine s_pu (d := some 14) (v := (.bool (Option.isNone y4))) rfl rfl (wants_yes rfl rfl rfl rfl g7) (r_nilP Try.underlying24 rfl rfl) ?_
      refine s_pu (d := some 15) (v := (.bool (Option.isNone y4))) rfl rfl rfl (r_pick0 rfl g7 rfl) ?_
      exact S_mk (l := [(1, (.pointer y4)), (15, (.bool ((!(isNil y5)) || (Option.isNone y4))))]) HJ ⟨rfl, (by rw [g7]; rfl), trivial⟩

/-! ### law5_TableParts -/

def law5_TableParts_F (r : World) (l1 : Sl) (i2 : Int) (j3 : Int) (a4 : Int) (vb5 : Int) (k6 : Int) (h : Heap) (R : Bool → Heap → Prop) : Prop :=
  law5_tabled r h fun y7 h1 =>
  table_New r l1 h1 fun y8 y9 h2 =>
  Br (!y7) (
    R false h2) (
    (isIface y9 = true) ∧
    Br (((((((!(isNil y9)) || (Option.isNone y8)) || (decide (i2 < 0))) || (decide (vb5 ≤ i2))) || (decide (a4 < vb5))) || (decide (j3 ≤ a4))) || (decide (((l1.len : Int)) < j3))) (
      (isIface y9 = true) ∧
      R ((!(isNil y9)) || (!(Option.isNone y8))) h2) (
      table_Table_Least r y8 i2 a4 h2 fun y34 y35 h3 =>
      table_Table_Least r y8 vb5 j3 h3 fun y36 y37 h4 =>
      table_Table_Least r y8 i2 j3 h4 fun y38 y39 h5 =>
      table_Table_Most r y8 i2 j3 h5 fun y40 y41 h6 =>
      (isIface y35 = true) ∧
      (isIface y37 = true) ∧
      (isIface y39 = true) ∧
      (isIface y41 = true) ∧
      Br ((((((((((((!(isNil y35)) || (!(isNil y37))) || (!(isNil y39))) || (!(isNil y41))) || (decide (y34 < i2))) || (decide (a4 ≤ y34))) || (decide (y36 < vb5))) || (decide (j3 ≤ y36))) || (decide (y38 < i2))) || (decide (j3 ≤ y38))) || (decide (y40 < i2))) || (decide (j3 ≤ y40))) (
        R false h6) (
        ∀ J80 : Bool → Prop, (∀ (x79 : Bool),
          (Br x79 (
            R false h6) (
            ∀ J83 : Bool → Prop, (∀ (x82 : Bool),
              (R x82 h6) →
              J83 x82) →
            Br (decide (k6 < i2)) (
              J83 true) (
              Br (decide (j3 ≤ k6)) (
                J83 true) (
                Ix l1 y38 1 fun q91 =>
                LdI h6 q91 fun x93 =>
                Ix l1 k6 1 fun q99 =>
                LdI h6 q99 fun x101 =>
                Br (decide (x93 ≤ x101)) (
                  Ix l1 k6 1 fun q108 =>
                  LdI h6 q108 fun x110 =>
                  Ix l1 y40 1 fun q116 =>
                  LdI h6 q116 fun x118 =>
                  J83 (decide (x110 ≤ x118))) (
                  J83 false))))) →
          J80 x79) →
        Ix l1 y38 1 fun q125 =>
        LdI h6 q125 fun x127 =>
        Ix l1 y34 1 fun q133 =>
        LdI h6 q133 fun x135 =>
        Ix l1 y36 1 fun q141 =>
        LdI h6 q141 fun x143 =>
        Br (!decide (x127 = (min x135 x143))) (
          J80 true) (
          Ix l1 y34 1 fun q150 =>
          LdI h6 q150 fun x152 =>
          Ix l1 y36 1 fun q158 =>
          LdI h6 q158 fun x160 =>
          Br (decide (x152 ≤ x160)) (
            J80 (!decide (y38 = y34))) (
            J80 false)))))

set_option maxRecDepth 100000 in
theorem law5_TableParts_of {r : World} {l1 : Sl} {i2 : Int} {j3 : Int} {a4 : Int} {vb5 : Int} {k6 : Int} {h : Heap} {R : Bool → Heap → Prop} (H : law5_TableParts_F r l1 i2 j3 a4 vb5 k6 h R) : law5_TableParts r l1 i2 j3 a4 vb5 k6 h R := by
  unfold law5_TableParts_F at H
  refine calls_of 211 [.tmp 12] Try.func3 rfl rfl rfl rfl rfl ?_
  refine W_seq ?_
  refine W_region (.pu 0 .fin) rfl rfl ?_
  refine s_pu (d := some 12) (v := (.bool false)) rfl rfl rfl (r_assign rfl) ?_
  refine s_fin ?_
  show W _ _ _ _ _ _ _ _
  refine W_seq ?_
  refine W_region (.ef 0 [] (.pu 1 .fin) .no) rfl rfl ?_
  refine s_ef (d := some 24) rfl rfl rfl (fun dr => r_call Try.call9 rfl rfl H) ?_ trivial
  rintro _ h1 ⟨y7, rfl, H⟩
  refine ⟨trivial, ?_⟩
  refine s_pu (d := some 13) (v := (.bool y7)) rfl rfl rfl (r_assign rfl) ?_
  refine s_fin ?_
  show W _ _ _ _ _ _ _ _
  refine W_seq ?_
  refine W_region (.pu 0 (.ef 1 [] (.pu 2 (.pu 3 (.pu 4 (.pu 5 (.pu 6 .fin))))) .no)) rfl rfl ?_
  refine s_pu (d := some 26) (v := (Sl.v l1)) rfl rfl rfl (r_move rfl) ?_
  refine s_ef (d := some 27) rfl rfl rfl (fun dr => r_call Try.call10 rfl rfl H) ?_ trivial
  rintro _ h2 ⟨y8, y9, rfl, H⟩
  refine ⟨trivial, ?_⟩
  refine s_pu (d := some 25) (v := (.tuple #[(.pointer y8), y9])) rfl rfl rfl (r_move rfl) ?_
  refine s_pu (d := some 28) (v := (.pointer y8)) rfl rfl rfl (r_extract rfl rfl) ?_
  refine s_pu (d := some 29) (v := y9) rfl rfl rfl (r_extract rfl rfl) ?_
  refine s_pu (d := some 14) (v := (.pointer y8)) rfl rfl rfl (r_assign rfl) ?_
  refine s_pu (d := some 15) (v := y9) rfl rfl rfl (r_assign rfl) ?_
  refine s_fin ?_
  show W _ _ _ _ _ _ _ _
  refine W_seq ?_
  refine W_seq ?_
  refine W_region (.pu 0 (.pu 1 .fin)) rfl rfl ?_
  refine s_pu (d := some 30) (v := (.bool y7)) rfl rfl rfl (r_move rfl) ?_
  refine s_pu (d := some 31) (v := (.bool (!y7))) rfl rfl rfl (r_not rfl) ?_
  refine s_fin ?_
  show W _ _ _ _ _ _ _ _
  refine W_if (!y7) rfl (fun g182 => ?_) (fun g182 => ?_)
  · have H := H.1 g182
    refine W_seq ?_
    refine W_region (.pu 0 .fin) rfl rfl ?_
    refine s_pu (d := some 12) (v := (.bool false)) rfl rfl rfl (r_assign rfl) ?_
    refine s_fin ?_
    show W _ _ _ _ _ _ _ _
    refine W_ret ?_
    exact ⟨[(.bool false)], ⟨_, _, rfl, rfl, rfl⟩, false, rfl, H⟩
  · have H := H.2 g182
    refine W_skip ?_
    show W _ _ _ _ _ _ _ _
    refine W_seq ?_
    refine W_seq ?_
    refine W_region (.pu 0 (.pu 1 (.pu 2 (.pu 3 (.pu 4 (.pu 5 (.pu 6 (.pu 7 (.pu 8 (.pu 9 (.pu 10 (.pu 11 (.pu 12 (.pu 13 (.pu 14 (.pu 15 (.pu 16 (.pu 17 (.pu 18 (.pu 19 (.pu 20 (.pu 21 (.pu 22 (.pu 23 (.pu 24 (.pu 25 (.pu 26 (.pu 27 (.pu 28 (.pu 29 (.pu 30 .fin))))))))))))))))))))))))))))))) rfl rfl ?_
    refine s_pu (d := some 32) (v := y9) rfl rfl rfl (r_move rfl) ?_
    obtain ⟨e10, H⟩ := H
    refine s_pu (d := some 33) (v := (.bool (!(isNil y9)))) rfl rfl rfl (r_notNilI Try.underlying26 rfl e10 rfl) ?_
    refine s_pu (d := some 34) (v := (.bool (!(isNil y9)))) rfl rfl rfl (r_move rfl) ?_
    refine S_meet (l := [(0, (Sl.v l1)), (1, (.int .i64 i2)), (2, (.int .i64 j3)), (3, (.int .i64 a4)), (4, (.int .i64 vb5)), (5, (.int .i64 k6)), (14, (.pointer y8)), (15, y9), (37, (.bool ((!(isNil y9)) || (Option.isNone y8))))]) (i := 3) ?_ (fun HJ => ?_)
    · intro b
      show S _ _ _ _ _ _
      refine s_pu (d := some 38) (v := (.bool ((!(isNil y9)) || (Option.isNone y8)))) rfl rfl rfl (r_move rfl) ?_
      refine S_meet (l := [(0, (Sl.v l1)), (1, (.int .i64 i2)), (2, (.int .i64 j3)), (3, (.int .i64 a4)), (4, (.int .i64 vb5)), (5, (.int .i64 k6)), (14, (.pointer y8)), (15, y9), (41, (.bool (((!(isNil y9)) || (Option.isNone y8)) || (decide (i2 < 0)))))]) (i := 3) ?_ (fun HJ => ?_)
      · intro b
        show S _ _ _ _ _ _
        refine s_pu (d := some 42) (v := (.bool (((!(isNil y9)) || (Option.isNone y8)) || (decide (i2 < 0))))) rfl rfl rfl (r_move rfl) ?_
        refine S_meet (l := [(0, (Sl.v l1)), (1, (.int .i64 i2)), (2, (.int .i64 j3)), (3, (.int .i64 a4)), (4, (.int .i64 vb5)), (5, (.int .i64 k6)), (14, (.pointer y8)), (15, y9), (46, (.bool ((((!(isNil y9)) || (Option.isNone y8)) || (decide (i2 < 0))) || (decide (vb5 ≤ i2)))))]) (i := 4) ?_ (fun HJ => ?_)
        · intro b
          show S _ _ _ _ _ _
          refine s_pu (d := some 47) (v := (.bool ((((!(isNil y9)) || (Option.isNone y8)) || (decide (i2 < 0))) || (decide (vb5 ≤ i2))))) rfl rfl rfl (r_move rfl) ?_
          refine S_meet (l := [(0, (Sl.v l1)), (1, (.int .i64 i2)), (2, (.int .i64 j3)), (3, (.int .i64 a4)), (4, (.int .i64 vb5)), (5, (.int .i64 k6)), (14, (.pointer y8)), (15, y9), (51, (.bool (((((!(isNil y9)) || (Option.isNone y8)) || (decide (i2 < 0))) || (decide (vb5 ≤ i2))) || (decide (a4 < vb5)))))]) (i := 4) ?_ (fun HJ => ?_)
          · intro b
            show S _ _ _ _ _ _
            refine s_pu (d := some 52) (v := (.bool (((((!(isNil y9)) || (Option.isNone y8)) || (decide (i2 < 0))) || (decide (vb5 ≤ i2))) || (decide (a4 < vb5))))) rfl rfl rfl (r_move rfl) ?_
            refine S_meet (l := [(0, (Sl.v l1)), (1, (.int .i64 i2)), (2, (.int .i64 j3)), (3, (.int .i64 a4)), (4, (.int .i64 vb5)), (5, (.int .i64 k6)), (14, (.pointer y8)), (15, y9), (56, (.bool ((((((!(isNil y9)) || (Option.isNone y8)) || (decide (i2 < 0))) || (decide (vb5 ≤ i2))) || (decide (a4 < vb5))) || (decide (j3 ≤ a4)))))]) (i := 4) ?_ (fun HJ => ?_)
            · intro b
              show S _ _ _ _ _ _
              refine s_pu (d := some 57) (v := (.bool ((((((!(isNil y9)) || (Option.isNone y8)) || (decide (i2 < 0))) || (decide (vb5 ≤ i2))) || (decide (a4 < vb5))) || (decide (j3 ≤ a4))))) rfl rfl rfl (r_move rfl) ?_
              refine S_meet (l := [(0, (Sl.v l1)), (1, (.int .i64 i2)), (2, (.int .i64 j3)), (3, (.int .i64 a4)), (4, (.int .i64 vb5)), (5, (.int .i64 k6)), (14, (.pointer y8)), (15, y9), (62, (.bool (((((((!(isNil y9)) || (Option.isNone y8)) || (decide (i2 < 0))) || (decide (vb5 ≤ i2))) || (decide (a4 < vb5))) || (decide (j3 ≤ a4))) || (decide (((l1.len : Int)) < j3)))))]) (i := 5) ?_ (fun HJ => ?_)
              · intro b
                show S _ _ _ _ _ _
                refine s_fin ?_
                show W _ _ _ _ _ _ _ _
                refine W_if (((((((!(isNil y9)) || (Option.isNone y8)) || (decide (i2 < 0))) || (decide (vb5 ≤ i2))) || (decide (a4 < vb5))) || (decide (j3 ≤ a4))) || (decide (((l1.len : Int)) < j3))) rfl (fun g175 => ?_) (fun g175 => ?_)
                · have H := H.1 g175
                  refine W_seq ?_
                  refine W_region (.pu 0 (.pu 1 (.pu 2 (.pu 3 (.pu 4 (.pu 5 (.pu 6 .fin))))))) rfl rfl ?_
                  refine s_pu (d := some 63) (v := y9) rfl rfl rfl (r_move rfl) ?_
                  obtain ⟨e29, H⟩ := H
                  refine s_pu (d := some 64) (v := (.bool (!(isNil y9)))) rfl rfl rfl (r_notNilI Try.underlying26 rfl e29 rfl) ?_
                  refine s_pu (d := some 65) (v := (.bool (!(isNil y9)))) rfl rfl rfl (r_move rfl) ?_
                  refine S_meet (l := [(68, (.bool ((!(isNil y9)) || (!(Option.isNone y8)))))]) (i := 3) ?_ (fun HJ => ?_)
                  · intro b
                    show S _ _ _ _ _ _
                    refine s_pu (d := some 12) (v := (.bool ((!(isNil y9)) || (!(Option.isNone y8))))) rfl rfl rfl (r_assign rfl) ?_
                    refine s_fin ?_
                    show W _ _ _ _ _ _ _ _
                    refine W_ret ?_
                    exact ⟨[(.bool ((!(isNil y9)) || (!(Option.isNone y8))))], ⟨_, _, rfl, rfl, rfl⟩, ((!(isNil y9)) || (!(Option.isNone y8))), rfl, H⟩
                  · rcases Bool.eq_false_or_eq_true (!(isNil y9)) with g30 | g30
                    · refine s_sk (d := some 66) rfl rfl (wants_no rfl rfl rfl rfl g30) ?_
                      refine s_sk (d := some 67) rfl rfl (wants_no rfl rfl rfl rfl g30) ?_
                      refine s_pu (d := some 68) (v := (.bool true)) rfl rfl rfl (r_pick1 rfl g30 rfl) ?_
                      exact S_mk (l := [(68, (.bool ((!(isNil y9)) || (!(Option.isNone y8)))))]) HJ ⟨(by rw [g30]; rfl), trivial⟩
                    · refine s_pu (d := some 66) (v := (.pointer y8)) rfl rfl (wants_yes rfl rfl rfl rfl g30) (r_move rfl) ?_
                      refine s_pu (d := some 67) (v := (.bool (!(Option.isNone y8)))) rfl rfl (wants_yes rfl rfl rfl rfl g30) (r_notNilP Try.underlying24 rfl rfl) ?_
                      refine s_pu (d := some 68) (v := (.bool (!(Option.isNone y8)))) rfl rfl rfl (r_pick0 rfl g30 rfl) ?_
                      exact S_mk (l := [(68, (.bool ((!(isNil y9)) || (!(Option.isNone y8)))))]) HJ ⟨(by rw [g30]; rfl), trivial⟩
                · have H := H.2 g175
                  refine W_skip ?_
                  show W _ _ _ _ _ _ _ _
                  refine W_seq ?_
                  refine W_region (.pu 0 (.pu 1 (.pu 2 (.ef 3 [] (.pu 4 (.pu 5 (.pu 6 (.pu 7 (.pu 8 .fin))))) .no)))) rfl rfl ?_
                  refine s_pu (d := some 70) (v := (.pointer y8)) rfl rfl rfl (r_move rfl) ?_
                  refine s_pu (d := some 71) (v := (.int .i64 i2)) rfl rfl rfl (r_move rfl) ?_
                  refine s_pu (d := some 72) (v := (.int .i64 a4)) rfl rfl rfl (r_move rfl) ?_
                  refine s_ef (d := some 73) rfl rfl rfl (fun dr => r_call Try.call11 rfl rfl H) ?_ trivial
                  rintro _ h3 ⟨y34, y35, rfl, H⟩
                  refine ⟨trivial, ?_⟩
                  refine s_pu (d := some 69) (v := (.tuple #[(.int .i64 y34), y35])) rfl rfl rfl (r_move rfl) ?_
                  refine s_pu (d := some 74) (v := (.int .i64 y34)) rfl rfl rfl (r_extract rfl rfl) ?_
                  refine s_pu (d := some 75) (v := y35) rfl rfl rfl (r_extract rfl rfl) ?_
                  refine s_pu (d := some 16) (v := (.int .i64 y34)) rfl rfl rfl (r_assign rfl) ?_
                  refine s_pu (d := some 17) (v := y35) rfl rfl rfl (r_assign rfl) ?_
                  refine s_fin ?_
                  show W _ _ _ _ _ _ _ _
                  refine W_seq ?_
                  refine W_region (.pu 0 (.pu 1 (.pu 2 (.ef 3 [] (.pu 4 (.pu 5 (.pu 6 (.pu 7 (.pu 8 .fin))))) .no)))) rfl rfl ?_
                  refine s_pu (d := some 77) (v := (.pointer y8)) rfl rfl rfl (r_move rfl) ?_
                  refine s_pu (d := some 78) (v := (.int .i64 vb5)) rfl rfl rfl (r_move rfl) ?_
                  refine s_pu (d := some 79) (v := (.int .i64 j3)) rfl rfl rfl (r_move rfl) ?_
                  refine s_ef (d := some 80) rfl rfl rfl (fun dr => r_call Try.call11 rfl rfl H) ?_ trivial
                  rintro _ h4 ⟨y36, y37, rfl, H⟩
                  refine ⟨trivial, ?_⟩
                  refine s_pu (d := some 76) (v := (.tuple #[(.int .i64 y36), y37])) rfl rfl rfl (r_move rfl) ?_
                  refine s_pu (d := some 81) (v := (.int .i64 y36)) rfl rfl rfl (r_extract rfl rfl) ?_
                  refine s_pu (d := some 82) (v := y37) rfl rfl rfl (r_extract rfl rfl) ?_
                  refine s_pu (d := some 18) (v := (.int .i64 y36)) rfl rfl rfl (r_assign rfl) ?_
                  refine s_pu (d := some 19) (v := y37) rfl rfl rfl (r_assign rfl) ?_
                  refine s_fin ?_
                  show W _ _ _ _ _ _ _ _
                  refine W_seq ?_
                  refine W_region (.pu 0 (.pu 1 (.pu 2 (.ef 3 [] (.pu 4 (.pu 5 (.pu 6 (.pu 7 (.pu 8 .fin))))) .no)))) rfl rfl ?_
                  refine s_pu (d := some 84) (v := (.pointer y8)) rfl rfl rfl (r_move rfl) ?_
                  refine s_pu (d := some 85) (v := (.int .i64 i2)) rfl rfl rfl (r_move rfl) ?_
                  refine s_pu (d := some 86) (v := (.int .i64 j3)) rfl rfl rfl (r_move rfl) ?_
                  refine s_ef (d := some 87) rfl rfl rfl (fun dr => r_call Try.call11 rfl rfl H) ?_ trivial
                  rintro _ h5 ⟨y38, y39, rfl, H⟩
                  refine ⟨trivial, ?_⟩
                  refine s_pu (d := some 83) (v := (.tuple #[(.int .i64 y38), y39])) rfl rfl rfl (r_move rfl) ?_
                  refine s_pu (d := some 88) (v := (.int .i64 y38)) rfl rfl rfl (r_extract rfl rfl) ?_
                  refine s_pu (d := some 89) (v := y39) rfl rfl rfl (r_extract rfl rfl) ?_
                  refine s_pu (d := some 20) (v := (.int .i64 y38)) rfl rfl rfl (r_assign rfl) ?_
                  refine s_pu (d := some 21) (v := y39) rfl rfl rfl (r_assign rfl) ?_
                  refine s_fin ?_
                  show W _ _ _ _ _ _ _ _
                  refine W_seq ?_
                  refine W_region (.pu 0 (.pu 1 (.pu 2 (.ef 3 [] (.pu 4 (.pu 5 (.pu 6 (.pu 7 (.pu 8 .fin))))) .no)))) rfl rfl ?_
                  refine s_pu (d := some 91) (v := (.pointer y8)) rfl rfl rfl (r_move rfl) ?_
                  refine s_pu (d := some 92) (v := (.int .i64 i2)) rfl rfl rfl (r_move rfl) ?_
                  refine s_pu (d := some 93) (v := (.int .i64 j3)) rfl rfl rfl (r_move rfl) ?_
                  refine s_ef (d := some 94) rfl rfl rfl (fun dr => r_call Try.call12 rfl rfl H) ?_ trivial
                  rintro _ h6 ⟨y40, y41, rfl, H⟩
                  refine ⟨trivial, ?_⟩
                  refine s_pu (d := some 90) (v := (.tuple #[(.int .i64 y40), y41])) rfl rfl rfl (r_move rfl) ?_
                  refine s_pu (d := some 95) (v := (.int .i64 y40)) rfl rfl rfl (r_extract rfl rfl) ?_
                  refine s_pu (d := some 96) (v := y41) rfl rfl rfl (r_extract rfl rfl) ?_
                  refine s_pu (d := some 22) (v := (.int .i64 y40)) rfl rfl rfl (r_assign rfl) ?_
                  refine s_pu (d := some 23) (v := y41) rfl rfl rfl (r_assign rfl) ?_
                  refine s_fin ?_
                  show W _ _ _ _ _ _ _ _
                  refine W_seq ?_
                  refine W_seq ?_
                  refine W_region (.pu 0 (.pu 1 (.pu 2 (.pu 3 (.pu 4 (.pu 5 (.pu 6 (.pu 7 (.pu 8 (.pu 9 (.pu 10 (.pu 11 (.pu 12 (.pu 13 (.pu 14 (.pu 15 (.pu 16 (.pu 17 (.pu 18 (.pu 19 (.pu 20 (.pu 21 (.pu 22 (.pu 23 (.pu 24 (.pu 25 (.pu 26 (.pu 27 (.pu 28 (.pu 29 (.pu 30 (.pu 31 (.pu 32 (.pu 33 (.pu 34 (.pu 35 (.pu 36 (.pu 37 (.pu 38 (.pu 39 (.pu 40 (.pu 41 (.pu 42 (.pu 43 (.pu 44 (.pu 45 (.pu 46 (.pu 47 (.pu 48 (.pu 49 (.pu 50 (.pu 51 (.pu 52 (.pu 53 .fin)))))))))))))))))))))))))))))))))))))))))))))))))))))) rfl rfl ?_
                  refine s_pu (d := some 97) (v := y35) rfl rfl rfl (r_move rfl) ?_
                  obtain ⟨e42, H⟩ := H
                  refine s_pu (d := some 98) (v := (.bool (!(isNil y35)))) rfl rfl rfl (r_notNilI Try.underlying26 rfl e42 rfl) ?_
                  refine s_pu (d := some 99) (v := (.bool (!(isNil y35)))) rfl rfl rfl (r_move rfl) ?_
                  obtain ⟨e44, H⟩ := H
                  refine S_meet (l := [(0, (Sl.v l1)), (1, (.int .i64 i2)), (2, (.int .i64 j3)), (3, (.int .i64 a4)), (4, (.int .i64 vb5)), (5, (.int .i64 k6)), (16, (.int .i64 y34)), (18, (.int .i64 y36)), (20, (.int .i64 y38)), (21, y39), (22, (.int .i64 y40)), (23, y41), (102, (.bool ((!(isNil y35)) || (!(isNil y37)))))]) (i := 3) ?_ (fun HJ => ?_)
                  · intro b
                    show S _ _ _ _ _ _
                    refine s_pu (d := some 103) (v := (.bool ((!(isNil y35)) || (!(isNil y37))))) rfl rfl rfl (r_move rfl) ?_
                    obtain ⟨e48, H⟩ := H
                    refine S_meet (l := [(0, (Sl.v l1)), (1, (.int .i64 i2)), (2, (.int .i64 j3)), (3, (.int .i64 a4)), (4, (.int .i64 vb5)), (5, (.int .i64 k6)), (16, (.int .i64 y34)), (18, (.int .i64 y36)), (20, (.int .i64 y38)), (22, (.int .i64 y40)), (23, y41), (106, (.bool (((!(isNil y35)) || (!(isNil y37))) || (!(isNil y39)))))]) (i := 3) ?_ (fun HJ => ?_)
                    · intro b
                      show S _ _ _ _ _ _
                      refine s_pu (d := some 107) (v := (.bool (((!(isNil y35)) || (!(isNil y37))) || (!(isNil y39))))) rfl rfl rfl (r_move rfl) ?_
                      obtain ⟨e52, H⟩ := H
                      refine S_meet (l := [(0, (Sl.v l1)), (1, (.int .i64 i2)), (2, (.int .i64 j3)), (3, (.int .i64 a4)), (4, (.int .i64 vb5)), (5, (.int .i64 k6)), (16, (.int .i64 y34)), (18, (.int .i64 y36)), (20, (.int .i64 y38)), (22, (.int .i64 y40)), (110, (.bool ((((!(isNil y35)) || (!(isNil y37))) || (!(isNil y39))) || (!(isNil y41)))))]) (i := 3) ?_ (fun HJ => ?_)
                      · intro b
                        show S _ _ _ _ _ _
                        refine s_pu (d := some 111) (v := (.bool ((((!(isNil y35)) || (!(isNil y37))) || (!(isNil y39))) || (!(isNil y41))))) rfl rfl rfl (r_move rfl) ?_
                        refine S_meet (l := [(0, (Sl.v l1)), (1, (.int .i64 i2)), (2, (.int .i64 j3)), (3, (.int .i64 a4)), (4, (.int .i64 vb5)), (5, (.int .i64 k6)), (16, (.int .i64 y34)), (18, (.int .i64 y36)), (20, (.int .i64 y38)), (22, (.int .i64 y40)), (115, (.bool (((((!(isNil y35)) || (!(isNil y37))) || (!(isNil y39))) || (!(isNil y41))) || (decide (y34 < i2)))))]) (i := 4) ?_ (fun HJ => ?_)
                        · intro b
                          show S _ _ _ _ _ _
                          refine s_pu (d := some 116) (v := (.bool (((((!(isNil y35)) || (!(isNil y37))) || (!(isNil y39))) || (!(isNil y41))) || (decide (y34 < i2))))) rfl rfl rfl (r_move rfl) ?_
                          refine S_meet (l := [(0, (Sl.v l1)), (1, (.int .i64 i2)), (2, (.int .i64 j3)), (4, (.int .i64 vb5)), (5, (.int .i64 k6)), (16, (.int .i64 y34)), (18, (.int .i64 y36)), (20, (.int .i64 y38)), (22, (.int .i64 y40)), (120, (.bool ((((((!(isNil y35)) || (!(isNil y37))) || (!(isNil y39))) || (!(isNil y41))) || (decide (y34 < i2))) || (decide (a4 ≤ y34)))))]) (i := 4) ?_ (fun HJ => ?_)
                          · intro b
                            show S _ _ _ _ _ _
                            refine s_pu (d := some 121) (v := (.bool ((((((!(isNil y35)) || (!(isNil y37))) || (!(isNil y39))) || (!(isNil y41))) || (decide (y34 < i2))) || (decide (a4 ≤ y34))))) rfl rfl rfl (r_move rfl) ?_
                            refine S_meet (l := [(0, (Sl.v l1)), (1, (.int .i64 i2)), (2, (.int .i64 j3)), (5, (.int .i64 k6)), (16, (.int .i64 y34)), (18, (.int .i64 y36)), (20, (.int .i64 y38)), (22, (.int .i64 y40)), (125, (.bool (((((((!(isNil y35)) || (!(isNil y37))) || (!(isNil y39))) || (!(isNil y41))) || (decide (y34 < i2))) || (decide (a4 ≤ y34))) || (decide (y36 < vb5)))))]) (i := 4) ?_ (fun HJ => ?_)
                            · intro b
                              show S _ _ _ _ _ _
                              refine s_pu (d := some 126) (v := (.bool (((((((!(isNil y35)) || (!(isNil y37))) || (!(isNil y39))) || (!(isNil y41))) || (decide (y34 < i2))) || (decide (a4 ≤ y34))) || (decide (y36 < vb5))))) rfl rfl rfl (r_move rfl) ?_
                              refine S_meet (l := [(0, (Sl.v l1)), (1, (.int .i64 i2)), (2, (.int .i64 j3)), (5, (.int .i64 k6)), (16, (.int .i64 y34)), (18, (.int .i64 y36)), (20, (.int .i64 y38)), (22, (.int .i64 y40)), (130, (.bool ((((((((!(isNil y35)) || (!(isNil y37))) || (!(isNil y39))) || (!(isNil y41))) || (decide (y34 < i2))) || (decide (a4 ≤ y34))) || (decide (y36 < vb5))) || (decide (j3 ≤ y36)))))]) (i := 4) ?_ (fun HJ => ?_)
                              · intro b
                                show S _ _ _ _ _ _
                                refine s_pu (d := some 131) (v := (.bool ((((((((!(isNil y35)) || (!(isNil y37))) || (!(isNil y39))) || (!(isNil y41))) || (decide (y34 < i2))) || (decide (a4 ≤ y34))) || (decide (y36 < vb5))) || (decide (j3 ≤ y36))))) rfl rfl rfl (r_move rfl) ?_
                                refine S_meet (l := [(0, (Sl.v l1)), (1, (.int .i64 i2)), (2, (.int .i64 j3)), (5, (.int .i64 k6)), (16, (.int .i64 y34)), (18, (.int .i64 y36)), (20, (.int .i64 y38)), (22, (.int .i64 y40)), (135, (.bool (((((((((!(isNil y35)) || (!(isNil y37))) || (!(isNil y39))) || (!(isNil y41))) || (decide (y34 < i2))) || (decide (a4 ≤ y34))) || (decide (y36 < vb5))) || (decide (j3 ≤ y36))) || (decide (y38 < i2)))))]) (i := 4) ?_ (fun HJ => ?_)
                                · intro b
                                  show S _ _ _ _ _ _
                                  refine s_pu (d := some 136) (v := (.bool (((((((((!(isNil y35)) || (!(isNil y37))) || (!(isNil y39))) || (!(isNil y41))) || (decide (y34 < i2))) || (decide (a4 ≤ y34))) || (decide (y36 < vb5))) || (decide (j3 ≤ y36))) || (decide (y38 < i2))))) rfl rfl rfl (r_move rfl) ?_
                                  refine S_meet (l := [(0, (Sl.v l1)), (1, (.int .i64 i2)), (2, (.int .i64 j3)), (5, (.int .i64 k6)), (16, (.int .i64 y34)), (18, (.int .i64 y36)), (20, (.int .i64 y38)), (22, (.int .i64 y40)), (140, (.bool ((((((((((!(isNil y35)) || (!(isNil y37))) || (!(isNil y39))) || (!(isNil y41))) || (decide (y34 < i2))) || (decide (a4 ≤ y34))) || (decide (y36 < vb5))) || (decide (j3 ≤ y36))) || (decide (y38 < i2))) || (decide (j3 ≤ y38)))))]) (i := 4) ?_ (fun HJ => ?_)
                                  · intro b
                                    show S _ _ _ _ _ _
                                    refine s_pu (d := some 141) (v := (.bool ((((((((((!(isNil y35)) || (!(isNil y37))) || (!(isNil y39))) || (!(isNil y41))) || (decide (y34 < i2))) || (decide (a4 ≤ y34))) || (decide (y36 < vb5))) || (decide (j3 ≤ y36))) || (decide (y38 < i2))) || (decide (j3 ≤ y38))))) rfl rfl rfl (r_move rfl) ?_
                                    refine S_meet (l := [(0, (Sl.v l1)), (1, (.int .i64 i2)), (2, (.int .i64 j3)), (5, (.int .i64 k6)), (16, (.int .i64 y34)), (18, (.int .i64 y36)), (20, (.int .i64 y38)), (22, (.int .i64 y40)), (145, (.bool (((((((((((!(isNil y35)) || (!(isNil y37))) || (!(isNil y39))) || (!(isNil y41))) || (decide (y34 < i2))) || (decide (a4 ≤ y34))) || (decide (y36 < vb5))) || (decide (j3 ≤ y36))) || (decide (y38 < i2))) || (decide (j3 ≤ y38))) || (decide (y40 < i2)))))]) (i := 4) ?_ (fun HJ => ?_)
                                    · intro b
                                      show S _ _ _ _ _ _
                                      refine s_pu (d := some 146) (v := (.bool (((((((((((!(isNil y35)) || (!(isNil y37))) || (!(isNil y39))) || (!(isNil y41))) || (decide (y34 < i2))) || (decide (a4 ≤ y34))) || (decide (y36 < vb5))) || (decide (j3 ≤ y36))) || (decide (y38 < i2))) || (decide (j3 ≤ y38))) || (decide (y40 < i2))))) rfl rfl rfl (r_move rfl) ?_
                                      refine S_meet (l := [(0, (Sl.v l1)), (1, (.int .i64 i2)), (2, (.int .i64 j3)), (5, (.int .i64 k6)), (16, (.int .i64 y34)), (18, (.int .i64 y36)), (20, (.int .i64 y38)), (22, (.int .i64 y40)), (150, (.bool ((((((((((((!(isNil y35)) || (!(isNil y37))) || (!(isNil y39))) || (!(isNil y41))) || (decide (y34 < i2))) || (decide (a4 ≤ y34))) || (decide (y36 < vb5))) || (decide (j3 ≤ y36))) || (decide (y38 < i2))) || (decide (j3 ≤ y38))) || (decide (y40 < i2))) || (decide (j3 ≤ y40)))))]) (i := 4) ?_ (fun HJ => ?_)
                                      · intro b
                                        show S _ _ _ _ _ _
                                        refine s_fin ?_
                                        show W _ _ _ _ _ _ _ _
                                        refine W_if ((((((((((((!(isNil y35)) || (!(isNil y37))) || (!(isNil y39))) || (!(isNil y41))) || (decide (y34 < i2))) || (decide (a4 ≤ y34))) || (decide (y36 < vb5))) || (decide (j3 ≤ y36))) || (decide (y38 < i2))) || (decide (j3 ≤ y38))) || (decide (y40 < i2))) || (decide (j3 ≤ y40))) rfl (fun g163 => ?_) (fun g163 => ?_)
                                        · have H := H.1 g163
                                          refine W_seq ?_
                                          refine W_region (.pu 0 .fin) rfl rfl ?_
                                          refine s_pu (d := some 12) (v := (.bool false)) rfl rfl rfl (r_assign rfl) ?_
                                          refine s_fin ?_
                                          show W _ _ _ _ _ _ _ _
                                          refine W_ret ?_
                                          exact ⟨[(.bool false)], ⟨_, _, rfl, rfl, rfl⟩, false, rfl, H⟩
                                        · have H := H.2 g163
                                          refine W_skip ?_
                                          show W _ _ _ _ _ _ _ _
                                          refine W_seq ?_
                                          refine W_seq ?_
                                          refine W_set ?_
                                          intro N81 eN81
                                          have H := H (fun (x79 : Bool) => ∀ b, N81 [] (mkE [(0, (Sl.v l1)), (1, (.int .i64 i2)), (2, (.int .i64 j3)), (5, (.int .i64 k6)), (20, (.int .i64 y38)), (22, (.int .i64 y40)), (180, (.bool x79))] b) h6) (by
                                            intro x79 H b
                                            rw [eN81]
                                            show W _ _ _ _ _ _ _ _
                                            refine W_if x79 rfl (fun g120 => ?_) (fun g120 => ?_)
                                            · have H := H.1 g120
                                              refine W_seq ?_
                                              refine W_region (.pu 0 .fin) rfl rfl ?_
                                              refine s_pu (d := some 12) (v := (.bool false)) rfl rfl rfl (r_assign rfl) ?_
                                              refine s_fin ?_
                                              show W _ _ _ _ _ _ _ _
                                              refine W_ret ?_
                                              exact ⟨[(.bool false)], ⟨_, _, rfl, rfl, rfl⟩, false, rfl, H⟩
                                            · have H := H.2 g120
                                              refine W_skip ?_
                                              show W _ _ _ _ _ _ _ _
                                              refine W_seq ?_
                                              refine W_set ?_
                                              intro N84 eN84
                                              have H := H (fun (x82 : Bool) => ∀ b, N84 [] (mkE [(12, (.bool x82))] b) h6) (by
                                                intro x82 H b
                                                rw [eN84]
                                                show W _ _ _ _ _ _ _ _
                                                refine W_ret ?_
                                                exact ⟨[(.bool x82)], ⟨_, _, rfl, rfl, rfl⟩, x82, rfl, H⟩)
                                              clear eN84
                                              refine W_draw [0, 0, 3, 7, 15, 15, 63, 127, 255, 511, 511, 2047, 4095, 511, 511, 25087, 57855, 131071, 262143, 524287, 524287, 2097151, 4194303, 524287, 524287, 25690111, 59244543, 134217727, 268435455, 536870911, 1073741823] (.pu 0 (.pu 1 (.pu 2 (.pu 3 (.pu 4 (.pu 5 (.pu 6 (.pu 7 (.pu 8 (.pu 9 (.pu 10 (.pu 11 (.rd 12 (.pu 13 (.pu 14 (.pu 15 (.rd 16 (.pu 17 (.pu 18 (.pu 19 (.pu 20 (.pu 21 (.rd 22 (.pu 23 (.pu 24 (.pu 25 (.rd 26 (.pu 27 (.pu 28 (.pu 29 (.pu 30 .fin))))))))))))))))))))))))))))))) (by kernel_rfl) (by kernel_rfl) ?_
                                              refine s_pu (d := some 181) (v := (.int .i64 k6)) rfl rfl rfl (r_move rfl) ?_
                                              refine s_pu (d := some 182) (v := (.int .i64 i2)) rfl rfl rfl (r_move rfl) ?_
                                              refine s_pu (d := some 183) (v := (.bool (decide (k6 < i2)))) rfl rfl rfl (r_lss rfl rfl) ?_
                                              refine s_pu (d := some 184) (v := (.bool (decide (k6 < i2)))) rfl rfl rfl (r_move rfl) ?_
                                              rcases Bool.eq_false_or_eq_true (decide (k6 < i2)) with g85 | g85
                                              · have H := H.1 g85
                                                refine s_sk (d := some 185) rfl rfl (wants_no rfl rfl rfl rfl g85) ?_
                                                refine s_sk (d := some 186) rfl rfl (wants_no rfl rfl rfl rfl g85) ?_
                                                refine s_sk (d := some 187) rfl rfl (wants_no rfl rfl rfl rfl g85) ?_
                                                refine s_pu (d := some 188) (v := (.bool true)) rfl rfl rfl (r_pick1 rfl g85 rfl) ?_
                                                refine s_pu (d := some 189) (v := (.bool true)) rfl rfl rfl (r_move rfl) ?_
                                                refine s_sk (d := some 190) rfl rfl (wants_no rfl rfl rfl rfl rfl) ?_
                                                refine s_sk (d := some 191) rfl rfl (wants_no rfl rfl rfl rfl rfl) ?_
                                                refine s_sk (d := some 192) rfl rfl (wants_no rfl rfl rfl rfl rfl) ?_
                                                refine s_skd (d := some 193) rfl rfl (wants_no rfl rfl rfl rfl rfl) ?_
                                                refine s_sk (d := some 194) rfl rfl (wants_no rfl rfl rfl rfl rfl) ?_
                                                refine s_sk (d := some 195) rfl rfl (wants_no rfl rfl rfl rfl rfl) ?_
                                                refine s_sk (d := some 196) rfl rfl (wants_no rfl rfl rfl rfl rfl) ?_
                                                refine s_skd (d := some 197) rfl rfl (wants_no rfl rfl rfl rfl rfl) ?_
                                                refine s_sk (d := some 198) rfl rfl (wants_no rfl rfl rfl rfl rfl) ?_
                                                refine s_sk (d := some 199) rfl rfl (wants_no rfl rfl rfl rfl rfl) ?_
                                                refine s_sk (d := some 200) rfl rfl (wants_un rfl rfl rfl) ?_
                                                refine s_sk (d := some 201) rfl rfl (wants_un rfl rfl rfl) ?_
                                                refine s_sk (d := some 202) rfl rfl (wants_un rfl rfl rfl) ?_
                                                refine s_skd (d := some 203) rfl rfl (wants_un rfl rfl rfl) ?_
                                                refine s_sk (d := some 204) rfl rfl (wants_un rfl rfl rfl) ?_
                                                refine s_sk (d := some 205) rfl rfl (wants_un rfl rfl rfl) ?_
                                                refine s_sk (d := some 206) rfl rfl (wants_un rfl rfl rfl) ?_
                                                refine s_skd (d := some 207) rfl rfl (wants_un rfl rfl rfl) ?_
                                                refine s_sk (d := some 208) rfl rfl (wants_un rfl rfl rfl) ?_
                                                refine s_sk (d := some 209) rfl rfl (wants_no rfl rfl rfl rfl rfl) ?_
                                                refine s_pu (d := some 210) (v := (.bool true)) rfl rfl rfl (r_pick1 rfl rfl rfl) ?_
                                                refine s_pu (d := some 12) (v := (.bool true)) rfl rfl rfl (r_assign rfl) ?_
                                                refine s_fin ?_
                                                exact N_mk (l := [(12, (.bool true))]) H ⟨rfl, trivial⟩
                                              · have H := H.2 g85
                                                refine s_pu (d := some 185) (v := (.int .i64 k6)) rfl rfl (wants_yes rfl rfl rfl rfl g85) (r_move rfl) ?_
                                                refine s_pu (d := some 186) (v := (.int .i64 j3)) rfl rfl (wants_yes rfl rfl rfl rfl g85) (r_move rfl) ?_
                                                refine s_pu (d := some 187) (v := (.bool (decide (j3 ≤ k6)))) rfl rfl (wants_yes rfl rfl rfl rfl g85) (r_geq rfl rfl) ?_
                                                refine s_pu (d := some 188) (v := (.bool (decide (j3 ≤ k6)))) rfl rfl rfl (r_pick0 rfl g85 rfl) ?_
                                                refine s_pu (d := some 189) (v := (.bool (decide (j3 ≤ k6)))) rfl rfl rfl (r_move rfl) ?_
                                                rcases Bool.eq_false_or_eq_true (decide (j3 ≤ k6)) with g86 | g86
                                                · have H := H.1 g86
                                                  refine s_sk (d := some 190) rfl rfl (wants_no rfl rfl rfl rfl g86) ?_
                                                  refine s_sk (d := some 191) rfl rfl (wants_no rfl rfl rfl rfl g86) ?_
                                                  refine s_sk (d := some 192) rfl rfl (wants_no rfl rfl rfl rfl g86) ?_
                                                  refine s_skd (d := some 193) rfl rfl (wants_no rfl rfl rfl rfl g86) ?_
                                                  refine s_sk (d := some 194) rfl rfl (wants_no rfl rfl rfl rfl g86) ?_
                                                  refine s_sk (d := some 195) rfl rfl (wants_no rfl rfl rfl rfl g86) ?_
                                                  refine s_sk (d := some 196) rfl rfl (wants_no rfl rfl rfl rfl g86) ?_
                                                  refine s_skd (d := some 197) rfl rfl (wants_no rfl rfl rfl rfl g86) ?_
                                                  refine s_sk (d := some 198) rfl rfl (wants_no rfl rfl rfl rfl g86) ?_
                                                  refine s_sk (d := some 199) rfl rfl (wants_no rfl rfl rfl rfl g86) ?_
                                                  refine s_sk (d := some 200) rfl rfl (wants_un rfl rfl rfl) ?_
                                                  refine s_sk (d := some 201) rfl rfl (wants_un rfl rfl rfl) ?_
                                                  refine s_sk (d := some 202) rfl rfl (wants_un rfl rfl rfl) ?_
                                                  refine s_skd (d := some 203) rfl rfl (wants_un rfl rfl rfl) ?_
                                                  refine s_sk (d := some 204) rfl rfl (wants_un rfl rfl rfl) ?_
                                                  refine s_sk (d := some 205) rfl rfl (wants_un rfl rfl rfl) ?_
                                                  refine s_sk (d := some 206) rfl rfl (wants_un rfl rfl rfl) ?_
                                                  refine s_skd (d := some 207) rfl rfl (wants_un rfl rfl rfl) ?_
                                                  refine s_sk (d := some 208) rfl rfl (wants_un rfl rfl rfl) ?_
                                                  refine s_sk (d := some 209) rfl rfl (wants_no rfl rfl rfl rfl g86) ?_
                                                  refine s_pu (d := some 210) (v := (.bool true)) rfl rfl rfl (r_pick1 rfl g86 rfl) ?_
                                                  refine s_pu (d := some 12) (v := (.bool true)) rfl rfl rfl (r_assign rfl) ?_
                                                  refine s_fin ?_
                                                  exact N_mk (l := [(12, (.bool true))]) H ⟨rfl, trivial⟩
                                                · have H := H.2 g86
                                                  refine s_pu (d := some 190) (v := (Sl.v l1)) rfl rfl (wants_yes rfl rfl rfl rfl g86) (r_move rfl) ?_
                                                  refine s_pu (d := some 191) (v := (.int .i64 y38)) rfl rfl (wants_yes rfl rfl rfl rfl g86) (r_move rfl) ?_
                                                  obtain ⟨p87, e88, e89, e90, H⟩ := H
                                                  obtain ⟨q91, e92⟩ : ∃ q : Addr, q = Addr.add p87 (Int.toNat y38 * 1) := ⟨_, rfl⟩
                                                  rw [← e92] at H
                                                  refine s_pu (d := some 192) (v := (.pointer (some q91))) rfl rfl (wants_yes rfl rfl rfl rfl g86) (fun w => (r_indexAddr Try.underlying22 Try.sizeOf3 rfl rfl e88 e89 e90 w).trans (by rw [e92])) ?_
                                                  obtain ⟨x93, e94, H⟩ := H
                                                  refine s_rd (d := some 193) (v := (.int .i64 x93)) rfl rfl (wants_yes rfl rfl rfl rfl g86) (fun dr => r_load1 Try.isAgg3 rfl e94) ?_
                                                  refine s_pu (d := some 194) (v := (Sl.v l1)) rfl rfl (wants_yes rfl rfl rfl rfl g86) (r_move rfl) ?_
                                                  refine s_pu (d := some 195) (v := (.int .i64 k6)) rfl rfl (wants_yes rfl rfl rfl rfl g86) (r_move rfl) ?_
                                                  obtain ⟨p95, e96, e97, e98, H⟩ := H
                                                  obtain ⟨q99, e100⟩ : ∃ q : Addr, q = Addr.add p95 (Int.toNat k6 * 1) := ⟨_, rfl⟩
                                                  rw [← e100] at H
                                                  refine s_pu (d := some 196) (v := (.pointer (some q99))) rfl rfl (wants_yes rfl rfl rfl rfl g86) (fun w => (r_indexAddr Try.underlying22 Try.sizeOf3 rfl rfl e96 e97 e98 w).trans (by rw [e100])) ?_
                                                  obtain ⟨x101, e102, H⟩ := H
                                                  refine s_rd (d := some 197) (v := (.int .i64 x101)) rfl rfl (wants_yes rfl rfl rfl rfl g86) (fun dr => r_load1 Try.isAgg3 rfl e102) ?_
                                                  refine s_pu (d := some 198) (v := (.bool (decide (x93 ≤ x101)))) rfl rfl (wants_yes rfl rfl rfl rfl g86) (r_leq rfl rfl) ?_
                                                  refine s_pu (d := some 199) (v := (.bool (decide (x93 ≤ x101)))) rfl rfl (wants_yes rfl rfl rfl rfl g86) (r_move rfl) ?_
                                                  rcases Bool.eq_false_or_eq_true (decide (x93 ≤ x101)) with g103 | g103
                                                  · have H := H.1 g103
                                                    refine s_pu (d := some 200) (v := (Sl.v l1)) rfl rfl (wants_yes rfl rfl rfl rfl g103) (r_move rfl) ?_
                                                    refine s_pu (d := some 201) (v := (.int .i64 k6)) rfl rfl (wants_yes rfl rfl rfl rfl g103) (r_move rfl) ?_
                                                    obtain ⟨p104, e105, e106, e107, H⟩ := H
                                                    obtain ⟨q108, e109⟩ : ∃ q : Addr, q = Addr.add p104 (Int.toNat k6 * 1) := ⟨_, rfl⟩
                                                    rw [← e109] at H
                                                    refine s_pu (d := some 202) (v := (.pointer (some q108))) rfl rfl (wants_yes rfl rfl rfl rfl g103) (fun w => (r_indexAddr Try.underlying22 Try.sizeOf3 rfl rfl e105 e106 e107 w).trans (by rw [e109])) ?_
                                                    obtain ⟨x110, e111, H⟩ := H
                                                    refine s_rd (d := some 203) (v := (.int .i64 x110)) rfl rfl (wants_yes rfl rfl rfl rfl g103) (fun dr => r_load1 Try.isAgg3 rfl e111) ?_
                                                    refine s_pu (d := some 204) (v := (Sl.v l1)) rfl rfl (wants_yes rfl rfl rfl rfl g103) (r_move rfl) ?_
                                                    refine s_pu (d := some 205) (v := (.int .i64 y40)) rfl rfl (wants_yes rfl rfl rfl rfl g103) (r_move rfl) ?_
                                                    obtain ⟨p112, e113, e114, e115, H⟩ := H
                                                    obtain ⟨q116, e117⟩ : ∃ q : Addr, q = Addr.add p112 (Int.toNat y40 * 1) := ⟨_, rfl⟩
                                                    rw [← e117] at H
                                                    refine s_pu (d := some 206) (v := (.pointer (some q116))) rfl rfl (wants_yes rfl rfl rfl rfl g103) (fun w => (r_indexAddr Try.underlying22 Try.sizeOf3 rfl rfl e113 e114 e115 w).trans (by rw [e117])) ?_
                                                    obtain ⟨x118, e119, H⟩ := H
                                                    refine s_rd (d := some 207) (v := (.int .i64 x118)) rfl rfl (wants_yes rfl rfl rfl rfl g103) (fun dr => r_load1 Try.isAgg3 rfl e119) ?_
                                                    refine s_pu (d := some 208) (v := (.bool (decide (x110 ≤ x118)))) rfl rfl (wants_yes rfl rfl rfl rfl g103) (r_leq rfl rfl) ?_
                                                    refine s_pu (d := some 209) (v := (.bool (decide (x110 ≤ x118)))) rfl rfl (wants_yes rfl rfl rfl rfl g86) (r_pick1 rfl g103 rfl) ?_
                                                    refine s_pu (d := some 210) (v := (.bool (decide (x110 ≤ x118)))) rfl rfl rfl (r_pick0 rfl g86 rfl) ?_
                                                    refine s_pu (d := some 12) (v := (.bool (decide (x110 ≤ x118)))) rfl rfl rfl (r_assign rfl) ?_
                                                    refine s_fin ?_
                                                    exact N_mk (l := [(12, (.bool (decide (x110 ≤ x118))))]) H ⟨rfl, trivial⟩
                                                  · have H := H.2 g103
                                                    refine s_sk (d := some 200) rfl rfl (wants_no rfl rfl rfl rfl g103) ?_
                                                    refine s_sk (d := some 201) rfl rfl (wants_no rfl rfl rfl rfl g103) ?_
                                                    refine s_sk (d := some 202) rfl rfl (wants_no rfl rfl rfl rfl g103) ?_
                                                    refine s_skd (d := some 203) rfl rfl (wants_no rfl rfl rfl rfl g103) ?_
                                                    refine s_sk (d := some 204) rfl rfl (wants_no rfl rfl rfl rfl g103) ?_
                                                    refine s_sk (d := some 205) rfl rfl (wants_no rfl rfl rfl rfl g103) ?_
                                                    refine s_sk (d := some 206) rfl rfl (wants_no rfl rfl rfl rfl g103) ?_
                                                    refine s_skd (d := some 207) rfl rfl (wants_no rfl rfl rfl rfl g103) ?_
                                                    refine s_sk (d := some 208) rfl rfl (wants_no rfl rfl rfl rfl g103) ?_
                                                    refine s_pu (d := some 209) (v := (.bool false)) rfl rfl (wants_yes rfl rfl rfl rfl g86) (r_pick0 rfl g103 rfl) ?_
                                                    refine s_pu (d := some 210) (v := (.bool false)) rfl rfl rfl (r_pick0 rfl g86 rfl) ?_
                                                    refine s_pu (d := some 12) (v := (.bool false)) rfl rfl rfl (r_assign rfl) ?_
                                                    refine s_fin ?_
                                                    exact N_mk (l := [(12, (.bool false))]) H ⟨rfl, trivial⟩)
                                          clear eN81
                                          refine W_draw [0, 0, 3, 7, 0, 0, 48, 112, 0, 0, 768, 1792, 4080, 8191, 16383, 32767, 32767, 131071, 262143, 32767, 32767, 1605631, 3702783, 8388607, 16777215, 33554431, 33554431, 134217727, 268435455, 536870911] (.pu 0 (.pu 1 (.pu 2 (.rd 3 (.pu 4 (.pu 5 (.pu 6 (.rd 7 (.pu 8 (.pu 9 (.pu 10 (.rd 11 (.pu 12 (.pu 13 (.pu 14 (.pu 15 (.pu 16 (.pu 17 (.rd 18 (.pu 19 (.pu 20 (.pu 21 (.rd 22 (.pu 23 (.pu 24 (.pu 25 (.pu 26 (.pu 27 (.pu 28 (.pu 29 .fin)))))))))))))))))))))))))))))) (by kernel_rfl) (by kernel_rfl) ?_
                                          refine s_pu (d := some 151) (v := (Sl.v l1)) rfl rfl rfl (r_move rfl) ?_
                                          refine s_pu (d := some 152) (v := (.int .i64 y38)) rfl rfl rfl (r_move rfl) ?_
                                          obtain ⟨p121, e122, e123, e124, H⟩ := H
                                          obtain ⟨q125, e126⟩ : ∃ q : Addr, q = Addr.add p121 (Int.toNat y38 * 1) := ⟨_, rfl⟩
                                          rw [← e126] at H
                                          refine s_pu (d := some 153) (v := (.pointer (some q125))) rfl rfl rfl (fun w => (r_indexAddr Try.underlying22 Try.sizeOf3 rfl rfl e122 e123 e124 w).trans (by rw [e126])) ?_
                                          obtain ⟨x127, e128, H⟩ := H
                                          refine s_rd (d := some 154) (v := (.int .i64 x127)) rfl rfl rfl (fun dr => r_load1 Try.isAgg3 rfl e128) ?_
                                          refine s_pu (d := some 155) (v := (Sl.v l1)) rfl rfl rfl (r_move rfl) ?_
                                          refine s_pu (d := some 156) (v := (.int .i64 y34)) rfl rfl rfl (r_move rfl) ?_
                                          obtain ⟨p129, e130, e131, e132, H⟩ := H
                                          obtain ⟨q133, e134⟩ : ∃ q : Addr, q = Addr.add p129 (Int.toNat y34 * 1) := ⟨_, rfl⟩
                                          rw [← e134] at H
                                          refine s_pu (d := some 157) (v := (.pointer (some q133))) rfl rfl rfl (fun w => (r_indexAddr Try.underlying22 Try.sizeOf3 rfl rfl e130 e131 e132 w).trans (by rw [e134])) ?_
                                          obtain ⟨x135, e136, H⟩ := H
                                          refine s_rd (d := some 158) (v := (.int .i64 x135)) rfl rfl rfl (fun dr => r_load1 Try.isAgg3 rfl e136) ?_
                                          refine s_pu (d := some 159) (v := (Sl.v l1)) rfl rfl rfl (r_move rfl) ?_
                                          refine s_pu (d := some 160) (v := (.int .i64 y36)) rfl rfl rfl (r_move rfl) ?_
                                          obtain ⟨p137, e138, e139, e140, H⟩ := H
                                          obtain ⟨q141, e142⟩ : ∃ q : Addr, q = Addr.add p137 (Int.toNat y36 * 1) := ⟨_, rfl⟩
                                          rw [← e142] at H
                                          refine s_pu (d := some 161) (v := (.pointer (some q141))) rfl rfl rfl (fun w => (r_indexAddr Try.underlying22 Try.sizeOf3 rfl rfl e138 e139 e140 w).trans (by rw [e142])) ?_
                                          obtain ⟨x143, e144, H⟩ := H
                                          refine s_rd (d := some 162) (v := (.int .i64 x143)) rfl rfl rfl (fun dr => r_load1 Try.isAgg3 rfl e144) ?_
                                          refine s_pu (d := some 163) (v := (.int .i64 (min x135 x143))) rfl rfl rfl (r_min rfl rfl) ?_
                                          refine s_pu (d := some 164) (v := (.bool (!decide (x127 = (min x135 x143))))) rfl rfl rfl (r_neq rfl rfl) ?_
                                          refine s_pu (d := some 165) (v := (.bool (!decide (x127 = (min x135 x143))))) rfl rfl rfl (r_move rfl) ?_
                                          rcases Bool.eq_false_or_eq_true (!decide (x127 = (min x135 x143))) with g145 | g145
                                          · have H := H.1 g145
                                            refine s_sk (d := some 166) rfl rfl (wants_no rfl rfl rfl rfl g145) ?_
                                            refine s_sk (d := some 167) rfl rfl (wants_no rfl rfl rfl rfl g145) ?_
                                            refine s_sk (d := some 168) rfl rfl (wants_no rfl rfl rfl rfl g145) ?_
                                            refine s_skd (d := some 169) rfl rfl (wants_no rfl rfl rfl rfl g145) ?_
                                            refine s_sk (d := some 170) rfl rfl (wants_no rfl rfl rfl rfl g145) ?_
                                            refine s_sk (d := some 171) rfl rfl (wants_no rfl rfl rfl rfl g145) ?_
                                            refine s_sk (d := some 172) rfl rfl (wants_no rfl rfl rfl rfl g145) ?_
                                            refine s_skd (d := some 173) rfl rfl (wants_no rfl rfl rfl rfl g145) ?_
                                            refine s_sk (d := some 174) rfl rfl (wants_no rfl rfl rfl rfl g145) ?_
                                            refine s_sk (d := some 175) rfl rfl (wants_no rfl rfl rfl rfl g145) ?_
                                            refine s_sk (d := some 176) rfl rfl (wants_un rfl rfl rfl) ?_
                                            refine s_sk (d := some 177) rfl rfl (wants_un rfl rfl rfl) ?_
                                            refine s_sk (d := some 178) rfl rfl (wants_un rfl rfl rfl) ?_
                                            refine s_sk (d := some 179) rfl rfl (wants_no rfl rfl rfl rfl g145) ?_
                                            refine s_pu (d := some 180) (v := (.bool true)) rfl rfl rfl (r_pick1 rfl g145 rfl) ?_
                                            refine s_fin ?_
                                            exact N_mk (l := [(0, (Sl.v l1)), (1, (.int .i64 i2)), (2, (.int .i64 j3)), (5, (.int .i64 k6)), (20, (.int .i64 y38)), (22, (.int .i64 y40)), (180, (.bool true))]) H ⟨rfl, rfl, rfl, rfl, rfl, rfl, rfl, trivial⟩
                                          · have H := H.2 g145
                                            refine s_pu (d := some 166) (v := (Sl.v l1)) rfl rfl (wants_yes rfl rfl rfl rfl g145) (r_move rfl) ?_
                                            refine s_pu (d := some 167) (v := (.int .i64 y34)) rfl rfl (wants_yes rfl rfl rfl rfl g145) (r_move rfl) ?_
                                            obtain ⟨p146, e147, e148, e149, H⟩ := H
                                            obtain ⟨q150, e151⟩ : ∃ q : Addr, q = Addr.add p146 (Int.toNat y34 * 1) := ⟨_, rfl⟩
                                            rw [← e151] at H
                                            refine s_pu (d := some 168) (v := (.pointer (some q150))) rfl rfl (wants_yes rfl rfl rfl rfl g145) (fun w => (r_indexAddr Try.underlying22 Try.sizeOf3 rfl rfl e147 e148 e149 w).trans (by rw [e151])) ?_
                                            obtain ⟨x152, e153, H⟩ := H
                                            refine s_rd (d := some 169) (v := (.int .i64 x152)) rfl rfl (wants_yes rfl rfl rfl rfl g145) (fun dr => r_load1 Try.isAgg3 rfl e153) ?_
                                            refine s_pu (d := some 170) (v := (Sl.v l1)) rfl rfl (wants_yes rfl rfl rfl rfl g145) (r_move rfl) ?_
                                            refine s_pu (d := some 171) (v := (.int .i64 y36)) rfl rfl (wants_yes rfl rfl rfl rfl g145) (r_move rfl) ?_
                                            obtain ⟨p154, e155, e156, e157, H⟩ := H
                                            obtain ⟨q158, e159⟩ : ∃ q : Addr, q = Addr.add p154 (Int.toNat y36 * 1) := ⟨_, rfl⟩
                                            rw [← e159] at H
                                            refine s_pu (d := some 172) (v := (.pointer (some q158))) rfl rfl (wants_yes rfl rfl rfl rfl g145) (fun w => (r_indexAddr Try.underlying22 Try.sizeOf3 rfl rfl e155 e156 e157 w).trans (by rw [e159])) ?_
                                            obtain ⟨x160, e161, H⟩ := H
                                            refine s_rd (d := some 173) (v := (.int .i64 x160)) rfl rfl (wants_yes rfl rfl rfl rfl g145) (fun dr => r_load1 Try.isAgg3 rfl e161) ?_
                                            refine s_pu (d := some 174) (v := (.bool (decide (x152 ≤ x160)))) rfl rfl (wants_yes rfl rfl rfl rfl g145) (r_leq rfl rfl) ?_
                                            refine s_pu (d := some 175) (v := (.bool (decide (x152 ≤ x160)))) rfl rfl (wants_yes rfl rfl rfl rfl g145) (r_move rfl) ?_
                                            rcases Bool.eq_false_or_eq_true (decide (x152 ≤ x160)) with g162 | g162
                                            · have H := H.1 g162
                                              refine s_pu (d := some 176) (v := (.int .i64 y38)) rfl rfl (wants_yes rfl rfl rfl rfl g162) (r_move rfl) ?_
                                              refine s_pu (d := some 177) (v := (.int .i64 y34)) rfl rfl (wants_yes rfl rfl rfl rfl g162) (r_move rfl) ?_
                                              refine s_pu (d := some 178) (v := (.bool (!decide (y38 = y34)))) rfl rfl (wants_yes rfl rfl rfl rfl g162) (r_neq rfl rfl) ?_
                                              refine s_pu (d := some 179) (v := (.bool (!decide (y38 = y34)))) rfl rfl (wants_yes rfl rfl rfl rfl g145) (r_pick1 rfl g162 rfl) ?_
                                              refine s_pu (d := some 180) (v := (.bool (!decide (y38 = y34)))) rfl rfl rfl (r_pick0 rfl g145 rfl) ?_
                                              refine s_fin ?_
                                              exact N_mk (l := [(0, (Sl.v l1)), (1, (.int .i64 i2)), (2, (.int .i64 j3)), (5, (.int .i64 k6)), (20, (.int .i64 y38)), (22, (.int .i64 y40)), (180, (.bool (!decide (y38 = y34))))]) H ⟨rfl, rfl, rfl, rfl, rfl, rfl, rfl, trivial⟩
                                            · have H := H.2 g162
                                              refine s_sk (d := some 176) rfl rfl (wants_no rfl rfl rfl rfl g162) ?_
                                              refine s_sk (d := some 177) rfl rfl (wants_no rfl rfl rfl rfl g162) ?_
                                              refine s_sk (d := some 178) rfl rfl (wants_no rfl rfl rfl rfl g162) ?_
                                              refine s_pu (d := some 179) (v := (.bool false)) rfl rfl (wants_yes rfl rfl rfl rfl g145) (r_pick0 rfl g162 rfl) ?_
                                              refine s_pu (d := some 180) (v := (.bool false)) rfl rfl rfl (r_pick0 rfl g145 rfl) ?_
                                              refine s_fin ?_
                                              exact N_mk (l := [(0, (Sl.v l1)), (1, (.int .i64 i2)), (2, (.int .i64 j3)), (5, (.int .i64 k6)), (20, (.int .i64 y38)), (22, (.int .i64 y40)), (180, (.bool false))]) H ⟨rfl, rfl, rfl, rfl, rfl, rfl, rfl, trivial⟩
                                      · rcases Bool.eq_false_or_eq_true (((((((((((!(isNil y35)) || (!(isNil y37))) || (!(isNil y39))) || (!(isNil y41))) || (decide (y34 < i2))) || (decide (a4 ≤ y34))) || (decide (y36 < vb5))) || (decide (j3 ≤ y36))) || (decide (y38 < i2))) || (decide (j3 ≤ y38))) || (decide (y40 < i2))) with g76 | g76
                                        · refine s_sk (d := some 147) rfl rfl (wants_no rfl rfl rfl rfl g76) ?_
                                          refine s_sk (d := some 148) rfl rfl (wants_no rfl rfl rfl rfl g76) ?_
                                          refine s_sk (d := some 149) rfl rfl (wants_no rfl rfl rfl rfl g76) ?_
                                          refine s_pu (d := some 150) (v := (.bool true)) rfl rfl rfl (r_pick1 rfl g76 rfl) ?_
                                          exact S_mk (l := [(0, (Sl.v l1)), (1, (.int .i64 i2)), (2, (.int .i64 j3)), (5, (.int .i64 k6)), (16, (.int .i64 y34)), (18, (.int .i64 y36)), (20, (.int .i64 y38)), (22, (.int .i64 y40)), (150, (.bool ((((((((((((!(isNil y35)) || (!(isNil y37))) || (!(isNil y39))) || (!(isNil y41))) || (decide (y34 < i2))) || (decide (a4 ≤ y34))) || (decide (y36 < vb5))) || (decide (j3 ≤ y36))) || (decide (y38 < i2))) || (decide (j3 ≤ y38))) || (decide (y40 < i2))) || (decide (j3 ≤ y40)))))]) HJ ⟨rfl, rfl, rfl, rfl, rfl, rfl, rfl, rfl, (by rw [g76]; rfl), trivial⟩
                                        · refine s_pu (d := some 147) (v := (.int .i64 y40)) rfl rfl (wants_yes rfl rfl rfl rfl g76) (r_move rfl) ?_
                                          refine s_pu (d := some 148) (v := (.int .i64 j3)) rfl rfl (wants_yes rfl rfl rfl rfl g76) (r_move rfl) ?_
                                          refine s_pu (d := some 149) (v := (.bool (decide (j3 ≤ y40)))) rfl rfl (wants_yes rfl rfl rfl rfl g76) (r_geq rfl rfl) ?_
                                          refine s_pu (d := some 150) (v := (.bool (decide (j3 ≤ y40)))) rfl rfl rfl (r_pick0 rfl g76 rfl) ?_
                                          exact S_mk (l := [(0, (Sl.v l1)), (1, (.int .i64 i2)), (2, (.int .i64 j3)), (5, (.int .i64 k6)), (16, (.int .i64 y34)), (18, (.int .i64 y36)), (20, (.int .i64 y38)), (22, (.int .i64 y40)), (150, (.bool ((((((((((((!(isNil y35)) || (!(isNil y37))) || (!(isNil y39))) || (!(isNil y41))) || (decide (y34 < i2))) || (decide (a4 ≤ y34))) || (decide (y36 < vb5))) || (decide (j3 ≤ y36))) || (decide (y38 < i2))) || (decide (j3 ≤ y38))) || (decide (y40 < i2))) || (decide (j3 ≤ y40)))))]) HJ ⟨rfl, rfl, rfl, rfl, rfl, rfl, rfl, rfl, (by rw [g76]; rfl), trivial⟩
                                    · rcases Bool.eq_false_or_eq_true ((((((((((!(isNil y35)) || (!(isNil y37))) || (!(isNil y39))) || (!(isNil y41))) || (decide (y34 < i2))) || (decide (a4 ≤ y34))) || (decide (y36 < vb5))) || (decide (j3 ≤ y36))) || (decide (y38 < i2))) || (decide (j3 ≤ y38))) with g73 | g73
                                      · refine s_sk (d := some 142) rfl rfl (wants_no rfl rfl rfl rfl g73) ?_
                                        refine s_sk (d := some 143) rfl rfl (wants_no rfl rfl rfl rfl g73) ?_
                                        refine s_sk (d := some 144) rfl rfl (wants_no rfl rfl rfl rfl g73) ?_
                                        refine s_pu (d := some 145) (v := (.bool true)) rfl rfl rfl (r_pick1 rfl g73 rfl) ?_
                                        exact S_mk (l := [(0, (Sl.v l1)), (1, (.int .i64 i2)), (2, (.int .i64 j3)), (5, (.int .i64 k6)), (16, (.int .i64 y34)), (18, (.int .i64 y36)), (20, (.int .i64 y38)), (22, (.int .i64 y40)), (145, (.bool (((((((((((!(isNil y35)) || (!(isNil y37))) || (!(isNil y39))) || (!(isNil y41))) || (decide (y34 < i2))) || (decide (a4 ≤ y34))) || (decide (y36 < vb5))) || (decide (j3 ≤ y36))) || (decide (y38 < i2))) || (decide (j3 ≤ y38))) || (decide (y40 < i2)))))]) HJ ⟨rfl, rfl, rfl, rfl, rfl, rfl, rfl, rfl, (by rw [g73]; rfl), trivial⟩
                                      · refine s_pu (d := some 142) (v := (.int .i64 y40)) rfl rfl (wants_yes rfl rfl rfl rfl g73) (r_move rfl) ?_
                                        refine s_pu (d := some 143) (v := (.int .i64 i2)) rfl rfl (wants_yes rfl rfl rfl rfl g73) (r_move rfl) ?_
                                        refine s_pu (d := some 144) (v := (.bool (decide (y40 < i2)))) rfl rfl (wants_yes rfl rfl rfl rfl g73) (r_lss rfl rfl) ?_
                                        refine s_pu (d := some 145) (v := (.bool (decide (y40 < i2)))) rfl rfl rfl (r_pick0 rfl g73 rfl) ?_
                                        exact S_mk (l := [(0, (Sl.v l1)), (1, (.int .i64 i2)), (2, (.int .i64 j3)), (5, (.int .i64 k6)), (16, (.int .i64 y34)), (18, (.int .i64 y36)), (20, (.int .i64 y38)), (22, (.int .i64 y40)), (145, (.bool (((((((((((!(isNil y35)) || (!(isNil y37))) || (!(isNil y39))) || (!(isNil y41))) || (decide (y34 < i2))) || (decide (a4 ≤ y34))) || (decide (y36 < vb5))) || (decide (j3 ≤ y36))) || (decide (y38 < i2))) || (decide (j3 ≤ y38))) || (decide (y40 < i2)))))]) HJ ⟨rfl, rfl, rfl, rfl, rfl, rfl, rfl, rfl, (by rw [g73]; rfl), trivial⟩
                                  · rcases Bool.eq_false_or_eq_true (((((((((!(isNil y35)) || (!(isNil y37))) || (!(isNil y39))) || (!(isNil y41))) || (decide (y34 < i2))) || (decide (a4 ≤ y34))) || (decide (y36 < vb5))) || (decide (j3 ≤ y36))) || (decide (y38 < i2))) with g70 | g70
                                    · refine s_sk (d := some 137) rfl rfl (wants_no rfl rfl rfl rfl g70) ?_
                                      refine s_sk (d := some 138) rfl rfl (wants_no rfl rfl rfl rfl g70) ?_
                                      refine s_sk (d := some 139) rfl rfl (wants_no rfl rfl rfl rfl g70) ?_
                                      refine s_pu (d := some 140) (v := (.bool true)) rfl rfl rfl (r_pick1 rfl g70 rfl) ?_
                                      exact S_mk (l := [(0, (Sl.v l1)), (1, (.int .i64 i2)), (2, (.int .i64 j3)), (5, (.int .i64 k6)), (16, (.int .i64 y34)), (18, (.int .i64 y36)), (20, (.int .i64 y38)), (22, (.int .i64 y40)), (140, (.bool ((((((((((!(isNil y35)) || (!(isNil y37))) || (!(isNil y39))) || (!(isNil y41))) || (decide (y34 < i2))) || (decide (a4 ≤ y34))) || (decide (y36 < vb5))) || (decide (j3 ≤ y36))) || (decide (y38 < i2))) || (decide (j3 ≤ y38)))))]) HJ ⟨rfl, rfl, rfl, rfl, rfl, rfl, rfl, rfl, (by rw [g70]; rfl), trivial⟩
                                    · refine s_pu (d := some 137) (v := (.int .i64 y38)) rfl rfl (wants_yes rfl rfl rfl rfl g70) (r_move rfl) ?_
                                      refine s_pu (d := some 138) (v := (.int .i64 j3)) rfl rfl (wants_yes rfl rfl rfl rfl g70) (r_move rfl) ?_
                                      refine s_pu (d := some 139) (v := (.bool (decide (j3 ≤ y38)))) rfl rfl (wants_yes rfl rfl rfl rfl g70) (r_geq rfl rfl) ?_
                                      refine s_pu (d := some 140) (v := (.bool (decide (j3 ≤ y38)))) rfl rfl rfl (r_pick0 rfl g70 rfl) ?_
                                      exact S_mk (l := [(0, (Sl.v l1)), (1, (.int .i64 i2)), (2, (.int .i64 j3)), (5, (.int .i64 k6)), (16, (.int .i64 y34)), (18, (.int .i64 y36)), (20, (.int .i64 y38)), (22, (.int .i64 y40)), (140, (.bool ((((((((((!(isNil y35)) || (!(isNil y37))) || (!(isNil y39))) || (!(isNil y41))) || (decide (y34 < i2))) || (decide (a4 ≤ y34))) || (decide (y36 < vb5))) || (decide (j3 ≤ y36))) || (decide (y38 < i2))) || (decide (j3 ≤ y38)))))]) HJ ⟨rfl, rfl, rfl, rfl, rfl, rfl, rfl, rfl, (by rw [g70]; rfl), trivial⟩
                                · rcases Bool.eq_false_or_eq_true ((((((((!(isNil y35)) || (!(isNil y37))) || (!(isNil y39))) || (!(isNil y41))) || (decide (y34 < i2))) || (decide (a4 ≤ y34))) || (decide (y36 < vb5))) || (decide (j3 ≤ y36))) with g67 | g67
                                  · refine s_sk (d := some 132) rfl rfl (wants_no rfl rfl rfl rfl g67) ?_
                                    refine s_sk (d := some 133) rfl rfl (wants_no rfl rfl rfl rfl g67) ?_
                                    refine s_sk (d := some 134) rfl rfl (wants_no rfl rfl rfl rfl g67) ?_
                                    refine s_pu (d := some 135) (v := (.bool true)) rfl rfl rfl (r_pick1 rfl g67 rfl) ?_
                                    exact S_mk (l := [(0, (Sl.v l1)), (1, (.int .i64 i2)), (2, (.int .i64 j3)), (5, (.int .i64 k6)), (16, (.int .i64 y34)), (18, (.int .i64 y36)), (20, (.int .i64 y38)), (22, (.int .i64 y40)), (135, (.bool (((((((((!(isNil y35)) || (!(isNil y37))) || (!(isNil y39))) || (!(isNil y41))) || (decide (y34 < i2))) || (decide (a4 ≤ y34))) || (decide (y36 < vb5))) || (decide (j3 ≤ y36))) || (decide (y38 < i2)))))]) HJ ⟨rfl, rfl, rfl, rfl, rfl, rfl, rfl, rfl, (by rw [g67]; rfl), trivial⟩
                                  · refine s_pu (d := some 132) (v := (.int .i64 y38)) rfl rfl (wants_yes rfl rfl rfl rfl g67) (r_move rfl) ?_
                                    refine s_pu (d := some 133) (v := (.int .i64 i2)) rfl rfl (wants_yes rfl rfl rfl rfl g67) (r_move rfl) ?_
                                    refine s_pu (d := some 134) (v := (.bool (decide (y38 < i2)))) rfl rfl (wants_yes rfl rfl rfl rfl g67) (r_lss rfl rfl) ?_
                                    refine s_pu (d := some 135) (v := (.bool (decide (y38 < i2)))) rfl rfl rfl (r_pick0 rfl g67 rfl) ?_
                                    exact S_mk (l := [(0, (Sl.v l1)), (1, (.int .i64 i2)), (2, (.int .i64 j3)), (5, (.int .i64 k6)), (16, (.int .i64 y34)), (18, (.int .i64 y36)), (20, (.int .i64 y38)), (22, (.int .i64 y40)), (135, (.bool (((((((((!(isNil y35)) || (!(isNil y37))) || (!(isNil y39))) || (!(isNil y41))) || (decide (y34 < i2))) || (decide (a4 ≤ y34))) || (decide (y36 < vb5))) || (decide (j3 ≤ y36))) || (decide (y38 < i2)))))]) HJ ⟨rfl, rfl, rfl, rfl, rfl, rfl, rfl, rfl, (by rw [g67]; rfl), trivial⟩
                              · rcases Bool.eq_false_or_eq_true (((((((!(isNil y35)) || (!(isNil y37))) || (!(isNil y39))) || (!(isNil y41))) || (decide (y34 < i2))) || (decide (a4 ≤ y34))) || (decide (y36 < vb5))) with g64 | g64
                                · refine s_sk (d := some 127) rfl rfl (wants_no rfl rfl rfl rfl g64) ?_
                                  refine s_sk (d := some 128) rfl rfl (wants_no rfl rfl rfl rfl g64) ?_
                                  refine s_sk (d := some 129) rfl rfl (wants_no rfl rfl rfl rfl g64) ?_
                                  refine s_pu (d := some 130) (v := (.bool true)) rfl rfl rfl (r_pick1 rfl g64 rfl) ?_
                                  exact S_mk (l := [(0, (Sl.v l1)), (1, (.int .i64 i2)), (2, (.int .i64 j3)), (5, (.int .i64 k6)), (16, (.int .i64 y34)), (18, (.int .i64 y36)), (20, (.int .i64 y38)), (22, (.int .i64 y40)), (130, (.bool ((((((((!(isNil y35)) || (!(isNil y37))) || (!(isNil y39))) || (!(isNil y41))) || (decide (y34 < i2))) || (decide (a4 ≤ y34))) || (decide (y36 < vb5))) || (decide (j3 ≤ y36)))))]) HJ ⟨rfl, rfl, rfl, rfl, rfl, rfl, rfl, rfl, (by rw [g64]; rfl), trivial⟩
                                · refine s_pu (d := some 127) (v := (.int .i64 y36)) rfl rfl (wants_yes rfl rfl rfl rfl g64) (r_move rfl) ?_
                                  refine s_pu (d := some 128) (v := (.int .i64 j3)) rfl rfl (wants_yes rfl rfl rfl rfl g64) (r_move rfl) ?_
                                  refine s_pu (d := some 129) (v := (.bool (decide (j3 ≤ y36)))) rfl rfl (wants_yes rfl rfl rfl rfl g64) (r_geq rfl rfl) ?_
                                  refine s_pu (d := some 130) (v := (.bool (decide (j3 ≤ y36)))) rfl rfl rfl (r_pick0 rfl g64 rfl) ?_
                                  exact S_mk (l := [(0, (Sl.v l1)), (1, (.int .i64 i2)), (2, (.int .i64 j3)), (5, (.int .i64 k6)), (16, (.int .i64 y34)), (18, (.int .i64 y36)), (20, (.int .i64 y38)), (22, (.int .i64 y40)), (130, (.bool ((((((((!(isNil y35)) || (!(isNil y37))) || (!(isNil y39))) || (!(isNil y41))) || (decide (y34 < i2))) || (decide (a4 ≤ y34))) || (decide (y36 < vb5))) || (decide (j3 ≤ y36)))))]) HJ ⟨rfl, rfl, rfl, rfl, rfl, rfl, rfl, rfl, (by rw [g64]; rfl), trivial⟩
                            · rcases Bool.eq_false_or_eq_true ((((((!(isNil y35)) || (!(isNil y37))) || (!(isNil y39))) || (!(isNil y41))) || (decide (y34 < i2))) || (decide (a4 ≤ y34))) with g61 | g61
                              · refine s_sk (d := some 122) rfl rfl (wants_no rfl rfl rfl rfl g61) ?_
                                refine s_sk (d := some 123) rfl rfl (wants_no rfl rfl rfl rfl g61) ?_
                                refine s_sk (d := some 124) rfl rfl (wants_no rfl rfl rfl rfl g61) ?_
                                refine s_pu (d := some 125) (v := (.bool true)) rfl rfl rfl (r_pick1 rfl g61 rfl) ?_
                                exact S_mk (l := [(0, (Sl.v l1)), (1, (.int .i64 i2)), (2, (.int .i64 j3)), (5, (.int .i64 k6)), (16, (.int .i64 y34)), (18, (.int .i64 y36)), (20, (.int .i64 y38)), (22, (.int .i64 y40)), (125, (.bool (((((((!(isNil y35)) || (!(isNil y37))) || (!(isNil y39))) || (!(isNil y41))) || (decide (y34 < i2))) || (decide (a4 ≤ y34))) || (decide (y36 < vb5)))))]) HJ ⟨rfl, rfl, rfl, rfl, rfl, rfl, rfl, rfl, (by rw [g61]; rfl), trivial⟩
                              · refine s_pu (d := some 122) (v := (.int .i64 y36)) rfl rfl (wants_yes rfl rfl rfl rfl g61) (r_move rfl) ?_
                                refine s_pu (d := some 123) (v := (.int .i64 vb5)) rfl rfl (wants_yes rfl rfl rfl rfl g61) (r_move rfl) ?_
                                refine s_pu (d := some 124) (v := (.bool (decide (y36 < vb5)))) rfl rfl (wants_yes rfl rfl rfl rfl g61) (r_lss rfl rfl) ?_
                                refine s_pu (d := some 125) (v := (.bool (decide (y36 < vb5)))) rfl rfl rfl (r_pick0 rfl g61 rfl) ?_
                                exact S_mk (l := [(0, (Sl.v l1)), (1, (.int .i64 i2)), (2, (.int .i64 j3)), (5, (.int .i64 k6)), (16, (.int .i64 y34)), (18, (.int .i64 y36)), (20, (.int .i64 y38)), (22, (.int .i64 y40)), (125, (.bool (((((((!(isNil y35)) || (!(isNil y37))) || (!(isNil y39))) || (!(isNil y41))) || (decide (y34 < i2))) || (decide (a4 ≤ y34))) || (decide (y36 < vb5)))))]) HJ ⟨rfl, rfl, rfl, rfl, rfl, rfl, rfl, rfl, (by rw [g61]; rfl), trivial⟩
                          · rcases Bool.eq_false_or_eq_true (((((!(isNil y35)) || (!(isNil y37))) || (!(isNil y39))) || (!(isNil y41))) || (decide (y34 < i2))) with g58 | g58
                            · refine s_sk (d := some 117) rfl rfl (wants_no rfl rfl rfl rfl g58) ?_
                              refine s_sk (d := some 118) rfl rfl (wants_no rfl rfl rfl rfl g58) ?_
                              refine s_sk (d := some 119) rfl rfl (wants_no rfl rfl rfl rfl g58) ?_
                              refine s_pu (d := some 120) (v := (.bool true)) rfl rfl rfl (r_pick1 rfl g58 rfl) ?_
                              exact S_mk (l := [(0, (Sl.v l1)), (1, (.int .i64 i2)), (2, (.int .i64 j3)), (4, (.int .i64 vb5)), (5, (.int .i64 k6)), (16, (.int .i64 y34)), (18, (.int .i64 y36)), (20, (.int .i64 y38)), (22, (.int .i64 y40)), (120, (.bool ((((((!(isNil y35)) || (!(isNil y37))) || (!(isNil y39))) || (!(isNil y41))) || (decide (y34 < i2))) || (decide (a4 ≤ y34)))))]) HJ ⟨rfl, rfl, rfl, rfl, rfl, rfl, rfl, rfl, rfl, (by rw [g58]; rfl), trivial⟩
                            · refine s_pu (d := some 117) (v := (.int .i64 y34)) rfl rfl (wants_yes rfl rfl rfl rfl g58) (r_move rfl) ?_
                              refine s_pu (d := some 118) (v := (.int .i64 a4)) rfl rfl (wants_yes rfl rfl rfl rfl g58) (r_move rfl) ?_
                              refine s_pu (d := some 119) (v := (.bool (decide (a4 ≤ y34)))) rfl rfl (wants_yes rfl rfl rfl rfl g58) (r_geq rfl rfl) ?_
                              refine s_pu (d := some 120) (v := (.bool (decide (a4 ≤ y34)))) rfl rfl rfl (r_pick0 rfl g58 rfl) ?_
                              exact S_mk (l := [(0, (Sl.v l1)), (1, (.int .i64 i2)), (2, (.int .i64 j3)), (4, (.int .i64 vb5)), (5, (.int .i64 k6)), (16, (.int .i64 y34)), (18, (.int .i64 y36)), (20, (.int .i64 y38)), (22, (.int .i64 y40)), (120, (.bool ((((((!(isNil y35)) || (!(isNil y37))) || (!(isNil y39))) || (!(isNil y41))) || (decide (y34 < i2))) || (decide (a4 ≤ y34)))))]) HJ ⟨rfl, rfl, rfl, rfl, rfl, rfl, rfl, rfl, rfl, (by rw [g58]; rfl), trivial⟩
                        · rcases Bool.eq_false_or_eq_true ((((!(isNil y35)) || (!(isNil y37))) || (!(isNil y39))) || (!(isNil y41))) with g55 | g55
                          · refine s_sk (d := some 112) rfl rfl (wants_no rfl rfl rfl rfl g55) ?_
                            refine s_sk (d := some 113) rfl rfl (wants_no rfl rfl rfl rfl g55) ?_
                            refine s_sk (d := some 114) rfl rfl (wants_no rfl rfl rfl rfl g55) ?_
                            refine s_pu (d := some 115) (v := (.bool true)) rfl rfl rfl (r_pick1 rfl g55 rfl) ?_
                            exact S_mk (l := [(0, (Sl.v l1)), (1, (.int .i64 i2)), (2, (.int .i64 j3)), (3, (.int .i64 a4)), (4, (.int .i64 vb5)), (5, (.int .i64 k6)), (16, (.int .i64 y34)), (18, (.int .i64 y36)), (20, (.int .i64 y38)), (22, (.int .i64 y40)), (115, (.bool (((((!(isNil y35)) || (!(isNil y37))) || (!(isNil y39))) || (!(isNil y41))) || (decide (y34 < i2)))))]) HJ ⟨rfl, rfl, rfl, rfl, rfl, rfl, rfl, rfl, rfl, rfl, (by rw [g55]; rfl), trivial⟩
                          · refine s_pu (d := some 112) (v := (.int .i64 y34)) rfl rfl (wants_yes rfl rfl rfl rfl g55) (r_move rfl) ?_
                            refine s_pu (d := some 113) (v := (.int .i64 i2)) rfl rfl (wants_yes rfl rfl rfl rfl g55) (r_move rfl) ?_
                            refine s_pu (d := some 114) (v := (.bool (decide (y34 < i2)))) rfl rfl (wants_yes rfl rfl rfl rfl g55) (r_lss rfl rfl) ?_
                            refine s_pu (d := some 115) (v := (.bool (decide (y34 < i2)))) rfl rfl rfl (r_pick0 rfl g55 rfl) ?_
                            exact S_mk (l := [(0, (Sl.v l1)), (1, (.int .i64 i2)), (2, (.int .i64 j3)), (3, (.int .i64 a4)), (4, (.int .i64 vb5)), (5, (.int .i64 k6)), (16, (.int .i64 y34)), (18, (.int .i64 y36)), (20, (.int .i64 y38)), (22, (.int .i64 y40)), (115, (.bool (((((!(isNil y35)) || (!(isNil y37))) || (!(isNil y39))) || (!(isNil y41))) || (decide (y34 < i2)))))]) HJ ⟨rfl, rfl, rfl, rfl, rfl, rfl, rfl, rfl, rfl, rfl, (by rw [g55]; rfl), trivial⟩
                      · rcases Bool.eq_false_or_eq_true (((!(isNil y35)) || (!(isNil y37))) || (!(isNil y39))) with g51 | g51
                        · refine s_sk (d := some 108) rfl rfl (wants_no rfl rfl rfl rfl g51) ?_
                          refine s_sk (d := some 109) rfl rfl (wants_no rfl rfl rfl rfl g51) ?_
                          refine s_pu (d := some 110) (v := (.bool true)) rfl rfl rfl (r_pick1 rfl g51 rfl) ?_
                          exact S_mk (l := [(0, (Sl.v l1)), (1, (.int .i64 i2)), (2, (.int .i64 j3)), (3, (.int .i64 a4)), (4, (.int .i64 vb5)), (5, (.int .i64 k6)), (16, (.int .i64 y34)), (18, (.int .i64 y36)), (20, (.int .i64 y38)), (22, (.int .i64 y40)), (110, (.bool ((((!(isNil y35)) || (!(isNil y37))) || (!(isNil y39))) || (!(isNil y41)))))]) HJ ⟨rfl, rfl, rfl, rfl, rfl, rfl, rfl, rfl, rfl, rfl, (by rw [g51]; rfl), trivial⟩
                        · refine s_pu (d := some 108) (v := y41) rfl rfl (wants_yes rfl rfl rfl rfl g51) (r_move rfl) ?_
                          refine s_pu (d := some 109) (v := (.bool (!(isNil y41)))) rfl rfl (wants_yes rfl rfl rfl rfl g51) (r_notNilI Try.underlying26 rfl e52 rfl) ?_
                          refine s_pu (d := some 110) (v := (.bool (!(isNil y41)))) rfl rfl rfl (r_pick0 rfl g51 rfl) ?_
                          exact S_mk (l := [(0, (Sl.v l1)), (1, (.int .i64 i2)), (2, (.int .i64 j3)), (3, (.int .i64 a4)), (4, (.int .i64 vb5)), (5, (.int .i64 k6)), (16, (.int .i64 y34)), (18, (.int .i64 y36)), (20, (.int .i64 y38)), (22, (.int .i64 y40)), (110, (.bool ((((!(isNil y35)) || (!(isNil y37))) || (!(isNil y39))) || (!(isNil y41)))))]) HJ ⟨rfl, rfl, rfl, rfl, rfl, rfl, rfl, rfl, rfl, rfl, (by rw [g51]; rfl), trivial⟩
                    · rcases Bool.eq_false_or_eq_true ((!(isNil y35)) || (!(isNil y37))) with g47 | g47
                      · refine s_sk (d := some 104) rfl rfl (wants_no rfl rfl rfl rfl g47) ?_
                        refine s_sk (d := some 105) rfl rfl (wants_no rfl rfl rfl rfl g47) ?_
                        refine s_pu (d := some 106) (v := (.bool true)) rfl rfl rfl (r_pick1 rfl g47 rfl) ?_
                        exact S_mk (l := [(0, (Sl.v l1)), (1, (.int .i64 i2)), (2, (.int .i64 j3)), (3, (.int .i64 a4)), (4, (.int .i64 vb5)), (5, (.int .i64 k6)), (16, (.int .i64 y34)), (18, (.int .i64 y36)), (20, (.int .i64 y38)), (22, (.int .i64 y40)), (23, y41), (106, (.bool (((!(isNil y35)) || (!(isNil y37))) || (!(isNil y39)))))]) HJ ⟨rfl, rfl, rfl, rfl, rfl, rfl, rfl, rfl, rfl, rfl, rfl, (by rw [g47]; rfl), trivial⟩
                      · refine s_pu (d := some 104) (v := y39) rfl rfl (wants_yes rfl rfl rfl rfl g47) (r_move rfl) ?_
                        refine s_pu (d := some 105) (v := (.bool (!(isNil y39)))) rfl rfl (wants_yes rfl rfl rfl rfl g47) (r_notNilI Try.underlying26 rfl e48 rfl) ?_
                        refine s_pu (d := some 106) (v := (.bool (!(isNil y39)))) rfl rfl rfl (r_pick0 rfl g47 rfl) ?_
                        exact S_mk (l := [(0, (Sl.v l1)), (1, (.int .i64 i2)), (2, (.int .i64 j3)), (3, (.int .i64 a4)), (4, (.int .i64 vb5)), (5, (.int .i64 k6)), (16, (.int .i64 y34)), (18, (.int .i64 y36)), (20, (.int .i64 y38)), (22, (.int .i64 y40)), (23, y41), (106, (.bool (((!(isNil y35)) || (!(isNil y37))) || (!(isNil y39)))))]) HJ ⟨rfl, rfl, rfl, rfl, rfl, rfl, rfl, rfl, rfl, rfl, rfl, (by rw [g47]; rfl), trivial⟩
                  · rcases Bool.eq_false_or_eq_true (!(isNil y35)) with g43 | g43
                    · refine s_sk (d := some 100) rfl rfl (wants_no rfl rfl rfl rfl g43) ?_
                      refine s_sk (d := some 101) rfl rfl (wants_no rfl rfl rfl rfl g43) ?_
                      refine s_pu (d := some 102) (v := (.bool true)) rfl rfl rfl (r_pick1 rfl g43 rfl) ?_
                      exact S_mk (l := [(0, (Sl.v l1)), (1, (.int .i64 i2)), (2, (.int .i64 j3)), (3, (.int .i64 a4)), (4, (.int .i64 vb5)), (5, (.int .i64 k6)), (16, (.int .i64 y34)), (18, (.int .i64 y36)), (20, (.int .i64 y38)), (21, y39), (22, (.int .i64 y40)), (23, y41), (102, (.bool ((!(isNil y35)) || (!(isNil y37)))))]) HJ ⟨rfl, rfl, rfl, rfl, rfl, rfl, rfl, rfl, rfl, rfl, rfl, rfl, (by rw [g43]; rfl), trivial⟩
                    · refine s_pu (d := some 100) (v := y37) rfl rfl (wants_yes rfl rfl rfl rfl g43) (r_move rfl) ?_
                      refine s_pu (d := some 101) (v := (.bool (!(isNil y37)))) rfl rfl (wants_yes rfl rfl rfl rfl g43) (r_notNilI Try.underlying26 rfl e44 rfl) ?_
                      refine s_pu (d := some 102) (v := (.bool (!(isNil y37)))) rfl rfl rfl (r_pick0 rfl g43 rfl) ?_
                      exact S_mk (l := [(0, (Sl.v l1)), (1, (.int .i64 i2)), (2, (.int .i64 j3)), (3, (.int .i64 a4)), (4, (.int .i64 vb5)), (5, (.int .i64 k6)), (16, (.int .i64 y34)), (18, (.int .i64 y36)), (20, (.int .i64 y38)), (21, y39), (22, (.int .i64 y40)), (23, y41), (102, (.bool ((!(isNil y35)) || (!(isNil y37)))))]) HJ ⟨rfl, rfl, rfl, rfl, rfl, rfl, rfl, rfl, rfl, rfl, rfl, rfl, (by rw [g43]; rfl), trivial⟩
              · rcases Bool.eq_false_or_eq_true ((((((!(isNil y9)) || (Option.isNone y8)) || (decide (i2 < 0))) || (decide (vb5 ≤ i2))) || (decide (a4 < vb5))) || (decide (j3 ≤ a4))) with g26 | g26
                · refine s_sk (d := some 58) rfl rfl (wants_no rfl rfl rfl rfl g26) ?_
                  refine s_sk (d := some 59) rfl rfl (wants_no rfl rfl rfl rfl g26) ?_
                  refine s_sk (d := some 60) rfl rfl (wants_no rfl rfl rfl rfl g26) ?_
                  refine s_sk (d := some 61) rfl rfl (wants_no rfl rfl rfl rfl g26) ?_
                  refine s_pu (d := some 62) (v := (.bool true)) rfl rfl rfl (r_pick1 rfl g26 rfl) ?_
                  exact S_mk (l := [(0, (Sl.v l1)), (1, (.int .i64 i2)), (2, (.int .i64 j3)), (3, (.int .i64 a4)), (4, (.int .i64 vb5)), (5, (.int .i64 k6)), (14, (.pointer y8)), (15, y9), (62, (.bool (((((((!(isNil y9)) || (Option.isNone y8)) || (decide (i2 < 0))) || (decide (vb5 ≤ i2))) || (decide (a4 < vb5))) || (decide (j3 ≤ a4))) || (decide (((l1.len : Int)) < j3)))))]) HJ ⟨rfl, rfl, rfl, rfl, rfl, rfl, rfl, rfl, (by rw [g26]; rfl), trivial⟩
                · refine s_pu (d := some 58) (v := (.int .i64 j3)) rfl rfl (wants_yes rfl rfl rfl rfl g26) (r_move rfl) ?_
                  refine s_pu (d := some 59) (v := (Sl.v l1)) rfl rfl (wants_yes rfl rfl rfl rfl g26) (r_move rfl) ?_
                  refine s_pu (d := some 60) (v := (.int .i64 ((l1.len : Int)))) rfl rfl (wants_yes rfl rfl rfl rfl g26) (r_len Try.underlying22 rfl) ?_
                  refine s_pu (d := some 61) (v := (.bool (decide (((l1.len : Int)) < j3)))) rfl rfl (wants_yes rfl rfl rfl rfl g26) (r_gtr rfl rfl) ?_
                  refine s_pu (d := some 62) (v := (.bool (decide (((l1.len : Int)) < j3)))) rfl rfl rfl (r_pick0 rfl g26 rfl) ?_
                  exact S_mk (l := [(0, (Sl.v l1)), (1, (.int .i64 i2)), (2, (.int .i64 j3)), (3, (.int .i64 a4)), (4, (.int .i64 vb5)), (5, (.int .i64 k6)), (14, (.pointer y8)), (15, y9), (62, (.bool (((((((!(isNil y9)) || (Option.isNone y8)) || (decide (i2 < 0))) || (decide (vb5 ≤ i2))) || (decide (a4 < vb5))) || (decide (j3 ≤ a4))) || (decide (((l1.len : Int)) < j3)))))]) HJ ⟨rfl, rfl, rfl, rfl, rfl, rfl, rfl, rfl, (by rw [g26]; rfl), trivial⟩
            · rcases Bool.eq_false_or_eq_true (((((!(isNil y9)) || (Option.isNone y8)) || (decide (i2 < 0))) || (decide (vb5 ≤ i2))) || (decide (a4 < vb5))) with g23 | g23
              · refine s_sk (d := some 53) rfl rfl (wants_no rfl rfl rfl rfl g23) ?_
                refine s_sk (d := some 54) rfl rfl (wants_no rfl rfl rfl rfl g23) ?_
                refine s_sk (d := some 55) rfl rfl (wants_no rfl rfl rfl rfl g23) ?_
                refine s_pu (d := some 56) (v := (.bool true)) rfl rfl rfl (r_pick1 rfl g23 rfl) ?_
                exact S_mk (l := [(0, (Sl.v l1)), (1, (.int .i64 i2)), (2, (.int .i64 j3)), (3, (.int .i64 a4)), (4, (.int .i64 vb5)), (5, (.int .i64 k6)), (14, (.pointer y8)), (15, y9), (56, (.bool ((((((!(isNil y9)) || (Option.isNone y8)) || (decide (i2 < 0))) || (decide (vb5 ≤ i2))) || (decide (a4 < vb5))) || (decide (j3 ≤ a4)))))]) HJ ⟨rfl, rfl, rfl, rfl, rfl, rfl, rfl, rfl, (by rw [g23]; rfl), trivial⟩
              · refine s_pu (d := some 53) (v := (.int .i64 a4)) rfl rfl (wants_yes rfl rfl rfl rfl g23) (r_move rfl) ?_
                refine s_pu (d := some 54) (v := (.int .i64 j3)) rfl rfl (wants_yes rfl rfl rfl rfl g23) (r_move rfl) ?_
                refine s_pu (d := some 55) (v := (.bool (decide (j3 ≤ a4)))) rfl rfl (wants_yes rfl rfl rfl rfl g23) (r_geq rfl rfl) ?_
                refine s_pu (d := some 56) (v := (.bool (decide (j3 ≤ a4)))) rfl rfl rfl (r_pick0 rfl g23 rfl) ?_
                exact S_mk (l := [(0, (Sl.v l1)), (1, (.int .i64 i2)), (2, (.int .i64 j3)), (3, (.int .i64 a4)), (4, (.int .i64 vb5)), (5, (.int .i64 k6)), (14, (.pointer y8)), (15, y9), (56, (.bool ((((((!(isNil y9)) || (Option.isNone y8)) || (decide (i2 < 0))) || (decide (vb5 ≤ i2))) || (decide (a4 < vb5))) || (decide (j3 ≤ a4)))))]) HJ ⟨rfl, rfl, rfl, rfl, rfl, rfl, rfl, rfl, (by rw [g23]; rfl), trivial⟩
          · rcases Bool.eq_false_or_eq_true ((((!(isNil y9)) || (Option.isNone y8)) || (decide (i2 < 0))) || (decide (vb5 ≤ i2))) with g20 | g20
            · refine s_sk (d := some 48) rfl rfl (wants_no rfl rfl rfl rfl g20) ?_
              refine s_sk (d := some 49) rfl rfl (wants_no rfl rfl rfl rfl g20) ?_
              refine s_sk (d := some 50) rfl rfl (wants_no rfl rfl rfl rfl g20) ?_
              refine s_pu (d := some 51) (v := (.bool true)) rfl rfl rfl (r_pick1 rfl g20 rfl) ?_
              exact S_mk (l := [(0, (Sl.v l1)), (1, (.int .i64 i2)), (2, (.int .i64 j3)), (3, (.int .i64 a4)), (4, (.int .i64 vb5)), (5, (.int .i64 k6)), (14, (.pointer y8)), (15, y9), (51, (.bool (((((!(isNil y9)) || (Option.isNone y8)) || (decide (i2 < 0))) || (decide (vb5 ≤ i2))) || (decide (a4 < vb5)))))]) HJ ⟨rfl, rfl, rfl, rfl, rfl, rfl, rfl, rfl, (by rw [g20]; rfl), trivial⟩
            · refine s_pu (d := some 48) (v := (.int .i64 vb5)) rfl rfl (wants_yes rfl rfl rfl rfl g20) (r_move rfl) ?_
              refine s_pu (d := some 49) (v := (.int .i64 a4)) rfl rfl (wants_yes rfl rfl rfl rfl g20) (r_move rfl) ?_
              refine s_pu (d := some 50) (v := (.bool (decide (a4 < vb5)))) rfl rfl (wants_yes rfl rfl rfl rfl g20) (r_gtr rfl rfl) ?_
              refine s_pu (d := some 51) (v := (.bool (decide (a4 < vb5)))) rfl rfl rfl (r_pick0 rfl g20 rfl) ?_
              exact S_mk (l := [(0, (Sl.v l1)), (1, (.int .i64 i2)), (2, (.int .i64 j3)), (3, (.int .i64 a4)), (4, (.int .i64 vb5)), (5, (.int .i64 k6)), (14, (.pointer y8)), (15, y9), (51, (.bool (((((!(isNil y9)) || (Option.isNone y8)) || (decide (i2 < 0))) || (decide (vb5 ≤ i2))) || (decide (a4 < vb5)))))]) HJ ⟨rfl, rfl, rfl, rfl, rfl, rfl, rfl, rfl, (by rw [g20]; rfl), trivial⟩
        · rcases Bool.eq_false_or_eq_true (((!(isNil y9)) || (Option.isNone y8)) || (decide (i2 < 0))) with g17 | g17
          · refine s_sk (d := some 43) rfl rfl (wants_no rfl rfl rfl rfl g17) ?_
            refine s_sk (d := some 44) rfl rfl (wants_no rfl rfl rfl rfl g17) ?_
            refine s_sk (d := some 45) rfl rfl (wants_no rfl rfl rfl rfl g17) ?_
            refine s_pu (d := some 46) (v := (.bool true)) rfl rfl rfl (r_pick1 rfl g17 rfl) ?_
            exact S_mk (l := [(0, (Sl.v l1)), (1, (.int .i64 i2)), (2, (.int .i64 j3)), (3, (.int .i64 a4)), (4, (.int .i64 vb5)), (5, (.int .i64 k6)), (14, (.pointer y8)), (15, y9), (46, (.bool ((((!(isNil y9)) || (Option.isNone y8)) || (decide (i2 < 0))) || (decide (vb5 ≤ i2)))))]) HJ ⟨rfl, rfl, rfl, rfl, rfl, rfl, rfl, rfl, (by rw [g17]; rfl), trivial⟩
          · refine s_pu (d := some 43) (v := (.int .i64 i2)) rfl rfl (wants_yes rfl rfl rfl rfl g17) (r_move rfl) ?_
            refine s_pu (d := some 44) (v := (.int .i64 vb5)) rfl rfl (wants_yes rfl rfl rfl rfl g17) (r_move rfl) ?_
            refine s_pu (d := some 45) (v := (.bool (decide (vb5 ≤ i2)))) rfl rfl (wants_yes rfl rfl rfl rfl g17) (r_geq rfl rfl) ?_
            refine s_pu (d := some 46) (v := (.bool (decide (vb5 ≤ i2)))) rfl rfl rfl (r_pick0 rfl g17 rfl) ?_
            exact S_mk (l := [(0, (Sl.v l1)), (1, (.int .i64 i2)), (2, (.int .i64 j3)), (3, (.int .i64 a4)), (4, (.int .i64 vb5)), (5, (.int .i64 k6)), (14, (.pointer y8)), (15, y9), (46, (.bool ((((!(isNil y9)) || (Option.isNone y8)) || (decide (i2 < 0))) || (decide (vb5 ≤ i2)))))]) HJ ⟨rfl, rfl, rfl, rfl, rfl, rfl, rfl, rfl, (by rw [g17]; rfl), trivial⟩
      · rcases Bool.eq_false_or_eq_true ((!(isNil y9)) || (Option.isNone y8)) with g14 | g14
        · refine s_sk (d := some 39) rfl rfl (wants_no rfl rfl rfl rfl g14) ?_
          refine s_sk (d := some 40) rfl rfl (wants_no rfl rfl rfl rfl g14) ?_
          refine s_pu (d := some 41) (v := (.bool true)) rfl rfl rfl (r_pick1 rfl g14 rfl) ?_
          exact S_mk (l := [(0, (Sl.v l1)), (1, (.int .i64 i2)), (2, (.int .i64 j3)), (3, (.int .i64 a4)), (4, (.int .i64 vb5)), (5, (.int .i64 k6)), (14, (.pointer y8)), (15, y9), (41, (.bool (((!(isNil y9)) || (Option.isNone y8)) || (decide (i2 < 0)))))]) HJ ⟨rfl, rfl, rfl, rfl, rfl, rfl, rfl, rfl, (by rw [g14]; rfl), trivial⟩
        · refine s_pu (d := some 39) (v := (.int .i64 i2)) rfl rfl (wants_yes rfl rfl rfl rfl g14) (r_move rfl) ?_
          refine s_pu (d := some 40) (v := (.bool (decide (i2 < 0)))) rfl rfl (wants_yes rfl rfl rfl rfl g14) (r_lss rfl rfl) ?_
          refine s_pu (d := some 41) (v := (.bool (decide (i2 < 0)))) rfl rfl rfl (r_pick0 rfl g14 rfl) ?_
          exact S_mk (l := [(0, (Sl.v l1)), (1, (.int .i64 i2)), (2, (.int .i64 j3)), (3, (.int .i64 a4)), (4, (.int .i64 vb5)), (5, (.int .i64 k6)), (14, (.pointer y8)), (15, y9), (41, (.bool (((!(isNil y9)) || (Option.isNone y8)) || (decide (i2 < 0)))))]) HJ ⟨rfl, rfl, rfl, rfl, rfl, rfl, rfl, rfl, (by rw [g14]; rfl), trivial⟩
    · rcases Bool.eq_false_or_eq_true (!(isNil y9)) with g11 | g11
      · refine s_sk (d := some 35) rfl rfl (wants_no rfl rfl rfl rfl g11) ?_
        refine s_sk (d := some 36) rfl rfl (wants_no rfl rfl rfl rfl g11) ?_
        refine s_pu (d := some 37) (v := (.bool true)) rfl rfl rfl (r_pick1 rfl g11 rfl) ?_
        exact S_mk (l := [(0, (Sl.v l1)), (1, (.int .i64 i2)), (2, (.int .i64 j3)), (3, (.int .i64 a4)), (4, (.int .i64 vb5)), (5, (.int .i64 k6)), (14, (.pointer y8)), (15, y9), (37, (.bool ((!(isNil y9)) || (Option.isNone y8))))]) HJ ⟨rfl, rfl, rfl, rfl, rfl, rfl, rfl, rfl, (by rw [g11]; rfl), trivial⟩
      · refine s_pu (d := some 35) (v := (.pointer y8)) rfl rfl (wants_yes rfl rfl rfl rfl g11) (r_move rfl) ?_
        refine s_pu (d := some 36) (v := (.bool (Option.isNone y8))) rfl rfl (wants_yes rfl rfl rfl rfl g11) (r_nilP Try.underlying24 rfl rfl) ?_
        refine s_pu (d := some 37) (v := (.bool (Option.isNone y8))) rfl rfl rfl (r_pick0 rfl g11 rfl) ?_
        exact S_mk (l := [(0, (Sl.v l1)), (1, (.int .i64 i2)), (2, (.int .i64 j3)), (3, (.int .i64 a4)), (4, (.int .i64 vb5)), (5, (.int .i64 k6)), (14, (.pointer y8)), (15, y9), (37, (.bool ((!(isNil y9)) || (Option.isNone y8))))]) HJ ⟨rfl, rfl, rfl, rfl, rfl, rfl, rfl, rfl, (by rw [g11]; rfl), trivial⟩

end Go.Proofs.Ytgieabpckecjlaa
