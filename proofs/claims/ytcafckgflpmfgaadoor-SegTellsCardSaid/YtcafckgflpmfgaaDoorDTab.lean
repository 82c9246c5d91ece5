/- Typed words of functions, and that they hold: printed by gen.py (an own tool of this claim) off the model's own form of each function. -/
import Derived.Test.YtcafckgflpmfgaaDoorProg
import Derived.Test.YtcafckgflpmfgaaDoorDBas
import Derived.Test.YtcafckgflpmfgaaDoorDErr
import Derived.Test.YtcafckgflpmfgaaDoorTwFam
namespace Go.Proofs.YtcafckgflpmfgaaDoor
open Go Go.RowKit Go.Tw
set_option linter.unusedVariables false

theorem slFDTab_22 : SlF Tryd.prog 22 3 1 8 (.int .i64 0) := ⟨Tryd.underlying22, ⟨Tryd.t3, by kernel_rfl, rfl, rfl, rfl⟩, rfl, Tryd.sizeOf3, Tryd.zeroValue3⟩
theorem slFDTab_56 : SlF Tryd.prog 56 22 1 24 (Sl.v Sl.nil) := ⟨Tryd.underlying56, ⟨Tryd.t22, by kernel_rfl, rfl, rfl, rfl⟩, rfl, Tryd.sizeOf22, Tryd.zeroValue22⟩

/-! ### the calls -/

abbrev table_New (r : World) (l1 : Sl) (h : Heap) (R : Option Addr → Value → Heap → Prop) : Prop :=
  CallsH Tryd.prog r 20 [(Sl.v l1)] h fun v h' => ∃ (y2 : Option Addr) (y3 : Value), v = (.tuple #[(.pointer y2), y3]) ∧ R y2 y3 h'

theorem table_New.mono {r : World} {l1 : Sl} {h : Heap} {R R' : Option Addr → Value → Heap → Prop} (H : table_New r l1 h R) (hr : ∀ y2 y3 h, R y2 y3 h → R' y2 y3 h) : table_New r l1 h R' :=
  CallsH.mono H fun _ _ hx => by
    obtain ⟨y2, y3, hv, hR⟩ := hx
    exact ⟨y2, y3, hv, hr _ _ _ hR⟩

abbrev table_Table_next (r : World) (t1 : Option Addr) (row2 : Sl) (n3 : Int) (of4 : Value) (h : Heap) (R : Sl → Heap → Prop) : Prop :=
  CallsH Tryd.prog r 74 [(.pointer t1), (Sl.v row2), (.int .i64 n3), of4] h fun v h' => ∃ (y5 : Sl), v = (Sl.v y5) ∧ R y5 h'

theorem table_Table_next.mono {r : World} {t1 : Option Addr} {row2 : Sl} {n3 : Int} {of4 : Value} {h : Heap} {R R' : Sl → Heap → Prop} (H : table_Table_next r t1 row2 n3 of4 h R) (hr : ∀ y5 h, R y5 h → R' y5 h) : table_Table_next r t1 row2 n3 of4 h R' :=
  CallsH.mono H fun _ _ hx => by
    obtain ⟨y5, hv, hR⟩ := hx
    exact ⟨y5, hv, hr _ _ hR⟩

abbrev table_Table_low (r : World) (t1 : Option Addr) (i2 : Int) (j3 : Int) (h : Heap) (R : Int → Heap → Prop) : Prop :=
  CallsH Tryd.prog r 75 [(.pointer t1), (.int .i64 i2), (.int .i64 j3)] h fun v h' => ∃ (y4 : Int), v = (.int .i64 y4) ∧ R y4 h'

theorem table_Table_low.mono {r : World} {t1 : Option Addr} {i2 : Int} {j3 : Int} {h : Heap} {R R' : Int → Heap → Prop} (H : table_Table_low r t1 i2 j3 h R) (hr : ∀ y4 h, R y4 h → R' y4 h) : table_Table_low r t1 i2 j3 h R' :=
  CallsH.mono H fun _ _ hx => by
    obtain ⟨y4, hv, hR⟩ := hx
    exact ⟨y4, hv, hr _ _ hR⟩

abbrev table_Table_high (r : World) (t1 : Option Addr) (i2 : Int) (j3 : Int) (h : Heap) (R : Int → Heap → Prop) : Prop :=
  CallsH Tryd.prog r 76 [(.pointer t1), (.int .i64 i2), (.int .i64 j3)] h fun v h' => ∃ (y4 : Int), v = (.int .i64 y4) ∧ R y4 h'

theorem table_Table_high.mono {r : World} {t1 : Option Addr} {i2 : Int} {j3 : Int} {h : Heap} {R R' : Int → Heap → Prop} (H : table_Table_high r t1 i2 j3 h R) (hr : ∀ y4 h, R y4 h → R' y4 h) : table_Table_high r t1 i2 j3 h R' :=
  CallsH.mono H fun _ _ hx => by
    obtain ⟨y4, hv, hR⟩ := hx
    exact ⟨y4, hv, hr _ _ hR⟩

abbrev table_Table_told (r : World) (t1 : Option Addr) (rows2 : Sl) (i3 : Int) (j4 : Int) (of5 : Value) (h : Heap) (R : Int → Value → Heap → Prop) : Prop :=
  CallsH Tryd.prog r 77 [(.pointer t1), (Sl.v rows2), (.int .i64 i3), (.int .i64 j4), of5] h fun v h' => ∃ (y6 : Int) (y7 : Value), v = (.tuple #[(.int .i64 y6), y7]) ∧ R y6 y7 h'

theorem table_Table_told.mono {r : World} {t1 : Option Addr} {rows2 : Sl} {i3 : Int} {j4 : Int} {of5 : Value} {h : Heap} {R R' : Int → Value → Heap → Prop} (H : table_Table_told r t1 rows2 i3 j4 of5 h R) (hr : ∀ y6 y7 h, R y6 y7 h → R' y6 y7 h) : table_Table_told r t1 rows2 i3 j4 of5 h R' :=
  CallsH.mono H fun _ _ hx => by
    obtain ⟨y6, y7, hv, hR⟩ := hx
    exact ⟨y6, y7, hv, hr _ _ _ hR⟩

abbrev table_Table_Least (r : World) (t1 : Option Addr) (i2 : Int) (j3 : Int) (h : Heap) (R : Int → Value → Heap → Prop) : Prop :=
  CallsH Tryd.prog r 23 [(.pointer t1), (.int .i64 i2), (.int .i64 j3)] h fun v h' => ∃ (y4 : Int) (y5 : Value), v = (.tuple #[(.int .i64 y4), y5]) ∧ R y4 y5 h'

theorem table_Table_Least.mono {r : World} {t1 : Option Addr} {i2 : Int} {j3 : Int} {h : Heap} {R R' : Int → Value → Heap → Prop} (H : table_Table_Least r t1 i2 j3 h R) (hr : ∀ y4 y5 h, R y4 y5 h → R' y4 y5 h) : table_Table_Least r t1 i2 j3 h R' :=
  CallsH.mono H fun _ _ hx => by
    obtain ⟨y4, y5, hv, hR⟩ := hx
    exact ⟨y4, y5, hv, hr _ _ _ hR⟩

abbrev table_Table_Most (r : World) (t1 : Option Addr) (i2 : Int) (j3 : Int) (h : Heap) (R : Int → Value → Heap → Prop) : Prop :=
  CallsH Tryd.prog r 24 [(.pointer t1), (.int .i64 i2), (.int .i64 j3)] h fun v h' => ∃ (y4 : Int) (y5 : Value), v = (.tuple #[(.int .i64 y4), y5]) ∧ R y4 y5 h'

theorem table_Table_Most.mono {r : World} {t1 : Option Addr} {i2 : Int} {j3 : Int} {h : Heap} {R R' : Int → Value → Heap → Prop} (H : table_Table_Most r t1 i2 j3 h R) (hr : ∀ y4 y5 h, R y4 y5 h → R' y4 y5 h) : table_Table_Most r t1 i2 j3 h R' :=
  CallsH.mono H fun _ _ hx => by
    obtain ⟨y4, y5, hv, hR⟩ := hx
    exact ⟨y4, y5, hv, hr _ _ _ hR⟩

abbrev table_Table_Rows (r : World) (t1 : Option Addr) (h : Heap) (R : Int → Heap → Prop) : Prop :=
  CallsH Tryd.prog r 25 [(.pointer t1)] h fun v h' => ∃ (y2 : Int), v = (.int .i64 y2) ∧ R y2 h'

theorem table_Table_Rows.mono {r : World} {t1 : Option Addr} {h : Heap} {R R' : Int → Heap → Prop} (H : table_Table_Rows r t1 h R) (hr : ∀ y2 h, R y2 h → R' y2 h) : table_Table_Rows r t1 h R' :=
  CallsH.mono H fun _ _ hx => by
    obtain ⟨y2, hv, hR⟩ := hx
    exact ⟨y2, hv, hr _ _ hR⟩

abbrev law5_tabled (r : World)  (h : Heap) (R : Bool → Heap → Prop) : Prop :=
  CallsH Tryd.prog r 19 [] h fun v h' => ∃ (y1 : Bool), v = (.bool y1) ∧ R y1 h'

theorem law5_tabled.mono {r : World}  {h : Heap} {R R' : Bool → Heap → Prop} (H : law5_tabled r  h R) (hr : ∀ y1 h, R y1 h → R' y1 h) : law5_tabled r  h R' :=
  CallsH.mono H fun _ _ hx => by
    obtain ⟨y1, hv, hR⟩ := hx
    exact ⟨y1, hv, hr _ _ hR⟩

abbrev ref1_Spot (r : World) (l1 : Sl) (i2 : Int) (j3 : Int) (most4 : Bool) (h : Heap) (R : Int → Heap → Prop) : Prop :=
  CallsH Tryd.prog r 22 [(Sl.v l1), (.int .i64 i2), (.int .i64 j3), (.bool most4)] h fun v h' => ∃ (y5 : Int), v = (.int .i64 y5) ∧ R y5 h'

theorem ref1_Spot.mono {r : World} {l1 : Sl} {i2 : Int} {j3 : Int} {most4 : Bool} {h : Heap} {R R' : Int → Heap → Prop} (H : ref1_Spot r l1 i2 j3 most4 h R) (hr : ∀ y5 h, R y5 h → R' y5 h) : ref1_Spot r l1 i2 j3 most4 h R' :=
  CallsH.mono H fun _ _ hx => by
    obtain ⟨y5, hv, hR⟩ := hx
    exact ⟨y5, hv, hr _ _ hR⟩

abbrev law5_TableTells (r : World) (l1 : Sl) (i2 : Int) (j3 : Int) (h : Heap) (R : Bool → Heap → Prop) : Prop :=
  CallsH Tryd.prog r 4 [(Sl.v l1), (.int .i64 i2), (.int .i64 j3)] h fun v h' => ∃ (y4 : Bool), v = (.bool y4) ∧ R y4 h'

theorem law5_TableTells.mono {r : World} {l1 : Sl} {i2 : Int} {j3 : Int} {h : Heap} {R R' : Bool → Heap → Prop} (H : law5_TableTells r l1 i2 j3 h R) (hr : ∀ y4 h, R y4 h → R' y4 h) : law5_TableTells r l1 i2 j3 h R' :=
  CallsH.mono H fun _ _ hx => by
    obtain ⟨y4, hv, hR⟩ := hx
    exact ⟨y4, hv, hr _ _ hR⟩

/-! ### table_New -/

def table_New_F (r : World) (l1 : Sl) (h : Heap) (R : Option Addr → Value → Heap → Prop) : Prop :=
  Br (decide (5000 < ((l1.len : Int)))) (
    R none ((.iface 29 (.int .i64 4))) h) (
    slices_Clone_int_int r l1 h fun y2 h1 =>
    New h1 (.cells #[(Sl.v y2), (Sl.v Sl.nil), (Sl.v Sl.nil)] 101) fun p3 h2 =>
    ∀ X8 : Sl → Int → Heap → Prop, (∀ (row6 : Sl) (x7 : Int) (h3 : Heap),
      (Br (decide (x7 < ((l1.len : Int)))) (
        New h3 (.cells #[(.int .i64 x7)] 3) fun p9 h4 =>
        App 3 1 8 (.int .i64 0) row6 ((⟨some p9, 1, 1⟩ : Sl)) h4 fun s12 h5 =>
        X8 s12 (w64 (x7 + 1)) h5) (
        ∀ X16 : Sl → Sl → Int → Heap → Prop, (∀ (low13 : Sl) (high14 : Sl) (n15 : Int) (h6 : Heap),
          (Br (decide (n15 ≤ ((l1.len : Int)))) (
            ∀ J17 : Heap → Prop, (∀ (h7 : Heap),
              (table_Table_next r (some p3) low13 n15 ((.func (.func 75) #[(.pointer (some p3))] #[])) h7 fun y19 h8 =>
              table_Table_next r (some p3) high14 n15 ((.func (.func 76) #[(.pointer (some p3))] #[])) h8 fun y20 h9 =>
              X16 y19 y20 (w64 (n15 * 2)) h9) →
              J17 h7) →
            LdS h6 (Addr.add p3 1) fun x21 =>
            LdS h6 (Addr.add p3 2) fun x23 =>
            (New h6 (.cells #[(Sl.v low13)] 22) fun p25 h10 =>
            (hcell h10 (Addr.add p3 2) = some (Sl.v x23)) ∧
            (hcell h10 (Addr.add p3 1) = some (Sl.v x21)) ∧
            (App 22 1 24 (Sl.v Sl.nil) x21 ((⟨some p25, 1, 1⟩ : Sl)) h10 fun s30 h11 =>
            (hcell h11 (Addr.add p3 2) = some (Sl.v x23)) ∧
            New h11 (.cells #[(Sl.v high14)] 22) fun p32 h12 =>
            (hcell h12 (Addr.add p3 2) = some (Sl.v x23)) ∧
            (hcell h12 (Addr.add p3 1) = some (Sl.v x21)) ∧
            App 22 1 24 (Sl.v Sl.nil) x23 ((⟨some p32, 1, 1⟩ : Sl)) h12 fun s37 h13 =>
            St h13 (Addr.add p3 1) 1 [(Sl.v s30)] fun h14 =>
            St h14 (Addr.add p3 2) 1 [(Sl.v s37)] fun h15 =>
            J17 h15) ∧
            (New h10 (.cells #[(Sl.v high14)] 22) fun p42 h16 =>
            (hcell h16 (Addr.add p3 2) = some (Sl.v x23)) ∧
            (hcell h16 (Addr.add p3 1) = some (Sl.v x21)) ∧
            App 22 1 24 (Sl.v Sl.nil) x21 ((⟨some p25, 1, 1⟩ : Sl)) h16 fun s47 h17 =>
            (hcell h17 (Addr.add p3 2) = some (Sl.v x23)) ∧
            App 22 1 24 (Sl.v Sl.nil) x23 ((⟨some p42, 1, 1⟩ : Sl)) h17 fun s49 h18 =>
            St h18 (Addr.add p3 1) 1 [(Sl.v s47)] fun h19 =>
            St h19 (Addr.add p3 2) 1 [(Sl.v s49)] fun h20 =>
            J17 h20)) ∧
            (New h6 (.cells #[(Sl.v high14)] 22) fun p54 h21 =>
            (hcell h21 (Addr.add p3 2) = some (Sl.v x23)) ∧
            (hcell h21 (Addr.add p3 1) = some (Sl.v x21)) ∧
            New h21 (.cells #[(Sl.v low13)] 22) fun p59 h22 =>
            (hcell h22 (Addr.add p3 2) = some (Sl.v x23)) ∧
            (hcell h22 (Addr.add p3 1) = some (Sl.v x21)) ∧
            App 22 1 24 (Sl.v Sl.nil) x21 ((⟨some p59, 1, 1⟩ : Sl)) h22 fun s64 h23 =>
            (hcell h23 (Addr.add p3 2) = some (Sl.v x23)) ∧
            App 22 1 24 (Sl.v Sl.nil) x23 ((⟨some p54, 1, 1⟩ : Sl)) h23 fun s66 h24 =>
            St h24 (Addr.add p3 1) 1 [(Sl.v s64)] fun h25 =>
            St h25 (Addr.add p3 2) 1 [(Sl.v s66)] fun h26 =>
            J17 h26)) (
            R (some p3) .nilIface h6)) →
          X16 low13 high14 n15 h6) →
        X16 row6 row6 1 h3)) →
      X8 row6 x7 h3) →
    X8 Sl.nil 0 h2)

set_option maxRecDepth 100000 in
theorem table_New_of {r : World} {l1 : Sl} {h : Heap} {R : Option Addr → Value → Heap → Prop} (H : table_New_F r l1 h R) : table_New r l1 h R := by
  unfold table_New_F at H
  refine calls_of 69 [.tmp 2, .tmp 3] Tryd.func20 rfl rfl rfl rfl rfl ?_
  refine W_seq ?_
  refine W_region (.pu 0 (.pu 1 .fin)) rfl rfl ?_
  refine s_pu (d := some 2) (v := (.pointer none)) rfl rfl rfl (r_assign rfl) ?_
  refine s_pu (d := some 3) (v := .nilIface) rfl rfl rfl (r_assign rfl) ?_
  refine s_fin ?_
  show W _ _ _ _ _ _ _ _
  refine W_seq ?_
  refine W_seq ?_
  refine W_region (.pu 0 (.pu 1 (.pu 2 .fin))) rfl rfl ?_
  refine s_pu (d := some 10) (v := (Sl.v l1)) rfl rfl rfl (r_move rfl) ?_
  refine s_pu (d := some 11) (v := (.int .i64 ((l1.len : Int)))) rfl rfl rfl (r_len Tryd.underlying22 rfl) ?_
  refine s_pu (d := some 12) (v := (.bool (decide (5000 < ((l1.len : Int)))))) rfl rfl rfl (r_gtr rfl rfl) ?_
  refine s_fin ?_
  show W _ _ _ _ _ _ _ _
  refine W_if (decide (5000 < ((l1.len : Int)))) rfl (fun g73 => ?_) (fun g73 => ?_)
  · have H := H.1 g73
    refine W_seq ?_
    refine W_region (.pu 0 (.pu 1 (.pu 2 .fin))) rfl rfl ?_
    refine s_pu (d := some 13) (v := ((.iface 29 (.int .i64 4)))) rfl rfl rfl (r_iface Tryd.underlying29 rfl rfl) ?_
    refine s_pu (d := some 2) (v := (.pointer none)) rfl rfl rfl (r_assign rfl) ?_
    refine s_pu (d := some 3) (v := ((.iface 29 (.int .i64 4)))) rfl rfl rfl (r_assign rfl) ?_
    refine s_fin ?_
    show W _ _ _ _ _ _ _ _
    refine W_ret ?_
    exact ⟨[(.pointer none), ((.iface 29 (.int .i64 4)))], ⟨_, _, rfl, rfl, ⟨_, _, rfl, rfl, rfl⟩⟩, none, ((.iface 29 (.int .i64 4))), rfl, H⟩
  · have H := H.2 g73
    refine W_skip ?_
    show W _ _ _ _ _ _ _ _
    refine W_seq ?_
    refine W_region (.pu 0 (.ef 1 [] (.pu 2 (.ef 3 [] (.pu 4 .fin) .no)) .no)) rfl rfl ?_
    refine s_pu (d := some 14) (v := (Sl.v l1)) rfl rfl rfl (r_move rfl) ?_
    refine s_ef (d := some 15) rfl rfl rfl (fun dr => r_call Tryd.call73 rfl rfl H) ?_ trivial
    rintro _ h1 ⟨y2, rfl, H⟩
    refine ⟨trivial, ?_⟩
    refine s_pu (d := some 16) (v := (.agg #[(Sl.v y2), (Sl.v Sl.nil), (Sl.v Sl.nil)])) rfl rfl rfl (fun w => by kernel_rfl) ?_
    obtain ⟨p3, e4⟩ : ∃ p : Addr, p = ⟨h1.size, 0, none⟩ := ⟨_, rfl⟩
    obtain ⟨h2, e5⟩ : ∃ hh : Heap, hh = h1.push (.cells #[(Sl.v y2), (Sl.v Sl.nil), (Sl.v Sl.nil)] 101) := ⟨_, rfl⟩
    have H := H p3 h2 e4 e5
    refine s_ef1 (d := some 17) (v := (.pointer (some p3))) (h' := h2) rfl rfl rfl (fun dr => (r_box (v := (.agg #[(Sl.v y2), (Sl.v Sl.nil), (Sl.v Sl.nil)])) rfl).trans (by rw [e4, e5]; rfl)) trivial ?_ trivial
    refine s_pu (d := some 4) (v := (.pointer (some p3))) rfl rfl rfl (r_assign rfl) ?_
    refine s_fin ?_
    show W _ _ _ _ _ _ _ _
    refine W_seq ?_
    refine W_region (.pu 0 .fin) rfl rfl ?_
    refine s_pu (d := some 5) (v := (Sl.v Sl.nil)) rfl rfl rfl (r_assign rfl) ?_
    refine s_fin ?_
    show W _ _ _ _ _ _ _ _
    refine W_seq ?_
    refine W_seq ?_
    refine W_region (.pu 0 (.pu 1 (.pu 2 .fin))) rfl rfl ?_
    refine s_pu (d := some 18) (v := (Sl.v l1)) rfl rfl rfl (r_move rfl) ?_
    refine s_pu (d := some 19) (v := (.int .i64 ((l1.len : Int)))) rfl rfl rfl (r_len Tryd.underlying22 rfl) ?_
    refine s_pu (d := some 20) (v := (.int .i64 0)) rfl rfl rfl (r_move rfl) ?_
    refine s_fin ?_
    show W _ _ _ _ _ _ _ _
    refine W_block ?_
    refine W_loop (WL_mk (l := [(0, (Sl.v l1)), (4, (.pointer (some p3))), (5, (Sl.v Sl.nil)), (19, (.int .i64 ((l1.len : Int)))), (20, (.int .i64 0))]) ?_ ⟨rfl, rfl, rfl, rfl, rfl, trivial⟩)
    refine H (fun (row6 : Sl) (x7 : Int) (h3 : Heap) => ∀ b, WL _ _ _ _ _ _ (mkE [(0, (Sl.v l1)), (4, (.pointer (some p3))), (5, (Sl.v row6)), (19, (.int .i64 ((l1.len : Int)))), (20, (.int .i64 x7))] b) h3) ?_
    intro row6 x7 h3 H b
    refine WL_round ?_
    refine W_seq ?_
    refine W_region (.pu 0 .fin) rfl rfl ?_
    refine s_pu (d := some 21) (v := (.bool (decide (x7 < ((l1.len : Int)))))) rfl rfl rfl (r_lss rfl rfl) ?_
    refine s_fin ?_
    show W _ _ _ _ _ _ _ _
    refine W_seq ?_
    refine W_if (decide (x7 < ((l1.len : Int)))) rfl (fun g72 => ?_) (fun g72 => ?_)
    · have H := H.1 g72
      refine W_skip ?_
      show W _ _ _ _ _ _ _ _
      refine W_seq ?_
      refine W_block ?_
      refine W_seq ?_
      refine W_region (.pu 0 (.pu 1 .fin)) rfl rfl ?_
      refine s_pu (d := some 22) (v := (.int .i64 x7)) rfl rfl rfl (r_move rfl) ?_
      refine s_pu (d := some 6) (v := (.int .i64 x7)) rfl rfl rfl (r_assign rfl) ?_
      refine s_fin ?_
      show W _ _ _ _ _ _ _ _
      refine W_region (.pu 0 (.pu 1 (.ef 2 [] (.ef 3 [] (.pu 4 .fin) .no) .no))) rfl rfl ?_
      refine s_pu (d := some 23) (v := (Sl.v row6)) rfl rfl rfl (r_move rfl) ?_
      refine s_pu (d := some 24) (v := (.int .i64 x7)) rfl rfl rfl (r_move rfl) ?_
      obtain ⟨p9, e10⟩ : ∃ p : Addr, p = ⟨h3.size, 0, none⟩ := ⟨_, rfl⟩
      obtain ⟨h4, e11⟩ : ∃ hh : Heap, hh = h3.push (.cells #[(.int .i64 x7)] 3) := ⟨_, rfl⟩
      have H := H p9 h4 e10 e11
      refine s_ef1 (d := some 25) (v := (Sl.v ((⟨some p9, 1, 1⟩ : Sl)))) (h' := h4) rfl rfl rfl (fun dr => (slFDTab_22.build (cells := #[(.int .i64 x7)]) (by decide) rfl (by kernel_rfl)).trans (by rw [e10, e11]; rfl)) trivial ?_ trivial
      refine s_ef (d := some 26) rfl rfl rfl (fun dr => slFDTab_22.append rfl rfl H) ?_ trivial
      rintro _ h5 ⟨s12, rfl, H⟩
      refine ⟨trivial, ?_⟩
      refine s_pu (d := some 5) (v := (Sl.v s12)) rfl rfl rfl (r_assign rfl) ?_
      refine s_fin ?_
      show W _ _ _ _ _ _ _ _
      refine W_region (.pu 0 (.pu 1 .fin)) rfl rfl ?_
      refine s_pu (d := some 27) (v := (.int .i64 (w64 (x7 + 1)))) rfl rfl rfl (r_add rfl rfl) ?_
      refine s_pu (d := some 20) (v := (.int .i64 (w64 (x7 + 1)))) rfl rfl rfl (r_move rfl) ?_
      refine s_fin ?_
      exact WL_mk (l := [(0, (Sl.v l1)), (4, (.pointer (some p3))), (5, (Sl.v s12)), (19, (.int .i64 ((l1.len : Int)))), (20, (.int .i64 (w64 (x7 + 1))))]) H ⟨rfl, rfl, rfl, rfl, rfl, trivial⟩
    · have H := H.2 g72
      refine W_exit (inX_here ?_)
      show W _ _ _ _ _ _ _ _
      refine W_seq ?_
      refine W_region (.pu 0 (.pu 1 (.pu 2 (.pu 3 .fin)))) rfl rfl ?_
      refine s_pu (d := some 28) (v := (Sl.v row6)) rfl rfl rfl (r_move rfl) ?_
      refine s_pu (d := some 29) (v := (Sl.v row6)) rfl rfl rfl (r_move rfl) ?_
      refine s_pu (d := some 7) (v := (Sl.v row6)) rfl rfl rfl (r_assign rfl) ?_
      refine s_pu (d := some 8) (v := (Sl.v row6)) rfl rfl rfl (r_assign rfl) ?_
      refine s_fin ?_
      show W _ _ _ _ _ _ _ _
      refine W_seq ?_
      refine W_seq ?_
      refine W_region (.pu 0 .fin) rfl rfl ?_
      refine s_pu (d := some 9) (v := (.int .i64 1)) rfl rfl rfl (r_assign rfl) ?_
      refine s_fin ?_
      show W _ _ _ _ _ _ _ _
      refine W_block ?_
      refine W_loop (WL_mk (l := [(0, (Sl.v l1)), (4, (.pointer (some p3))), (7, (Sl.v row6)), (8, (Sl.v row6)), (9, (.int .i64 1))]) ?_ ⟨rfl, rfl, rfl, rfl, rfl, trivial⟩)
      refine H (fun (low13 : Sl) (high14 : Sl) (n15 : Int) (h6 : Heap) => ∀ b, WL _ _ _ _ _ _ (mkE [(0, (Sl.v l1)), (4, (.pointer (some p3))), (7, (Sl.v low13)), (8, (Sl.v high14)), (9, (.int .i64 n15))] b) h6) ?_
      intro low13 high14 n15 h6 H b
      refine WL_round ?_
      refine W_seq ?_
      refine W_seq ?_
      refine W_region (.pu 0 (.pu 1 (.pu 2 (.pu 3 .fin)))) rfl rfl ?_
      refine s_pu (d := some 30) (v := (.int .i64 n15)) rfl rfl rfl (r_move rfl) ?_
      refine s_pu (d := some 31) (v := (Sl.v l1)) rfl rfl rfl (r_move rfl) ?_
      refine s_pu (d := some 32) (v := (.int .i64 ((l1.len : Int)))) rfl rfl rfl (r_len Tryd.underlying22 rfl) ?_
      refine s_pu (d := some 33) (v := (.bool (decide (n15 ≤ ((l1.len : Int)))))) rfl rfl rfl (r_leq rfl rfl) ?_
      refine s_fin ?_
      show W _ _ _ _ _ _ _ _
      refine W_if (decide (n15 ≤ ((l1.len : Int)))) rfl (fun g71 => ?_) (fun g71 => ?_)
      · have H := H.1 g71
        refine W_skip ?_
        show W _ _ _ _ _ _ _ _
        refine W_seq ?_
        refine W_block ?_
        refine W_seq ?_
        refine W_set ?_
        intro N18 eN18
        have H := H (fun (h7 : Heap) => ∀ b, N18 [] (mkE [(0, (Sl.v l1)), (4, (.pointer (some p3))), (7, (Sl.v low13)), (8, (Sl.v high14)), (9, (.int .i64 n15))] b) h7) (by
          intro h7 H b
          rw [eN18]
          show W _ _ _ _ _ _ _ _
          refine W_region (.pu 0 (.pu 1 (.pu 2 (.pu 3 (.pu 4 (.ef 5 [] (.pu 6 (.pu 7 (.pu 8 (.pu 9 (.pu 10 (.ef 11 [] (.pu 12 (.pu 13 .fin)) .no)))))) .no)))))) rfl rfl ?_
          refine s_pu (d := some 56) (v := (.pointer (some p3))) rfl rfl rfl (r_move rfl) ?_
          refine s_pu (d := some 57) (v := (Sl.v low13)) rfl rfl rfl (r_move rfl) ?_
          refine s_pu (d := some 58) (v := (.int .i64 n15)) rfl rfl rfl (r_move rfl) ?_
          refine s_pu (d := some 59) (v := (.pointer (some p3))) rfl rfl rfl (r_move rfl) ?_
          refine s_pu (d := some 60) (v := ((.func (.func 75) #[(.pointer (some p3))] #[]))) rfl rfl rfl (r_makeFunc rfl rfl) ?_
          refine s_ef (d := some 61) rfl rfl rfl (fun dr => r_call Tryd.call74 rfl rfl H) ?_ trivial
          rintro _ h8 ⟨y19, rfl, H⟩
          refine ⟨trivial, ?_⟩
          refine s_pu (d := some 62) (v := (.pointer (some p3))) rfl rfl rfl (r_move rfl) ?_
          refine s_pu (d := some 63) (v := (Sl.v high14)) rfl rfl rfl (r_move rfl) ?_
          refine s_pu (d := some 64) (v := (.int .i64 n15)) rfl rfl rfl (r_move rfl) ?_
          refine s_pu (d := some 65) (v := (.pointer (some p3))) rfl rfl rfl (r_move rfl) ?_
          refine s_pu (d := some 66) (v := ((.func (.func 76) #[(.pointer (some p3))] #[]))) rfl rfl rfl (r_makeFunc rfl rfl) ?_
          refine s_ef (d := some 67) rfl rfl rfl (fun dr => r_call Tryd.call74 rfl rfl H) ?_ trivial
          rintro _ h9 ⟨y20, rfl, H⟩
          refine ⟨trivial, ?_⟩
          refine s_pu (d := some 7) (v := (Sl.v y19)) rfl rfl rfl (r_assign rfl) ?_
          refine s_pu (d := some 8) (v := (Sl.v y20)) rfl rfl rfl (r_assign rfl) ?_
          refine s_fin ?_
          show W _ _ _ _ _ _ _ _
          refine W_region (.pu 0 (.pu 1 (.pu 2 .fin))) rfl rfl ?_
          refine s_pu (d := some 34) (v := (.int .i64 n15)) rfl rfl rfl (r_move rfl) ?_
          refine s_pu (d := some 35) (v := (.int .i64 (w64 (n15 * 2)))) rfl rfl rfl (r_mul rfl rfl) ?_
          refine s_pu (d := some 9) (v := (.int .i64 (w64 (n15 * 2)))) rfl rfl rfl (r_assign rfl) ?_
          refine s_fin ?_
          exact WL_mk (l := [(0, (Sl.v l1)), (4, (.pointer (some p3))), (7, (Sl.v y19)), (8, (Sl.v y20)), (9, (.int .i64 (w64 (n15 * 2))))]) H ⟨rfl, rfl, rfl, rfl, rfl, trivial⟩)
        clear eN18
        refine W_draw [0, 0, 0, 4, 12, 28, 0, 64, 252, 0, 512, 1536, 3584, 0, 8192, 32764, 65533, 131069, 262141, 524287, 1048575, 2097151] (.pu 0 (.pu 1 (.pu 2 (.pu 3 (.pu 4 (.rd 5 (.pu 6 (.pu 9 (.pu 10 (.pu 11 (.rd 12 (.pu 13 (.ef 7 [] (.ef 8 [5] (.ef 14 [] (.ef 15 [5, 12] (.pu 16 (.pu 17 (.ef 18 [5, 12] (.pu 19 (.pu 20 (.ef 21 [5, 12] .fin .no))) .no))) .no) .no) (.ef 14 [] (.ef 8 [5] (.ef 15 [5, 12] (.pu 16 (.pu 17 (.ef 18 [5, 12] (.pu 19 (.pu 20 (.ef 21 [5, 12] .fin .no))) .no))) .no) .no) .no)) (.ef 14 [] (.ef 7 [] (.ef 8 [5] (.ef 15 [5, 12] (.pu 16 (.pu 17 (.ef 18 [5, 12] (.pu 19 (.pu 20 (.ef 21 [5, 12] .fin .no))) .no))) .no) .no) .no) .no)))))))))))))) (by kernel_rfl) (by kernel_rfl) ?_
        refine s_pu (d := some 36) (v := (.pointer (some p3))) rfl rfl rfl (r_move rfl) ?_
        refine s_pu (d := some 37) (v := (.pointer (some p3))) rfl rfl rfl (r_move rfl) ?_
        refine s_pu (d := some 38) (v := (.pointer (some p3))) rfl rfl rfl (r_move rfl) ?_
        refine s_pu (d := some 39) (v := (.pointer (some p3))) rfl rfl rfl (r_nilCheck rfl rfl) ?_
        refine s_pu (d := some 40) (v := (.pointer (some (Addr.add p3 1)))) rfl rfl rfl (r_fieldAddr Tryd.underlying101 Tryd.sizeOf56 rfl rfl rfl) ?_
        obtain ⟨x21, e22, H⟩ := H
        refine s_rd (d := some 41) (v := (Sl.v x21)) rfl rfl rfl (fun dr => r_load1 Tryd.isAgg56 rfl e22) ?_
        refine s_pu (d := some 42) (v := (Sl.v low13)) rfl rfl rfl (r_move rfl) ?_
        refine s_pu (d := some 45) (v := (.pointer (some p3))) rfl rfl rfl (r_move rfl) ?_
        refine s_pu (d := some 46) (v := (.pointer (some p3))) rfl rfl rfl (r_nilCheck rfl rfl) ?_
        refine s_pu (d := some 47) (v := (.pointer (some (Addr.add p3 2)))) rfl rfl rfl (r_fieldAddr Tryd.underlying101 Tryd.sizeOf56 rfl rfl rfl) ?_
        obtain ⟨x23, e24, H⟩ := H
        refine s_rd (d := some 48) (v := (Sl.v x23)) rfl rfl rfl (fun dr => r_load1 Tryd.isAgg56 rfl e24) ?_
        refine s_pu (d := some 49) (v := (Sl.v high14)) rfl rfl rfl (r_move rfl) ?_
        refine s_or ?_ ?_
        · have H := H.1
          obtain ⟨p25, e26⟩ : ∃ p : Addr, p = ⟨h6.size, 0, none⟩ := ⟨_, rfl⟩
          obtain ⟨h10, e27⟩ : ∃ hh : Heap, hh = h6.push (.cells #[(Sl.v low13)] 22) := ⟨_, rfl⟩
          have H := H p25 h10 e26 e27
          obtain ⟨e28, H⟩ := H
          obtain ⟨e29, H⟩ := H
          refine s_ef1 (d := some 43) (v := (Sl.v ((⟨some p25, 1, 1⟩ : Sl)))) (h' := h10) rfl rfl rfl (fun dr => (slFDTab_56.build (cells := #[(Sl.v low13)]) (by decide) rfl (by kernel_rfl)).trans (by rw [e26, e27]; rfl)) ⟨(.inl ⟨rfl, fun dr => r_load1 Tryd.isAgg56 rfl e28⟩), (.inl ⟨rfl, fun dr => r_load1 Tryd.isAgg56 rfl e29⟩), trivial⟩ ?_ trivial
          refine s_or ?_ ?_
          · have H := H.1
            refine s_ef (d := some 44) rfl rfl rfl (fun dr => slFDTab_56.append rfl rfl H) ?_ trivial
            rintro _ h11 ⟨s30, rfl, H⟩
            obtain ⟨e31, H⟩ := H
            refine ⟨⟨(.inl ⟨rfl, fun dr => r_load1 Tryd.isAgg56 rfl e31⟩), trivial, trivial⟩, ?_⟩
            obtain ⟨p32, e33⟩ : ∃ p : Addr, p = ⟨h11.size, 0, none⟩ := ⟨_, rfl⟩
            obtain ⟨h12, e34⟩ : ∃ hh : Heap, hh = h11.push (.cells #[(Sl.v high14)] 22) := ⟨_, rfl⟩
            have H := H p32 h12 e33 e34
            obtain ⟨e35, H⟩ := H
            obtain ⟨e36, H⟩ := H
            refine s_ef1 (d := some 50) (v := (Sl.v ((⟨some p32, 1, 1⟩ : Sl)))) (h' := h12) rfl rfl rfl (fun dr => (slFDTab_56.build (cells := #[(Sl.v high14)]) (by decide) rfl (by kernel_rfl)).trans (by rw [e33, e34]; rfl)) ⟨(.inl ⟨rfl, fun dr => r_load1 Tryd.isAgg56 rfl e35⟩), (.inl ⟨rfl, fun dr => r_load1 Tryd.isAgg56 rfl e36⟩), trivial⟩ ?_ trivial
            refine s_ef (d := some 51) rfl rfl rfl (fun dr => slFDTab_56.append rfl rfl H) ?_ trivial
            rintro _ h13 ⟨s37, rfl, H⟩
            refine ⟨⟨trivial, trivial, trivial⟩, ?_⟩
            refine s_pu (d := some 52) (v := (.pointer (some p3))) rfl rfl rfl (r_nilCheck rfl rfl) ?_
            refine s_pu (d := some 53) (v := (.pointer (some (Addr.add p3 1)))) rfl rfl rfl (r_fieldAddr Tryd.underlying101 Tryd.sizeOf56 rfl rfl rfl) ?_
            obtain ⟨e39, H⟩ := H
            obtain ⟨h14, e38⟩ : ∃ hh : Heap, hh = hsets h13 (Addr.add p3 1) 0 [(Sl.v s30)] := ⟨_, rfl⟩
            have H := H h14 e38
            refine s_st (d := none) (h' := h14) rfl rfl rfl (fun dr => (r_store (v := (Sl.v s30)) Tryd.sizeOf56 rfl rfl rfl (one_all rfl) e39).trans (by rw [e38]; rfl)) ⟨trivial, trivial, trivial⟩ ?_ trivial
            refine s_pu (d := some 54) (v := (.pointer (some p3))) rfl rfl rfl (r_nilCheck rfl rfl) ?_
            refine s_pu (d := some 55) (v := (.pointer (some (Addr.add p3 2)))) rfl rfl rfl (r_fieldAddr Tryd.underlying101 Tryd.sizeOf56 rfl rfl rfl) ?_
            obtain ⟨e41, H⟩ := H
            obtain ⟨h15, e40⟩ : ∃ hh : Heap, hh = hsets h14 (Addr.add p3 2) 0 [(Sl.v s37)] := ⟨_, rfl⟩
            have H := H h15 e40
            refine s_st (d := none) (h' := h15) rfl rfl rfl (fun dr => (r_store (v := (Sl.v s37)) Tryd.sizeOf56 rfl rfl rfl (one_all rfl) e41).trans (by rw [e40]; rfl)) ⟨trivial, trivial, trivial⟩ ?_ trivial
            refine s_fin ?_
            exact N_mk (l := [(0, (Sl.v l1)), (4, (.pointer (some p3))), (7, (Sl.v low13)), (8, (Sl.v high14)), (9, (.int .i64 n15))]) H ⟨rfl, rfl, rfl, rfl, rfl, trivial⟩
          · have H := H.2
            obtain ⟨p42, e43⟩ : ∃ p : Addr, p = ⟨h10.size, 0, none⟩ := ⟨_, rfl⟩
            obtain ⟨h16, e44⟩ : ∃ hh : Heap, hh = h10.push (.cells #[(Sl.v high14)] 22) := ⟨_, rfl⟩
            have H := H p42 h16 e43 e44
            obtain ⟨e45, H⟩ := H
            obtain ⟨e46, H⟩ := H
            refine s_ef1 (d := some 50) (v := (Sl.v ((⟨some p42, 1, 1⟩ : Sl)))) (h' := h16) rfl rfl rfl (fun dr => (slFDTab_56.build (cells := #[(Sl.v high14)]) (by decide) rfl (by kernel_rfl)).trans (by rw [e43, e44]; rfl)) ⟨(.inl ⟨rfl, fun dr => r_load1 Tryd.isAgg56 rfl e45⟩), (.inl ⟨rfl, fun dr => r_load1 Tryd.isAgg56 rfl e46⟩), trivial⟩ ?_ trivial
            refine s_ef (d := some 44) rfl rfl rfl (fun dr => slFDTab_56.append rfl rfl H) ?_ trivial
            rintro _ h17 ⟨s47, rfl, H⟩
            obtain ⟨e48, H⟩ := H
            refine ⟨⟨(.inl ⟨rfl, fun dr => r_load1 Tryd.isAgg56 rfl e48⟩), trivial, trivial⟩, ?_⟩
            refine s_ef (d := some 51) rfl rfl rfl (fun dr => slFDTab_56.append rfl rfl H) ?_ trivial
            rintro _ h18 ⟨s49, rfl, H⟩
            refine ⟨⟨trivial, trivial, trivial⟩, ?_⟩
            refine s_pu (d := some 52) (v := (.pointer (some p3))) rfl rfl rfl (r_nilCheck rfl rfl) ?_
            refine s_pu (d := some 53) (v := (.pointer (some (Addr.add p3 1)))) rfl rfl rfl (r_fieldAddr Tryd.underlying101 Tryd.sizeOf56 rfl rfl rfl) ?_
            obtain ⟨e51, H⟩ := H
            obtain ⟨h19, e50⟩ : ∃ hh : Heap, hh = hsets h18 (Addr.add p3 1) 0 [(Sl.v s47)] := ⟨_, rfl⟩
            have H := H h19 e50
            refine s_st (d := none) (h' := h19) rfl rfl rfl (fun dr => (r_store (v := (Sl.v s47)) Tryd.sizeOf56 rfl rfl rfl (one_all rfl) e51).trans (by rw [e50]; rfl)) ⟨trivial, trivial, trivial⟩ ?_ trivial
            refine s_pu (d := some 54) (v := (.pointer (some p3))) rfl rfl rfl (r_nilCheck rfl rfl) ?_
            refine s_pu (d := some 55) (v := (.pointer (some (Addr.add p3 2)))) rfl rfl rfl (r_fieldAddr Tryd.underlying101 Tryd.sizeOf56 rfl rfl rfl) ?_
            obtain ⟨e53, H⟩ := H
            obtain ⟨h20, e52⟩ : ∃ hh : Heap, hh = hsets h19 (Addr.add p3 2) 0 [(Sl.v s49)] := ⟨_, rfl⟩
            have H := H h20 e52
            refine s_st (d := none) (h' := h20) rfl rfl rfl (fun dr => (r_store (v := (Sl.v s49)) Tryd.sizeOf56 rfl rfl rfl (one_all rfl) e53).trans (by rw [e52]; rfl)) ⟨trivial, trivial, trivial⟩ ?_ trivial
            refine s_fin ?_
            exact N_mk (l := [(0, (Sl.v l1)), (4, (.pointer (some p3))), (7, (Sl.v low13)), (8, (Sl.v high14)), (9, (.int .i64 n15))]) H ⟨rfl, rfl, rfl, rfl, rfl, trivial⟩
        · have H := H.2
          obtain ⟨p54, e55⟩ : ∃ p : Addr, p = ⟨h6.size, 0, none⟩ := ⟨_, rfl⟩
          obtain ⟨h21, e56⟩ : ∃ hh : Heap, hh = h6.push (.cells #[(Sl.v high14)] 22) := ⟨_, rfl⟩
          have H := H p54 h21 e55 e56
          obtain ⟨e57, H⟩ := H
          obtain ⟨e58, H⟩ := H
          refine s_ef1 (d := some 50) (v := (Sl.v ((⟨some p54, 1, 1⟩ : Sl)))) (h' := h21) rfl rfl rfl (fun dr => (slFDTab_56.build (cells := #[(Sl.v high14)]) (by decide) rfl (by kernel_rfl)).trans (by rw [e55, e56]; rfl)) ⟨(.inl ⟨rfl, fun dr => r_load1 Tryd.isAgg56 rfl e57⟩), (.inl ⟨rfl, fun dr => r_load1 Tryd.isAgg56 rfl e58⟩), trivial⟩ ?_ trivial
          obtain ⟨p59, e60⟩ : ∃ p : Addr, p = ⟨h21.size, 0, none⟩ := ⟨_, rfl⟩
          obtain ⟨h22, e61⟩ : ∃ hh : Heap, hh = h21.push (.cells #[(Sl.v low13)] 22) := ⟨_, rfl⟩
          have H := H p59 h22 e60 e61
          obtain ⟨e62, H⟩ := H
          obtain ⟨e63, H⟩ := H
          refine s_ef1 (d := some 43) (v := (Sl.v ((⟨some p59, 1, 1⟩ : Sl)))) (h' := h22) rfl rfl rfl (fun dr => (slFDTab_56.build (cells := #[(Sl.v low13)]) (by decide) rfl (by kernel_rfl)).trans (by rw [e60, e61]; rfl)) ⟨(.inl ⟨rfl, fun dr => r_load1 Tryd.isAgg56 rfl e62⟩), (.inl ⟨rfl, fun dr => r_load1 Tryd.isAgg56 rfl e63⟩), trivial⟩ ?_ trivial
          refine s_ef (d := some 44) rfl rfl rfl (fun dr => slFDTab_56.append rfl rfl H) ?_ trivial
          rintro _ h23 ⟨s64, rfl, H⟩
          obtain ⟨e65, H⟩ := H
          refine ⟨⟨(.inl ⟨rfl, fun dr => r_load1 Tryd.isAgg56 rfl e65⟩), trivial, trivial⟩, ?_⟩
          refine s_ef (d := some 51) rfl rfl rfl (fun dr => slFDTab_56.append rfl rfl H) ?_ trivial
          rintro _ h24 ⟨s66, rfl, H⟩
          refine ⟨⟨trivial, trivial, trivial⟩, ?_⟩
          refine s_pu (d := some 52) (v := (.pointer (some p3))) rfl rfl rfl (r_nilCheck rfl rfl) ?_
          refine s_pu (d := some 53) (v := (.pointer (some (Addr.add p3 1)))) rfl rfl rfl (r_fieldAddr Tryd.underlying101 Tryd.sizeOf56 rfl rfl rfl) ?_
          obtain ⟨e68, H⟩ := H
          obtain ⟨h25, e67⟩ : ∃ hh : Heap, hh = hsets h24 (Addr.add p3 1) 0 [(Sl.v s64)] := ⟨_, rfl⟩
          have H := H h25 e67
          refine s_st (d := none) (h' := h25) rfl rfl rfl (fun dr => (r_store (v := (Sl.v s64)) Tryd.sizeOf56 rfl rfl rfl (one_all rfl) e68).trans (by rw [e67]; rfl)) ⟨trivial, trivial, trivial⟩ ?_ trivial
          refine s_pu (d := some 54) (v := (.pointer (some p3))) rfl rfl rfl (r_nilCheck rfl rfl) ?_
          refine s_pu (d := some 55) (v := (.pointer (some (Addr.add p3 2)))) rfl rfl rfl (r_fieldAddr Tryd.underlying101 Tryd.sizeOf56 rfl rfl rfl) ?_
          obtain ⟨e70, H⟩ := H
          obtain ⟨h26, e69⟩ : ∃ hh : Heap, hh = hsets h25 (Addr.add p3 2) 0 [(Sl.v s66)] := ⟨_, rfl⟩
          have H := H h26 e69
          refine s_st (d := none) (h' := h26) rfl rfl rfl (fun dr => (r_store (v := (Sl.v s66)) Tryd.sizeOf56 rfl rfl rfl (one_all rfl) e70).trans (by rw [e69]; rfl)) ⟨trivial, trivial, trivial⟩ ?_ trivial
          refine s_fin ?_
          exact N_mk (l := [(0, (Sl.v l1)), (4, (.pointer (some p3))), (7, (Sl.v low13)), (8, (Sl.v high14)), (9, (.int .i64 n15))]) H ⟨rfl, rfl, rfl, rfl, rfl, trivial⟩
      · have H := H.2 g71
        refine W_exit (inX_here ?_)
        show W _ _ _ _ _ _ _ _
        refine W_seq ?_
        refine W_region (.pu 0 (.pu 1 (.pu 2 .fin))) rfl rfl ?_
        refine s_pu (d := some 68) (v := (.pointer (some p3))) rfl rfl rfl (r_move rfl) ?_
        refine s_pu (d := some 2) (v := (.pointer (some p3))) rfl rfl rfl (r_assign rfl) ?_
        refine s_pu (d := some 3) (v := .nilIface) rfl rfl rfl (r_assign rfl) ?_
        refine s_fin ?_
        show W _ _ _ _ _ _ _ _
        refine W_ret ?_
        exact ⟨[(.pointer (some p3)), .nilIface], ⟨_, _, rfl, rfl, ⟨_, _, rfl, rfl, rfl⟩⟩, (some p3), .nilIface, rfl, H⟩

/-! ### table_Table_next -/

def table_Table_next_F (r : World) (t1 : Option Addr) (row2 : Sl) (n3 : Int) (of4 : Value) (h : Heap) (R : Sl → Heap → Prop) : Prop :=
  ∀ X7 : Sl → Int → Heap → Prop, (∀ (out5 : Sl) (i6 : Int) (h1 : Heap),
    (Br (decide ((w64 (i6 + n3)) < ((row2.len : Int)))) (
      Ix row2 i6 1 fun q12 =>
      LdI h1 q12 fun x14 =>
      Ix row2 (w64 (i6 + n3)) 1 fun q20 =>
      LdI h1 q20 fun x22 =>
      CallV Tryd.prog r of4 [(.int .i64 x14), (.int .i64 x22)] h1 fun v29 h2 => ∃ (y24 : Int), v29 = (.int .i64 y24) ∧
      New h2 (.cells #[(.int .i64 y24)] 3) fun p25 h3 =>
      App 3 1 8 (.int .i64 0) out5 ((⟨some p25, 1, 1⟩ : Sl)) h3 fun s28 h4 =>
      X7 s28 (w64 (i6 + 1)) h4) (
      R out5 h1)) →
    X7 out5 i6 h1) →
  X7 Sl.nil 0 h

set_option maxRecDepth 100000 in
theorem table_Table_next_of {r : World} {t1 : Option Addr} {row2 : Sl} {n3 : Int} {of4 : Value} {h : Heap} {R : Sl → Heap → Prop} (H : table_Table_next_F r t1 row2 n3 of4 h R) : table_Table_next r t1 row2 n3 of4 h R := by
  unfold table_Table_next_F at H
  refine calls_of 35 [.tmp 8] Tryd.func74 rfl rfl rfl rfl rfl ?_
  refine W_seq ?_
  refine W_region (.pu 0 .fin) rfl rfl ?_
  refine s_pu (d := some 8) (v := (Sl.v Sl.nil)) rfl rfl rfl (r_assign rfl) ?_
  refine s_fin ?_
  show W _ _ _ _ _ _ _ _
  refine W_seq ?_
  refine W_region (.pu 0 .fin) rfl rfl ?_
  refine s_pu (d := some 9) (v := (Sl.v Sl.nil)) rfl rfl rfl (r_assign rfl) ?_
  refine s_fin ?_
  show W _ _ _ _ _ _ _ _
  refine W_seq ?_
  refine W_seq ?_
  refine W_region (.pu 0 .fin) rfl rfl ?_
  refine s_pu (d := some 10) (v := (.int .i64 0)) rfl rfl rfl (r_assign rfl) ?_
  refine s_fin ?_
  show W _ _ _ _ _ _ _ _
  refine W_block ?_
  refine W_loop (WL_mk (l := [(1, (Sl.v row2)), (2, (.int .i64 n3)), (3, of4), (9, (Sl.v Sl.nil)), (10, (.int .i64 0))]) ?_ ⟨rfl, rfl, rfl, rfl, rfl, trivial⟩)
  refine H (fun (out5 : Sl) (i6 : Int) (h1 : Heap) => ∀ b, WL _ _ _ _ _ _ (mkE [(1, (Sl.v row2)), (2, (.int .i64 n3)), (3, of4), (9, (Sl.v out5)), (10, (.int .i64 i6))] b) h1) ?_
  intro out5 i6 h1 H b
  refine WL_round ?_
  refine W_seq ?_
  refine W_seq ?_
  refine W_region (.pu 0 (.pu 1 (.pu 2 (.pu 3 (.pu 4 (.pu 5 .fin)))))) rfl rfl ?_
  refine s_pu (d := some 11) (v := (.int .i64 i6)) rfl rfl rfl (r_move rfl) ?_
  refine s_pu (d := some 12) (v := (.int .i64 n3)) rfl rfl rfl (r_move rfl) ?_
  refine s_pu (d := some 13) (v := (.int .i64 (w64 (i6 + n3)))) rfl rfl rfl (r_add rfl rfl) ?_
  refine s_pu (d := some 14) (v := (Sl.v row2)) rfl rfl rfl (r_move rfl) ?_
  refine s_pu (d := some 15) (v := (.int .i64 ((row2.len : Int)))) rfl rfl rfl (r_len Tryd.underlying22 rfl) ?_
  refine s_pu (d := some 16) (v := (.bool (decide ((w64 (i6 + n3)) < ((row2.len : Int)))))) rfl rfl rfl (r_lss rfl rfl) ?_
  refine s_fin ?_
  show W _ _ _ _ _ _ _ _
  refine W_if (decide ((w64 (i6 + n3)) < ((row2.len : Int)))) rfl (fun g30 => ?_) (fun g30 => ?_)
  · have H := H.1 g30
    refine W_skip ?_
    show W _ _ _ _ _ _ _ _
    refine W_seq ?_
    refine W_block ?_
    refine W_draw [0, 0, 0, 0, 12, 28, 0, 0, 0, 384, 960, 1984, 4094, 8190, 16383, 32767] (.pu 0 (.pu 1 (.pu 2 (.pu 3 (.pu 4 (.rd 5 (.pu 6 (.pu 7 (.pu 8 (.pu 9 (.pu 10 (.rd 11 (.ef 12 [5, 11] (.ef 13 [5, 11] (.ef 14 [5, 11] (.pu 15 .fin) .no) .no) .no))))))))))))) (by kernel_rfl) (by kernel_rfl) ?_
    refine s_pu (d := some 19) (v := (Sl.v out5)) rfl rfl rfl (r_move rfl) ?_
    refine s_pu (d := some 20) (v := of4) rfl rfl rfl (r_move rfl) ?_
    refine s_pu (d := some 21) (v := (Sl.v row2)) rfl rfl rfl (r_move rfl) ?_
    refine s_pu (d := some 22) (v := (.int .i64 i6)) rfl rfl rfl (r_move rfl) ?_
    obtain ⟨p8, e9, e10, e11, H⟩ := H
    obtain ⟨q12, e13⟩ : ∃ q : Addr, q = Addr.add p8 (Int.toNat i6 * 1) := ⟨_, rfl⟩
    rw [← e13] at H
    refine s_pu (d := some 23) (v := (.pointer (some q12))) rfl rfl rfl (fun w => (r_indexAddr Tryd.underlying22 Tryd.sizeOf3 rfl rfl e9 e10 e11 w).trans (by rw [e13])) ?_
    obtain ⟨x14, e15, H⟩ := H
    refine s_rd (d := some 24) (v := (.int .i64 x14)) rfl rfl rfl (fun dr => r_load1 Tryd.isAgg3 rfl e15) ?_
    refine s_pu (d := some 25) (v := (Sl.v row2)) rfl rfl rfl (r_move rfl) ?_
    refine s_pu (d := some 26) (v := (.int .i64 i6)) rfl rfl rfl (r_move rfl) ?_
    refine s_pu (d := some 27) (v := (.int .i64 n3)) rfl rfl rfl (r_move rfl) ?_
    refine s_pu (d := some 28) (v := (.int .i64 (w64 (i6 + n3)))) rfl rfl rfl (r_add rfl rfl) ?_
    obtain ⟨p16, e17, e18, e19, H⟩ := H
    obtain ⟨q20, e21⟩ : ∃ q : Addr, q = Addr.add p16 (Int.toNat (w64 (i6 + n3)) * 1) := ⟨_, rfl⟩
    rw [← e21] at H
    refine s_pu (d := some 29) (v := (.pointer (some q20))) rfl rfl rfl (fun w => (r_indexAddr Tryd.underlying22 Tryd.sizeOf3 rfl rfl e17 e18 e19 w).trans (by rw [e21])) ?_
    obtain ⟨x22, e23, H⟩ := H
    refine s_rd (d := some 30) (v := (.int .i64 x22)) rfl rfl rfl (fun dr => r_load1 Tryd.isAgg3 rfl e23) ?_
    refine s_ef (d := some 31) rfl rfl rfl (fun dr => r_callV rfl rfl H) ?_ trivial
    rintro _ h2 ⟨y24, rfl, H⟩
    refine ⟨⟨trivial, trivial, trivial⟩, ?_⟩
    obtain ⟨p25, e26⟩ : ∃ p : Addr, p = ⟨h2.size, 0, none⟩ := ⟨_, rfl⟩
    obtain ⟨h3, e27⟩ : ∃ hh : Heap, hh = h2.push (.cells #[(.int .i64 y24)] 3) := ⟨_, rfl⟩
    have H := H p25 h3 e26 e27
    refine s_ef1 (d := some 32) (v := (Sl.v ((⟨some p25, 1, 1⟩ : Sl)))) (h' := h3) rfl rfl rfl (fun dr => (slFDTab_22.build (cells := #[(.int .i64 y24)]) (by decide) rfl (by kernel_rfl)).trans (by rw [e26, e27]; rfl)) ⟨trivial, trivial, trivial⟩ ?_ trivial
    refine s_ef (d := some 33) rfl rfl rfl (fun dr => slFDTab_22.append rfl rfl H) ?_ trivial
    rintro _ h4 ⟨s28, rfl, H⟩
    refine ⟨⟨trivial, trivial, trivial⟩, ?_⟩
    refine s_pu (d := some 9) (v := (Sl.v s28)) rfl rfl rfl (r_assign rfl) ?_
    refine s_fin ?_
    show W _ _ _ _ _ _ _ _
    refine W_region (.pu 0 (.pu 1 (.pu 2 .fin))) rfl rfl ?_
    refine s_pu (d := some 17) (v := (.int .i64 i6)) rfl rfl rfl (r_move rfl) ?_
    refine s_pu (d := some 18) (v := (.int .i64 (w64 (i6 + 1)))) rfl rfl rfl (r_add rfl rfl) ?_
    refine s_pu (d := some 10) (v := (.int .i64 (w64 (i6 + 1)))) rfl rfl rfl (r_assign rfl) ?_
    refine s_fin ?_
    exact WL_mk (l := [(1, (Sl.v row2)), (2, (.int .i64 n3)), (3, of4), (9, (Sl.v s28)), (10, (.int .i64 (w64 (i6 + 1))))]) H ⟨rfl, rfl, rfl, rfl, rfl, trivial⟩
  · have H := H.2 g30
    refine W_exit (inX_here ?_)
    show W _ _ _ _ _ _ _ _
    refine W_seq ?_
    refine W_region (.pu 0 (.pu 1 .fin)) rfl rfl ?_
    refine s_pu (d := some 34) (v := (Sl.v out5)) rfl rfl rfl (r_move rfl) ?_
    refine s_pu (d := some 8) (v := (Sl.v out5)) rfl rfl rfl (r_assign rfl) ?_
    refine s_fin ?_
    show W _ _ _ _ _ _ _ _
    refine W_ret ?_
    exact ⟨[(Sl.v out5)], ⟨_, _, rfl, rfl, rfl⟩, out5, rfl, H⟩

/-! ### table_Table_low -/

def table_Table_low_F (r : World) (t1 : Option Addr) (i2 : Int) (j3 : Int) (h : Heap) (R : Int → Heap → Prop) : Prop :=
  Ck t1 fun p4 =>
  LdS h (Addr.add p4 0) fun x6 =>
  Ix x6 j3 1 fun q12 =>
  LdI h q12 fun x14 =>
  Ck t1 fun p16 =>
  LdS h (Addr.add p16 0) fun x18 =>
  Ix x18 i2 1 fun q24 =>
  LdI h q24 fun x26 =>
  Br (decide (x14 < x26)) (
    R j3 h) (
    R i2 h)

set_option maxRecDepth 100000 in
theorem table_Table_low_of {r : World} {t1 : Option Addr} {i2 : Int} {j3 : Int} {h : Heap} {R : Int → Heap → Prop} (H : table_Table_low_F r t1 i2 j3 h R) : table_Table_low r t1 i2 j3 h R := by
  unfold table_Table_low_F at H
  refine calls_of 24 [.tmp 6] Tryd.func75 rfl rfl rfl rfl rfl ?_
  refine W_seq ?_
  refine W_region (.pu 0 .fin) rfl rfl ?_
  refine s_pu (d := some 6) (v := (.int .i64 0)) rfl rfl rfl (r_assign rfl) ?_
  refine s_fin ?_
  show W _ _ _ _ _ _ _ _
  refine W_seq ?_
  refine W_seq ?_
  refine W_draw [0, 1, 3, 7, 0, 31, 63, 0, 128, 384, 896, 0, 3968, 8064, 16383] (.pu 0 (.pu 1 (.pu 2 (.rd 3 (.pu 4 (.pu 5 (.rd 6 (.pu 7 (.pu 8 (.pu 9 (.rd 10 (.pu 11 (.pu 12 (.rd 13 (.pu 14 .fin))))))))))))))) (by kernel_rfl) (by kernel_rfl) ?_
  refine s_pu (d := some 7) (v := (.pointer t1)) rfl rfl rfl (r_move rfl) ?_
  obtain ⟨p4, e5, H⟩ := H
  refine s_pu (d := some 8) (v := (.pointer (some p4))) rfl rfl rfl (r_nilCheck rfl e5) ?_
  refine s_pu (d := some 9) (v := (.pointer (some (Addr.add p4 0)))) rfl rfl rfl (r_fieldAddr Tryd.underlying101 Tryd.sizeOf22 rfl rfl rfl) ?_
  obtain ⟨x6, e7, H⟩ := H
  refine s_rd (d := some 10) (v := (Sl.v x6)) rfl rfl rfl (fun dr => r_load1 Tryd.isAgg22 rfl e7) ?_
  refine s_pu (d := some 11) (v := (.int .i64 j3)) rfl rfl rfl (r_move rfl) ?_
  obtain ⟨p8, e9, e10, e11, H⟩ := H
  obtain ⟨q12, e13⟩ : ∃ q : Addr, q = Addr.add p8 (Int.toNat j3 * 1) := ⟨_, rfl⟩
  rw [← e13] at H
  refine s_pu (d := some 12) (v := (.pointer (some q12))) rfl rfl rfl (fun w => (r_indexAddr Tryd.underlying22 Tryd.sizeOf3 rfl rfl e9 e10 e11 w).trans (by rw [e13])) ?_
  obtain ⟨x14, e15, H⟩ := H
  refine s_rd (d := some 13) (v := (.int .i64 x14)) rfl rfl rfl (fun dr => r_load1 Tryd.isAgg3 rfl e15) ?_
  refine s_pu (d := some 14) (v := (.pointer t1)) rfl rfl rfl (r_move rfl) ?_
  obtain ⟨p16, e17, H⟩ := H
  refine s_pu (d := some 15) (v := (.pointer (some p16))) rfl rfl rfl (r_nilCheck rfl e17) ?_
  refine s_pu (d := some 16) (v := (.pointer (some (Addr.add p16 0)))) rfl rfl rfl (r_fieldAddr Tryd.underlying101 Tryd.sizeOf22 rfl rfl rfl) ?_
  obtain ⟨x18, e19, H⟩ := H
  refine s_rd (d := some 17) (v := (Sl.v x18)) rfl rfl rfl (fun dr => r_load1 Tryd.isAgg22 rfl e19) ?_
  refine s_pu (d := some 18) (v := (.int .i64 i2)) rfl rfl rfl (r_move rfl) ?_
  obtain ⟨p20, e21, e22, e23, H⟩ := H
  obtain ⟨q24, e25⟩ : ∃ q : Addr, q = Addr.add p20 (Int.toNat i2 * 1) := ⟨_, rfl⟩
  rw [← e25] at H
  refine s_pu (d := some 19) (v := (.pointer (some q24))) rfl rfl rfl (fun w => (r_indexAddr Tryd.underlying22 Tryd.sizeOf3 rfl rfl e21 e22 e23 w).trans (by rw [e25])) ?_
  obtain ⟨x26, e27, H⟩ := H
  refine s_rd (d := some 20) (v := (.int .i64 x26)) rfl rfl rfl (fun dr => r_load1 Tryd.isAgg3 rfl e27) ?_
  refine s_pu (d := some 21) (v := (.bool (decide (x14 < x26)))) rfl rfl rfl (r_lss rfl rfl) ?_
  refine s_fin ?_
  show W _ _ _ _ _ _ _ _
  refine W_if (decide (x14 < x26)) rfl (fun g28 => ?_) (fun g28 => ?_)
  · have H := H.1 g28
    refine W_seq ?_
    refine W_region (.pu 0 (.pu 1 .fin)) rfl rfl ?_
    refine s_pu (d := some 22) (v := (.int .i64 j3)) rfl rfl rfl (r_move rfl) ?_
    refine s_pu (d := some 6) (v := (.int .i64 j3)) rfl rfl rfl (r_assign rfl) ?_
    refine s_fin ?_
    show W _ _ _ _ _ _ _ _
    refine W_ret ?_
    exact ⟨[(.int .i64 j3)], ⟨_, _, rfl, rfl, rfl⟩, j3, rfl, H⟩
  · have H := H.2 g28
    refine W_skip ?_
    show W _ _ _ _ _ _ _ _
    refine W_seq ?_
    refine W_region (.pu 0 (.pu 1 .fin)) rfl rfl ?_
    refine s_pu (d := some 23) (v := (.int .i64 i2)) rfl rfl rfl (r_move rfl) ?_
    refine s_pu (d := some 6) (v := (.int .i64 i2)) rfl rfl rfl (r_assign rfl) ?_
    refine s_fin ?_
    show W _ _ _ _ _ _ _ _
    refine W_ret ?_
    exact ⟨[(.int .i64 i2)], ⟨_, _, rfl, rfl, rfl⟩, i2, rfl, H⟩

/-! ### table_Table_high -/

def table_Table_high_F (r : World) (t1 : Option Addr) (i2 : Int) (j3 : Int) (h : Heap) (R : Int → Heap → Prop) : Prop :=
  Ck t1 fun p4 =>
  LdS h (Addr.add p4 0) fun x6 =>
  Ix x6 j3 1 fun q12 =>
  LdI h q12 fun x14 =>
  Ck t1 fun p16 =>
  LdS h (Addr.add p16 0) fun x18 =>
  Ix x18 i2 1 fun q24 =>
  LdI h q24 fun x26 =>
  Br (decide (x26 < x14)) (
    R j3 h) (
    R i2 h)

set_option maxRecDepth 100000 in
theorem table_Table_high_of {r : World} {t1 : Option Addr} {i2 : Int} {j3 : Int} {h : Heap} {R : Int → Heap → Prop} (H : table_Table_high_F r t1 i2 j3 h R) : table_Table_high r t1 i2 j3 h R := by
  unfold table_Table_high_F at H
  refine calls_of 24 [.tmp 6] Tryd.func76 rfl rfl rfl rfl rfl ?_
  refine W_seq ?_
  refine W_region (.pu 0 .fin) rfl rfl ?_
  refine s_pu (d := some 6) (v := (.int .i64 0)) rfl rfl rfl (r_assign rfl) ?_
  refine s_fin ?_
  show W _ _ _ _ _ _ _ _
  refine W_seq ?_
  refine W_seq ?_
  refine W_draw [0, 1, 3, 7, 0, 31, 63, 0, 128, 384, 896, 0, 3968, 8064, 16383] (.pu 0 (.pu 1 (.pu 2 (.rd 3 (.pu 4 (.pu 5 (.rd 6 (.pu 7 (.pu 8 (.pu 9 (.rd 10 (.pu 11 (.pu 12 (.rd 13 (.pu 14 .fin))))))))))))))) (by kernel_rfl) (by kernel_rfl) ?_
  refine s_pu (d := some 7) (v := (.pointer t1)) rfl rfl rfl (r_move rfl) ?_
  obtain ⟨p4, e5, H⟩ := H
  refine s_pu (d := some 8) (v := (.pointer (some p4))) rfl rfl rfl (r_nilCheck rfl e5) ?_
  refine s_pu (d := some 9) (v := (.pointer (some (Addr.add p4 0)))) rfl rfl rfl (r_fieldAddr Tryd.underlying101 Tryd.sizeOf22 rfl rfl rfl) ?_
  obtain ⟨x6, e7, H⟩ := H
  refine s_rd (d := some 10) (v := (Sl.v x6)) rfl rfl rfl (fun dr => r_load1 Tryd.isAgg22 rfl e7) ?_
  refine s_pu (d := some 11) (v := (.int .i64 j3)) rfl rfl rfl (r_move rfl) ?_
  obtain ⟨p8, e9, e10, e11, H⟩ := H
  obtain ⟨q12, e13⟩ : ∃ q : Addr, q = Addr.add p8 (Int.toNat j3 * 1) := ⟨_, rfl⟩
  rw [← e13] at H
  refine s_pu (d := some 12) (v := (.pointer (some q12))) rfl rfl rfl (fun w => (r_indexAddr Tryd.underlying22 Tryd.sizeOf3 rfl rfl e9 e10 e11 w).trans (by rw [e13])) ?_
  obtain ⟨x14, e15, H⟩ := H
  refine s_rd (d := some 13) (v := (.int .i64 x14)) rfl rfl rfl (fun dr => r_load1 Tryd.isAgg3 rfl e15) ?_
  refine s_pu (d := some 14) (v := (.pointer t1)) rfl rfl rfl (r_move rfl) ?_
  obtain ⟨p16, e17, H⟩ := H
  refine s_pu (d := some 15) (v := (.pointer (some p16))) rfl rfl rfl (r_nilCheck rfl e17) ?_
  refine s_pu (d := some 16) (v := (.pointer (some (Addr.add p16 0)))) rfl rfl rfl (r_fieldAddr Tryd.underlying101 Tryd.sizeOf22 rfl rfl rfl) ?_
  obtain ⟨x18, e19, H⟩ := H
  refine s_rd (d := some 17) (v := (Sl.v x18)) rfl rfl rfl (fun dr => r_load1 Tryd.isAgg22 rfl e19) ?_
  refine s_pu (d := some 18) (v := (.int .i64 i2)) rfl rfl rfl (r_move rfl) ?_
  obtain ⟨p20, e21, e22, e23, H⟩ := H
  obtain ⟨q24, e25⟩ : ∃ q : Addr, q = Addr.add p20 (Int.toNat i2 * 1) := ⟨_, rfl⟩
  rw [← e25] at H
  refine s_pu (d := some 19) (v := (.pointer (some q24))) rfl rfl rfl (fun w => (r_indexAddr Tryd.underlying22 Tryd.sizeOf3 rfl rfl e21 e22 e23 w).trans (by rw [e25])) ?_
  obtain ⟨x26, e27, H⟩ := H
  refine s_rd (d := some 20) (v := (.int .i64 x26)) rfl rfl rfl (fun dr => r_load1 Tryd.isAgg3 rfl e27) ?_
  refine s_pu (d := some 21) (v := (.bool (decide (x26 < x14)))) rfl rfl rfl (r_gtr rfl rfl) ?_
  refine s_fin ?_
  show W _ _ _ _ _ _ _ _
  refine W_if (decide (x26 < x14)) rfl (fun g28 => ?_) (fun g28 => ?_)
  · have H := H.1 g28
    refine W_seq ?_
    refine W_region (.pu 0 (.pu 1 .fin)) rfl rfl ?_
    refine s_pu (d := some 22) (v := (.int .i64 j3)) rfl rfl rfl (r_move rfl) ?_
    refine s_pu (d := some 6) (v := (.int .i64 j3)) rfl rfl rfl (r_assign rfl) ?_
    refine s_fin ?_
    show W _ _ _ _ _ _ _ _
    refine W_ret ?_
    exact ⟨[(.int .i64 j3)], ⟨_, _, rfl, rfl, rfl⟩, j3, rfl, H⟩
  · have H := H.2 g28
    refine W_skip ?_
    show W _ _ _ _ _ _ _ _
    refine W_seq ?_
    refine W_region (.pu 0 (.pu 1 .fin)) rfl rfl ?_
    refine s_pu (d := some 23) (v := (.int .i64 i2)) rfl rfl rfl (r_move rfl) ?_
    refine s_pu (d := some 6) (v := (.int .i64 i2)) rfl rfl rfl (r_assign rfl) ?_
    refine s_fin ?_
    show W _ _ _ _ _ _ _ _
    refine W_ret ?_
    exact ⟨[(.int .i64 i2)], ⟨_, _, rfl, rfl, rfl⟩, i2, rfl, H⟩

/-! ### table_Table_told -/

def table_Table_told_F (r : World) (t1 : Option Addr) (rows2 : Sl) (i3 : Int) (j4 : Int) (of5 : Value) (h : Heap) (R : Int → Value → Heap → Prop) : Prop :=
  ∀ J7 : Bool → Prop, (∀ (x6 : Bool),
    (Br x6 (
      R 0 ((.iface 29 (.int .i64 1))) h) (
      Br (decide (i3 = j4)) (
        R 0 ((.iface 29 (.int .i64 2))) h) (
        math_bits_Len r (IntKind.wrap .u64 (w64 (j4 - i3))) h fun y9 h1 =>
        Ix rows2 (w64 (y9 - 1)) 1 fun q14 =>
        LdS h1 q14 fun x16 =>
        Ix x16 i3 1 fun q22 =>
        LdI h1 q22 fun x24 =>
        Ix rows2 (w64 (y9 - 1)) 1 fun q30 =>
        LdS h1 q30 fun x32 =>
        (0 ≤ (w64 (y9 - 1))) ∧
        Ix x32 (w64 (j4 - (sShl .i64 1 (w64 (y9 - 1))))) 1 fun q39 =>
        LdI h1 q39 fun x41 =>
        CallV Tryd.prog r of5 [(.int .i64 x24), (.int .i64 x41)] h1 fun v44 h2 => ∃ (y43 : Int), v44 = (.int .i64 y43) ∧
        R y43 .nilIface h2))) →
    J7 x6) →
  Br (decide (i3 < 0)) (
    J7 true) (
    Br (decide (j4 < i3)) (
      J7 true) (
      Ck t1 fun p49 =>
      LdS h (Addr.add p49 0) fun x51 =>
      J7 (decide (((x51.len : Int)) < j4))))

set_option maxRecDepth 100000 in
theorem table_Table_told_of {r : World} {t1 : Option Addr} {rows2 : Sl} {i3 : Int} {j4 : Int} {of5 : Value} {h : Heap} {R : Int → Value → Heap → Prop} (H : table_Table_told_F r t1 rows2 i3 j4 of5 h R) : table_Table_told r t1 rows2 i3 j4 of5 h R := by
  unfold table_Table_told_F at H
  refine calls_of 59 [.tmp 10, .tmp 11] Tryd.func77 rfl rfl rfl rfl rfl ?_
  refine W_seq ?_
  refine W_region (.pu 0 (.pu 1 .fin)) rfl rfl ?_
  refine s_pu (d := some 10) (v := (.int .i64 0)) rfl rfl rfl (r_assign rfl) ?_
  refine s_pu (d := some 11) (v := .nilIface) rfl rfl rfl (r_assign rfl) ?_
  refine s_fin ?_
  show W _ _ _ _ _ _ _ _
  refine W_seq ?_
  refine W_seq ?_
  refine W_set ?_
  intro N8 eN8
  have H := H (fun (x6 : Bool) => ∀ b, N8 [] (mkE [(1, (Sl.v rows2)), (2, (.int .i64 i3)), (3, (.int .i64 j4)), (4, of5), (28, (.bool x6))] b) h) (by
    intro x6 H b
    rw [eN8]
    show W _ _ _ _ _ _ _ _
    refine W_if x6 rfl (fun g46 => ?_) (fun g46 => ?_)
    · have H := H.1 g46
      refine W_seq ?_
      refine W_region (.pu 0 (.pu 1 (.pu 2 .fin))) rfl rfl ?_
      refine s_pu (d := some 29) (v := ((.iface 29 (.int .i64 1)))) rfl rfl rfl (r_iface Tryd.underlying29 rfl rfl) ?_
      refine s_pu (d := some 10) (v := (.int .i64 0)) rfl rfl rfl (r_assign rfl) ?_
      refine s_pu (d := some 11) (v := ((.iface 29 (.int .i64 1)))) rfl rfl rfl (r_assign rfl) ?_
      refine s_fin ?_
      show W _ _ _ _ _ _ _ _
      refine W_ret ?_
      exact ⟨[(.int .i64 0), ((.iface 29 (.int .i64 1)))], ⟨_, _, rfl, rfl, ⟨_, _, rfl, rfl, rfl⟩⟩, 0, ((.iface 29 (.int .i64 1))), rfl, H⟩
    · have H := H.2 g46
      refine W_skip ?_
      show W _ _ _ _ _ _ _ _
      refine W_seq ?_
      refine W_seq ?_
      refine W_region (.pu 0 (.pu 1 (.pu 2 .fin))) rfl rfl ?_
      refine s_pu (d := some 30) (v := (.int .i64 i3)) rfl rfl rfl (r_move rfl) ?_
      refine s_pu (d := some 31) (v := (.int .i64 j4)) rfl rfl rfl (r_move rfl) ?_
      refine s_pu (d := some 32) (v := (.bool (decide (i3 = j4)))) rfl rfl rfl (r_eql rfl rfl) ?_
      refine s_fin ?_
      show W _ _ _ _ _ _ _ _
      refine W_if (decide (i3 = j4)) rfl (fun g45 => ?_) (fun g45 => ?_)
      · have H := H.1 g45
        refine W_seq ?_
        refine W_region (.pu 0 (.pu 1 (.pu 2 .fin))) rfl rfl ?_
        refine s_pu (d := some 33) (v := ((.iface 29 (.int .i64 2)))) rfl rfl rfl (r_iface Tryd.underlying29 rfl rfl) ?_
        refine s_pu (d := some 10) (v := (.int .i64 0)) rfl rfl rfl (r_assign rfl) ?_
        refine s_pu (d := some 11) (v := ((.iface 29 (.int .i64 2)))) rfl rfl rfl (r_assign rfl) ?_
        refine s_fin ?_
        show W _ _ _ _ _ _ _ _
        refine W_ret ?_
        exact ⟨[(.int .i64 0), ((.iface 29 (.int .i64 2)))], ⟨_, _, rfl, rfl, ⟨_, _, rfl, rfl, rfl⟩⟩, 0, ((.iface 29 (.int .i64 2))), rfl, H⟩
      · have H := H.2 g45
        refine W_skip ?_
        show W _ _ _ _ _ _ _ _
        refine W_seq ?_
        refine W_region (.pu 0 (.pu 1 (.pu 2 (.pu 3 (.ef 4 [] (.pu 5 (.pu 6 .fin)) .no))))) rfl rfl ?_
        refine s_pu (d := some 34) (v := (.int .i64 j4)) rfl rfl rfl (r_move rfl) ?_
        refine s_pu (d := some 35) (v := (.int .i64 i3)) rfl rfl rfl (r_move rfl) ?_
        refine s_pu (d := some 36) (v := (.int .i64 (w64 (j4 - i3)))) rfl rfl rfl (r_sub rfl rfl) ?_
        refine s_pu (d := some 37) (v := (.int .u64 (IntKind.wrap .u64 (w64 (j4 - i3))))) rfl rfl rfl (r_conv Tryd.underlying3 Tryd.underlying99 rfl) ?_
        refine s_ef (d := some 38) rfl rfl rfl (fun dr => r_call Tryd.call72 rfl rfl H) ?_ trivial
        rintro _ h1 ⟨y9, rfl, H⟩
        refine ⟨trivial, ?_⟩
        refine s_pu (d := some 39) (v := (.int .i64 (w64 (y9 - 1)))) rfl rfl rfl (r_sub rfl rfl) ?_
        refine s_pu (d := some 12) (v := (.int .i64 (w64 (y9 - 1)))) rfl rfl rfl (r_assign rfl) ?_
        refine s_fin ?_
        show W _ _ _ _ _ _ _ _
        refine W_seq ?_
        refine W_draw [0, 0, 0, 6, 14, 0, 62, 126, 0, 0, 768, 1792, 0, 0, 8192, 28672, 65280, 130816, 262143, 524287, 1048575] (.pu 0 (.pu 1 (.pu 2 (.pu 3 (.rd 4 (.pu 5 (.pu 6 (.rd 7 (.pu 8 (.pu 9 (.pu 10 (.rd 11 (.pu 12 (.pu 13 (.pu 14 (.pu 15 (.pu 16 (.rd 17 (.ef 18 [4, 7, 11, 17] (.pu 19 (.pu 20 .fin)) .no))))))))))))))))))) (by kernel_rfl) (by kernel_rfl) ?_
        refine s_pu (d := some 40) (v := of5) rfl rfl rfl (r_move rfl) ?_
        refine s_pu (d := some 41) (v := (Sl.v rows2)) rfl rfl rfl (r_move rfl) ?_
        refine s_pu (d := some 42) (v := (.int .i64 (w64 (y9 - 1)))) rfl rfl rfl (r_move rfl) ?_
        obtain ⟨p10, e11, e12, e13, H⟩ := H
        obtain ⟨q14, e15⟩ : ∃ q : Addr, q = Addr.add p10 (Int.toNat (w64 (y9 - 1)) * 1) := ⟨_, rfl⟩
        rw [← e15] at H
        refine s_pu (d := some 43) (v := (.pointer (some q14))) rfl rfl rfl (fun w => (r_indexAddr Tryd.underlying56 Tryd.sizeOf22 rfl rfl e11 e12 e13 w).trans (by rw [e15])) ?_
        obtain ⟨x16, e17, H⟩ := H
        refine s_rd (d := some 44) (v := (Sl.v x16)) rfl rfl rfl (fun dr => r_load1 Tryd.isAgg22 rfl e17) ?_
        refine s_pu (d := some 45) (v := (.int .i64 i3)) rfl rfl rfl (r_move rfl) ?_
        obtain ⟨p18, e19, e20, e21, H⟩ := H
        obtain ⟨q22, e23⟩ : ∃ q : Addr, q = Addr.add p18 (Int.toNat i3 * 1) := ⟨_, rfl⟩
        rw [← e23] at H
        refine s_pu (d := some 46) (v := (.pointer (some q22))) rfl rfl rfl (fun w => (r_indexAddr Tryd.underlying22 Tryd.sizeOf3 rfl rfl e19 e20 e21 w).trans (by rw [e23])) ?_
        obtain ⟨x24, e25, H⟩ := H
        refine s_rd (d := some 47) (v := (.int .i64 x24)) rfl rfl rfl (fun dr => r_load1 Tryd.isAgg3 rfl e25) ?_
        refine s_pu (d := some 48) (v := (Sl.v rows2)) rfl rfl rfl (r_move rfl) ?_
        refine s_pu (d := some 49) (v := (.int .i64 (w64 (y9 - 1)))) rfl rfl rfl (r_move rfl) ?_
        obtain ⟨p26, e27, e28, e29, H⟩ := H
        obtain ⟨q30, e31⟩ : ∃ q : Addr, q = Addr.add p26 (Int.toNat (w64 (y9 - 1)) * 1) := ⟨_, rfl⟩
        rw [← e31] at H
        refine s_pu (d := some 50) (v := (.pointer (some q30))) rfl rfl rfl (fun w => (r_indexAddr Tryd.underlying56 Tryd.sizeOf22 rfl rfl e27 e28 e29 w).trans (by rw [e31])) ?_
        obtain ⟨x32, e33, H⟩ := H
        refine s_rd (d := some 51) (v := (Sl.v x32)) rfl rfl rfl (fun dr => r_load1 Tryd.isAgg22 rfl e33) ?_
        refine s_pu (d := some 52) (v := (.int .i64 j4)) rfl rfl rfl (r_move rfl) ?_
        refine s_pu (d := some 53) (v := (.int .i64 (w64 (y9 - 1)))) rfl rfl rfl (r_move rfl) ?_
        obtain ⟨e34, H⟩ := H
        refine s_pu (d := some 54) (v := (.int .i64 (sShl .i64 1 (w64 (y9 - 1))))) rfl rfl rfl (r_shl rfl rfl e34) ?_
        refine s_pu (d := some 55) (v := (.int .i64 (w64 (j4 - (sShl .i64 1 (w64 (y9 - 1))))))) rfl rfl rfl (r_sub rfl rfl) ?_
        obtain ⟨p35, e36, e37, e38, H⟩ := H
        obtain ⟨q39, e40⟩ : ∃ q : Addr, q = Addr.add p35 (Int.toNat (w64 (j4 - (sShl .i64 1 (w64 (y9 - 1))))) * 1) := ⟨_, rfl⟩
        rw [← e40] at H
        refine s_pu (d := some 56) (v := (.pointer (some q39))) rfl rfl rfl (fun w => (r_indexAddr Tryd.underlying22 Tryd.sizeOf3 rfl rfl e36 e37 e38 w).trans (by rw [e40])) ?_
        obtain ⟨x41, e42, H⟩ := H
        refine s_rd (d := some 57) (v := (.int .i64 x41)) rfl rfl rfl (fun dr => r_load1 Tryd.isAgg3 rfl e42) ?_
        refine s_ef (d := some 58) rfl rfl rfl (fun dr => r_callV rfl rfl H) ?_ trivial
        rintro _ h2 ⟨y43, rfl, H⟩
        refine ⟨⟨trivial, trivial, trivial, trivial, trivial⟩, ?_⟩
        refine s_pu (d := some 10) (v := (.int .i64 y43)) rfl rfl rfl (r_assign rfl) ?_
        refine s_pu (d := some 11) (v := .nilIface) rfl rfl rfl (r_assign rfl) ?_
        refine s_fin ?_
        show W _ _ _ _ _ _ _ _
        refine W_ret ?_
        exact ⟨[(.int .i64 y43), .nilIface], ⟨_, _, rfl, rfl, ⟨_, _, rfl, rfl, rfl⟩⟩, y43, .nilIface, rfl, H⟩)
  clear eN8
  refine W_region (.pu 0 (.pu 1 (.pu 2 (.pu 3 (.pu 4 (.pu 5 (.pu 6 (.pu 7 (.pu 8 (.pu 9 (.pu 10 (.pu 11 (.rl 12 (.pu 13 (.pu 14 (.pu 15 .fin)))))))))))))))) rfl rfl ?_
  refine s_pu (d := some 13) (v := (.int .i64 i3)) rfl rfl rfl (r_move rfl) ?_
  refine s_pu (d := some 14) (v := (.bool (decide (i3 < 0)))) rfl rfl rfl (r_lss rfl rfl) ?_
  refine s_pu (d := some 15) (v := (.bool (decide (i3 < 0)))) rfl rfl rfl (r_move rfl) ?_
  rcases Bool.eq_false_or_eq_true (decide (i3 < 0)) with g47 | g47
  · have H := H.1 g47
    refine s_sk (d := some 16) rfl rfl (wants_no rfl rfl rfl rfl g47) ?_
    refine s_sk (d := some 17) rfl rfl (wants_no rfl rfl rfl rfl g47) ?_
    refine s_sk (d := some 18) rfl rfl (wants_no rfl rfl rfl rfl g47) ?_
    refine s_pu (d := some 19) (v := (.bool true)) rfl rfl rfl (r_pick1 rfl g47 rfl) ?_
    refine s_pu (d := some 20) (v := (.bool true)) rfl rfl rfl (r_move rfl) ?_
    refine s_sk (d := some 21) rfl rfl (wants_no rfl rfl rfl rfl rfl) ?_
    refine s_sk (d := some 22) rfl rfl (wants_no rfl rfl rfl rfl rfl) ?_
    refine s_sk (d := some 23) rfl rfl (wants_no rfl rfl rfl rfl rfl) ?_
    refine s_sk (d := some 24) rfl rfl (wants_no rfl rfl rfl rfl rfl) ?_
    refine s_skl (d := some 25) rfl rfl (wants_no rfl rfl rfl rfl rfl) ?_
    refine s_sk (d := some 26) rfl rfl (wants_no rfl rfl rfl rfl rfl) ?_
    refine s_sk (d := some 27) rfl rfl (wants_no rfl rfl rfl rfl rfl) ?_
    refine s_pu (d := some 28) (v := (.bool true)) rfl rfl rfl (r_pick1 rfl rfl rfl) ?_
    refine s_fin ?_
    exact N_mk (l := [(1, (Sl.v rows2)), (2, (.int .i64 i3)), (3, (.int .i64 j4)), (4, of5), (28, (.bool true))]) H ⟨rfl, rfl, rfl, rfl, rfl, trivial⟩
  · have H := H.2 g47
    refine s_pu (d := some 16) (v := (.int .i64 j4)) rfl rfl (wants_yes rfl rfl rfl rfl g47) (r_move rfl) ?_
    refine s_pu (d := some 17) (v := (.int .i64 i3)) rfl rfl (wants_yes rfl rfl rfl rfl g47) (r_move rfl) ?_
    refine s_pu (d := some 18) (v := (.bool (decide (j4 < i3)))) rfl rfl (wants_yes rfl rfl rfl rfl g47) (r_lss rfl rfl) ?_
    refine s_pu (d := some 19) (v := (.bool (decide (j4 < i3)))) rfl rfl rfl (r_pick0 rfl g47 rfl) ?_
    refine s_pu (d := some 20) (v := (.bool (decide (j4 < i3)))) rfl rfl rfl (r_move rfl) ?_
    rcases Bool.eq_false_or_eq_true (decide (j4 < i3)) with g48 | g48
    · have H := H.1 g48
      refine s_sk (d := some 21) rfl rfl (wants_no rfl rfl rfl rfl g48) ?_
      refine s_sk (d := some 22) rfl rfl (wants_no rfl rfl rfl rfl g48) ?_
      refine s_sk (d := some 23) rfl rfl (wants_no rfl rfl rfl rfl g48) ?_
      refine s_sk (d := some 24) rfl rfl (wants_no rfl rfl rfl rfl g48) ?_
      refine s_skl (d := some 25) rfl rfl (wants_no rfl rfl rfl rfl g48) ?_
      refine s_sk (d := some 26) rfl rfl (wants_no rfl rfl rfl rfl g48) ?_
      refine s_sk (d := some 27) rfl rfl (wants_no rfl rfl rfl rfl g48) ?_
      refine s_pu (d := some 28) (v := (.bool true)) rfl rfl rfl (r_pick1 rfl g48 rfl) ?_
      refine s_fin ?_
      exact N_mk (l := [(1, (Sl.v rows2)), (2, (.int .i64 i3)), (3, (.int .i64 j4)), (4, of5), (28, (.bool true))]) H ⟨rfl, rfl, rfl, rfl, rfl, trivial⟩
    · have H := H.2 g48
      refine s_pu (d := some 21) (v := (.int .i64 j4)) rfl rfl (wants_yes rfl rfl rfl rfl g48) (r_move rfl) ?_
      refine s_pu (d := some 22) (v := (.pointer t1)) rfl rfl (wants_yes rfl rfl rfl rfl g48) (r_move rfl) ?_
      obtain ⟨p49, e50, H⟩ := H
      refine s_pu (d := some 23) (v := (.pointer (some p49))) rfl rfl (wants_yes rfl rfl rfl rfl g48) (r_nilCheck rfl e50) ?_
      refine s_pu (d := some 24) (v := (.pointer (some (Addr.add p49 0)))) rfl rfl (wants_yes rfl rfl rfl rfl g48) (r_fieldAddr Tryd.underlying101 Tryd.sizeOf22 rfl rfl rfl) ?_
      obtain ⟨x51, e52, H⟩ := H
      refine s_rl (d := some 25) (v := (Sl.v x51)) rfl rfl (wants_yes rfl rfl rfl rfl g48) (fun dr => r_load1 Tryd.isAgg22 rfl e52) ?_
      refine s_pu (d := some 26) (v := (.int .i64 ((x51.len : Int)))) rfl rfl (wants_yes rfl rfl rfl rfl g48) (r_len Tryd.underlying22 rfl) ?_
      refine s_pu (d := some 27) (v := (.bool (decide (((x51.len : Int)) < j4)))) rfl rfl (wants_yes rfl rfl rfl rfl g48) (r_gtr rfl rfl) ?_
      refine s_pu (d := some 28) (v := (.bool (decide (((x51.len : Int)) < j4)))) rfl rfl rfl (r_pick0 rfl g48 rfl) ?_
      refine s_fin ?_
      exact N_mk (l := [(1, (Sl.v rows2)), (2, (.int .i64 i3)), (3, (.int .i64 j4)), (4, of5), (28, (.bool (decide (((x51.len : Int)) < j4))))]) H ⟨rfl, rfl, rfl, rfl, rfl, trivial⟩

/-! ### table_Table_Least -/

def table_Table_Least_F (r : World) (t1 : Option Addr) (i2 : Int) (j3 : Int) (h : Heap) (R : Int → Value → Heap → Prop) : Prop :=
  Ck t1 fun p4 =>
  LdS h (Addr.add p4 1) fun x6 =>
  table_Table_told r t1 x6 i2 j3 ((.func (.func 75) #[(.pointer t1)] #[])) h fun y8 y9 h1 =>
  R y8 y9 h1

set_option maxRecDepth 100000 in
theorem table_Table_Least_of {r : World} {t1 : Option Addr} {i2 : Int} {j3 : Int} {h : Heap} {R : Int → Value → Heap → Prop} (H : table_Table_Least_F r t1 i2 j3 h R) : table_Table_Least r t1 i2 j3 h R := by
  unfold table_Table_Least_F at H
  refine calls_of 20 [.tmp 6, .tmp 7] Tryd.func23 rfl rfl rfl rfl rfl ?_
  refine W_seq ?_
  refine W_region (.pu 0 (.pu 1 .fin)) rfl rfl ?_
  refine s_pu (d := some 6) (v := (.int .i64 0)) rfl rfl rfl (r_assign rfl) ?_
  refine s_pu (d := some 7) (v := .nilIface) rfl rfl rfl (r_assign rfl) ?_
  refine s_fin ?_
  show W _ _ _ _ _ _ _ _
  refine W_seq ?_
  refine W_region (.pu 0 (.pu 1 (.pu 2 (.pu 3 (.rl 4 (.pu 5 (.pu 6 (.pu 7 (.pu 8 (.ef 9 [] (.pu 10 (.pu 11 (.pu 12 (.pu 13 .fin)))) .no)))))))))) rfl rfl ?_
  refine s_pu (d := some 8) (v := (.pointer t1)) rfl rfl rfl (r_move rfl) ?_
  refine s_pu (d := some 9) (v := (.pointer t1)) rfl rfl rfl (r_move rfl) ?_
  obtain ⟨p4, e5, H⟩ := H
  refine s_pu (d := some 10) (v := (.pointer (some p4))) rfl rfl rfl (r_nilCheck rfl e5) ?_
  refine s_pu (d := some 11) (v := (.pointer (some (Addr.add p4 1)))) rfl rfl rfl (r_fieldAddr Tryd.underlying101 Tryd.sizeOf56 rfl rfl rfl) ?_
  obtain ⟨x6, e7, H⟩ := H
  refine s_rl (d := some 12) (v := (Sl.v x6)) rfl rfl rfl (fun dr => r_load1 Tryd.isAgg56 rfl e7) ?_
  refine s_pu (d := some 13) (v := (.int .i64 i2)) rfl rfl rfl (r_move rfl) ?_
  refine s_pu (d := some 14) (v := (.int .i64 j3)) rfl rfl rfl (r_move rfl) ?_
  refine s_pu (d := some 15) (v := (.pointer t1)) rfl rfl rfl (r_move rfl) ?_
  refine s_pu (d := some 16) (v := ((.func (.func 75) #[(.pointer t1)] #[]))) rfl rfl rfl (r_makeFunc rfl rfl) ?_
  refine s_ef (d := some 17) rfl rfl rfl (fun dr => r_call Tryd.call77 rfl rfl H) ?_ trivial
  rintro _ h1 ⟨y8, y9, rfl, H⟩
  refine ⟨trivial, ?_⟩
  refine s_pu (d := some 18) (v := (.int .i64 y8)) rfl rfl rfl (r_extract rfl rfl) ?_
  refine s_pu (d := some 19) (v := y9) rfl rfl rfl (r_extract rfl rfl) ?_
  refine s_pu (d := some 6) (v := (.int .i64 y8)) rfl rfl rfl (r_assign rfl) ?_
  refine s_pu (d := some 7) (v := y9) rfl rfl rfl (r_assign rfl) ?_
  refine s_fin ?_
  show W _ _ _ _ _ _ _ _
  refine W_ret ?_
  exact ⟨[(.int .i64 y8), y9], ⟨_, _, rfl, rfl, ⟨_, _, rfl, rfl, rfl⟩⟩, y8, y9, rfl, H⟩

/-! ### table_Table_Most -/

def table_Table_Most_F (r : World) (t1 : Option Addr) (i2 : Int) (j3 : Int) (h : Heap) (R : Int → Value → Heap → Prop) : Prop :=
  Ck t1 fun p4 =>
  LdS h (Addr.add p4 2) fun x6 =>
  table_Table_told r t1 x6 i2 j3 ((.func (.func 76) #[(.pointer t1)] #[])) h fun y8 y9 h1 =>
  R y8 y9 h1

set_option maxRecDepth 100000 in
theorem table_Table_Most_of {r : World} {t1 : Option Addr} {i2 : Int} {j3 : Int} {h : Heap} {R : Int → Value → Heap → Prop} (H : table_Table_Most_F r t1 i2 j3 h R) : table_Table_Most r t1 i2 j3 h R := by
  unfold table_Table_Most_F at H
  refine calls_of 20 [.tmp 6, .tmp 7] Tryd.func24 rfl rfl rfl rfl rfl ?_
  refine W_seq ?_
  refine W_region (.pu 0 (.pu 1 .fin)) rfl rfl ?_
  refine s_pu (d := some 6) (v := (.int .i64 0)) rfl rfl rfl (r_assign rfl) ?_
  refine s_pu (d := some 7) (v := .nilIface) rfl rfl rfl (r_assign rfl) ?_
  refine s_fin ?_
  show W _ _ _ _ _ _ _ _
  refine W_seq ?_
  refine W_region (.pu 0 (.pu 1 (.pu 2 (.pu 3 (.rl 4 (.pu 5 (.pu 6 (.pu 7 (.pu 8 (.ef 9 [] (.pu 10 (.pu 11 (.pu 12 (.pu 13 .fin)))) .no)))))))))) rfl rfl ?_
  refine s_pu (d := some 8) (v := (.pointer t1)) rfl rfl rfl (r_move rfl) ?_
  refine s_pu (d := some 9) (v := (.pointer t1)) rfl rfl rfl (r_move rfl) ?_
  obtain ⟨p4, e5, H⟩ := H
  refine s_pu (d := some 10) (v := (.pointer (some p4))) rfl rfl rfl (r_nilCheck rfl e5) ?_
  refine s_pu (d := some 11) (v := (.pointer (some (Addr.add p4 2)))) rfl rfl rfl (r_fieldAddr Tryd.underlying101 Tryd.sizeOf56 rfl rfl rfl) ?_
  obtain ⟨x6, e7, H⟩ := H
  refine s_rl (d := some 12) (v := (Sl.v x6)) rfl rfl rfl (fun dr => r_load1 Tryd.isAgg56 rfl e7) ?_
  refine s_pu (d := some 13) (v := (.int .i64 i2)) rfl rfl rfl (r_move rfl) ?_
  refine s_pu (d := some 14) (v := (.int .i64 j3)) rfl rfl rfl (r_move rfl) ?_
  refine s_pu (d := some 15) (v := (.pointer t1)) rfl rfl rfl (r_move rfl) ?_
  refine s_pu (d := some 16) (v := ((.func (.func 76) #[(.pointer t1)] #[]))) rfl rfl rfl (r_makeFunc rfl rfl) ?_
  refine s_ef (d := some 17) rfl rfl rfl (fun dr => r_call Tryd.call77 rfl rfl H) ?_ trivial
  rintro _ h1 ⟨y8, y9, rfl, H⟩
  refine ⟨trivial, ?_⟩
  refine s_pu (d := some 18) (v := (.int .i64 y8)) rfl rfl rfl (r_extract rfl rfl) ?_
  refine s_pu (d := some 19) (v := y9) rfl rfl rfl (r_extract rfl rfl) ?_
  refine s_pu (d := some 6) (v := (.int .i64 y8)) rfl rfl rfl (r_assign rfl) ?_
  refine s_pu (d := some 7) (v := y9) rfl rfl rfl (r_assign rfl) ?_
  refine s_fin ?_
  show W _ _ _ _ _ _ _ _
  refine W_ret ?_
  exact ⟨[(.int .i64 y8), y9], ⟨_, _, rfl, rfl, ⟨_, _, rfl, rfl, rfl⟩⟩, y8, y9, rfl, H⟩

/-! ### table_Table_Rows -/

def table_Table_Rows_F (r : World) (t1 : Option Addr) (h : Heap) (R : Int → Heap → Prop) : Prop :=
  Ck t1 fun p2 =>
  LdS h (Addr.add p2 1) fun x4 =>
  R ((x4.len : Int)) h

set_option maxRecDepth 100000 in
theorem table_Table_Rows_of {r : World} {t1 : Option Addr} {h : Heap} {R : Int → Heap → Prop} (H : table_Table_Rows_F r t1 h R) : table_Table_Rows r t1 h R := by
  unfold table_Table_Rows_F at H
  refine calls_of 8 [.tmp 2] Tryd.func25 rfl rfl rfl rfl rfl ?_
  refine W_seq ?_
  refine W_region (.pu 0 .fin) rfl rfl ?_
  refine s_pu (d := some 2) (v := (.int .i64 0)) rfl rfl rfl (r_assign rfl) ?_
  refine s_fin ?_
  show W _ _ _ _ _ _ _ _
  refine W_seq ?_
  refine W_region (.pu 0 (.pu 1 (.pu 2 (.rl 3 (.pu 4 (.pu 5 .fin)))))) rfl rfl ?_
  refine s_pu (d := some 3) (v := (.pointer t1)) rfl rfl rfl (r_move rfl) ?_
  obtain ⟨p2, e3, H⟩ := H
  refine s_pu (d := some 4) (v := (.pointer (some p2))) rfl rfl rfl (r_nilCheck rfl e3) ?_
  refine s_pu (d := some 5) (v := (.pointer (some (Addr.add p2 1)))) rfl rfl rfl (r_fieldAddr Tryd.underlying101 Tryd.sizeOf56 rfl rfl rfl) ?_
  obtain ⟨x4, e5, H⟩ := H
  refine s_rl (d := some 6) (v := (Sl.v x4)) rfl rfl rfl (fun dr => r_load1 Tryd.isAgg56 rfl e5) ?_
  refine s_pu (d := some 7) (v := (.int .i64 ((x4.len : Int)))) rfl rfl rfl (r_len Tryd.underlying56 rfl) ?_
  refine s_pu (d := some 2) (v := (.int .i64 ((x4.len : Int)))) rfl rfl rfl (r_assign rfl) ?_
  refine s_fin ?_
  show W _ _ _ _ _ _ _ _
  refine W_ret ?_
  exact ⟨[(.int .i64 ((x4.len : Int)))], ⟨_, _, rfl, rfl, rfl⟩, ((x4.len : Int)), rfl, H⟩

/-! ### law5_tabled -/

def law5_tabled_F (r : World)  (h : Heap) (R : Bool → Heap → Prop) : Prop :=
  New h (.cells #[(.int .i64 5), (.int .i64 3), (.int .i64 3)] 3) fun p1 h1 =>
  table_New r ((⟨some p1, 3, 3⟩ : Sl)) h1 fun y4 y5 h2 =>
  (isIface y5 = true) ∧
  Br ((!(isNil y5)) || (Option.isNone y4)) (
    R false h2) (
    table_Table_Least r y4 0 3 h2 fun y10 y11 h3 =>
    ∀ J13 : Bool → Heap → Prop, (∀ (x12 : Bool) (h4 : Heap),
      (R x12 h4) →
      J13 x12 h4) →
    (isIface y11 = true) ∧
    Br (isNil y11) (
      Br (decide (y10 = 1)) (
        table_Table_Rows r y4 h3 fun y18 h5 =>
        J13 (decide (y18 = 2)) h5) (
        J13 false h3)) (
      J13 false h3))

set_option maxRecDepth 100000 in
theorem law5_tabled_of {r : World}  {h : Heap} {R : Bool → Heap → Prop} (H : law5_tabled_F r  h R) : law5_tabled r  h R := by
  unfold law5_tabled_F at H
  refine calls_of 32 [.tmp 0] Tryd.func19 rfl rfl rfl rfl rfl ?_
  refine W_seq ?_
  refine W_region (.pu 0 .fin) rfl rfl ?_
  refine s_pu (d := some 0) (v := (.bool false)) rfl rfl rfl (r_assign rfl) ?_
  refine s_fin ?_
  show W _ _ _ _ _ _ _ _
  refine W_seq ?_
  refine W_region (.ef 0 [] (.ef 1 [] (.pu 2 (.pu 3 (.pu 4 (.pu 5 (.pu 6 .fin))))) .no) .no) rfl rfl ?_
  obtain ⟨p1, e2⟩ : ∃ p : Addr, p = ⟨h.size, 0, none⟩ := ⟨_, rfl⟩
  obtain ⟨h1, e3⟩ : ∃ hh : Heap, hh = h.push (.cells #[(.int .i64 5), (.int .i64 3), (.int .i64 3)] 3) := ⟨_, rfl⟩
  have H := H p1 h1 e2 e3
  refine s_ef1 (d := some 6) (v := (Sl.v ((⟨some p1, 3, 3⟩ : Sl)))) (h' := h1) rfl rfl rfl (fun dr => (slFDTab_22.build (cells := #[(.int .i64 5), (.int .i64 3), (.int .i64 3)]) (by decide) rfl (by kernel_rfl)).trans (by rw [e2, e3]; rfl)) trivial ?_ trivial
  refine s_ef (d := some 7) rfl rfl rfl (fun dr => r_call Tryd.call20 rfl rfl H) ?_ trivial
  rintro _ h2 ⟨y4, y5, rfl, H⟩
  refine ⟨trivial, ?_⟩
  refine s_pu (d := some 5) (v := (.tuple #[(.pointer y4), y5])) rfl rfl rfl (r_move rfl) ?_
  refine s_pu (d := some 8) (v := (.pointer y4)) rfl rfl rfl (r_extract rfl rfl) ?_
  refine s_pu (d := some 9) (v := y5) rfl rfl rfl (r_extract rfl rfl) ?_
  refine s_pu (d := some 1) (v := (.pointer y4)) rfl rfl rfl (r_assign rfl) ?_
  refine s_pu (d := some 2) (v := y5) rfl rfl rfl (r_assign rfl) ?_
  refine s_fin ?_
  show W _ _ _ _ _ _ _ _
  refine W_seq ?_
  refine W_seq ?_
  refine W_region (.pu 0 (.pu 1 (.pu 2 (.pu 3 (.pu 4 (.pu 5 .fin)))))) rfl rfl ?_
  refine s_pu (d := some 10) (v := y5) rfl rfl rfl (r_move rfl) ?_
  obtain ⟨e6, H⟩ := H
  refine s_pu (d := some 11) (v := (.bool (!(isNil y5)))) rfl rfl rfl (r_notNilI Tryd.underlying26 rfl e6 rfl) ?_
  refine s_pu (d := some 12) (v := (.bool (!(isNil y5)))) rfl rfl rfl (r_move rfl) ?_
  refine S_meet (l := [(1, (.pointer y4)), (15, (.bool ((!(isNil y5)) || (Option.isNone y4))))]) (i := 3) ?_ (fun HJ => ?_)
  · intro b
    show S _ _ _ _ _ _
    refine s_fin ?_
    show W _ _ _ _ _ _ _ _
    refine W_if ((!(isNil y5)) || (Option.isNone y4)) rfl (fun g19 => ?_) (fun g19 => ?_)
    · have H := H.1 g19
      refine W_seq ?_
      refine W_region (.pu 0 .fin) rfl rfl ?_
      refine s_pu (d := some 0) (v := (.bool false)) rfl rfl rfl (r_assign rfl) ?_
      refine s_fin ?_
      show W _ _ _ _ _ _ _ _
      refine W_ret ?_
      exact ⟨[(.bool false)], ⟨_, _, rfl, rfl, rfl⟩, false, rfl, H⟩
    · have H := H.2 g19
      refine W_skip ?_
      show W _ _ _ _ _ _ _ _
      refine W_seq ?_
      refine W_region (.pu 0 (.ef 1 [] (.pu 2 (.pu 3 (.pu 4 (.pu 5 (.pu 6 .fin))))) .no)) rfl rfl ?_
      refine s_pu (d := some 17) (v := (.pointer y4)) rfl rfl rfl (r_move rfl) ?_
      refine s_ef (d := some 18) rfl rfl rfl (fun dr => r_call Tryd.call23 rfl rfl H) ?_ trivial
      rintro _ h3 ⟨y10, y11, rfl, H⟩
      refine ⟨trivial, ?_⟩
      refine s_pu (d := some 16) (v := (.tuple #[(.int .i64 y10), y11])) rfl rfl rfl (r_move rfl) ?_
      refine s_pu (d := some 19) (v := (.int .i64 y10)) rfl rfl rfl (r_extract rfl rfl) ?_
      refine s_pu (d := some 20) (v := y11) rfl rfl rfl (r_extract rfl rfl) ?_
      refine s_pu (d := some 3) (v := (.int .i64 y10)) rfl rfl rfl (r_assign rfl) ?_
      refine s_pu (d := some 4) (v := y11) rfl rfl rfl (r_assign rfl) ?_
      refine s_fin ?_
      show W _ _ _ _ _ _ _ _
      refine W_seq ?_
      refine W_set ?_
      intro N14 eN14
      have H := H (fun (x12 : Bool) (h4 : Heap) => ∀ b, N14 [] (mkE [(0, (.bool x12))] b) h4) (by
        intro x12 h4 H b
        rw [eN14]
        show W _ _ _ _ _ _ _ _
        refine W_ret ?_
        exact ⟨[(.bool x12)], ⟨_, _, rfl, rfl, rfl⟩, x12, rfl, H⟩)
      clear eN14
      refine W_region (.pu 0 (.pu 1 (.pu 2 (.pu 3 (.pu 4 (.pu 5 (.pu 6 (.pu 7 (.ef 8 [] (.pu 9 (.pu 10 (.pu 11 .fin))) .no))))))))) rfl rfl ?_
      refine s_pu (d := some 21) (v := y11) rfl rfl rfl (r_move rfl) ?_
      obtain ⟨e15, H⟩ := H
      refine s_pu (d := some 22) (v := (.bool (isNil y11))) rfl rfl rfl (r_nilI Tryd.underlying26 rfl e15 rfl) ?_
      refine s_pu (d := some 23) (v := (.bool (isNil y11))) rfl rfl rfl (r_move rfl) ?_
      rcases Bool.eq_false_or_eq_true (isNil y11) with g16 | g16
      · have H := H.1 g16
        refine s_pu (d := some 24) (v := (.int .i64 y10)) rfl rfl (wants_yes rfl rfl rfl rfl g16) (r_move rfl) ?_
        refine s_pu (d := some 25) (v := (.bool (decide (y10 = 1)))) rfl rfl (wants_yes rfl rfl rfl rfl g16) (r_eql rfl rfl) ?_
        refine s_pu (d := some 26) (v := (.bool (decide (y10 = 1)))) rfl rfl rfl (r_pick1 rfl g16 rfl) ?_
        refine s_pu (d := some 27) (v := (.bool (decide (y10 = 1)))) rfl rfl rfl (r_move rfl) ?_
        rcases Bool.eq_false_or_eq_true (decide (y10 = 1)) with g17 | g17
        · have H := H.1 g17
          refine s_pu (d := some 28) (v := (.pointer y4)) rfl rfl (wants_yes rfl rfl rfl rfl g17) (r_move rfl) ?_
          refine s_ef (d := some 29) rfl rfl (wants_yes rfl rfl rfl rfl g17) (fun dr => r_call Tryd.call25 rfl rfl H) ?_ trivial
          rintro _ h5 ⟨y18, rfl, H⟩
          refine ⟨trivial, ?_⟩
          refine s_pu (d := some 30) (v := (.bool (decide (y18 = 2)))) rfl rfl (wants_yes rfl rfl rfl rfl g17) (r_eql rfl rfl) ?_
          refine s_pu (d := some 31) (v := (.bool (decide (y18 = 2)))) rfl rfl rfl (r_pick1 rfl g17 rfl) ?_
          refine s_pu (d := some 0) (v := (.bool (decide (y18 = 2)))) rfl rfl rfl (r_assign rfl) ?_
          refine s_fin ?_
          exact N_mk (l := [(0, (.bool (decide (y18 = 2))))]) H ⟨rfl, trivial⟩
        · have H := H.2 g17
          refine s_sk (d := some 28) rfl rfl (wants_no rfl rfl rfl rfl g17) ?_
          refine s_skf (d := some 29) rfl rfl (wants_no rfl rfl rfl rfl g17) trivial ?_ trivial
          refine s_sk (d := some 30) rfl rfl (wants_no rfl rfl rfl rfl g17) ?_
          refine s_pu (d := some 31) (v := (.bool false)) rfl rfl rfl (r_pick0 rfl g17 rfl) ?_
          refine s_pu (d := some 0) (v := (.bool false)) rfl rfl rfl (r_assign rfl) ?_
          refine s_fin ?_
          exact N_mk (l := [(0, (.bool false))]) H ⟨rfl, trivial⟩
      · have H := H.2 g16
        refine s_sk (d := some 24) rfl rfl (wants_no rfl rfl rfl rfl g16) ?_
        refine s_sk (d := some 25) rfl rfl (wants_no rfl rfl rfl rfl g16) ?_
        refine s_pu (d := some 26) (v := (.bool false)) rfl rfl rfl (r_pick0 rfl g16 rfl) ?_
        refine s_pu (d := some 27) (v := (.bool false)) rfl rfl rfl (r_move rfl) ?_
        refine s_sk (d := some 28) rfl rfl (wants_no rfl rfl rfl rfl rfl) ?_
        refine s_skf (d := some 29) rfl rfl (wants_no rfl rfl rfl rfl rfl) trivial ?_ trivial
        refine s_sk (d := some 30) rfl rfl (wants_no rfl rfl rfl rfl rfl) ?_
        refine s_pu (d := some 31) (v := (.bool false)) rfl rfl rfl (r_pick0 rfl rfl rfl) ?_
        refine s_pu (d := some 0) (v := (.bool false)) rfl rfl rfl (r_assign rfl) ?_
        refine s_fin ?_
        exact N_mk (l := [(0, (.bool false))]) H ⟨rfl, trivial⟩
  · rcases Bool.eq_false_or_eq_true (!(isNil y5)) with g7 | g7
    · refine s_sk (d := some 13) rfl rfl (wants_no rfl rfl rfl rfl g7) ?_
      refine s_sk (d := some 14) rfl rfl (wants_no rfl rfl rfl rfl g7) ?_
      refine s_pu (d := some 15) (v := (.bool true)) rfl rfl rfl (r_pick1 rfl g7 rfl) ?_
      exact S_mk (l := [(1, (.pointer y4)), (15, (.bool ((!(isNil y5)) || (Option.isNone y4))))]) HJ ⟨rfl, (by rw [g7]; rfl), trivial⟩
    · refine s_pu (d := some 13) (v := (.pointer y4)) rfl rfl (wants_yes rfl rfl rfl rfl g7) (r_move rfl) ?_
      refine s_pu (d := some 14) (v := (.bool (Option.isNone y4))) rfl rfl (wants_yes rfl rfl rfl rfl g7) (r_nilP Tryd.underlying38 rfl rfl) ?_
      refine s_pu (d := some 15) (v := (.bool (Option.isNone y4))) rfl rfl rfl (r_pick0 rfl g7 rfl) ?_
      exact S_mk (l := [(1, (.pointer y4)), (15, (.bool ((!(isNil y5)) || (Option.isNone y4))))]) HJ ⟨rfl, (by rw [g7]; rfl), trivial⟩

/-! ### ref1_Spot -/

def ref1_Spot_F (r : World) (l1 : Sl) (i2 : Int) (j3 : Int) (most4 : Bool) (h : Heap) (R : Int → Heap → Prop) : Prop :=
  ∀ X7 : Int → Int → Prop, (∀ (best5 : Int) (k6 : Int),
    (Br (decide (k6 < j3)) (
      ∀ J9 : Int → Prop, (∀ (best8 : Int),
        (X7 best8 (w64 (k6 + 1))) →
        J9 best8) →
      ∀ J12 : Bool → Prop, (∀ (x11 : Bool),
        (Br x11 (
          J9 k6) (
          J9 best5)) →
        J12 x11) →
      Br most4 (
        Ix l1 k6 1 fun q20 =>
        LdI h q20 fun x22 =>
        Ix l1 best5 1 fun q28 =>
        LdI h q28 fun x30 =>
        Br (decide (x30 < x22)) (
          J12 true) (
          Br (!most4) (
            Ix l1 k6 1 fun q38 =>
            LdI h q38 fun x40 =>
            Ix l1 best5 1 fun q46 =>
            LdI h q46 fun x48 =>
            J12 (decide (x40 < x48))) (
            J12 false))) (
        Br (!most4) (
          Ix l1 k6 1 fun q55 =>
          LdI h q55 fun x57 =>
          Ix l1 best5 1 fun q63 =>
          LdI h q63 fun x65 =>
          J12 (decide (x57 < x65))) (
          J12 false))) (
      R best5 h)) →
    X7 best5 k6) →
  X7 i2 (w64 (i2 + 1))

set_option maxRecDepth 100000 in
theorem ref1_Spot_of {r : World} {l1 : Sl} {i2 : Int} {j3 : Int} {most4 : Bool} {h : Heap} {R : Int → Heap → Prop} (H : ref1_Spot_F r l1 i2 j3 most4 h R) : ref1_Spot r l1 i2 j3 most4 h R := by
  unfold ref1_Spot_F at H
  refine calls_of 48 [.tmp 8] Tryd.func22 rfl rfl rfl rfl rfl ?_
  refine W_seq ?_
  refine W_region (.pu 0 .fin) rfl rfl ?_
  refine s_pu (d := some 8) (v := (.int .i64 0)) rfl rfl rfl (r_assign rfl) ?_
  refine s_fin ?_
  show W _ _ _ _ _ _ _ _
  refine W_seq ?_
  refine W_region (.pu 0 (.pu 1 .fin)) rfl rfl ?_
  refine s_pu (d := some 11) (v := (.int .i64 i2)) rfl rfl rfl (r_move rfl) ?_
  refine s_pu (d := some 9) (v := (.int .i64 i2)) rfl rfl rfl (r_assign rfl) ?_
  refine s_fin ?_
  show W _ _ _ _ _ _ _ _
  refine W_seq ?_
  refine W_seq ?_
  refine W_region (.pu 0 (.pu 1 (.pu 2 .fin))) rfl rfl ?_
  refine s_pu (d := some 12) (v := (.int .i64 i2)) rfl rfl rfl (r_move rfl) ?_
  refine s_pu (d := some 13) (v := (.int .i64 (w64 (i2 + 1)))) rfl rfl rfl (r_add rfl rfl) ?_
  refine s_pu (d := some 10) (v := (.int .i64 (w64 (i2 + 1)))) rfl rfl rfl (r_assign rfl) ?_
  refine s_fin ?_
  show W _ _ _ _ _ _ _ _
  refine W_block ?_
  refine W_loop (WL_mk (l := [(0, (Sl.v l1)), (2, (.int .i64 j3)), (3, (.bool most4)), (9, (.int .i64 i2)), (10, (.int .i64 (w64 (i2 + 1))))]) ?_ ⟨rfl, rfl, rfl, rfl, rfl, trivial⟩)
  refine H (fun (best5 : Int) (k6 : Int) => ∀ b, WL _ _ _ _ _ _ (mkE [(0, (Sl.v l1)), (2, (.int .i64 j3)), (3, (.bool most4)), (9, (.int .i64 best5)), (10, (.int .i64 k6))] b) h) ?_
  intro best5 k6 H b
  refine WL_round ?_
  refine W_seq ?_
  refine W_seq ?_
  refine W_region (.pu 0 (.pu 1 (.pu 2 .fin))) rfl rfl ?_
  refine s_pu (d := some 14) (v := (.int .i64 k6)) rfl rfl rfl (r_move rfl) ?_
  refine s_pu (d := some 15) (v := (.int .i64 j3)) rfl rfl rfl (r_move rfl) ?_
  refine s_pu (d := some 16) (v := (.bool (decide (k6 < j3)))) rfl rfl rfl (r_lss rfl rfl) ?_
  refine s_fin ?_
  show W _ _ _ _ _ _ _ _
  refine W_if (decide (k6 < j3)) rfl (fun g67 => ?_) (fun g67 => ?_)
  · have H := H.1 g67
    refine W_skip ?_
    show W _ _ _ _ _ _ _ _
    refine W_seq ?_
    refine W_set ?_
    intro N10 eN10
    have H := H (fun (best8 : Int) => ∀ b, N10 [] (mkE [(0, (Sl.v l1)), (2, (.int .i64 j3)), (3, (.bool most4)), (9, (.int .i64 best8)), (10, (.int .i64 k6))] b) h) (by
      intro best8 H b
      rw [eN10]
      show W _ _ _ _ _ _ _ _
      refine W_region (.pu 0 (.pu 1 (.pu 2 .fin))) rfl rfl ?_
      refine s_pu (d := some 17) (v := (.int .i64 k6)) rfl rfl rfl (r_move rfl) ?_
      refine s_pu (d := some 18) (v := (.int .i64 (w64 (k6 + 1)))) rfl rfl rfl (r_add rfl rfl) ?_
      refine s_pu (d := some 10) (v := (.int .i64 (w64 (k6 + 1)))) rfl rfl rfl (r_assign rfl) ?_
      refine s_fin ?_
      exact WL_mk (l := [(0, (Sl.v l1)), (2, (.int .i64 j3)), (3, (.bool most4)), (9, (.int .i64 best8)), (10, (.int .i64 (w64 (k6 + 1))))]) H ⟨rfl, rfl, rfl, rfl, rfl, trivial⟩)
    clear eN10
    refine W_block ?_
    refine W_seq ?_
    refine W_set ?_
    intro N13 eN13
    have H := H (fun (x11 : Bool) => ∀ b, N13 [] (mkE [(0, (Sl.v l1)), (2, (.int .i64 j3)), (3, (.bool most4)), (9, (.int .i64 best5)), (10, (.int .i64 k6)), (45, (.bool x11))] b) h) (by
      intro x11 H b
      rw [eN13]
      show W _ _ _ _ _ _ _ _
      refine W_if x11 rfl (fun g14 => ?_) (fun g14 => ?_)
      · have H := H.1 g14
        refine W_region (.pu 0 (.pu 1 .fin)) rfl rfl ?_
        refine s_pu (d := some 46) (v := (.int .i64 k6)) rfl rfl rfl (r_move rfl) ?_
        refine s_pu (d := some 9) (v := (.int .i64 k6)) rfl rfl rfl (r_assign rfl) ?_
        refine s_fin ?_
        exact N_mk (l := [(0, (Sl.v l1)), (2, (.int .i64 j3)), (3, (.bool most4)), (9, (.int .i64 k6)), (10, (.int .i64 k6))]) H ⟨rfl, rfl, rfl, rfl, rfl, trivial⟩
      · have H := H.2 g14
        refine W_skip ?_
        exact N_mk (l := [(0, (Sl.v l1)), (2, (.int .i64 j3)), (3, (.bool most4)), (9, (.int .i64 best5)), (10, (.int .i64 k6))]) H ⟨rfl, rfl, rfl, rfl, rfl, trivial⟩)
    clear eN13
    refine W_draw [0, 1, 3, 3, 15, 31, 3, 3, 195, 451, 1023, 2047, 4095, 8191, 16383, 32767, 65535, 65535, 262143, 524287, 65535, 65535, 3211263, 7405567, 16777215, 33554431, 67108863] (.pu 0 (.pu 1 (.pu 2 (.pu 3 (.pu 4 (.rd 5 (.pu 6 (.pu 7 (.pu 8 (.rd 9 (.pu 10 (.pu 11 (.pu 12 (.pu 13 (.pu 14 (.pu 15 (.pu 16 (.pu 17 (.pu 18 (.rd 19 (.pu 20 (.pu 21 (.pu 22 (.rd 23 (.pu 24 (.pu 25 (.pu 26 .fin))))))))))))))))))))))))))) (by kernel_rfl) (by kernel_rfl) ?_
    refine s_pu (d := some 19) (v := (.bool most4)) rfl rfl rfl (r_move rfl) ?_
    refine s_pu (d := some 20) (v := (.bool most4)) rfl rfl rfl (r_move rfl) ?_
    rcases Bool.eq_false_or_eq_true most4 with g15 | g15
    · have H := H.1 g15
      refine s_pu (d := some 21) (v := (Sl.v l1)) rfl rfl (wants_yes rfl rfl rfl rfl g15) (r_move rfl) ?_
      refine s_pu (d := some 22) (v := (.int .i64 k6)) rfl rfl (wants_yes rfl rfl rfl rfl g15) (r_move rfl) ?_
      obtain ⟨p16, e17, e18, e19, H⟩ := H
      obtain ⟨q20, e21⟩ : ∃ q : Addr, q = Addr.add p16 (Int.toNat k6 * 1) := ⟨_, rfl⟩
      rw [← e21] at H
      refine s_pu (d := some 23) (v := (.pointer (some q20))) rfl rfl (wants_yes rfl rfl rfl rfl g15) (fun w => (r_indexAddr Tryd.underlying22 Tryd.sizeOf3 rfl rfl e17 e18 e19 w).trans (by rw [e21])) ?_
      obtain ⟨x22, e23, H⟩ := H
      refine s_rd (d := some 24) (v := (.int .i64 x22)) rfl rfl (wants_yes rfl rfl rfl rfl g15) (fun dr => r_load1 Tryd.isAgg3 rfl e23) ?_
      refine s_pu (d := some 25) (v := (Sl.v l1)) rfl rfl (wants_yes rfl rfl rfl rfl g15) (r_move rfl) ?_
      refine s_pu (d := some 26) (v := (.int .i64 best5)) rfl rfl (wants_yes rfl rfl rfl rfl g15) (r_move rfl) ?_
      obtain ⟨p24, e25, e26, e27, H⟩ := H
      obtain ⟨q28, e29⟩ : ∃ q : Addr, q = Addr.add p24 (Int.toNat best5 * 1) := ⟨_, rfl⟩
      rw [← e29] at H
      refine s_pu (d := some 27) (v := (.pointer (some q28))) rfl rfl (wants_yes rfl rfl rfl rfl g15) (fun w => (r_indexAddr Tryd.underlying22 Tryd.sizeOf3 rfl rfl e25 e26 e27 w).trans (by rw [e29])) ?_
      obtain ⟨x30, e31, H⟩ := H
      refine s_rd (d := some 28) (v := (.int .i64 x30)) rfl rfl (wants_yes rfl rfl rfl rfl g15) (fun dr => r_load1 Tryd.isAgg3 rfl e31) ?_
      refine s_pu (d := some 29) (v := (.bool (decide (x30 < x22)))) rfl rfl (wants_yes rfl rfl rfl rfl g15) (r_gtr rfl rfl) ?_
      refine s_pu (d := some 30) (v := (.bool (decide (x30 < x22)))) rfl rfl rfl (r_pick1 rfl g15 rfl) ?_
      refine s_pu (d := some 31) (v := (.bool (decide (x30 < x22)))) rfl rfl rfl (r_move rfl) ?_
      rcases Bool.eq_false_or_eq_true (decide (x30 < x22)) with g32 | g32
      · have H := H.1 g32
        refine s_sk (d := some 32) rfl rfl (wants_no rfl rfl rfl rfl g32) ?_
        refine s_sk (d := some 33) rfl rfl (wants_no rfl rfl rfl rfl g32) ?_
        refine s_sk (d := some 34) rfl rfl (wants_no rfl rfl rfl rfl g32) ?_
        refine s_sk (d := some 35) rfl rfl (wants_un rfl rfl rfl) ?_
        refine s_sk (d := some 36) rfl rfl (wants_un rfl rfl rfl) ?_
        refine s_sk (d := some 37) rfl rfl (wants_un rfl rfl rfl) ?_
        refine s_skd (d := some 38) rfl rfl (wants_un rfl rfl rfl) ?_
        refine s_sk (d := some 39) rfl rfl (wants_un rfl rfl rfl) ?_
        refine s_sk (d := some 40) rfl rfl (wants_un rfl rfl rfl) ?_
        refine s_sk (d := some 41) rfl rfl (wants_un rfl rfl rfl) ?_
        refine s_skd (d := some 42) rfl rfl (wants_un rfl rfl rfl) ?_
        refine s_sk (d := some 43) rfl rfl (wants_un rfl rfl rfl) ?_
        refine s_sk (d := some 44) rfl rfl (wants_no rfl rfl rfl rfl g32) ?_
        refine s_pu (d := some 45) (v := (.bool true)) rfl rfl rfl (r_pick1 rfl g32 rfl) ?_
        refine s_fin ?_
        exact N_mk (l := [(0, (Sl.v l1)), (2, (.int .i64 j3)), (3, (.bool most4)), (9, (.int .i64 best5)), (10, (.int .i64 k6)), (45, (.bool true))]) H ⟨rfl, rfl, rfl, rfl, rfl, rfl, trivial⟩
      · have H := H.2 g32
        refine s_pu (d := some 32) (v := (.bool most4)) rfl rfl (wants_yes rfl rfl rfl rfl g32) (r_move rfl) ?_
        refine s_pu (d := some 33) (v := (.bool (!most4))) rfl rfl (wants_yes rfl rfl rfl rfl g32) (r_not rfl) ?_
        refine s_pu (d := some 34) (v := (.bool (!most4))) rfl rfl (wants_yes rfl rfl rfl rfl g32) (r_move rfl) ?_
        rcases Bool.eq_false_or_eq_true (!most4) with g33 | g33
        · have H := H.1 g33
          refine s_pu (d := some 35) (v := (Sl.v l1)) rfl rfl (wants_yes rfl rfl rfl rfl g33) (r_move rfl) ?_
          refine s_pu (d := some 36) (v := (.int .i64 k6)) rfl rfl (wants_yes rfl rfl rfl rfl g33) (r_move rfl) ?_
          obtain ⟨p34, e35, e36, e37, H⟩ := H
          obtain ⟨q38, e39⟩ : ∃ q : Addr, q = Addr.add p34 (Int.toNat k6 * 1) := ⟨_, rfl⟩
          rw [← e39] at H
          refine s_pu (d := some 37) (v := (.pointer (some q38))) rfl rfl (wants_yes rfl rfl rfl rfl g33) (fun w => (r_indexAddr Tryd.underlying22 Tryd.sizeOf3 rfl rfl e35 e36 e37 w).trans (by rw [e39])) ?_
          obtain ⟨x40, e41, H⟩ := H
          refine s_rd (d := some 38) (v := (.int .i64 x40)) rfl rfl (wants_yes rfl rfl rfl rfl g33) (fun dr => r_load1 Tryd.isAgg3 rfl e41) ?_
          refine s_pu (d := some 39) (v := (Sl.v l1)) rfl rfl (wants_yes rfl rfl rfl rfl g33) (r_move rfl) ?_
          refine s_pu (d := some 40) (v := (.int .i64 best5)) rfl rfl (wants_yes rfl rfl rfl rfl g33) (r_move rfl) ?_
          obtain ⟨p42, e43, e44, e45, H⟩ := H
          obtain ⟨q46, e47⟩ : ∃ q : Addr, q = Addr.add p42 (Int.toNat best5 * 1) := ⟨_, rfl⟩
          rw [← e47] at H
          refine s_pu (d := some 41) (v := (.pointer (some q46))) rfl rfl (wants_yes rfl rfl rfl rfl g33) (fun w => (r_indexAddr Tryd.underlying22 Tryd.sizeOf3 rfl rfl e43 e44 e45 w).trans (by rw [e47])) ?_
          obtain ⟨x48, e49, H⟩ := H
          refine s_rd (d := some 42) (v := (.int .i64 x48)) rfl rfl (wants_yes rfl rfl rfl rfl g33) (fun dr => r_load1 Tryd.isAgg3 rfl e49) ?_
          refine s_pu (d := some 43) (v := (.bool (decide (x40 < x48)))) rfl rfl (wants_yes rfl rfl rfl rfl g33) (r_lss rfl rfl) ?_
          refine s_pu (d := some 44) (v := (.bool (decide (x40 < x48)))) rfl rfl (wants_yes rfl rfl rfl rfl g32) (r_pick1 rfl g33 rfl) ?_
          refine s_pu (d := some 45) (v := (.bool (decide (x40 < x48)))) rfl rfl rfl (r_pick0 rfl g32 rfl) ?_
          refine s_fin ?_
          exact N_mk (l := [(0, (Sl.v l1)), (2, (.int .i64 j3)), (3, (.bool most4)), (9, (.int .i64 best5)), (10, (.int .i64 k6)), (45, (.bool (decide (x40 < x48))))]) H ⟨rfl, rfl, rfl, rfl, rfl, rfl, trivial⟩
        · have H := H.2 g33
          refine s_sk (d := some 35) rfl rfl (wants_no rfl rfl rfl rfl g33) ?_
          refine s_sk (d := some 36) rfl rfl (wants_no rfl rfl rfl rfl g33) ?_
          refine s_sk (d := some 37) rfl rfl (wants_no rfl rfl rfl rfl g33) ?_
          refine s_skd (d := some 38) rfl rfl (wants_no rfl rfl rfl rfl g33) ?_
          refine s_sk (d := some 39) rfl rfl (wants_no rfl rfl rfl rfl g33) ?_
          refine s_sk (d := some 40) rfl rfl (wants_no rfl rfl rfl rfl g33) ?_
          refine s_sk (d := some 41) rfl rfl (wants_no rfl rfl rfl rfl g33) ?_
          refine s_skd (d := some 42) rfl rfl (wants_no rfl rfl rfl rfl g33) ?_
          refine s_sk (d := some 43) rfl rfl (wants_no rfl rfl rfl rfl g33) ?_
          refine s_pu (d := some 44) (v := (.bool false)) rfl rfl (wants_yes rfl rfl rfl rfl g32) (r_pick0 rfl g33 rfl) ?_
          refine s_pu (d := some 45) (v := (.bool false)) rfl rfl rfl (r_pick0 rfl g32 rfl) ?_
          refine s_fin ?_
          exact N_mk (l := [(0, (Sl.v l1)), (2, (.int .i64 j3)), (3, (.bool most4)), (9, (.int .i64 best5)), (10, (.int .i64 k6)), (45, (.bool false))]) H ⟨rfl, rfl, rfl, rfl, rfl, rfl, trivial⟩
    · have H := H.2 g15
      refine s_sk (d := some 21) rfl rfl (wants_no rfl rfl rfl rfl g15) ?_
      refine s_sk (d := some 22) rfl rfl (wants_no rfl rfl rfl rfl g15) ?_
      refine s_sk (d := some 23) rfl rfl (wants_no rfl rfl rfl rfl g15) ?_
      refine s_skd (d := some 24) rfl rfl (wants_no rfl rfl rfl rfl g15) ?_
      refine s_sk (d := some 25) rfl rfl (wants_no rfl rfl rfl rfl g15) ?_
      refine s_sk (d := some 26) rfl rfl (wants_no rfl rfl rfl rfl g15) ?_
      refine s_sk (d := some 27) rfl rfl (wants_no rfl rfl rfl rfl g15) ?_
      refine s_skd (d := some 28) rfl rfl (wants_no rfl rfl rfl rfl g15) ?_
      refine s_sk (d := some 29) rfl rfl (wants_no rfl rfl rfl rfl g15) ?_
      refine s_pu (d := some 30) (v := (.bool false)) rfl rfl rfl (r_pick0 rfl g15 rfl) ?_
      refine s_pu (d := some 31) (v := (.bool false)) rfl rfl rfl (r_move rfl) ?_
      refine s_pu (d := some 32) (v := (.bool most4)) rfl rfl (wants_yes rfl rfl rfl rfl rfl) (r_move rfl) ?_
      refine s_pu (d := some 33) (v := (.bool (!most4))) rfl rfl (wants_yes rfl rfl rfl rfl rfl) (r_not rfl) ?_
      refine s_pu (d := some 34) (v := (.bool (!most4))) rfl rfl (wants_yes rfl rfl rfl rfl rfl) (r_move rfl) ?_
      rcases Bool.eq_false_or_eq_true (!most4) with g50 | g50
      · have H := H.1 g50
        refine s_pu (d := some 35) (v := (Sl.v l1)) rfl rfl (wants_yes rfl rfl rfl rfl g50) (r_move rfl) ?_
        refine s_pu (d := some 36) (v := (.int .i64 k6)) rfl rfl (wants_yes rfl rfl rfl rfl g50) (r_move rfl) ?_
        obtain ⟨p51, e52, e53, e54, H⟩ := H
        obtain ⟨q55, e56⟩ : ∃ q : Addr, q = Addr.add p51 (Int.toNat k6 * 1) := ⟨_, rfl⟩
        rw [← e56] at H
        refine s_pu (d := some 37) (v := (.pointer (some q55))) rfl rfl (wants_yes rfl rfl rfl rfl g50) (fun w => (r_indexAddr Tryd.underlying22 Tryd.sizeOf3 rfl rfl e52 e53 e54 w).trans (by rw [e56])) ?_
        obtain ⟨x57, e58, H⟩ := H
        refine s_rd (d := some 38) (v := (.int .i64 x57)) rfl rfl (wants_yes rfl rfl rfl rfl g50) (fun dr => r_load1 Tryd.isAgg3 rfl e58) ?_
        refine s_pu (d := some 39) (v := (Sl.v l1)) rfl rfl (wants_yes rfl rfl rfl rfl g50) (r_move rfl) ?_
        refine s_pu (d := some 40) (v := (.int .i64 best5)) rfl rfl (wants_yes rfl rfl rfl rfl g50) (r_move rfl) ?_
        obtain ⟨p59, e60, e61, e62, H⟩ := H
        obtain ⟨q63, e64⟩ : ∃ q : Addr, q = Addr.add p59 (Int.toNat best5 * 1) := ⟨_, rfl⟩
        rw [← e64] at H
        refine s_pu (d := some 41) (v := (.pointer (some q63))) rfl rfl (wants_yes rfl rfl rfl rfl g50) (fun w => (r_indexAddr Tryd.underlying22 Tryd.sizeOf3 rfl rfl e60 e61 e62 w).trans (by rw [e64])) ?_
        obtain ⟨x65, e66, H⟩ := H
        refine s_rd (d := some 42) (v := (.int .i64 x65)) rfl rfl (wants_yes rfl rfl rfl rfl g50) (fun dr => r_load1 Tryd.isAgg3 rfl e66) ?_
        refine s_pu (d := some 43) (v := (.bool (decide (x57 < x65)))) rfl rfl (wants_yes rfl rfl rfl rfl g50) (r_lss rfl rfl) ?_
        refine s_pu (d := some 44) (v := (.bool (decide (x57 < x65)))) rfl rfl (wants_yes rfl rfl rfl rfl rfl) (r_pick1 rfl g50 rfl) ?_
        refine s_pu (d := some 45) (v := (.bool (decide (x57 < x65)))) rfl rfl rfl (r_pick0 rfl rfl rfl) ?_
        refine s_fin ?_
        exact N_mk (l := [(0, (Sl.v l1)), (2, (.int .i64 j3)), (3, (.bool most4)), (9, (.int .i64 best5)), (10, (.int .i64 k6)), (45, (.bool (decide (x57 < x65))))]) H ⟨rfl, rfl, rfl, rfl, rfl, rfl, trivial⟩
      · have H := H.2 g50
        refine s_sk (d := some 35) rfl rfl (wants_no rfl rfl rfl rfl g50) ?_
        refine s_sk (d := some 36) rfl rfl (wants_no rfl rfl rfl rfl g50) ?_
        refine s_sk (d := some 37) rfl rfl (wants_no rfl rfl rfl rfl g50) ?_
        refine s_skd (d := some 38) rfl rfl (wants_no rfl rfl rfl rfl g50) ?_
        refine s_sk (d := some 39) rfl rfl (wants_no rfl rfl rfl rfl g50) ?_
        refine s_sk (d := some 40) rfl rfl (wants_no rfl rfl rfl rfl g50) ?_
        refine s_sk (d := some 41) rfl rfl (wants_no rfl rfl rfl rfl g50) ?_
        refine s_skd (d := some 42) rfl rfl (wants_no rfl rfl rfl rfl g50) ?_
        refine s_sk (d := some 43) rfl rfl (wants_no rfl rfl rfl rfl g50) ?_
        refine s_pu (d := some 44) (v := (.bool false)) rfl rfl (wants_yes rfl rfl rfl rfl rfl) (r_pick0 rfl g50 rfl) ?_
        refine s_pu (d := some 45) (v := (.bool false)) rfl rfl rfl (r_pick0 rfl rfl rfl) ?_
        refine s_fin ?_
        exact N_mk (l := [(0, (Sl.v l1)), (2, (.int .i64 j3)), (3, (.bool most4)), (9, (.int .i64 best5)), (10, (.int .i64 k6)), (45, (.bool false))]) H ⟨rfl, rfl, rfl, rfl, rfl, rfl, trivial⟩
  · have H := H.2 g67
    refine W_exit (inX_here ?_)
    show W _ _ _ _ _ _ _ _
    refine W_seq ?_
    refine W_region (.pu 0 (.pu 1 .fin)) rfl rfl ?_
    refine s_pu (d := some 47) (v := (.int .i64 best5)) rfl rfl rfl (r_move rfl) ?_
    refine s_pu (d := some 8) (v := (.int .i64 best5)) rfl rfl rfl (r_assign rfl) ?_
    refine s_fin ?_
    show W _ _ _ _ _ _ _ _
    refine W_ret ?_
    exact ⟨[(.int .i64 best5)], ⟨_, _, rfl, rfl, rfl⟩, best5, rfl, H⟩

/-! ### law5_TableTells -/

def law5_TableTells_F (r : World) (l1 : Sl) (i2 : Int) (j3 : Int) (h : Heap) (R : Bool → Heap → Prop) : Prop :=
  law5_tabled r h fun y4 h1 =>
  table_New r l1 h1 fun y5 y6 h2 =>
  ∀ J8 : Int → Prop, (∀ (ve7 : Int),
    (same_Error r y6 ve7 h2 fun y10 h3 =>
    ∀ J16 : Bool → Prop, (∀ (x15 : Bool),
      (Br x15 (
        R false h3) (
        Br (!decide (ve7 = 0)) (
          R true h3) (
          law5_within r ((l1.len : Int)) i2 j3 h3 fun y18 h4 =>
          ∀ J22 : Int → Int → Int → Heap → Prop, (∀ (ve19 : Int) (low20 : Int) (high21 : Int) (h5 : Heap),
            (table_Table_Least r y5 i2 j3 h5 fun y24 y25 h6 =>
            same_Error r y25 ve19 h6 fun y26 h7 =>
            table_Table_Most r y5 i2 j3 h7 fun y27 y28 h8 =>
            same_Error r y28 ve19 h8 fun y29 h9 =>
            ∀ X32 : Int → Int → Prop, (∀ (rows30 : Int) (n31 : Int),
              (Br (decide (0 < n31)) (
                X32 (w64 (rows30 + 1)) (w64 (Int.tdiv n31 2))) (
                ∀ J34 : Bool → Heap → Prop, (∀ (x33 : Bool) (h10 : Heap),
                  (R x33 h10) →
                  J34 x33 h10) →
                Br y26 (
                  Br y29 (
                    Br (decide (y24 = low20)) (
                      Br (decide (y27 = high21)) (
                        table_Table_Rows r y5 h9 fun y40 h11 =>
                        J34 (decide (y40 = rows30)) h11) (
                        J34 false h9)) (
                      J34 false h9)) (
                    J34 false h9)) (
                  J34 false h9))) →
              X32 rows30 n31) →
            X32 0 ((l1.len : Int))) →
            J22 ve19 low20 high21 h5) →
          Br (!y18) (
            J22 1 0 0 h4) (
            Br (decide (i2 = j3)) (
              J22 2 0 0 h4) (
              ref1_Spot r l1 i2 j3 false h4 fun y42 h12 =>
              ref1_Spot r l1 i2 j3 true h12 fun y43 h13 =>
              J22 ve7 y42 y43 h13))))) →
      J16 x15) →
    Br (!y4) (
      J16 true) (
      Br (!y10) (
        J16 true) (
        Br (!decide (ve7 = 0)) (
          J16 (!(Option.isNone y5))) (
          J16 false)))) →
    J8 ve7) →
  Br (decide (5000 < ((l1.len : Int)))) (
    J8 4) (
    J8 0)

set_option maxRecDepth 100000 in
theorem law5_TableTells_of {r : World} {l1 : Sl} {i2 : Int} {j3 : Int} {h : Heap} {R : Bool → Heap → Prop} (H : law5_TableTells_F r l1 i2 j3 h R) : law5_TableTells r l1 i2 j3 h R := by
  unfold law5_TableTells_F at H
  refine calls_of 113 [.tmp 6] Tryd.func4 rfl rfl rfl rfl rfl ?_
  refine W_seq ?_
  refine W_region (.pu 0 .fin) rfl rfl ?_
  refine s_pu (d := some 6) (v := (.bool false)) rfl rfl rfl (r_assign rfl) ?_
  refine s_fin ?_
  show W _ _ _ _ _ _ _ _
  refine W_seq ?_
  refine W_region (.ef 0 [] (.pu 1 .fin) .no) rfl rfl ?_
  refine s_ef (d := some 20) rfl rfl rfl (fun dr => r_call Tryd.call19 rfl rfl H) ?_ trivial
  rintro _ h1 ⟨y4, rfl, H⟩
  refine ⟨trivial, ?_⟩
  refine s_pu (d := some 7) (v := (.bool y4)) rfl rfl rfl (r_assign rfl) ?_
  refine s_fin ?_
  show W _ _ _ _ _ _ _ _
  refine W_seq ?_
  refine W_region (.pu 0 (.ef 1 [] (.pu 2 (.pu 3 (.pu 4 (.pu 5 (.pu 6 .fin))))) .no)) rfl rfl ?_
  refine s_pu (d := some 22) (v := (Sl.v l1)) rfl rfl rfl (r_move rfl) ?_
  refine s_ef (d := some 23) rfl rfl rfl (fun dr => r_call Tryd.call20 rfl rfl H) ?_ trivial
  rintro _ h2 ⟨y5, y6, rfl, H⟩
  refine ⟨trivial, ?_⟩
  refine s_pu (d := some 21) (v := (.tuple #[(.pointer y5), y6])) rfl rfl rfl (r_move rfl) ?_
  refine s_pu (d := some 24) (v := (.pointer y5)) rfl rfl rfl (r_extract rfl rfl) ?_
  refine s_pu (d := some 25) (v := y6) rfl rfl rfl (r_extract rfl rfl) ?_
  refine s_pu (d := some 8) (v := (.pointer y5)) rfl rfl rfl (r_assign rfl) ?_
  refine s_pu (d := some 9) (v := y6) rfl rfl rfl (r_assign rfl) ?_
  refine s_fin ?_
  show W _ _ _ _ _ _ _ _
  refine W_seq ?_
  refine W_region (.pu 0 .fin) rfl rfl ?_
  refine s_pu (d := some 10) (v := (.int .i64 0)) rfl rfl rfl (r_assign rfl) ?_
  refine s_fin ?_
  show W _ _ _ _ _ _ _ _
  refine W_seq ?_
  refine W_seq ?_
  refine W_region (.pu 0 (.pu 1 (.pu 2 .fin))) rfl rfl ?_
  refine s_pu (d := some 26) (v := (Sl.v l1)) rfl rfl rfl (r_move rfl) ?_
  refine s_pu (d := some 27) (v := (.int .i64 ((l1.len : Int)))) rfl rfl rfl (r_len Tryd.underlying22 rfl) ?_
  refine s_pu (d := some 28) (v := (.bool (decide (5000 < ((l1.len : Int)))))) rfl rfl rfl (r_gtr rfl rfl) ?_
  refine s_fin ?_
  show W _ _ _ _ _ _ _ _
  refine W_set ?_
  intro N9 eN9
  have H := H (fun (ve7 : Int) => ∀ b, N9 [] (mkE [(0, (Sl.v l1)), (1, (.int .i64 i2)), (2, (.int .i64 j3)), (7, (.bool y4)), (8, (.pointer y5)), (9, y6), (10, (.int .i64 ve7))] b) h2) (by
    intro ve7 H b
    rw [eN9]
    show W _ _ _ _ _ _ _ _
    refine W_seq ?_
    refine W_region (.pu 0 (.pu 1 (.ef 2 [] (.pu 3 .fin) .no))) rfl rfl ?_
    refine s_pu (d := some 29) (v := y6) rfl rfl rfl (r_move rfl) ?_
    refine s_pu (d := some 30) (v := (.int .i64 ve7)) rfl rfl rfl (r_move rfl) ?_
    refine s_ef (d := some 31) rfl rfl rfl (fun dr => r_call Tryd.call12 rfl rfl H) ?_ trivial
    rintro _ h3 ⟨y10, rfl, H⟩
    refine ⟨trivial, ?_⟩
    refine s_pu (d := some 11) (v := (.bool y10)) rfl rfl rfl (r_assign rfl) ?_
    refine s_fin ?_
    show W _ _ _ _ _ _ _ _
    refine W_seq ?_
    refine W_seq ?_
    refine W_set ?_
    intro N17 eN17
    have H := H (fun (x15 : Bool) => ∀ b, N17 [] (mkE [(0, (Sl.v l1)), (1, (.int .i64 i2)), (2, (.int .i64 j3)), (8, (.pointer y5)), (10, (.int .i64 ve7)), (45, (.bool x15))] b) h3) (by
      intro x15 H b
      rw [eN17]
      show W _ _ _ _ _ _ _ _
      refine W_if x15 rfl (fun g47 => ?_) (fun g47 => ?_)
      · have H := H.1 g47
        refine W_seq ?_
        refine W_region (.pu 0 .fin) rfl rfl ?_
        refine s_pu (d := some 6) (v := (.bool false)) rfl rfl rfl (r_assign rfl) ?_
        refine s_fin ?_
        show W _ _ _ _ _ _ _ _
        refine W_ret ?_
        exact ⟨[(.bool false)], ⟨_, _, rfl, rfl, rfl⟩, false, rfl, H⟩
      · have H := H.2 g47
        refine W_skip ?_
        show W _ _ _ _ _ _ _ _
        refine W_seq ?_
        refine W_seq ?_
        refine W_region (.pu 0 (.pu 1 .fin)) rfl rfl ?_
        refine s_pu (d := some 46) (v := (.int .i64 ve7)) rfl rfl rfl (r_move rfl) ?_
        refine s_pu (d := some 47) (v := (.bool (!decide (ve7 = 0)))) rfl rfl rfl (r_neq rfl rfl) ?_
        refine s_fin ?_
        show W _ _ _ _ _ _ _ _
        refine W_if (!decide (ve7 = 0)) rfl (fun g46 => ?_) (fun g46 => ?_)
        · have H := H.1 g46
          refine W_seq ?_
          refine W_region (.pu 0 .fin) rfl rfl ?_
          refine s_pu (d := some 6) (v := (.bool true)) rfl rfl rfl (r_assign rfl) ?_
          refine s_fin ?_
          show W _ _ _ _ _ _ _ _
          refine W_ret ?_
          exact ⟨[(.bool true)], ⟨_, _, rfl, rfl, rfl⟩, true, rfl, H⟩
        · have H := H.2 g46
          refine W_skip ?_
          show W _ _ _ _ _ _ _ _
          refine W_seq ?_
          refine W_region (.pu 0 .fin) rfl rfl ?_
          refine s_pu (d := some 12) (v := (.int .i64 0)) rfl rfl rfl (r_assign rfl) ?_
          refine s_fin ?_
          show W _ _ _ _ _ _ _ _
          refine W_seq ?_
          refine W_region (.pu 0 .fin) rfl rfl ?_
          refine s_pu (d := some 13) (v := (.int .i64 0)) rfl rfl rfl (r_assign rfl) ?_
          refine s_fin ?_
          show W _ _ _ _ _ _ _ _
          refine W_seq ?_
          refine W_seq ?_
          refine W_region (.pu 0 (.pu 1 (.pu 2 (.pu 3 (.ef 4 [] (.pu 5 .fin) .no))))) rfl rfl ?_
          refine s_pu (d := some 48) (v := (Sl.v l1)) rfl rfl rfl (r_move rfl) ?_
          refine s_pu (d := some 49) (v := (.int .i64 ((l1.len : Int)))) rfl rfl rfl (r_len Tryd.underlying22 rfl) ?_
          refine s_pu (d := some 50) (v := (.int .i64 i2)) rfl rfl rfl (r_move rfl) ?_
          refine s_pu (d := some 51) (v := (.int .i64 j3)) rfl rfl rfl (r_move rfl) ?_
          refine s_ef (d := some 52) rfl rfl rfl (fun dr => r_call Tryd.call21 rfl rfl H) ?_ trivial
          rintro _ h4 ⟨y18, rfl, H⟩
          refine ⟨trivial, ?_⟩
          refine s_pu (d := some 53) (v := (.bool (!y18))) rfl rfl rfl (r_not rfl) ?_
          refine s_fin ?_
          show W _ _ _ _ _ _ _ _
          refine W_set ?_
          intro N23 eN23
          have H := H (fun (ve19 : Int) (low20 : Int) (high21 : Int) (h5 : Heap) => ∀ b, N23 [] (mkE [(0, (Sl.v l1)), (1, (.int .i64 i2)), (2, (.int .i64 j3)), (8, (.pointer y5)), (10, (.int .i64 ve19)), (12, (.int .i64 low20)), (13, (.int .i64 high21))] b) h5) (by
            intro ve19 low20 high21 h5 H b
            rw [eN23]
            show W _ _ _ _ _ _ _ _
            refine W_seq ?_
            refine W_region (.pu 0 (.pu 1 (.pu 2 (.ef 3 [] (.pu 4 (.pu 5 (.pu 6 (.pu 7 (.pu 8 .fin))))) .no)))) rfl rfl ?_
            refine s_pu (d := some 66) (v := (.pointer y5)) rfl rfl rfl (r_move rfl) ?_
            refine s_pu (d := some 67) (v := (.int .i64 i2)) rfl rfl rfl (r_move rfl) ?_
            refine s_pu (d := some 68) (v := (.int .i64 j3)) rfl rfl rfl (r_move rfl) ?_
            refine s_ef (d := some 69) rfl rfl rfl (fun dr => r_call Tryd.call23 rfl rfl H) ?_ trivial
            rintro _ h6 ⟨y24, y25, rfl, H⟩
            refine ⟨trivial, ?_⟩
            refine s_pu (d := some 65) (v := (.tuple #[(.int .i64 y24), y25])) rfl rfl rfl (r_move rfl) ?_
            refine s_pu (d := some 70) (v := (.int .i64 y24)) rfl rfl rfl (r_extract rfl rfl) ?_
            refine s_pu (d := some 71) (v := y25) rfl rfl rfl (r_extract rfl rfl) ?_
            refine s_pu (d := some 14) (v := (.int .i64 y24)) rfl rfl rfl (r_assign rfl) ?_
            refine s_pu (d := some 9) (v := y25) rfl rfl rfl (r_assign rfl) ?_
            refine s_fin ?_
            show W _ _ _ _ _ _ _ _
            refine W_seq ?_
            refine W_region (.pu 0 (.pu 1 (.ef 2 [] (.pu 3 .fin) .no))) rfl rfl ?_
            refine s_pu (d := some 72) (v := y25) rfl rfl rfl (r_move rfl) ?_
            refine s_pu (d := some 73) (v := (.int .i64 ve19)) rfl rfl rfl (r_move rfl) ?_
            refine s_ef (d := some 74) rfl rfl rfl (fun dr => r_call Tryd.call12 rfl rfl H) ?_ trivial
            rintro _ h7 ⟨y26, rfl, H⟩
            refine ⟨trivial, ?_⟩
            refine s_pu (d := some 15) (v := (.bool y26)) rfl rfl rfl (r_assign rfl) ?_
            refine s_fin ?_
            show W _ _ _ _ _ _ _ _
            refine W_seq ?_
            refine W_region (.pu 0 (.pu 1 (.pu 2 (.ef 3 [] (.pu 4 (.pu 5 (.pu 6 (.pu 7 (.pu 8 .fin))))) .no)))) rfl rfl ?_
            refine s_pu (d := some 76) (v := (.pointer y5)) rfl rfl rfl (r_move rfl) ?_
            refine s_pu (d := some 77) (v := (.int .i64 i2)) rfl rfl rfl (r_move rfl) ?_
            refine s_pu (d := some 78) (v := (.int .i64 j3)) rfl rfl rfl (r_move rfl) ?_
            refine s_ef (d := some 79) rfl rfl rfl (fun dr => r_call Tryd.call24 rfl rfl H) ?_ trivial
            rintro _ h8 ⟨y27, y28, rfl, H⟩
            refine ⟨trivial, ?_⟩
            refine s_pu (d := some 75) (v := (.tuple #[(.int .i64 y27), y28])) rfl rfl rfl (r_move rfl) ?_
            refine s_pu (d := some 80) (v := (.int .i64 y27)) rfl rfl rfl (r_extract rfl rfl) ?_
            refine s_pu (d := some 81) (v := y28) rfl rfl rfl (r_extract rfl rfl) ?_
            refine s_pu (d := some 16) (v := (.int .i64 y27)) rfl rfl rfl (r_assign rfl) ?_
            refine s_pu (d := some 9) (v := y28) rfl rfl rfl (r_assign rfl) ?_
            refine s_fin ?_
            show W _ _ _ _ _ _ _ _
            refine W_seq ?_
            refine W_region (.pu 0 (.pu 1 (.ef 2 [] (.pu 3 .fin) .no))) rfl rfl ?_
            refine s_pu (d := some 82) (v := y28) rfl rfl rfl (r_move rfl) ?_
            refine s_pu (d := some 83) (v := (.int .i64 ve19)) rfl rfl rfl (r_move rfl) ?_
            refine s_ef (d := some 84) rfl rfl rfl (fun dr => r_call Tryd.call12 rfl rfl H) ?_ trivial
            rintro _ h9 ⟨y29, rfl, H⟩
            refine ⟨trivial, ?_⟩
            refine s_pu (d := some 17) (v := (.bool y29)) rfl rfl rfl (r_assign rfl) ?_
            refine s_fin ?_
            show W _ _ _ _ _ _ _ _
            refine W_seq ?_
            refine W_region (.pu 0 .fin) rfl rfl ?_
            refine s_pu (d := some 18) (v := (.int .i64 0)) rfl rfl rfl (r_assign rfl) ?_
            refine s_fin ?_
            show W _ _ _ _ _ _ _ _
            refine W_seq ?_
            refine W_seq ?_
            refine W_region (.pu 0 (.pu 1 (.pu 2 .fin))) rfl rfl ?_
            refine s_pu (d := some 85) (v := (Sl.v l1)) rfl rfl rfl (r_move rfl) ?_
            refine s_pu (d := some 86) (v := (.int .i64 ((l1.len : Int)))) rfl rfl rfl (r_len Tryd.underlying22 rfl) ?_
            refine s_pu (d := some 19) (v := (.int .i64 ((l1.len : Int)))) rfl rfl rfl (r_assign rfl) ?_
            refine s_fin ?_
            show W _ _ _ _ _ _ _ _
            refine W_block ?_
            refine W_loop (WL_mk (l := [(8, (.pointer y5)), (12, (.int .i64 low20)), (13, (.int .i64 high21)), (14, (.int .i64 y24)), (15, (.bool y26)), (16, (.int .i64 y27)), (17, (.bool y29)), (18, (.int .i64 0)), (19, (.int .i64 ((l1.len : Int))))]) ?_ ⟨rfl, rfl, rfl, rfl, rfl, rfl, rfl, rfl, rfl, trivial⟩)
            refine H (fun (rows30 : Int) (n31 : Int) => ∀ b, WL _ _ _ _ _ _ (mkE [(8, (.pointer y5)), (12, (.int .i64 low20)), (13, (.int .i64 high21)), (14, (.int .i64 y24)), (15, (.bool y26)), (16, (.int .i64 y27)), (17, (.bool y29)), (18, (.int .i64 rows30)), (19, (.int .i64 n31))] b) h9) ?_
            intro rows30 n31 H b
            refine WL_round ?_
            refine W_seq ?_
            refine W_seq ?_
            refine W_region (.pu 0 (.pu 1 .fin)) rfl rfl ?_
            refine s_pu (d := some 87) (v := (.int .i64 n31)) rfl rfl rfl (r_move rfl) ?_
            refine s_pu (d := some 88) (v := (.bool (decide (0 < n31)))) rfl rfl rfl (r_gtr rfl rfl) ?_
            refine s_fin ?_
            show W _ _ _ _ _ _ _ _
            refine W_if (decide (0 < n31)) rfl (fun g41 => ?_) (fun g41 => ?_)
            · have H := H.1 g41
              refine W_skip ?_
              show W _ _ _ _ _ _ _ _
              refine W_seq ?_
              refine W_block ?_
              refine W_region (.pu 0 (.pu 1 (.pu 2 .fin))) rfl rfl ?_
              refine s_pu (d := some 91) (v := (.int .i64 rows30)) rfl rfl rfl (r_move rfl) ?_
              refine s_pu (d := some 92) (v := (.int .i64 (w64 (rows30 + 1)))) rfl rfl rfl (r_add rfl rfl) ?_
              refine s_pu (d := some 18) (v := (.int .i64 (w64 (rows30 + 1)))) rfl rfl rfl (r_assign rfl) ?_
              refine s_fin ?_
              show W _ _ _ _ _ _ _ _
              refine W_region (.pu 0 (.pu 1 (.pu 2 .fin))) rfl rfl ?_
              refine s_pu (d := some 89) (v := (.int .i64 n31)) rfl rfl rfl (r_move rfl) ?_
              refine s_pu (d := some 90) (v := (.int .i64 (w64 (Int.tdiv n31 2)))) rfl rfl rfl (r_quo rfl rfl (by decide)) ?_
              refine s_pu (d := some 19) (v := (.int .i64 (w64 (Int.tdiv n31 2)))) rfl rfl rfl (r_assign rfl) ?_
              refine s_fin ?_
              exact WL_mk (l := [(8, (.pointer y5)), (12, (.int .i64 low20)), (13, (.int .i64 high21)), (14, (.int .i64 y24)), (15, (.bool y26)), (16, (.int .i64 y27)), (17, (.bool y29)), (18, (.int .i64 (w64 (rows30 + 1)))), (19, (.int .i64 (w64 (Int.tdiv n31 2))))]) H ⟨rfl, rfl, rfl, rfl, rfl, rfl, rfl, rfl, rfl, trivial⟩
            · have H := H.2 g41
              refine W_exit (inX_here ?_)
              show W _ _ _ _ _ _ _ _
              refine W_seq ?_
              refine W_set ?_
              intro N35 eN35
              have H := H (fun (x33 : Bool) (h10 : Heap) => ∀ b, N35 [] (mkE [(6, (.bool x33))] b) h10) (by
                intro x33 h10 H b
                rw [eN35]
                show W _ _ _ _ _ _ _ _
                refine W_ret ?_
                exact ⟨[(.bool x33)], ⟨_, _, rfl, rfl, rfl⟩, x33, rfl, H⟩)
              clear eN35
              refine W_region (.pu 0 (.pu 1 (.pu 2 (.pu 3 (.pu 4 (.pu 5 (.pu 6 (.pu 7 (.pu 8 (.pu 9 (.pu 10 (.pu 11 (.pu 12 (.pu 13 (.pu 14 (.pu 15 (.ef 16 [] (.pu 17 (.pu 18 (.pu 19 (.pu 20 .fin)))) .no))))))))))))))))) rfl rfl ?_
              refine s_pu (d := some 93) (v := (.bool y26)) rfl rfl rfl (r_move rfl) ?_
              refine s_pu (d := some 94) (v := (.bool y26)) rfl rfl rfl (r_move rfl) ?_
              rcases Bool.eq_false_or_eq_true y26 with g36 | g36
              · have H := H.1 g36
                refine s_pu (d := some 95) (v := (.bool y29)) rfl rfl (wants_yes rfl rfl rfl rfl g36) (r_move rfl) ?_
                refine s_pu (d := some 96) (v := (.bool y29)) rfl rfl rfl (r_pick1 rfl g36 rfl) ?_
                refine s_pu (d := some 97) (v := (.bool y29)) rfl rfl rfl (r_move rfl) ?_
                rcases Bool.eq_false_or_eq_true y29 with g37 | g37
                · have H := H.1 g37
                  refine s_pu (d := some 98) (v := (.int .i64 y24)) rfl rfl (wants_yes rfl rfl rfl rfl g37) (r_move rfl) ?_
                  refine s_pu (d := some 99) (v := (.int .i64 low20)) rfl rfl (wants_yes rfl rfl rfl rfl g37) (r_move rfl) ?_
                  refine s_pu (d := some 100) (v := (.bool (decide (y24 = low20)))) rfl rfl (wants_yes rfl rfl rfl rfl g37) (r_eql rfl rfl) ?_
                  refine s_pu (d := some 101) (v := (.bool (decide (y24 = low20)))) rfl rfl rfl (r_pick1 rfl g37 rfl) ?_
                  refine s_pu (d := some 102) (v := (.bool (decide (y24 = low20)))) rfl rfl rfl (r_move rfl) ?_
                  rcases Bool.eq_false_or_eq_true (decide (y24 = low20)) with g38 | g38
                  · have H := H.1 g38
                    refine s_pu (d := some 103) (v := (.int .i64 y27)) rfl rfl (wants_yes rfl rfl rfl rfl g38) (r_move rfl) ?_
                    refine s_pu (d := some 104) (v := (.int .i64 high21)) rfl rfl (wants_yes rfl rfl rfl rfl g38) (r_move rfl) ?_
                    refine s_pu (d := some 105) (v := (.bool (decide (y27 = high21)))) rfl rfl (wants_yes rfl rfl rfl rfl g38) (r_eql rfl rfl) ?_
                    refine s_pu (d := some 106) (v := (.bool (decide (y27 = high21)))) rfl rfl rfl (r_pick1 rfl g38 rfl) ?_
                    refine s_pu (d := some 107) (v := (.bool (decide (y27 = high21)))) rfl rfl rfl (r_move rfl) ?_
                    rcases Bool.eq_false_or_eq_true (decide (y27 = high21)) with g39 | g39
                    · have H := H.1 g39
                      refine s_pu (d := some 108) (v := (.pointer y5)) rfl rfl (wants_yes rfl rfl rfl rfl g39) (r_move rfl) ?_
                      refine s_ef (d := some 109) rfl rfl (wants_yes rfl rfl rfl rfl g39) (fun dr => r_call Tryd.call25 rfl rfl H) ?_ trivial
                      rintro _ h11 ⟨y40, rfl, H⟩
                      refine ⟨trivial, ?_⟩
                      refine s_pu (d := some 110) (v := (.int .i64 rows30)) rfl rfl (wants_yes rfl rfl rfl rfl g39) (r_move rfl) ?_
                      refine s_pu (d := some 111) (v := (.bool (decide (y40 = rows30)))) rfl rfl (wants_yes rfl rfl rfl rfl g39) (r_eql rfl rfl) ?_
                      refine s_pu (d := some 112) (v := (.bool (decide (y40 = rows30)))) rfl rfl rfl (r_pick1 rfl g39 rfl) ?_
                      refine s_pu (d := some 6) (v := (.bool (decide (y40 = rows30)))) rfl rfl rfl (r_assign rfl) ?_
                      refine s_fin ?_
                      exact N_mk (l := [(6, (.bool (decide (y40 = rows30))))]) H ⟨rfl, trivial⟩
                    · have H := H.2 g39
                      refine s_sk (d := some 108) rfl rfl (wants_no rfl rfl rfl rfl g39) ?_
                      refine s_skf (d := some 109) rfl rfl (wants_no rfl rfl rfl rfl g39) trivial ?_ trivial
                      refine s_sk (d := some 110) rfl rfl (wants_no rfl rfl rfl rfl g39) ?_
                      refine s_sk (d := some 111) rfl rfl (wants_no rfl rfl rfl rfl g39) ?_
                      refine s_pu (d := some 112) (v := (.bool false)) rfl rfl rfl (r_pick0 rfl g39 rfl) ?_
                      refine s_pu (d := some 6) (v := (.bool false)) rfl rfl rfl (r_assign rfl) ?_
                      refine s_fin ?_
                      exact N_mk (l := [(6, (.bool false))]) H ⟨rfl, trivial⟩
                  · have H := H.2 g38
                    refine s_sk (d := some 103) rfl rfl (wants_no rfl rfl rfl rfl g38) ?_
                    refine s_sk (d := some 104) rfl rfl (wants_no rfl rfl rfl rfl g38) ?_
                    refine s_sk (d := some 105) rfl rfl (wants_no rfl rfl rfl rfl g38) ?_
                    refine s_pu (d := some 106) (v := (.bool false)) rfl rfl rfl (r_pick0 rfl g38 rfl) ?_
                    refine s_pu (d := some 107) (v := (.bool false)) rfl rfl rfl (r_move rfl) ?_
                    refine s_sk (d := some 108) rfl rfl (wants_no rfl rfl rfl rfl rfl) ?_
                    refine s_skf (d := some 109) rfl rfl (wants_no rfl rfl rfl rfl rfl) trivial ?_ trivial
                    refine s_sk (d := some 110) rfl rfl (wants_no rfl rfl rfl rfl rfl) ?_
                    refine s_sk (d := some 111) rfl rfl (wants_no rfl rfl rfl rfl rfl) ?_
                    refine s_pu (d := some 112) (v := (.bool false)) rfl rfl rfl (r_pick0 rfl rfl rfl) ?_
                    refine s_pu (d := some 6) (v := (.bool false)) rfl rfl rfl (r_assign rfl) ?_
                    refine s_fin ?_
                    exact N_mk (l := [(6, (.bool false))]) H ⟨rfl, trivial⟩
                · have H := H.2 g37
                  refine s_sk (d := some 98) rfl rfl (wants_no rfl rfl rfl rfl g37) ?_
                  refine s_sk (d := some 99) rfl rfl (wants_no rfl rfl rfl rfl g37) ?_
                  refine s_sk (d := some 100) rfl rfl (wants_no rfl rfl rfl rfl g37) ?_
                  refine s_pu (d := some 101) (v := (.bool false)) rfl rfl rfl (r_pick0 rfl g37 rfl) ?_
                  refine s_pu (d := some 102) (v := (.bool false)) rfl rfl rfl (r_move rfl) ?_
                  refine s_sk (d := some 103) rfl rfl (wants_no rfl rfl rfl rfl rfl) ?_
                  refine s_sk (d := some 104) rfl rfl (wants_no rfl rfl rfl rfl rfl) ?_
                  refine s_sk (d := some 105) rfl rfl (wants_no rfl rfl rfl rfl rfl) ?_
                  refine s_pu (d := some 106) (v := (.bool false)) rfl rfl rfl (r_pick0 rfl rfl rfl) ?_
                  refine s_pu (d := some 107) (v := (.bool false)) rfl rfl rfl (r_move rfl) ?_
                  refine s_sk (d := some 108) rfl rfl (wants_no rfl rfl rfl rfl rfl) ?_
                  refine s_skf (d := some 109) rfl rfl (wants_no rfl rfl rfl rfl rfl) trivial ?_ trivial
                  refine s_sk (d := some 110) rfl rfl (wants_no rfl rfl rfl rfl rfl) ?_
                  refine s_sk (d := some 111) rfl rfl (wants_no rfl rfl rfl rfl rfl) ?_
                  refine s_pu (d := some 112) (v := (.bool false)) rfl rfl rfl (r_pick0 rfl rfl rfl) ?_
                  refine s_pu (d := some 6) (v := (.bool false)) rfl rfl rfl (r_assign rfl) ?_
                  refine s_fin ?_
                  exact N_mk (l := [(6, (.bool false))]) H ⟨rfl, trivial⟩
              · have H := H.2 g36
                refine s_sk (d := some 95) rfl rfl (wants_no rfl rfl rfl rfl g36) ?_
                refine s_pu (d := some 96) (v := (.bool false)) rfl rfl rfl (r_pick0 rfl g36 rfl) ?_
                refine s_pu (d := some 97) (v := (.bool false)) rfl rfl rfl (r_move rfl) ?_
                refine s_sk (d := some 98) rfl rfl (wants_no rfl rfl rfl rfl rfl) ?_
                refine s_sk (d := some 99) rfl rfl (wants_no rfl rfl rfl rfl rfl) ?_
                refine s_sk (d := some 100) rfl rfl (wants_no rfl rfl rfl rfl rfl) ?_
                refine s_pu (d := some 101) (v := (.bool false)) rfl rfl rfl (r_pick0 rfl rfl rfl) ?_
                refine s_pu (d := some 102) (v := (.bool false)) rfl rfl rfl (r_move rfl) ?_
                refine s_sk (d := some 103) rfl rfl (wants_no rfl rfl rfl rfl rfl) ?_
                refine s_sk (d := some 104) rfl rfl (wants_no rfl rfl rfl rfl rfl) ?_
                refine s_sk (d := some 105) rfl rfl (wants_no rfl rfl rfl rfl rfl) ?_
                refine s_pu (d := some 106) (v := (.bool false)) rfl rfl rfl (r_pick0 rfl rfl rfl) ?_
                refine s_pu (d := some 107) (v := (.bool false)) rfl rfl rfl (r_move rfl) ?_
                refine s_sk (d := some 108) rfl rfl (wants_no rfl rfl rfl rfl rfl) ?_
                refine s_skf (d := some 109) rfl rfl (wants_no rfl rfl rfl rfl rfl) trivial ?_ trivial
                refine s_sk (d := some 110) rfl rfl (wants_no rfl rfl rfl rfl rfl) ?_
                refine s_sk (d := some 111) rfl rfl (wants_no rfl rfl rfl rfl rfl) ?_
                refine s_pu (d := some 112) (v := (.bool false)) rfl rfl rfl (r_pick0 rfl rfl rfl) ?_
                refine s_pu (d := some 6) (v := (.bool false)) rfl rfl rfl (r_assign rfl) ?_
                refine s_fin ?_
                exact N_mk (l := [(6, (.bool false))]) H ⟨rfl, trivial⟩)
          clear eN23
          refine W_if (!y18) rfl (fun g45 => ?_) (fun g45 => ?_)
          · have H := H.1 g45
            refine W_region (.pu 0 .fin) rfl rfl ?_
            refine s_pu (d := some 10) (v := (.int .i64 1)) rfl rfl rfl (r_assign rfl) ?_
            refine s_fin ?_
            exact N_mk (l := [(0, (Sl.v l1)), (1, (.int .i64 i2)), (2, (.int .i64 j3)), (8, (.pointer y5)), (10, (.int .i64 1)), (12, (.int .i64 0)), (13, (.int .i64 0))]) H ⟨rfl, rfl, rfl, rfl, rfl, rfl, rfl, trivial⟩
          · have H := H.2 g45
            refine W_seq ?_
            refine W_region (.pu 0 (.pu 1 (.pu 2 .fin))) rfl rfl ?_
            refine s_pu (d := some 54) (v := (.int .i64 i2)) rfl rfl rfl (r_move rfl) ?_
            refine s_pu (d := some 55) (v := (.int .i64 j3)) rfl rfl rfl (r_move rfl) ?_
            refine s_pu (d := some 56) (v := (.bool (decide (i2 = j3)))) rfl rfl rfl (r_eql rfl rfl) ?_
            refine s_fin ?_
            show W _ _ _ _ _ _ _ _
            refine W_if (decide (i2 = j3)) rfl (fun g44 => ?_) (fun g44 => ?_)
            · have H := H.1 g44
              refine W_region (.pu 0 .fin) rfl rfl ?_
              refine s_pu (d := some 10) (v := (.int .i64 2)) rfl rfl rfl (r_assign rfl) ?_
              refine s_fin ?_
              exact N_mk (l := [(0, (Sl.v l1)), (1, (.int .i64 i2)), (2, (.int .i64 j3)), (8, (.pointer y5)), (10, (.int .i64 2)), (12, (.int .i64 0)), (13, (.int .i64 0))]) H ⟨rfl, rfl, rfl, rfl, rfl, rfl, rfl, trivial⟩
            · have H := H.2 g44
              refine W_seq ?_
              refine W_region (.pu 0 (.pu 1 (.pu 2 (.ef 3 [] (.pu 4 .fin) .no)))) rfl rfl ?_
              refine s_pu (d := some 57) (v := (Sl.v l1)) rfl rfl rfl (r_move rfl) ?_
              refine s_pu (d := some 58) (v := (.int .i64 i2)) rfl rfl rfl (r_move rfl) ?_
              refine s_pu (d := some 59) (v := (.int .i64 j3)) rfl rfl rfl (r_move rfl) ?_
              refine s_ef (d := some 60) rfl rfl rfl (fun dr => r_call Tryd.call22 rfl rfl H) ?_ trivial
              rintro _ h12 ⟨y42, rfl, H⟩
              refine ⟨trivial, ?_⟩
              refine s_pu (d := some 12) (v := (.int .i64 y42)) rfl rfl rfl (r_assign rfl) ?_
              refine s_fin ?_
              show W _ _ _ _ _ _ _ _
              refine W_region (.pu 0 (.pu 1 (.pu 2 (.ef 3 [] (.pu 4 .fin) .no)))) rfl rfl ?_
              refine s_pu (d := some 61) (v := (Sl.v l1)) rfl rfl rfl (r_move rfl) ?_
              refine s_pu (d := some 62) (v := (.int .i64 i2)) rfl rfl rfl (r_move rfl) ?_
              refine s_pu (d := some 63) (v := (.int .i64 j3)) rfl rfl rfl (r_move rfl) ?_
              refine s_ef (d := some 64) rfl rfl rfl (fun dr => r_call Tryd.call22 rfl rfl H) ?_ trivial
              rintro _ h13 ⟨y43, rfl, H⟩
              refine ⟨trivial, ?_⟩
              refine s_pu (d := some 13) (v := (.int .i64 y43)) rfl rfl rfl (r_assign rfl) ?_
              refine s_fin ?_
              exact N_mk (l := [(0, (Sl.v l1)), (1, (.int .i64 i2)), (2, (.int .i64 j3)), (8, (.pointer y5)), (10, (.int .i64 ve7)), (12, (.int .i64 y42)), (13, (.int .i64 y43))]) H ⟨rfl, rfl, rfl, rfl, rfl, rfl, rfl, trivial⟩)
    clear eN17
    refine W_region (.pu 0 (.pu 1 (.pu 2 (.pu 3 (.pu 4 (.pu 5 (.pu 6 (.pu 7 (.pu 8 (.pu 9 (.pu 10 (.pu 11 (.pu 12 (.pu 13 .fin)))))))))))))) rfl rfl ?_
    refine s_pu (d := some 32) (v := (.bool y4)) rfl rfl rfl (r_move rfl) ?_
    refine s_pu (d := some 33) (v := (.bool (!y4))) rfl rfl rfl (r_not rfl) ?_
    refine s_pu (d := some 34) (v := (.bool (!y4))) rfl rfl rfl (r_move rfl) ?_
    rcases Bool.eq_false_or_eq_true (!y4) with g52 | g52
    · have H := H.1 g52
      refine s_sk (d := some 35) rfl rfl (wants_no rfl rfl rfl rfl g52) ?_
      refine s_sk (d := some 36) rfl rfl (wants_no rfl rfl rfl rfl g52) ?_
      refine s_pu (d := some 37) (v := (.bool true)) rfl rfl rfl (r_pick1 rfl g52 rfl) ?_
      refine s_pu (d := some 38) (v := (.bool true)) rfl rfl rfl (r_move rfl) ?_
      refine s_sk (d := some 39) rfl rfl (wants_no rfl rfl rfl rfl rfl) ?_
      refine s_sk (d := some 40) rfl rfl (wants_no rfl rfl rfl rfl rfl) ?_
      refine s_sk (d := some 41) rfl rfl (wants_no rfl rfl rfl rfl rfl) ?_
      refine s_sk (d := some 42) rfl rfl (wants_un rfl rfl rfl) ?_
      refine s_sk (d := some 43) rfl rfl (wants_un rfl rfl rfl) ?_
      refine s_sk (d := some 44) rfl rfl (wants_no rfl rfl rfl rfl rfl) ?_
      refine s_pu (d := some 45) (v := (.bool true)) rfl rfl rfl (r_pick1 rfl rfl rfl) ?_
      refine s_fin ?_
      exact N_mk (l := [(0, (Sl.v l1)), (1, (.int .i64 i2)), (2, (.int .i64 j3)), (8, (.pointer y5)), (10, (.int .i64 ve7)), (45, (.bool true))]) H ⟨rfl, rfl, rfl, rfl, rfl, rfl, trivial⟩
    · have H := H.2 g52
      refine s_pu (d := some 35) (v := (.bool y10)) rfl rfl (wants_yes rfl rfl rfl rfl g52) (r_move rfl) ?_
      refine s_pu (d := some 36) (v := (.bool (!y10))) rfl rfl (wants_yes rfl rfl rfl rfl g52) (r_not rfl) ?_
      refine s_pu (d := some 37) (v := (.bool (!y10))) rfl rfl rfl (r_pick0 rfl g52 rfl) ?_
      refine s_pu (d := some 38) (v := (.bool (!y10))) rfl rfl rfl (r_move rfl) ?_
      rcases Bool.eq_false_or_eq_true (!y10) with g53 | g53
      · have H := H.1 g53
        refine s_sk (d := some 39) rfl rfl (wants_no rfl rfl rfl rfl g53) ?_
        refine s_sk (d := some 40) rfl rfl (wants_no rfl rfl rfl rfl g53) ?_
        refine s_sk (d := some 41) rfl rfl (wants_no rfl rfl rfl rfl g53) ?_
        refine s_sk (d := some 42) rfl rfl (wants_un rfl rfl rfl) ?_
        refine s_sk (d := some 43) rfl rfl (wants_un rfl rfl rfl) ?_
        refine s_sk (d := some 44) rfl rfl (wants_no rfl rfl rfl rfl g53) ?_
        refine s_pu (d := some 45) (v := (.bool true)) rfl rfl rfl (r_pick1 rfl g53 rfl) ?_
        refine s_fin ?_
        exact N_mk (l := [(0, (Sl.v l1)), (1, (.int .i64 i2)), (2, (.int .i64 j3)), (8, (.pointer y5)), (10, (.int .i64 ve7)), (45, (.bool true))]) H ⟨rfl, rfl, rfl, rfl, rfl, rfl, trivial⟩
      · have H := H.2 g53
        refine s_pu (d := some 39) (v := (.int .i64 ve7)) rfl rfl (wants_yes rfl rfl rfl rfl g53) (r_move rfl) ?_
        refine s_pu (d := some 40) (v := (.bool (!decide (ve7 = 0)))) rfl rfl (wants_yes rfl rfl rfl rfl g53) (r_neq rfl rfl) ?_
        refine s_pu (d := some 41) (v := (.bool (!decide (ve7 = 0)))) rfl rfl (wants_yes rfl rfl rfl rfl g53) (r_move rfl) ?_
        rcases Bool.eq_false_or_eq_true (!decide (ve7 = 0)) with g54 | g54
        · have H := H.1 g54
          refine s_pu (d := some 42) (v := (.pointer y5)) rfl rfl (wants_yes rfl rfl rfl rfl g54) (r_move rfl) ?_
          refine s_pu (d := some 43) (v := (.bool (!(Option.isNone y5)))) rfl rfl (wants_yes rfl rfl rfl rfl g54) (r_notNilP Tryd.underlying38 rfl rfl) ?_
          refine s_pu (d := some 44) (v := (.bool (!(Option.isNone y5)))) rfl rfl (wants_yes rfl rfl rfl rfl g53) (r_pick1 rfl g54 rfl) ?_
          refine s_pu (d := some 45) (v := (.bool (!(Option.isNone y5)))) rfl rfl rfl (r_pick0 rfl g53 rfl) ?_
          refine s_fin ?_
          exact N_mk (l := [(0, (Sl.v l1)), (1, (.int .i64 i2)), (2, (.int .i64 j3)), (8, (.pointer y5)), (10, (.int .i64 ve7)), (45, (.bool (!(Option.isNone y5))))]) H ⟨rfl, rfl, rfl, rfl, rfl, rfl, trivial⟩
        · have H := H.2 g54
          refine s_sk (d := some 42) rfl rfl (wants_no rfl rfl rfl rfl g54) ?_
          refine s_sk (d := some 43) rfl rfl (wants_no rfl rfl rfl rfl g54) ?_
          refine s_pu (d := some 44) (v := (.bool false)) rfl rfl (wants_yes rfl rfl rfl rfl g53) (r_pick0 rfl g54 rfl) ?_
          refine s_pu (d := some 45) (v := (.bool false)) rfl rfl rfl (r_pick0 rfl g53 rfl) ?_
          refine s_fin ?_
          exact N_mk (l := [(0, (Sl.v l1)), (1, (.int .i64 i2)), (2, (.int .i64 j3)), (8, (.pointer y5)), (10, (.int .i64 ve7)), (45, (.bool false))]) H ⟨rfl, rfl, rfl, rfl, rfl, rfl, trivial⟩)
  clear eN9
  refine W_if (decide (5000 < ((l1.len : Int)))) rfl (fun g55 => ?_) (fun g55 => ?_)
  · have H := H.1 g55
    refine W_region (.pu 0 .fin) rfl rfl ?_
    refine s_pu (d := some 10) (v := (.int .i64 4)) rfl rfl rfl (r_assign rfl) ?_
    refine s_fin ?_
    exact N_mk (l := [(0, (Sl.v l1)), (1, (.int .i64 i2)), (2, (.int .i64 j3)), (7, (.bool y4)), (8, (.pointer y5)), (9, y6), (10, (.int .i64 4))]) H ⟨rfl, rfl, rfl, rfl, rfl, rfl, rfl, trivial⟩
  · have H := H.2 g55
    refine W_skip ?_
    exact N_mk (l := [(0, (Sl.v l1)), (1, (.int .i64 i2)), (2, (.int .i64 j3)), (7, (.bool y4)), (8, (.pointer y5)), (9, y6), (10, (.int .i64 0))]) H ⟨rfl, rfl, rfl, rfl, rfl, rfl, rfl, trivial⟩

end Go.Proofs.YtcafckgflpmfgaaDoor
