/- Typed words of functions, and that they hold: printed by gen.py (an own tool of this claim) off the model's own form of each function. -/
import Derived.Test.YtcafckgflpmfgaaDoorProg
import Derived.Test.YtcafckgflpmfgaaDoorTwInv
import Derived.Test.YtcafckgflpmfgaaDoorTwGrow
namespace Go.Proofs.YtcafckgflpmfgaaDoor
open Go Go.RowKit Go.Tw
set_option linter.unusedVariables false

theorem slFDVOMan_22 : SlF Tryd.prog 22 3 1 8 (.int .i64 0) := ⟨Tryd.underlying22, ⟨Tryd.t3, by kernel_rfl, rfl, rfl, rfl⟩, rfl, Tryd.sizeOf3, Tryd.zeroValue3⟩
theorem mth_ord_lasts_None (args : Array Value) (w : World) : (callMethod (.iface 174 (.agg #[])) "None" args).run Tryd.prog w = .ok (.enter 180 (#[(.agg #[])] ++ args)) w := by kernel_rfl
theorem mth_ord_lasts_Join (args : Array Value) (w : World) : (callMethod (.iface 174 (.agg #[])) "Join" args).run Tryd.prog w = .ok (.enter 179 (#[(.agg #[])] ++ args)) w := by kernel_rfl
theorem mth_ord_lasts_One (args : Array Value) (w : World) : (callMethod (.iface 174 (.agg #[])) "One" args).run Tryd.prog w = .ok (.enter 181 (#[(.agg #[])] ++ args)) w := by kernel_rfl

/-! ### the calls -/

abbrev finger_node_int_ord_last_size (r : World) (t1 : Option Addr) (h : Heap) (R : Int → Heap → Prop) : Prop :=
  CallsH Tryd.prog r 148 [(.pointer t1)] h fun v h' => ∃ (y2 : Int), v = (.int .i64 y2) ∧ R y2 h'

theorem finger_node_int_ord_last_size.mono {r : World} {t1 : Option Addr} {h : Heap} {R R' : Int → Heap → Prop} (H : finger_node_int_ord_last_size r t1 h R) (hr : ∀ y2 h, R y2 h → R' y2 h) : finger_node_int_ord_last_size r t1 h R' :=
  CallsH.mono H fun _ _ hx => by
    obtain ⟨y2, hv, hR⟩ := hx
    exact ⟨y2, hv, hr _ _ hR⟩

abbrev finger_node_int_ord_last_weight (r : World) (t1 : Option Addr) (h : Heap) (R : Int → Heap → Prop) : Prop :=
  CallsH Tryd.prog r 152 [(.pointer t1)] h fun v h' => ∃ (y2 : Int), v = (.int .i64 y2) ∧ R y2 h'

theorem finger_node_int_ord_last_weight.mono {r : World} {t1 : Option Addr} {h : Heap} {R R' : Int → Heap → Prop} (H : finger_node_int_ord_last_weight r t1 h R) (hr : ∀ y2 h, R y2 h → R' y2 h) : finger_node_int_ord_last_weight r t1 h R' :=
  CallsH.mono H fun _ _ hx => by
    obtain ⟨y2, hv, hR⟩ := hx
    exact ⟨y2, hv, hr _ _ hR⟩

abbrev finger_heavy_int_ord_last (r : World) (a1 : Option Addr) (vb2 : Option Addr) (h : Heap) (R : Bool → Heap → Prop) : Prop :=
  CallsH Tryd.prog r 149 [(.pointer a1), (.pointer vb2)] h fun v h' => ∃ (y3 : Bool), v = (.bool y3) ∧ R y3 h'

theorem finger_heavy_int_ord_last.mono {r : World} {a1 : Option Addr} {vb2 : Option Addr} {h : Heap} {R R' : Bool → Heap → Prop} (H : finger_heavy_int_ord_last r a1 vb2 h R) (hr : ∀ y3 h, R y3 h → R' y3 h) : finger_heavy_int_ord_last r a1 vb2 h R' :=
  CallsH.mono H fun _ _ hx => by
    obtain ⟨y3, hv, hR⟩ := hx
    exact ⟨y3, hv, hr _ _ hR⟩

abbrev ord_lasts_None (r : World)  (h : Heap) (R : Bool → Int → Heap → Prop) : Prop :=
  CallsH Tryd.prog r 180 [(.agg #[])] h fun v h' => ∃ (y1 : Bool) (y2 : Int), v = (.agg #[(.bool y1), (.int .i64 y2)]) ∧ R y1 y2 h'

theorem ord_lasts_None.mono {r : World}  {h : Heap} {R R' : Bool → Int → Heap → Prop} (H : ord_lasts_None r  h R) (hr : ∀ y1 y2 h, R y1 y2 h → R' y1 y2 h) : ord_lasts_None r  h R' :=
  CallsH.mono H fun _ _ hx => by
    obtain ⟨y1, y2, hv, hR⟩ := hx
    exact ⟨y1, y2, hv, hr _ _ _ hR⟩

abbrev ord_lasts_One (r : World) (x1 : Int) (h : Heap) (R : Bool → Int → Heap → Prop) : Prop :=
  CallsH Tryd.prog r 181 [(.agg #[]), (.int .i64 x1)] h fun v h' => ∃ (y2 : Bool) (y3 : Int), v = (.agg #[(.bool y2), (.int .i64 y3)]) ∧ R y2 y3 h'

theorem ord_lasts_One.mono {r : World} {x1 : Int} {h : Heap} {R R' : Bool → Int → Heap → Prop} (H : ord_lasts_One r x1 h R) (hr : ∀ y2 y3 h, R y2 y3 h → R' y2 y3 h) : ord_lasts_One r x1 h R' :=
  CallsH.mono H fun _ _ hx => by
    obtain ⟨y2, y3, hv, hR⟩ := hx
    exact ⟨y2, y3, hv, hr _ _ _ hR⟩

abbrev ord_lasts_Join (r : World) (a1 : Bool) (a2 : Int) (vb3 : Bool) (vb4 : Int) (h : Heap) (R : Bool → Int → Heap → Prop) : Prop :=
  CallsH Tryd.prog r 179 [(.agg #[]), (.agg #[(.bool a1), (.int .i64 a2)]), (.agg #[(.bool vb3), (.int .i64 vb4)])] h fun v h' => ∃ (y5 : Bool) (y6 : Int), v = (.agg #[(.bool y5), (.int .i64 y6)]) ∧ R y5 y6 h'

theorem ord_lasts_Join.mono {r : World} {a1 : Bool} {a2 : Int} {vb3 : Bool} {vb4 : Int} {h : Heap} {R R' : Bool → Int → Heap → Prop} (H : ord_lasts_Join r a1 a2 vb3 vb4 h R) (hr : ∀ y5 y6 h, R y5 y6 h → R' y5 y6 h) : ord_lasts_Join r a1 a2 vb3 vb4 h R' :=
  CallsH.mono H fun _ _ hx => by
    obtain ⟨y5, y6, hv, hR⟩ := hx
    exact ⟨y5, y6, hv, hr _ _ _ hR⟩

abbrev finger_total_int_ord_last_ord_lasts (r : World) (t1 : Option Addr) (h : Heap) (R : Bool → Int → Heap → Prop) : Prop :=
  CallsH Tryd.prog r 147 [(.pointer t1)] h fun v h' => ∃ (y2 : Bool) (y3 : Int), v = (.agg #[(.bool y2), (.int .i64 y3)]) ∧ R y2 y3 h'

theorem finger_total_int_ord_last_ord_lasts.mono {r : World} {t1 : Option Addr} {h : Heap} {R R' : Bool → Int → Heap → Prop} (H : finger_total_int_ord_last_ord_lasts r t1 h R) (hr : ∀ y2 y3 h, R y2 y3 h → R' y2 y3 h) : finger_total_int_ord_last_ord_lasts r t1 h R' :=
  CallsH.mono H fun _ _ hx => by
    obtain ⟨y2, y3, hv, hR⟩ := hx
    exact ⟨y2, y3, hv, hr _ _ _ hR⟩

abbrev finger_made_int_ord_last_ord_lasts (r : World) (l1 : Option Addr) (v2 : Int) (vr3 : Option Addr) (h : Heap) (R : Option Addr → Heap → Prop) : Prop :=
  CallsH Tryd.prog r 151 [(.pointer l1), (.int .i64 v2), (.pointer vr3)] h fun v h' => ∃ (y4 : Option Addr), v = (.pointer y4) ∧ R y4 h'

theorem finger_made_int_ord_last_ord_lasts.mono {r : World} {l1 : Option Addr} {v2 : Int} {vr3 : Option Addr} {h : Heap} {R R' : Option Addr → Heap → Prop} (H : finger_made_int_ord_last_ord_lasts r l1 v2 vr3 h R) (hr : ∀ y4 h, R y4 h → R' y4 h) : finger_made_int_ord_last_ord_lasts r l1 v2 vr3 h R' :=
  CallsH.mono H fun _ _ hx => by
    obtain ⟨y4, hv, hR⟩ := hx
    exact ⟨y4, hv, hr _ _ hR⟩

abbrev finger_even_int_ord_last_ord_lasts (r : World) (l1 : Option Addr) (v2 : Int) (vr3 : Option Addr) (h : Heap) (R : Option Addr → Heap → Prop) : Prop :=
  CallsH Tryd.prog r 150 [(.pointer l1), (.int .i64 v2), (.pointer vr3)] h fun v h' => ∃ (y4 : Option Addr), v = (.pointer y4) ∧ R y4 h'

theorem finger_even_int_ord_last_ord_lasts.mono {r : World} {l1 : Option Addr} {v2 : Int} {vr3 : Option Addr} {h : Heap} {R R' : Option Addr → Heap → Prop} (H : finger_even_int_ord_last_ord_lasts r l1 v2 vr3 h R) (hr : ∀ y4 h, R y4 h → R' y4 h) : finger_even_int_ord_last_ord_lasts r l1 v2 vr3 h R' :=
  CallsH.mono H fun _ _ hx => by
    obtain ⟨y4, hv, hR⟩ := hx
    exact ⟨y4, hv, hr _ _ hR⟩

abbrev finger_link_int_ord_last_ord_lasts (r : World) (l1 : Option Addr) (v2 : Int) (vr3 : Option Addr) (h : Heap) (R : Option Addr → Heap → Prop) : Prop :=
  CallsH Tryd.prog r 142 [(.pointer l1), (.int .i64 v2), (.pointer vr3)] h fun v h' => ∃ (y4 : Option Addr), v = (.pointer y4) ∧ R y4 h'

theorem finger_link_int_ord_last_ord_lasts.mono {r : World} {l1 : Option Addr} {v2 : Int} {vr3 : Option Addr} {h : Heap} {R R' : Option Addr → Heap → Prop} (H : finger_link_int_ord_last_ord_lasts r l1 v2 vr3 h R) (hr : ∀ y4 h, R y4 h → R' y4 h) : finger_link_int_ord_last_ord_lasts r l1 v2 vr3 h R' :=
  CallsH.mono H fun _ _ hx => by
    obtain ⟨y4, hv, hR⟩ := hx
    exact ⟨y4, hv, hr _ _ hR⟩

abbrev finger_split_int_ord_last_ord_lasts (r : World) (t1 : Option Addr) (i2 : Int) (h : Heap) (R : Option Addr → Option Addr → Heap → Prop) : Prop :=
  CallsH Tryd.prog r 140 [(.pointer t1), (.int .i64 i2)] h fun v h' => ∃ (y3 : Option Addr) (y4 : Option Addr), v = (.tuple #[(.pointer y3), (.pointer y4)]) ∧ R y3 y4 h'

theorem finger_split_int_ord_last_ord_lasts.mono {r : World} {t1 : Option Addr} {i2 : Int} {h : Heap} {R R' : Option Addr → Option Addr → Heap → Prop} (H : finger_split_int_ord_last_ord_lasts r t1 i2 h R) (hr : ∀ y3 y4 h, R y3 y4 h → R' y3 y4 h) : finger_split_int_ord_last_ord_lasts r t1 i2 h R' :=
  CallsH.mono H fun _ _ hx => by
    obtain ⟨y3, y4, hv, hR⟩ := hx
    exact ⟨y3, y4, hv, hr _ _ _ hR⟩

abbrev finger_Many_int_ord_last_ord_lasts_Split (r : World) (t1 : Option Addr) (i2 : Int) (h : Heap) (R : Option Addr → Option Addr → Heap → Prop) : Prop :=
  CallsH Tryd.prog r 126 [(.agg #[(.pointer t1)]), (.int .i64 i2)] h fun v h' => ∃ (y3 : Option Addr) (y4 : Option Addr), v = (.tuple #[(.agg #[(.pointer y3)]), (.agg #[(.pointer y4)])]) ∧ R y3 y4 h'

theorem finger_Many_int_ord_last_ord_lasts_Split.mono {r : World} {t1 : Option Addr} {i2 : Int} {h : Heap} {R R' : Option Addr → Option Addr → Heap → Prop} (H : finger_Many_int_ord_last_ord_lasts_Split r t1 i2 h R) (hr : ∀ y3 y4 h, R y3 y4 h → R' y3 y4 h) : finger_Many_int_ord_last_ord_lasts_Split r t1 i2 h R' :=
  CallsH.mono H fun _ _ hx => by
    obtain ⟨y3, y4, hv, hR⟩ := hx
    exact ⟨y3, y4, hv, hr _ _ _ hR⟩

abbrev finger_Many_int_ord_last_ord_lasts_Insert (r : World) (t1 : Option Addr) (i2 : Int) (v3 : Int) (h : Heap) (R : Option Addr → Heap → Prop) : Prop :=
  CallsH Tryd.prog r 128 [(.agg #[(.pointer t1)]), (.int .i64 i2), (.int .i64 v3)] h fun v h' => ∃ (y4 : Option Addr), v = (.agg #[(.pointer y4)]) ∧ R y4 h'

theorem finger_Many_int_ord_last_ord_lasts_Insert.mono {r : World} {t1 : Option Addr} {i2 : Int} {v3 : Int} {h : Heap} {R R' : Option Addr → Heap → Prop} (H : finger_Many_int_ord_last_ord_lasts_Insert r t1 i2 v3 h R) (hr : ∀ y4 h, R y4 h → R' y4 h) : finger_Many_int_ord_last_ord_lasts_Insert r t1 i2 v3 h R' :=
  CallsH.mono H fun _ _ hx => by
    obtain ⟨y4, hv, hR⟩ := hx
    exact ⟨y4, hv, hr _ _ hR⟩

abbrev finger_Many_int_ord_last_ord_lasts_Find (r : World) (t1 : Option Addr) (p2 : Value) (h : Heap) (R : Int → Heap → Prop) : Prop :=
  CallsH Tryd.prog r 137 [(.agg #[(.pointer t1)]), p2] h fun v h' => ∃ (y3 : Int), v = (.int .i64 y3) ∧ R y3 h'

theorem finger_Many_int_ord_last_ord_lasts_Find.mono {r : World} {t1 : Option Addr} {p2 : Value} {h : Heap} {R R' : Int → Heap → Prop} (H : finger_Many_int_ord_last_ord_lasts_Find r t1 p2 h R) (hr : ∀ y3 h, R y3 h → R' y3 h) : finger_Many_int_ord_last_ord_lasts_Find r t1 p2 h R' :=
  CallsH.mono H fun _ _ hx => by
    obtain ⟨y3, hv, hR⟩ := hx
    exact ⟨y3, hv, hr _ _ hR⟩

abbrev finger_Many_int_ord_last_ord_lasts_All (r : World) (t1 : Option Addr) (h : Heap) (R : Sl → Heap → Prop) : Prop :=
  CallsH Tryd.prog r 127 [(.agg #[(.pointer t1)])] h fun v h' => ∃ (y2 : Sl), v = (Sl.v y2) ∧ R y2 h'

theorem finger_Many_int_ord_last_ord_lasts_All.mono {r : World} {t1 : Option Addr} {h : Heap} {R R' : Sl → Heap → Prop} (H : finger_Many_int_ord_last_ord_lasts_All r t1 h R) (hr : ∀ y2 h, R y2 h → R' y2 h) : finger_Many_int_ord_last_ord_lasts_All r t1 h R' :=
  CallsH.mono H fun _ _ hx => by
    obtain ⟨y2, hv, hR⟩ := hx
    exact ⟨y2, hv, hr _ _ hR⟩

abbrev finger_Many_int_ord_last_ord_lasts_All_1 (r : World) (n1 : Option Addr) (c2 : Addr) (c3 : Addr) (h : Heap) (R : Heap → Prop) : Prop :=
  CallsH Tryd.prog r 141 [(.pointer n1), (.pointer (some c2)), (.pointer (some c3))] h fun v h' => v = (.tuple #[]) ∧ R  h'

theorem finger_Many_int_ord_last_ord_lasts_All_1.mono {r : World} {n1 : Option Addr} {c2 : Addr} {c3 : Addr} {h : Heap} {R R' : Heap → Prop} (H : finger_Many_int_ord_last_ord_lasts_All_1 r n1 c2 c3 h R) (hr : ∀  h, R  h → R'  h) : finger_Many_int_ord_last_ord_lasts_All_1 r n1 c2 c3 h R' :=
  CallsH.mono H fun _ _ hx => by
    obtain ⟨hv, hR⟩ := hx
    exact ⟨hv, hr _ hR⟩

/-! ### finger_node_int_ord_last_size -/

def finger_node_int_ord_last_size_F (r : World) (t1 : Option Addr) (h : Heap) (R : Int → Heap → Prop) : Prop :=
  Br (Option.isNone t1) (
    R 0 h) (
    Ck t1 fun p2 =>
    LdI h (Addr.add p2 1) fun x4 =>
    R x4 h)

set_option maxRecDepth 100000 in
theorem finger_node_int_ord_last_size_of {r : World} {t1 : Option Addr} {h : Heap} {R : Int → Heap → Prop} (H : finger_node_int_ord_last_size_F r t1 h R) : finger_node_int_ord_last_size r t1 h R := by
  unfold finger_node_int_ord_last_size_F at H
  refine calls_of 9 [.tmp 2] Tryd.func148 rfl rfl rfl rfl rfl ?_
  refine W_seq ?_
  refine W_region (.pu 0 .fin) rfl rfl ?_
  refine s_pu (d := some 2) (v := (.int .i64 0)) rfl rfl rfl (r_assign rfl) ?_
  refine s_fin ?_
  show W _ _ _ _ _ _ _ _
  refine W_seq ?_
  refine W_seq ?_
  refine W_region (.pu 0 (.pu 1 .fin)) rfl rfl ?_
  refine s_pu (d := some 3) (v := (.pointer t1)) rfl rfl rfl (r_move rfl) ?_
  refine s_pu (d := some 4) (v := (.bool (Option.isNone t1))) rfl rfl rfl (r_nilP Tryd.underlying134 rfl rfl) ?_
  refine s_fin ?_
  show W _ _ _ _ _ _ _ _
  refine W_if (Option.isNone t1) rfl (fun g6 => ?_) (fun g6 => ?_)
  · have H := H.1 g6
    refine W_seq ?_
    refine W_region (.pu 0 .fin) rfl rfl ?_
    refine s_pu (d := some 2) (v := (.int .i64 0)) rfl rfl rfl (r_assign rfl) ?_
    refine s_fin ?_
    show W _ _ _ _ _ _ _ _
    refine W_ret ?_
    exact ⟨[(.int .i64 0)], ⟨_, _, rfl, rfl, rfl⟩, 0, rfl, H⟩
  · have H := H.2 g6
    refine W_skip ?_
    show W _ _ _ _ _ _ _ _
    refine W_seq ?_
    refine W_region (.pu 0 (.pu 1 (.pu 2 (.rl 3 (.pu 4 .fin))))) rfl rfl ?_
    refine s_pu (d := some 5) (v := (.pointer t1)) rfl rfl rfl (r_move rfl) ?_
    obtain ⟨p2, e3, H⟩ := H
    refine s_pu (d := some 6) (v := (.pointer (some p2))) rfl rfl rfl (r_nilCheck rfl e3) ?_
    refine s_pu (d := some 7) (v := (.pointer (some (Addr.add p2 1)))) rfl rfl rfl (r_fieldAddr Tryd.underlying197 Tryd.sizeOf3 rfl rfl rfl) ?_
    obtain ⟨x4, e5, H⟩ := H
    refine s_rl (d := some 8) (v := (.int .i64 x4)) rfl rfl rfl (fun dr => r_load1 Tryd.isAgg3 rfl e5) ?_
    refine s_pu (d := some 2) (v := (.int .i64 x4)) rfl rfl rfl (r_assign rfl) ?_
    refine s_fin ?_
    show W _ _ _ _ _ _ _ _
    refine W_ret ?_
    exact ⟨[(.int .i64 x4)], ⟨_, _, rfl, rfl, rfl⟩, x4, rfl, H⟩

/-! ### finger_node_int_ord_last_weight -/

def finger_node_int_ord_last_weight_F (r : World) (t1 : Option Addr) (h : Heap) (R : Int → Heap → Prop) : Prop :=
  finger_node_int_ord_last_size r t1 h fun y2 h1 =>
  R (w64 (y2 + 1)) h1

set_option maxRecDepth 100000 in
theorem finger_node_int_ord_last_weight_of {r : World} {t1 : Option Addr} {h : Heap} {R : Int → Heap → Prop} (H : finger_node_int_ord_last_weight_F r t1 h R) : finger_node_int_ord_last_weight r t1 h R := by
  unfold finger_node_int_ord_last_weight_F at H
  refine calls_of 6 [.tmp 2] Tryd.func152 rfl rfl rfl rfl rfl ?_
  refine W_seq ?_
  refine W_region (.pu 0 .fin) rfl rfl ?_
  refine s_pu (d := some 2) (v := (.int .i64 0)) rfl rfl rfl (r_assign rfl) ?_
  refine s_fin ?_
  show W _ _ _ _ _ _ _ _
  refine W_seq ?_
  refine W_region (.pu 0 (.ef 1 [] (.pu 2 (.pu 3 .fin)) .no)) rfl rfl ?_
  refine s_pu (d := some 3) (v := (.pointer t1)) rfl rfl rfl (r_move rfl) ?_
  refine s_ef (d := some 4) rfl rfl rfl (fun dr => r_call Tryd.call148 rfl rfl H) ?_ trivial
  rintro _ h1 ⟨y2, rfl, H⟩
  refine ⟨trivial, ?_⟩
  refine s_pu (d := some 5) (v := (.int .i64 (w64 (y2 + 1)))) rfl rfl rfl (r_add rfl rfl) ?_
  refine s_pu (d := some 2) (v := (.int .i64 (w64 (y2 + 1)))) rfl rfl rfl (r_assign rfl) ?_
  refine s_fin ?_
  show W _ _ _ _ _ _ _ _
  refine W_ret ?_
  exact ⟨[(.int .i64 (w64 (y2 + 1)))], ⟨_, _, rfl, rfl, rfl⟩, (w64 (y2 + 1)), rfl, H⟩

/-! ### finger_heavy_int_ord_last -/

def finger_heavy_int_ord_last_F (r : World) (a1 : Option Addr) (vb2 : Option Addr) (h : Heap) (R : Bool → Heap → Prop) : Prop :=
  finger_node_int_ord_last_weight r a1 h fun y3 h1 =>
  finger_node_int_ord_last_weight r vb2 h1 fun y4 h2 =>
  R (decide ((w64 (3 * y4)) < y3)) h2

set_option maxRecDepth 100000 in
theorem finger_heavy_int_ord_last_of {r : World} {a1 : Option Addr} {vb2 : Option Addr} {h : Heap} {R : Bool → Heap → Prop} (H : finger_heavy_int_ord_last_F r a1 vb2 h R) : finger_heavy_int_ord_last r a1 vb2 h R := by
  unfold finger_heavy_int_ord_last_F at H
  refine calls_of 11 [.tmp 4] Tryd.func149 rfl rfl rfl rfl rfl ?_
  refine W_seq ?_
  refine W_region (.pu 0 .fin) rfl rfl ?_
  refine s_pu (d := some 4) (v := (.bool false)) rfl rfl rfl (r_assign rfl) ?_
  refine s_fin ?_
  show W _ _ _ _ _ _ _ _
  refine W_seq ?_
  refine W_region (.pu 0 (.ef 1 [] (.pu 2 (.ef 3 [] (.pu 4 (.pu 5 (.pu 6 .fin))) .no)) .no)) rfl rfl ?_
  refine s_pu (d := some 5) (v := (.pointer a1)) rfl rfl rfl (r_move rfl) ?_
  refine s_ef (d := some 6) rfl rfl rfl (fun dr => r_call Tryd.call152 rfl rfl H) ?_ trivial
  rintro _ h1 ⟨y3, rfl, H⟩
  refine ⟨trivial, ?_⟩
  refine s_pu (d := some 7) (v := (.pointer vb2)) rfl rfl rfl (r_move rfl) ?_
  refine s_ef (d := some 8) rfl rfl rfl (fun dr => r_call Tryd.call152 rfl rfl H) ?_ trivial
  rintro _ h2 ⟨y4, rfl, H⟩
  refine ⟨trivial, ?_⟩
  refine s_pu (d := some 9) (v := (.int .i64 (w64 (3 * y4)))) rfl rfl rfl (r_mul rfl rfl) ?_
  refine s_pu (d := some 10) (v := (.bool (decide ((w64 (3 * y4)) < y3)))) rfl rfl rfl (r_gtr rfl rfl) ?_
  refine s_pu (d := some 4) (v := (.bool (decide ((w64 (3 * y4)) < y3)))) rfl rfl rfl (r_assign rfl) ?_
  refine s_fin ?_
  show W _ _ _ _ _ _ _ _
  refine W_ret ?_
  exact ⟨[(.bool (decide ((w64 (3 * y4)) < y3)))], ⟨_, _, rfl, rfl, rfl⟩, (decide ((w64 (3 * y4)) < y3)), rfl, H⟩

/-! ### ord_lasts_None -/

def ord_lasts_None_F (r : World)  (h : Heap) (R : Bool → Int → Heap → Prop) : Prop :=
  New h (.cells #[] 174) fun p1 h1 =>
  New h1 (.cells #[(.bool false), (.int .i64 0)] 173) fun p4 h2 =>
  St h2 p4 2 [(.bool false), (.int .i64 0)] fun h3 =>
  LdB h3 (Addr.add p4 0) fun x9 =>
  LdI h3 (Addr.add p4 1) fun x11 =>
  R x9 x11 h3

set_option maxRecDepth 100000 in
theorem ord_lasts_None_of {r : World}  {h : Heap} {R : Bool → Int → Heap → Prop} (H : ord_lasts_None_F r  h R) : ord_lasts_None r  h R := by
  unfold ord_lasts_None_F at H
  refine calls_of 4 [.cell 2 173] Tryd.func180 rfl rfl rfl rfl rfl ?_
  refine W_seq ?_
  refine W_region (.ef 0 [] (.ef 1 [] .fin .no) .no) rfl rfl ?_
  obtain ⟨p1, e2⟩ : ∃ p : Addr, p = ⟨h.size, 0, none⟩ := ⟨_, rfl⟩
  obtain ⟨h1, e3⟩ : ∃ hh : Heap, hh = h.push (.cells #[] 174) := ⟨_, rfl⟩
  have H := H p1 h1 e2 e3
  refine s_ef1 (d := some 1) (v := (.pointer (some p1))) (h' := h1) rfl rfl rfl (fun dr => (r_box (v := (.agg #[])) rfl).trans (by rw [e2, e3]; rfl)) trivial ?_ trivial
  obtain ⟨p4, e5⟩ : ∃ p : Addr, p = ⟨h1.size, 0, none⟩ := ⟨_, rfl⟩
  obtain ⟨h2, e6⟩ : ∃ hh : Heap, hh = h1.push (.cells #[(.bool false), (.int .i64 0)] 173) := ⟨_, rfl⟩
  have H := H p4 h2 e5 e6
  refine s_ef1 (d := some 2) (v := (.pointer (some p4))) (h' := h2) rfl rfl rfl (fun dr => (r_alloc Tryd.zeroValue173).trans (by rw [e5, e6]; rfl)) trivial ?_ trivial
  refine s_fin ?_
  show W _ _ _ _ _ _ _ _
  refine W_seq ?_
  refine W_region (.pu 0 (.ef 1 [] .fin .no)) rfl rfl ?_
  refine s_pu (d := some 3) (v := (.agg #[(.bool false), (.int .i64 0)])) rfl rfl rfl (fun w => by kernel_rfl) ?_
  obtain ⟨e8, H⟩ := H
  obtain ⟨h3, e7⟩ : ∃ hh : Heap, hh = hsets h2 p4 0 [(.bool false), (.int .i64 0)] := ⟨_, rfl⟩
  have H := H h3 e7
  refine s_st (d := none) (h' := h3) rfl rfl rfl (fun dr => (r_store (v := (.agg #[(.bool false), (.int .i64 0)])) Tryd.sizeOf173 rfl rfl rfl (one_all rfl) e8).trans (by rw [e7]; rfl)) trivial ?_ trivial
  refine s_fin ?_
  show W _ _ _ _ _ _ _ _
  refine W_ret ?_
  obtain ⟨x9, e10, H⟩ := H
  obtain ⟨x11, e12, H⟩ := H
  exact ⟨[(.agg #[(.bool x9), (.int .i64 x11)])], ⟨_, _, _, rfl, rfl, fun dr => run_loadVarN Tryd.isAgg173 Tryd.sizeOf173 (vs := [(.bool x9), (.int .i64 x11)]) rfl ⟨e10, e12, trivial⟩, rfl⟩, x9, x11, rfl, H⟩

/-! ### ord_lasts_One -/

def ord_lasts_One_F (r : World) (x1 : Int) (h : Heap) (R : Bool → Int → Heap → Prop) : Prop :=
  New h (.cells #[] 174) fun p2 h1 =>
  New h1 (.cells #[(.bool false), (.int .i64 0)] 173) fun p5 h2 =>
  St h2 p5 2 [(.bool true), (.int .i64 x1)] fun h3 =>
  LdB h3 (Addr.add p5 0) fun x10 =>
  LdI h3 (Addr.add p5 1) fun x12 =>
  R x10 x12 h3

set_option maxRecDepth 100000 in
theorem ord_lasts_One_of {r : World} {x1 : Int} {h : Heap} {R : Bool → Int → Heap → Prop} (H : ord_lasts_One_F r x1 h R) : ord_lasts_One r x1 h R := by
  unfold ord_lasts_One_F at H
  refine calls_of 7 [.cell 4 173] Tryd.func181 rfl rfl rfl rfl rfl ?_
  refine W_seq ?_
  refine W_region (.ef 0 [] (.ef 1 [] .fin .no) .no) rfl rfl ?_
  obtain ⟨p2, e3⟩ : ∃ p : Addr, p = ⟨h.size, 0, none⟩ := ⟨_, rfl⟩
  obtain ⟨h1, e4⟩ : ∃ hh : Heap, hh = h.push (.cells #[] 174) := ⟨_, rfl⟩
  have H := H p2 h1 e3 e4
  refine s_ef1 (d := some 2) (v := (.pointer (some p2))) (h' := h1) rfl rfl rfl (fun dr => (r_box (v := (.agg #[])) rfl).trans (by rw [e3, e4]; rfl)) trivial ?_ trivial
  obtain ⟨p5, e6⟩ : ∃ p : Addr, p = ⟨h1.size, 0, none⟩ := ⟨_, rfl⟩
  obtain ⟨h2, e7⟩ : ∃ hh : Heap, hh = h1.push (.cells #[(.bool false), (.int .i64 0)] 173) := ⟨_, rfl⟩
  have H := H p5 h2 e6 e7
  refine s_ef1 (d := some 4) (v := (.pointer (some p5))) (h' := h2) rfl rfl rfl (fun dr => (r_alloc Tryd.zeroValue173).trans (by rw [e6, e7]; rfl)) trivial ?_ trivial
  refine s_fin ?_
  show W _ _ _ _ _ _ _ _
  refine W_seq ?_
  refine W_region (.pu 0 (.pu 1 (.ef 2 [] .fin .no))) rfl rfl ?_
  refine s_pu (d := some 5) (v := (.int .i64 x1)) rfl rfl rfl (r_move rfl) ?_
  refine s_pu (d := some 6) (v := (.agg #[(.bool true), (.int .i64 x1)])) rfl rfl rfl (fun w => by kernel_rfl) ?_
  obtain ⟨e9, H⟩ := H
  obtain ⟨h3, e8⟩ : ∃ hh : Heap, hh = hsets h2 p5 0 [(.bool true), (.int .i64 x1)] := ⟨_, rfl⟩
  have H := H h3 e8
  refine s_st (d := none) (h' := h3) rfl rfl rfl (fun dr => (r_store (v := (.agg #[(.bool true), (.int .i64 x1)])) Tryd.sizeOf173 rfl rfl rfl (one_all rfl) e9).trans (by rw [e8]; rfl)) trivial ?_ trivial
  refine s_fin ?_
  show W _ _ _ _ _ _ _ _
  refine W_ret ?_
  obtain ⟨x10, e11, H⟩ := H
  obtain ⟨x12, e13, H⟩ := H
  exact ⟨[(.agg #[(.bool x10), (.int .i64 x12)])], ⟨_, _, _, rfl, rfl, fun dr => run_loadVarN Tryd.isAgg173 Tryd.sizeOf173 (vs := [(.bool x10), (.int .i64 x12)]) rfl ⟨e11, e13, trivial⟩, rfl⟩, x10, x12, rfl, H⟩

/-! ### ord_lasts_Join -/

def ord_lasts_Join_F (r : World) (a1 : Bool) (a2 : Int) (vb3 : Bool) (vb4 : Int) (h : Heap) (R : Bool → Int → Heap → Prop) : Prop :=
  New h (.cells #[] 174) fun p5 h1 =>
  New h1 (.cells #[(.bool a1), (.int .i64 a2)] 173) fun p8 h2 =>
  New h2 (.cells #[(.bool vb3), (.int .i64 vb4)] 173) fun p11 h3 =>
  New h3 (.cells #[(.bool false), (.int .i64 0)] 173) fun p14 h4 =>
  LdB h4 (Addr.add p11 0) fun x17 =>
  Br x17 (
    LdB h4 (Addr.add p11 0) fun x19 =>
    LdI h4 (Addr.add p11 1) fun x21 =>
    St h4 p14 2 [(.bool x19), (.int .i64 x21)] fun h5 =>
    LdB h5 (Addr.add p14 0) fun x25 =>
    LdI h5 (Addr.add p14 1) fun x27 =>
    R x25 x27 h5) (
    LdB h4 (Addr.add p8 0) fun x29 =>
    LdI h4 (Addr.add p8 1) fun x31 =>
    St h4 p14 2 [(.bool x29), (.int .i64 x31)] fun h6 =>
    LdB h6 (Addr.add p14 0) fun x35 =>
    LdI h6 (Addr.add p14 1) fun x37 =>
    R x35 x37 h6)

set_option maxRecDepth 100000 in
theorem ord_lasts_Join_of {r : World} {a1 : Bool} {a2 : Int} {vb3 : Bool} {vb4 : Int} {h : Heap} {R : Bool → Int → Heap → Prop} (H : ord_lasts_Join_F r a1 a2 vb3 vb4 h R) : ord_lasts_Join r a1 a2 vb3 vb4 h R := by
  unfold ord_lasts_Join_F at H
  refine calls_of 11 [.cell 6 173] Tryd.func179 rfl rfl rfl rfl rfl ?_
  refine W_seq ?_
  refine W_region (.ef 0 [] (.ef 1 [] (.ef 2 [] (.ef 3 [] .fin .no) .no) .no) .no) rfl rfl ?_
  obtain ⟨p5, e6⟩ : ∃ p : Addr, p = ⟨h.size, 0, none⟩ := ⟨_, rfl⟩
  obtain ⟨h1, e7⟩ : ∃ hh : Heap, hh = h.push (.cells #[] 174) := ⟨_, rfl⟩
  have H := H p5 h1 e6 e7
  refine s_ef1 (d := some 3) (v := (.pointer (some p5))) (h' := h1) rfl rfl rfl (fun dr => (r_box (v := (.agg #[])) rfl).trans (by rw [e6, e7]; rfl)) trivial ?_ trivial
  obtain ⟨p8, e9⟩ : ∃ p : Addr, p = ⟨h1.size, 0, none⟩ := ⟨_, rfl⟩
  obtain ⟨h2, e10⟩ : ∃ hh : Heap, hh = h1.push (.cells #[(.bool a1), (.int .i64 a2)] 173) := ⟨_, rfl⟩
  have H := H p8 h2 e9 e10
  refine s_ef1 (d := some 4) (v := (.pointer (some p8))) (h' := h2) rfl rfl rfl (fun dr => (r_box (v := (.agg #[(.bool a1), (.int .i64 a2)])) rfl).trans (by rw [e9, e10]; rfl)) trivial ?_ trivial
  obtain ⟨p11, e12⟩ : ∃ p : Addr, p = ⟨h2.size, 0, none⟩ := ⟨_, rfl⟩
  obtain ⟨h3, e13⟩ : ∃ hh : Heap, hh = h2.push (.cells #[(.bool vb3), (.int .i64 vb4)] 173) := ⟨_, rfl⟩
  have H := H p11 h3 e12 e13
  refine s_ef1 (d := some 5) (v := (.pointer (some p11))) (h' := h3) rfl rfl rfl (fun dr => (r_box (v := (.agg #[(.bool vb3), (.int .i64 vb4)])) rfl).trans (by rw [e12, e13]; rfl)) trivial ?_ trivial
  obtain ⟨p14, e15⟩ : ∃ p : Addr, p = ⟨h3.size, 0, none⟩ := ⟨_, rfl⟩
  obtain ⟨h4, e16⟩ : ∃ hh : Heap, hh = h3.push (.cells #[(.bool false), (.int .i64 0)] 173) := ⟨_, rfl⟩
  have H := H p14 h4 e15 e16
  refine s_ef1 (d := some 6) (v := (.pointer (some p14))) (h' := h4) rfl rfl rfl (fun dr => (r_alloc Tryd.zeroValue173).trans (by rw [e15, e16]; rfl)) trivial ?_ trivial
  refine s_fin ?_
  show W _ _ _ _ _ _ _ _
  refine W_seq ?_
  refine W_seq ?_
  refine W_region (.pu 0 (.rl 1 .fin)) rfl rfl ?_
  refine s_pu (d := some 7) (v := (.pointer (some (Addr.add p11 0)))) rfl rfl rfl (r_fieldAddr Tryd.underlying173 Tryd.sizeOf4 rfl rfl rfl) ?_
  obtain ⟨x17, e18, H⟩ := H
  refine s_rl (d := some 8) (v := (.bool x17)) rfl rfl rfl (fun dr => r_load1 Tryd.isAgg4 rfl e18) ?_
  refine s_fin ?_
  show W _ _ _ _ _ _ _ _
  refine W_if x17 rfl (fun g39 => ?_) (fun g39 => ?_)
  · have H := H.1 g39
    refine W_seq ?_
    refine W_region (.rl 0 (.ef 1 [] .fin .no)) rfl rfl ?_
    obtain ⟨x19, e20, H⟩ := H
    obtain ⟨x21, e22, H⟩ := H
    refine s_rl (d := some 9) (v := (.agg #[(.bool x19), (.int .i64 x21)])) rfl rfl rfl (fun dr => r_loadN Tryd.isAgg173 Tryd.sizeOf173 (vs := [(.bool x19), (.int .i64 x21)]) rfl rfl ⟨e20, e22, trivial⟩) ?_
    obtain ⟨e24, H⟩ := H
    obtain ⟨h5, e23⟩ : ∃ hh : Heap, hh = hsets h4 p14 0 [(.bool x19), (.int .i64 x21)] := ⟨_, rfl⟩
    have H := H h5 e23
    refine s_st (d := none) (h' := h5) rfl rfl rfl (fun dr => (r_store (v := (.agg #[(.bool x19), (.int .i64 x21)])) Tryd.sizeOf173 rfl rfl rfl (one_all rfl) e24).trans (by rw [e23]; rfl)) trivial ?_ trivial
    refine s_fin ?_
    show W _ _ _ _ _ _ _ _
    refine W_ret ?_
    obtain ⟨x25, e26, H⟩ := H
    obtain ⟨x27, e28, H⟩ := H
    exact ⟨[(.agg #[(.bool x25), (.int .i64 x27)])], ⟨_, _, _, rfl, rfl, fun dr => run_loadVarN Tryd.isAgg173 Tryd.sizeOf173 (vs := [(.bool x25), (.int .i64 x27)]) rfl ⟨e26, e28, trivial⟩, rfl⟩, x25, x27, rfl, H⟩
  · have H := H.2 g39
    refine W_skip ?_
    show W _ _ _ _ _ _ _ _
    refine W_seq ?_
    refine W_region (.rl 0 (.ef 1 [] .fin .no)) rfl rfl ?_
    obtain ⟨x29, e30, H⟩ := H
    obtain ⟨x31, e32, H⟩ := H
    refine s_rl (d := some 10) (v := (.agg #[(.bool x29), (.int .i64 x31)])) rfl rfl rfl (fun dr => r_loadN Tryd.isAgg173 Tryd.sizeOf173 (vs := [(.bool x29), (.int .i64 x31)]) rfl rfl ⟨e30, e32, trivial⟩) ?_
    obtain ⟨e34, H⟩ := H
    obtain ⟨h6, e33⟩ : ∃ hh : Heap, hh = hsets h4 p14 0 [(.bool x29), (.int .i64 x31)] := ⟨_, rfl⟩
    have H := H h6 e33
    refine s_st (d := none) (h' := h6) rfl rfl rfl (fun dr => (r_store (v := (.agg #[(.bool x29), (.int .i64 x31)])) Tryd.sizeOf173 rfl rfl rfl (one_all rfl) e34).trans (by rw [e33]; rfl)) trivial ?_ trivial
    refine s_fin ?_
    show W _ _ _ _ _ _ _ _
    refine W_ret ?_
    obtain ⟨x35, e36, H⟩ := H
    obtain ⟨x37, e38, H⟩ := H
    exact ⟨[(.agg #[(.bool x35), (.int .i64 x37)])], ⟨_, _, _, rfl, rfl, fun dr => run_loadVarN Tryd.isAgg173 Tryd.sizeOf173 (vs := [(.bool x35), (.int .i64 x37)]) rfl ⟨e36, e38, trivial⟩, rfl⟩, x35, x37, rfl, H⟩

/-! ### finger_total_int_ord_last_ord_lasts -/

def finger_total_int_ord_last_ord_lasts_F (r : World) (t1 : Option Addr) (h : Heap) (R : Bool → Int → Heap → Prop) : Prop :=
  New h (.cells #[(.bool false), (.int .i64 0)] 173) fun p2 h1 =>
  Br (Option.isNone t1) (
    New h1 (.cells #[] 174) fun p5 h2 =>
    ord_lasts_None r h2 fun y8 y9 h3 =>
    St h3 p2 2 [(.bool y8), (.int .i64 y9)] fun h4 =>
    LdB h4 (Addr.add p2 0) fun x12 =>
    LdI h4 (Addr.add p2 1) fun x14 =>
    R x12 x14 h4) (
    Ck t1 fun p16 =>
    LdB h1 (Addr.add (Addr.add p16 2) 0) fun x18 =>
    LdI h1 (Addr.add (Addr.add p16 2) 1) fun x20 =>
    St h1 p2 2 [(.bool x18), (.int .i64 x20)] fun h5 =>
    LdB h5 (Addr.add p2 0) fun x24 =>
    LdI h5 (Addr.add p2 1) fun x26 =>
    R x24 x26 h5)

set_option maxRecDepth 100000 in
theorem finger_total_int_ord_last_ord_lasts_of {r : World} {t1 : Option Addr} {h : Heap} {R : Bool → Int → Heap → Prop} (H : finger_total_int_ord_last_ord_lasts_F r t1 h R) : finger_total_int_ord_last_ord_lasts r t1 h R := by
  unfold finger_total_int_ord_last_ord_lasts_F at H
  refine calls_of 13 [.cell 2 173] Tryd.func147 rfl rfl rfl rfl rfl ?_
  refine W_seq ?_
  refine W_region (.ef 0 [] .fin .no) rfl rfl ?_
  obtain ⟨p2, e3⟩ : ∃ p : Addr, p = ⟨h.size, 0, none⟩ := ⟨_, rfl⟩
  obtain ⟨h1, e4⟩ : ∃ hh : Heap, hh = h.push (.cells #[(.bool false), (.int .i64 0)] 173) := ⟨_, rfl⟩
  have H := H p2 h1 e3 e4
  refine s_ef1 (d := some 2) (v := (.pointer (some p2))) (h' := h1) rfl rfl rfl (fun dr => (r_alloc Tryd.zeroValue173).trans (by rw [e3, e4]; rfl)) trivial ?_ trivial
  refine s_fin ?_
  show W _ _ _ _ _ _ _ _
  refine W_seq ?_
  refine W_seq ?_
  refine W_region (.pu 0 (.pu 1 .fin)) rfl rfl ?_
  refine s_pu (d := some 4) (v := (.pointer t1)) rfl rfl rfl (r_move rfl) ?_
  refine s_pu (d := some 5) (v := (.bool (Option.isNone t1))) rfl rfl rfl (r_nilP Tryd.underlying134 rfl rfl) ?_
  refine s_fin ?_
  show W _ _ _ _ _ _ _ _
  refine W_if (Option.isNone t1) rfl (fun g28 => ?_) (fun g28 => ?_)
  · have H := H.1 g28
    refine W_seq ?_
    refine W_region (.ef 0 [] .fin .no) rfl rfl ?_
    obtain ⟨p5, e6⟩ : ∃ p : Addr, p = ⟨h1.size, 0, none⟩ := ⟨_, rfl⟩
    obtain ⟨h2, e7⟩ : ∃ hh : Heap, hh = h1.push (.cells #[] 174) := ⟨_, rfl⟩
    have H := H p5 h2 e6 e7
    refine s_ef1 (d := some 3) (v := (.pointer (some p5))) (h' := h2) rfl rfl rfl (fun dr => (r_alloc Tryd.zeroValue174).trans (by rw [e6, e7]; rfl)) trivial ?_ trivial
    refine s_fin ?_
    show W _ _ _ _ _ _ _ _
    refine W_seq ?_
    refine W_region (.rl 0 (.pu 1 (.ef 2 [] (.ef 3 [] .fin .no) .no))) rfl rfl ?_
    refine s_rl (d := some 6) (v := (.agg #[])) rfl rfl rfl (fun dr => r_loadN Tryd.isAgg174 Tryd.sizeOf174 (vs := []) rfl rfl trivial) ?_
    refine s_pu (d := some 7) (v := ((.iface 174 (.agg #[])))) rfl rfl rfl (r_iface Tryd.underlying174 rfl rfl) ?_
    refine s_ef (d := some 8) rfl rfl rfl (fun dr => r_invoke mth_ord_lasts_None rfl rfl H) ?_ trivial
    rintro _ h3 ⟨y8, y9, rfl, H⟩
    refine ⟨trivial, ?_⟩
    obtain ⟨e11, H⟩ := H
    obtain ⟨h4, e10⟩ : ∃ hh : Heap, hh = hsets h3 p2 0 [(.bool y8), (.int .i64 y9)] := ⟨_, rfl⟩
    have H := H h4 e10
    refine s_st (d := none) (h' := h4) rfl rfl rfl (fun dr => (r_store (v := (.agg #[(.bool y8), (.int .i64 y9)])) Tryd.sizeOf173 rfl rfl rfl (one_all rfl) e11).trans (by rw [e10]; rfl)) trivial ?_ trivial
    refine s_fin ?_
    show W _ _ _ _ _ _ _ _
    refine W_ret ?_
    obtain ⟨x12, e13, H⟩ := H
    obtain ⟨x14, e15, H⟩ := H
    exact ⟨[(.agg #[(.bool x12), (.int .i64 x14)])], ⟨_, _, _, rfl, rfl, fun dr => run_loadVarN Tryd.isAgg173 Tryd.sizeOf173 (vs := [(.bool x12), (.int .i64 x14)]) rfl ⟨e13, e15, trivial⟩, rfl⟩, x12, x14, rfl, H⟩
  · have H := H.2 g28
    refine W_skip ?_
    show W _ _ _ _ _ _ _ _
    refine W_seq ?_
    refine W_region (.pu 0 (.pu 1 (.pu 2 (.rl 3 (.ef 4 [] .fin .no))))) rfl rfl ?_
    refine s_pu (d := some 9) (v := (.pointer t1)) rfl rfl rfl (r_move rfl) ?_
    obtain ⟨p16, e17, H⟩ := H
    refine s_pu (d := some 10) (v := (.pointer (some p16))) rfl rfl rfl (r_nilCheck rfl e17) ?_
    refine s_pu (d := some 11) (v := (.pointer (some (Addr.add p16 2)))) rfl rfl rfl (r_fieldAddr Tryd.underlying197 Tryd.sizeOf173 rfl rfl rfl) ?_
    obtain ⟨x18, e19, H⟩ := H
    obtain ⟨x20, e21, H⟩ := H
    refine s_rl (d := some 12) (v := (.agg #[(.bool x18), (.int .i64 x20)])) rfl rfl rfl (fun dr => r_loadN Tryd.isAgg173 Tryd.sizeOf173 (vs := [(.bool x18), (.int .i64 x20)]) rfl rfl ⟨e19, e21, trivial⟩) ?_
    obtain ⟨e23, H⟩ := H
    obtain ⟨h5, e22⟩ : ∃ hh : Heap, hh = hsets h1 p2 0 [(.bool x18), (.int .i64 x20)] := ⟨_, rfl⟩
    have H := H h5 e22
    refine s_st (d := none) (h' := h5) rfl rfl rfl (fun dr => (r_store (v := (.agg #[(.bool x18), (.int .i64 x20)])) Tryd.sizeOf173 rfl rfl rfl (one_all rfl) e23).trans (by rw [e22]; rfl)) trivial ?_ trivial
    refine s_fin ?_
    show W _ _ _ _ _ _ _ _
    refine W_ret ?_
    obtain ⟨x24, e25, H⟩ := H
    obtain ⟨x26, e27, H⟩ := H
    exact ⟨[(.agg #[(.bool x24), (.int .i64 x26)])], ⟨_, _, _, rfl, rfl, fun dr => run_loadVarN Tryd.isAgg173 Tryd.sizeOf173 (vs := [(.bool x24), (.int .i64 x26)]) rfl ⟨e25, e27, trivial⟩, rfl⟩, x24, x26, rfl, H⟩

/-! ### finger_made_int_ord_last_ord_lasts -/

def finger_made_int_ord_last_ord_lasts_F (r : World) (l1 : Option Addr) (v2 : Int) (vr3 : Option Addr) (h : Heap) (R : Option Addr → Heap → Prop) : Prop :=
  New h (.cells #[] 174) fun p4 h1 =>
  finger_node_int_ord_last_size r l1 h1 fun y7 h2 =>
  finger_node_int_ord_last_size r vr3 h2 fun y8 h3 =>
  finger_total_int_ord_last_ord_lasts r l1 h3 fun y9 y10 h4 =>
  ord_lasts_One r v2 h4 fun y11 y12 h5 =>
  ord_lasts_Join r y9 y10 y11 y12 h5 fun y13 y14 h6 =>
  finger_total_int_ord_last_ord_lasts r vr3 h6 fun y15 y16 h7 =>
  ord_lasts_Join r y13 y14 y15 y16 h7 fun y17 y18 h8 =>
  New h8 (.cells #[(.int .i64 v2), (.int .i64 (w64 ((w64 (1 + y7)) + y8))), (.bool y17), (.int .i64 y18), (.pointer l1), (.pointer vr3)] 197) fun p19 h9 =>
  R (some p19) h9

set_option maxRecDepth 100000 in
theorem finger_made_int_ord_last_ord_lasts_of {r : World} {l1 : Option Addr} {v2 : Int} {vr3 : Option Addr} {h : Heap} {R : Option Addr → Heap → Prop} (H : finger_made_int_ord_last_ord_lasts_F r l1 v2 vr3 h R) : finger_made_int_ord_last_ord_lasts r l1 v2 vr3 h R := by
  unfold finger_made_int_ord_last_ord_lasts_F at H
  refine calls_of 33 [.tmp 6] Tryd.func151 rfl rfl rfl rfl rfl ?_
  refine W_seq ?_
  refine W_region (.pu 0 .fin) rfl rfl ?_
  refine s_pu (d := some 6) (v := (.pointer none)) rfl rfl rfl (r_assign rfl) ?_
  refine s_fin ?_
  show W _ _ _ _ _ _ _ _
  refine W_seq ?_
  refine W_region (.ef 0 [] .fin .no) rfl rfl ?_
  obtain ⟨p4, e5⟩ : ∃ p : Addr, p = ⟨h.size, 0, none⟩ := ⟨_, rfl⟩
  obtain ⟨h1, e6⟩ : ∃ hh : Heap, hh = h.push (.cells #[] 174) := ⟨_, rfl⟩
  have H := H p4 h1 e5 e6
  refine s_ef1 (d := some 7) (v := (.pointer (some p4))) (h' := h1) rfl rfl rfl (fun dr => (r_alloc Tryd.zeroValue174).trans (by rw [e5, e6]; rfl)) trivial ?_ trivial
  refine s_fin ?_
  show W _ _ _ _ _ _ _ _
  refine W_seq ?_
  refine W_draw [0, 0, 2, 6, 0, 22, 62, 0, 128, 0, 512, 0, 2102, 0, 8192, 0, 63542, 130614, 0, 523830, 1048502, 0, 0, 8388607, 16777215, 33554431] (.pu 0 (.pu 1 (.pu 4 (.rd 7 (.pu 8 (.rd 9 (.pu 10 (.pu 11 (.rd 13 (.pu 14 (.pu 15 (.pu 18 (.pu 21 (.pu 22 (.ef 2 [] (.pu 3 (.ef 5 [] (.pu 6 (.ef 12 [] (.ef 16 [13] (.ef 17 [9, 13] (.ef 19 [9, 13] (.ef 20 [7, 9, 13] (.pu 23 (.ef 24 [7, 9, 13] (.pu 25 .fin) .no)) .no) .no) .no) .no) .no)) .no)) .no))))))))))))))) (by kernel_rfl) (by kernel_rfl) ?_
  refine s_pu (d := some 8) (v := (.int .i64 v2)) rfl rfl rfl (r_move rfl) ?_
  refine s_pu (d := some 9) (v := (.pointer l1)) rfl rfl rfl (r_move rfl) ?_
  refine s_pu (d := some 12) (v := (.pointer vr3)) rfl rfl rfl (r_move rfl) ?_
  refine s_rd (d := some 15) (v := (.agg #[])) rfl rfl rfl (fun dr => r_loadN Tryd.isAgg174 Tryd.sizeOf174 (vs := []) rfl rfl trivial) ?_
  refine s_pu (d := some 16) (v := ((.iface 174 (.agg #[])))) rfl rfl rfl (r_iface Tryd.underlying174 rfl rfl) ?_
  refine s_rd (d := some 17) (v := (.agg #[])) rfl rfl rfl (fun dr => r_loadN Tryd.isAgg174 Tryd.sizeOf174 (vs := []) rfl rfl trivial) ?_
  refine s_pu (d := some 18) (v := ((.iface 174 (.agg #[])))) rfl rfl rfl (r_iface Tryd.underlying174 rfl rfl) ?_
  refine s_pu (d := some 19) (v := (.pointer l1)) rfl rfl rfl (r_move rfl) ?_
  refine s_rd (d := some 21) (v := (.agg #[])) rfl rfl rfl (fun dr => r_loadN Tryd.isAgg174 Tryd.sizeOf174 (vs := []) rfl rfl trivial) ?_
  refine s_pu (d := some 22) (v := ((.iface 174 (.agg #[])))) rfl rfl rfl (r_iface Tryd.underlying174 rfl rfl) ?_
  refine s_pu (d := some 23) (v := (.int .i64 v2)) rfl rfl rfl (r_move rfl) ?_
  refine s_pu (d := some 26) (v := (.pointer vr3)) rfl rfl rfl (r_move rfl) ?_
  refine s_pu (d := some 29) (v := (.pointer l1)) rfl rfl rfl (r_move rfl) ?_
  refine s_pu (d := some 30) (v := (.pointer vr3)) rfl rfl rfl (r_move rfl) ?_
  refine s_ef (d := some 10) rfl rfl rfl (fun dr => r_call Tryd.call148 rfl rfl H) ?_ trivial
  rintro _ h2 ⟨y7, rfl, H⟩
  refine ⟨⟨(.inl ⟨rfl, fun dr => r_loadN Tryd.isAgg174 Tryd.sizeOf174 (vs := []) rfl rfl trivial⟩), (.inl ⟨rfl, fun dr => r_loadN Tryd.isAgg174 Tryd.sizeOf174 (vs := []) rfl rfl trivial⟩), (.inl ⟨rfl, fun dr => r_loadN Tryd.isAgg174 Tryd.sizeOf174 (vs := []) rfl rfl trivial⟩), trivial⟩, ?_⟩
  refine s_pu (d := some 11) (v := (.int .i64 (w64 (1 + y7)))) rfl rfl rfl (r_add rfl rfl) ?_
  refine s_ef (d := some 13) rfl rfl rfl (fun dr => r_call Tryd.call148 rfl rfl H) ?_ trivial
  rintro _ h3 ⟨y8, rfl, H⟩
  refine ⟨⟨(.inl ⟨rfl, fun dr => r_loadN Tryd.isAgg174 Tryd.sizeOf174 (vs := []) rfl rfl trivial⟩), (.inl ⟨rfl, fun dr => r_loadN Tryd.isAgg174 Tryd.sizeOf174 (vs := []) rfl rfl trivial⟩), (.inl ⟨rfl, fun dr => r_loadN Tryd.isAgg174 Tryd.sizeOf174 (vs := []) rfl rfl trivial⟩), trivial⟩, ?_⟩
  refine s_pu (d := some 14) (v := (.int .i64 (w64 ((w64 (1 + y7)) + y8)))) rfl rfl rfl (r_add rfl rfl) ?_
  refine s_ef (d := some 20) rfl rfl rfl (fun dr => r_call Tryd.call147 rfl rfl H) ?_ trivial
  rintro _ h4 ⟨y9, y10, rfl, H⟩
  refine ⟨⟨(.inl ⟨rfl, fun dr => r_loadN Tryd.isAgg174 Tryd.sizeOf174 (vs := []) rfl rfl trivial⟩), (.inl ⟨rfl, fun dr => r_loadN Tryd.isAgg174 Tryd.sizeOf174 (vs := []) rfl rfl trivial⟩), (.inl ⟨rfl, fun dr => r_loadN Tryd.isAgg174 Tryd.sizeOf174 (vs := []) rfl rfl trivial⟩), trivial⟩, ?_⟩
  refine s_ef (d := some 24) rfl rfl rfl (fun dr => r_invoke mth_ord_lasts_One rfl rfl H) ?_ trivial
  rintro _ h5 ⟨y11, y12, rfl, H⟩
  refine ⟨⟨trivial, (.inl ⟨rfl, fun dr => r_loadN Tryd.isAgg174 Tryd.sizeOf174 (vs := []) rfl rfl trivial⟩), (.inl ⟨rfl, fun dr => r_loadN Tryd.isAgg174 Tryd.sizeOf174 (vs := []) rfl rfl trivial⟩), trivial⟩, ?_⟩
  refine s_ef (d := some 25) rfl rfl rfl (fun dr => r_invoke mth_ord_lasts_Join rfl rfl H) ?_ trivial
  rintro _ h6 ⟨y13, y14, rfl, H⟩
  refine ⟨⟨trivial, trivial, (.inl ⟨rfl, fun dr => r_loadN Tryd.isAgg174 Tryd.sizeOf174 (vs := []) rfl rfl trivial⟩), trivial⟩, ?_⟩
  refine s_ef (d := some 27) rfl rfl rfl (fun dr => r_call Tryd.call147 rfl rfl H) ?_ trivial
  rintro _ h7 ⟨y15, y16, rfl, H⟩
  refine ⟨⟨trivial, trivial, (.inl ⟨rfl, fun dr => r_loadN Tryd.isAgg174 Tryd.sizeOf174 (vs := []) rfl rfl trivial⟩), trivial⟩, ?_⟩
  refine s_ef (d := some 28) rfl rfl rfl (fun dr => r_invoke mth_ord_lasts_Join rfl rfl H) ?_ trivial
  rintro _ h8 ⟨y17, y18, rfl, H⟩
  refine ⟨⟨trivial, trivial, trivial, trivial⟩, ?_⟩
  refine s_pu (d := some 31) (v := (.agg #[(.int .i64 v2), (.int .i64 (w64 ((w64 (1 + y7)) + y8))), (.bool y17), (.int .i64 y18), (.pointer l1), (.pointer vr3)])) rfl rfl rfl (fun w => by kernel_rfl) ?_
  obtain ⟨p19, e20⟩ : ∃ p : Addr, p = ⟨h8.size, 0, none⟩ := ⟨_, rfl⟩
  obtain ⟨h9, e21⟩ : ∃ hh : Heap, hh = h8.push (.cells #[(.int .i64 v2), (.int .i64 (w64 ((w64 (1 + y7)) + y8))), (.bool y17), (.int .i64 y18), (.pointer l1), (.pointer vr3)] 197) := ⟨_, rfl⟩
  have H := H p19 h9 e20 e21
  refine s_ef1 (d := some 32) (v := (.pointer (some p19))) (h' := h9) rfl rfl rfl (fun dr => (r_box (v := (.agg #[(.int .i64 v2), (.int .i64 (w64 ((w64 (1 + y7)) + y8))), (.bool y17), (.int .i64 y18), (.pointer l1), (.pointer vr3)])) rfl).trans (by rw [e20, e21]; rfl)) ⟨trivial, trivial, trivial, trivial⟩ ?_ trivial
  refine s_pu (d := some 6) (v := (.pointer (some p19))) rfl rfl rfl (r_assign rfl) ?_
  refine s_fin ?_
  show W _ _ _ _ _ _ _ _
  refine W_ret ?_
  exact ⟨[(.pointer (some p19))], ⟨_, _, rfl, rfl, rfl⟩, (some p19), rfl, H⟩

/-! ### finger_even_int_ord_last_ord_lasts -/

def finger_even_int_ord_last_ord_lasts_F (r : World) (l1 : Option Addr) (v2 : Int) (vr3 : Option Addr) (h : Heap) (R : Option Addr → Heap → Prop) : Prop :=
  ∀ J5 : Bool → Heap → Prop, (∀ (x4 : Bool) (h1 : Heap),
    (Br x4 (
      Ck vr3 fun p7 =>
      LdP h1 (Addr.add p7 4) fun x9 =>
      Ck vr3 fun p11 =>
      LdI h1 (Addr.add p11 0) fun x13 =>
      Ck vr3 fun p15 =>
      LdP h1 (Addr.add p15 5) fun x17 =>
      CallV Tryd.prog r ((.func (.func 151) #[] #[])) [(.pointer l1), (.int .i64 v2), (.pointer x9)] h1 fun v24 h2 => ∃ (y19 : Option Addr), v24 = (.pointer y19) ∧
      (hcell h2 (Addr.add p15 5) = some (.pointer x17)) ∧
      (hcell h2 (Addr.add p11 0) = some (.int .i64 x13)) ∧
      CallV Tryd.prog r ((.func (.func 151) #[] #[])) [(.pointer y19), (.int .i64 x13), (.pointer x17)] h2 fun v23 h3 => ∃ (y22 : Option Addr), v23 = (.pointer y22) ∧
      R y22 h3) (
      finger_heavy_int_ord_last r vr3 l1 h1 fun y25 h4 =>
      Br y25 (
        Ck vr3 fun p26 =>
        LdP h4 (Addr.add p26 4) fun x28 =>
        Ck x28 fun p30 =>
        LdP h4 (Addr.add p30 4) fun x32 =>
        Ck x28 fun p34 =>
        LdI h4 (Addr.add p34 0) fun x36 =>
        Ck x28 fun p38 =>
        LdP h4 (Addr.add p38 5) fun x40 =>
        Ck vr3 fun p42 =>
        LdI h4 (Addr.add p42 0) fun x44 =>
        Ck vr3 fun p46 =>
        LdP h4 (Addr.add p46 5) fun x48 =>
        CallV Tryd.prog r ((.func (.func 151) #[] #[])) [(.pointer l1), (.int .i64 v2), (.pointer x32)] h4 fun v60 h5 => ∃ (y50 : Option Addr), v60 = (.pointer y50) ∧
        (hcell h5 (Addr.add p46 5) = some (.pointer x48)) ∧
        (hcell h5 (Addr.add p42 0) = some (.int .i64 x44)) ∧
        (hcell h5 (Addr.add p38 5) = some (.pointer x40)) ∧
        (hcell h5 (Addr.add p34 0) = some (.int .i64 x36)) ∧
        CallV Tryd.prog r ((.func (.func 151) #[] #[])) [(.pointer x40), (.int .i64 x44), (.pointer x48)] h5 fun v59 h6 => ∃ (y55 : Option Addr), v59 = (.pointer y55) ∧
        (hcell h6 (Addr.add p34 0) = some (.int .i64 x36)) ∧
        CallV Tryd.prog r ((.func (.func 151) #[] #[])) [(.pointer y50), (.int .i64 x36), (.pointer y55)] h6 fun v58 h7 => ∃ (y57 : Option Addr), v58 = (.pointer y57) ∧
        R y57 h7) (
        ∀ J62 : Bool → Heap → Prop, (∀ (x61 : Bool) (h8 : Heap),
          (Br x61 (
            Ck l1 fun p64 =>
            LdP h8 (Addr.add p64 4) fun x66 =>
            Ck l1 fun p68 =>
            LdI h8 (Addr.add p68 0) fun x70 =>
            Ck l1 fun p72 =>
            LdP h8 (Addr.add p72 5) fun x74 =>
            CallV Tryd.prog r ((.func (.func 151) #[] #[])) [(.pointer x74), (.int .i64 v2), (.pointer vr3)] h8 fun v81 h9 => ∃ (y76 : Option Addr), v81 = (.pointer y76) ∧
            (hcell h9 (Addr.add p68 0) = some (.int .i64 x70)) ∧
            (hcell h9 (Addr.add p64 4) = some (.pointer x66)) ∧
            CallV Tryd.prog r ((.func (.func 151) #[] #[])) [(.pointer x66), (.int .i64 x70), (.pointer y76)] h9 fun v80 h10 => ∃ (y79 : Option Addr), v80 = (.pointer y79) ∧
            R y79 h10) (
            finger_heavy_int_ord_last r l1 vr3 h8 fun y82 h11 =>
            Br y82 (
              Ck l1 fun p83 =>
              LdP h11 (Addr.add p83 5) fun x85 =>
              Ck l1 fun p87 =>
              LdP h11 (Addr.add p87 4) fun x89 =>
              Ck l1 fun p91 =>
              LdI h11 (Addr.add p91 0) fun x93 =>
              Ck x85 fun p95 =>
              LdP h11 (Addr.add p95 4) fun x97 =>
              Ck x85 fun p99 =>
              LdI h11 (Addr.add p99 0) fun x101 =>
              Ck x85 fun p103 =>
              LdP h11 (Addr.add p103 5) fun x105 =>
              CallV Tryd.prog r ((.func (.func 151) #[] #[])) [(.pointer x89), (.int .i64 x93), (.pointer x97)] h11 fun v115 h12 => ∃ (y107 : Option Addr), v115 = (.pointer y107) ∧
              (hcell h12 (Addr.add p103 5) = some (.pointer x105)) ∧
              (hcell h12 (Addr.add p99 0) = some (.int .i64 x101)) ∧
              CallV Tryd.prog r ((.func (.func 151) #[] #[])) [(.pointer x105), (.int .i64 v2), (.pointer vr3)] h12 fun v114 h13 => ∃ (y110 : Option Addr), v114 = (.pointer y110) ∧
              (hcell h13 (Addr.add p99 0) = some (.int .i64 x101)) ∧
              CallV Tryd.prog r ((.func (.func 151) #[] #[])) [(.pointer y107), (.int .i64 x101), (.pointer y110)] h13 fun v113 h14 => ∃ (y112 : Option Addr), v113 = (.pointer y112) ∧
              R y112 h14) (
              CallV Tryd.prog r ((.func (.func 151) #[] #[])) [(.pointer l1), (.int .i64 v2), (.pointer vr3)] h11 fun v117 h15 => ∃ (y116 : Option Addr), v117 = (.pointer y116) ∧
              R y116 h15))) →
          J62 x61 h8) →
        finger_heavy_int_ord_last r l1 vr3 h4 fun y120 h16 =>
        Br y120 (
          Ck l1 fun p122 =>
          LdP h16 (Addr.add p122 5) fun x124 =>
          Ck l1 fun p126 =>
          LdP h16 (Addr.add p126 4) fun x128 =>
          finger_node_int_ord_last_weight r x124 h16 fun y130 h17 =>
          (hcell h17 (Addr.add p126 4) = some (.pointer x128)) ∧
          finger_node_int_ord_last_weight r x128 h17 fun y132 h18 =>
          J62 (decide (y130 < (w64 (2 * y132)))) h18) (
          J62 false h16)))) →
    J5 x4 h1) →
  finger_heavy_int_ord_last r vr3 l1 h fun y135 h19 =>
  Br y135 (
    Ck vr3 fun p137 =>
    LdP h19 (Addr.add p137 4) fun x139 =>
    Ck vr3 fun p141 =>
    LdP h19 (Addr.add p141 5) fun x143 =>
    finger_node_int_ord_last_weight r x139 h19 fun y145 h20 =>
    (hcell h20 (Addr.add p141 5) = some (.pointer x143)) ∧
    finger_node_int_ord_last_weight r x143 h20 fun y147 h21 =>
    J5 (decide (y145 < (w64 (2 * y147)))) h21) (
    J5 false h19)

set_option maxRecDepth 100000 in
theorem finger_even_int_ord_last_ord_lasts_of {r : World} {l1 : Option Addr} {v2 : Int} {vr3 : Option Addr} {h : Heap} {R : Option Addr → Heap → Prop} (H : finger_even_int_ord_last_ord_lasts_F r l1 v2 vr3 h R) : finger_even_int_ord_last_ord_lasts r l1 v2 vr3 h R := by
  unfold finger_even_int_ord_last_ord_lasts_F at H
  refine calls_of 159 [.tmp 6] Tryd.func150 rfl rfl rfl rfl rfl ?_
  refine W_seq ?_
  refine W_region (.pu 0 .fin) rfl rfl ?_
  refine s_pu (d := some 6) (v := (.pointer none)) rfl rfl rfl (r_assign rfl) ?_
  refine s_fin ?_
  show W _ _ _ _ _ _ _ _
  refine W_seq ?_
  refine W_region (.pu 0 .fin) rfl rfl ?_
  refine s_pu (d := some 7) (v := ((.func (.func 151) #[] #[]))) rfl rfl rfl (r_assign rfl) ?_
  refine s_fin ?_
  show W _ _ _ _ _ _ _ _
  refine W_seq ?_
  refine W_block ?_
  refine W_seq ?_
  refine W_set ?_
  intro N6 eN6
  have H := H (fun (x4 : Bool) (h1 : Heap) => ∀ b, N6 [] (mkE [(0, (.pointer l1)), (1, (.int .i64 v2)), (2, (.pointer vr3)), (7, ((.func (.func 151) #[] #[]))), (10, (.bool x4))] b) h1) (by
    intro x4 h1 H b
    rw [eN6]
    show W _ _ _ _ _ _ _ _
    refine W_if x4 rfl (fun g134 => ?_) (fun g134 => ?_)
    · have H := H.1 g134
      refine W_seq ?_
      refine W_draw [0, 0, 0, 0, 0, 16, 48, 112, 254, 0, 512, 1536, 3584, 0, 8192, 24576, 57344, 131071, 262143] (.pu 0 (.pu 1 (.pu 2 (.pu 3 (.pu 4 (.pu 5 (.pu 6 (.rd 7 (.pu 9 (.pu 10 (.pu 11 (.rd 12 (.pu 13 (.pu 14 (.pu 15 (.rd 16 (.ef 8 [7] (.ef 17 [7, 12, 16] (.pu 18 .fin) .no) .no))))))))))))))))) (by kernel_rfl) (by kernel_rfl) ?_
      refine s_pu (d := some 28) (v := ((.func (.func 151) #[] #[]))) rfl rfl rfl (r_move rfl) ?_
      refine s_pu (d := some 29) (v := ((.func (.func 151) #[] #[]))) rfl rfl rfl (r_move rfl) ?_
      refine s_pu (d := some 30) (v := (.pointer l1)) rfl rfl rfl (r_move rfl) ?_
      refine s_pu (d := some 31) (v := (.int .i64 v2)) rfl rfl rfl (r_move rfl) ?_
      refine s_pu (d := some 32) (v := (.pointer vr3)) rfl rfl rfl (r_move rfl) ?_
      obtain ⟨p7, e8, H⟩ := H
      refine s_pu (d := some 33) (v := (.pointer (some p7))) rfl rfl rfl (r_nilCheck rfl e8) ?_
      refine s_pu (d := some 34) (v := (.pointer (some (Addr.add p7 4)))) rfl rfl rfl (r_fieldAddr Tryd.underlying197 Tryd.sizeOf134 rfl rfl rfl) ?_
      obtain ⟨x9, e10, H⟩ := H
      refine s_rd (d := some 35) (v := (.pointer x9)) rfl rfl rfl (fun dr => r_load1 Tryd.isAgg134 rfl e10) ?_
      refine s_pu (d := some 37) (v := (.pointer vr3)) rfl rfl rfl (r_move rfl) ?_
      obtain ⟨p11, e12, H⟩ := H
      refine s_pu (d := some 38) (v := (.pointer (some p11))) rfl rfl rfl (r_nilCheck rfl e12) ?_
      refine s_pu (d := some 39) (v := (.pointer (some (Addr.add p11 0)))) rfl rfl rfl (r_fieldAddr Tryd.underlying197 Tryd.sizeOf3 rfl rfl rfl) ?_
      obtain ⟨x13, e14, H⟩ := H
      refine s_rd (d := some 40) (v := (.int .i64 x13)) rfl rfl rfl (fun dr => r_load1 Tryd.isAgg3 rfl e14) ?_
      refine s_pu (d := some 41) (v := (.pointer vr3)) rfl rfl rfl (r_move rfl) ?_
      obtain ⟨p15, e16, H⟩ := H
      refine s_pu (d := some 42) (v := (.pointer (some p15))) rfl rfl rfl (r_nilCheck rfl e16) ?_
      refine s_pu (d := some 43) (v := (.pointer (some (Addr.add p15 5)))) rfl rfl rfl (r_fieldAddr Tryd.underlying197 Tryd.sizeOf134 rfl rfl rfl) ?_
      obtain ⟨x17, e18, H⟩ := H
      refine s_rd (d := some 44) (v := (.pointer x17)) rfl rfl rfl (fun dr => r_load1 Tryd.isAgg134 rfl e18) ?_
      refine s_ef (d := some 36) rfl rfl rfl (fun dr => r_callV rfl rfl H) ?_ trivial
      rintro _ h2 ⟨y19, rfl, H⟩
      obtain ⟨e20, H⟩ := H
      obtain ⟨e21, H⟩ := H
      refine ⟨⟨(.inl ⟨rfl, fun dr => r_load1 Tryd.isAgg134 rfl e20⟩), (.inl ⟨rfl, fun dr => r_load1 Tryd.isAgg3 rfl e21⟩), trivial, trivial⟩, ?_⟩
      refine s_ef (d := some 45) rfl rfl rfl (fun dr => r_callV rfl rfl H) ?_ trivial
      rintro _ h3 ⟨y22, rfl, H⟩
      refine ⟨⟨trivial, trivial, trivial, trivial⟩, ?_⟩
      refine s_pu (d := some 6) (v := (.pointer y22)) rfl rfl rfl (r_assign rfl) ?_
      refine s_fin ?_
      show W _ _ _ _ _ _ _ _
      refine W_ret ?_
      exact ⟨[(.pointer y22)], ⟨_, _, rfl, rfl, rfl⟩, y22, rfl, H⟩
    · have H := H.2 g134
      refine W_seq ?_
      refine W_region (.pu 0 (.pu 1 (.ef 2 [] (.pu 3 .fin) .no))) rfl rfl ?_
      refine s_pu (d := some 47) (v := (.pointer vr3)) rfl rfl rfl (r_move rfl) ?_
      refine s_pu (d := some 48) (v := (.pointer l1)) rfl rfl rfl (r_move rfl) ?_
      refine s_ef (d := some 49) rfl rfl rfl (fun dr => r_call Tryd.call149 rfl rfl H) ?_ trivial
      rintro _ h4 ⟨y25, rfl, H⟩
      refine ⟨trivial, ?_⟩
      refine s_pu (d := some 46) (v := (.bool y25)) rfl rfl rfl (r_assign rfl) ?_
      refine s_fin ?_
      show W _ _ _ _ _ _ _ _
      refine W_if y25 rfl (fun g133 => ?_) (fun g133 => ?_)
      · have H := H.1 g133
        refine W_seq ?_
        refine W_region (.pu 0 (.pu 1 (.pu 2 (.rl 3 (.pu 4 .fin))))) rfl rfl ?_
        refine s_pu (d := some 50) (v := (.pointer vr3)) rfl rfl rfl (r_move rfl) ?_
        obtain ⟨p26, e27, H⟩ := H
        refine s_pu (d := some 51) (v := (.pointer (some p26))) rfl rfl rfl (r_nilCheck rfl e27) ?_
        refine s_pu (d := some 52) (v := (.pointer (some (Addr.add p26 4)))) rfl rfl rfl (r_fieldAddr Tryd.underlying197 Tryd.sizeOf134 rfl rfl rfl) ?_
        obtain ⟨x28, e29, H⟩ := H
        refine s_rl (d := some 53) (v := (.pointer x28)) rfl rfl rfl (fun dr => r_load1 Tryd.isAgg134 rfl e29) ?_
        refine s_pu (d := some 8) (v := (.pointer x28)) rfl rfl rfl (r_assign rfl) ?_
        refine s_fin ?_
        show W _ _ _ _ _ _ _ _
        refine W_seq ?_
        refine W_draw [0, 0, 0, 0, 0, 16, 48, 112, 254, 0, 512, 1536, 3584, 0, 0, 16384, 49152, 114688, 0, 262144, 786432, 1835008, 0, 4194304, 12582912, 29360128, 67101182, 134217727, 268435455] (.pu 0 (.pu 1 (.pu 2 (.pu 3 (.pu 4 (.pu 5 (.pu 6 (.rd 7 (.pu 9 (.pu 10 (.pu 11 (.rd 12 (.pu 13 (.pu 14 (.pu 15 (.pu 16 (.rd 17 (.pu 18 (.pu 19 (.pu 20 (.rd 21 (.pu 22 (.pu 23 (.pu 24 (.rd 25 (.ef 8 [7] (.ef 26 [7, 17, 21, 25] (.ef 27 [7, 12, 17, 21, 25] (.pu 28 .fin) .no) .no) .no)))))))))))))))))))))))))) (by kernel_rfl) (by kernel_rfl) ?_
        refine s_pu (d := some 54) (v := ((.func (.func 151) #[] #[]))) rfl rfl rfl (r_move rfl) ?_
        refine s_pu (d := some 55) (v := ((.func (.func 151) #[] #[]))) rfl rfl rfl (r_move rfl) ?_
        refine s_pu (d := some 56) (v := (.pointer l1)) rfl rfl rfl (r_move rfl) ?_
        refine s_pu (d := some 57) (v := (.int .i64 v2)) rfl rfl rfl (r_move rfl) ?_
        refine s_pu (d := some 58) (v := (.pointer x28)) rfl rfl rfl (r_move rfl) ?_
        obtain ⟨p30, e31, H⟩ := H
        refine s_pu (d := some 59) (v := (.pointer (some p30))) rfl rfl rfl (r_nilCheck rfl e31) ?_
        refine s_pu (d := some 60) (v := (.pointer (some (Addr.add p30 4)))) rfl rfl rfl (r_fieldAddr Tryd.underlying197 Tryd.sizeOf134 rfl rfl rfl) ?_
        obtain ⟨x32, e33, H⟩ := H
        refine s_rd (d := some 61) (v := (.pointer x32)) rfl rfl rfl (fun dr => r_load1 Tryd.isAgg134 rfl e33) ?_
        refine s_pu (d := some 63) (v := (.pointer x28)) rfl rfl rfl (r_move rfl) ?_
        obtain ⟨p34, e35, H⟩ := H
        refine s_pu (d := some 64) (v := (.pointer (some p34))) rfl rfl rfl (r_nilCheck rfl e35) ?_
        refine s_pu (d := some 65) (v := (.pointer (some (Addr.add p34 0)))) rfl rfl rfl (r_fieldAddr Tryd.underlying197 Tryd.sizeOf3 rfl rfl rfl) ?_
        obtain ⟨x36, e37, H⟩ := H
        refine s_rd (d := some 66) (v := (.int .i64 x36)) rfl rfl rfl (fun dr => r_load1 Tryd.isAgg3 rfl e37) ?_
        refine s_pu (d := some 67) (v := ((.func (.func 151) #[] #[]))) rfl rfl rfl (r_move rfl) ?_
        refine s_pu (d := some 68) (v := (.pointer x28)) rfl rfl rfl (r_move rfl) ?_
        obtain ⟨p38, e39, H⟩ := H
        refine s_pu (d := some 69) (v := (.pointer (some p38))) rfl rfl rfl (r_nilCheck rfl e39) ?_
        refine s_pu (d := some 70) (v := (.pointer (some (Addr.add p38 5)))) rfl rfl rfl (r_fieldAddr Tryd.underlying197 Tryd.sizeOf134 rfl rfl rfl) ?_
        obtain ⟨x40, e41, H⟩ := H
        refine s_rd (d := some 71) (v := (.pointer x40)) rfl rfl rfl (fun dr => r_load1 Tryd.isAgg134 rfl e41) ?_
        refine s_pu (d := some 72) (v := (.pointer vr3)) rfl rfl rfl (r_move rfl) ?_
        obtain ⟨p42, e43, H⟩ := H
        refine s_pu (d := some 73) (v := (.pointer (some p42))) rfl rfl rfl (r_nilCheck rfl e43) ?_
        refine s_pu (d := some 74) (v := (.pointer (some (Addr.add p42 0)))) rfl rfl rfl (r_fieldAddr Tryd.underlying197 Tryd.sizeOf3 rfl rfl rfl) ?_
        obtain ⟨x44, e45, H⟩ := H
        refine s_rd (d := some 75) (v := (.int .i64 x44)) rfl rfl rfl (fun dr => r_load1 Tryd.isAgg3 rfl e45) ?_
        refine s_pu (d := some 76) (v := (.pointer vr3)) rfl rfl rfl (r_move rfl) ?_
        obtain ⟨p46, e47, H⟩ := H
        refine s_pu (d := some 77) (v := (.pointer (some p46))) rfl rfl rfl (r_nilCheck rfl e47) ?_
        refine s_pu (d := some 78) (v := (.pointer (some (Addr.add p46 5)))) rfl rfl rfl (r_fieldAddr Tryd.underlying197 Tryd.sizeOf134 rfl rfl rfl) ?_
        obtain ⟨x48, e49, H⟩ := H
        refine s_rd (d := some 79) (v := (.pointer x48)) rfl rfl rfl (fun dr => r_load1 Tryd.isAgg134 rfl e49) ?_
        refine s_ef (d := some 62) rfl rfl rfl (fun dr => r_callV rfl rfl H) ?_ trivial
        rintro _ h5 ⟨y50, rfl, H⟩
        obtain ⟨e51, H⟩ := H
        obtain ⟨e52, H⟩ := H
        obtain ⟨e53, H⟩ := H
        obtain ⟨e54, H⟩ := H
        refine ⟨⟨(.inl ⟨rfl, fun dr => r_load1 Tryd.isAgg134 rfl e51⟩), (.inl ⟨rfl, fun dr => r_load1 Tryd.isAgg3 rfl e52⟩), (.inl ⟨rfl, fun dr => r_load1 Tryd.isAgg134 rfl e53⟩), (.inl ⟨rfl, fun dr => r_load1 Tryd.isAgg3 rfl e54⟩), trivial, trivial⟩, ?_⟩
        refine s_ef (d := some 80) rfl rfl rfl (fun dr => r_callV rfl rfl H) ?_ trivial
        rintro _ h6 ⟨y55, rfl, H⟩
        obtain ⟨e56, H⟩ := H
        refine ⟨⟨trivial, trivial, trivial, (.inl ⟨rfl, fun dr => r_load1 Tryd.isAgg3 rfl e56⟩), trivial, trivial⟩, ?_⟩
        refine s_ef (d := some 81) rfl rfl rfl (fun dr => r_callV rfl rfl H) ?_ trivial
        rintro _ h7 ⟨y57, rfl, H⟩
        refine ⟨⟨trivial, trivial, trivial, trivial, trivial, trivial⟩, ?_⟩
        refine s_pu (d := some 6) (v := (.pointer y57)) rfl rfl rfl (r_assign rfl) ?_
        refine s_fin ?_
        show W _ _ _ _ _ _ _ _
        refine W_ret ?_
        exact ⟨[(.pointer y57)], ⟨_, _, rfl, rfl, rfl⟩, y57, rfl, H⟩
      · have H := H.2 g133
        refine W_seq ?_
        refine W_set ?_
        intro N63 eN63
        have H := H (fun (x61 : Bool) (h8 : Heap) => ∀ b, N63 [] (mkE [(0, (.pointer l1)), (1, (.int .i64 v2)), (2, (.pointer vr3)), (7, ((.func (.func 151) #[] #[]))), (82, (.bool x61))] b) h8) (by
          intro x61 h8 H b
          rw [eN63]
          show W _ _ _ _ _ _ _ _
          refine W_if x61 rfl (fun g119 => ?_) (fun g119 => ?_)
          · have H := H.1 g119
            refine W_seq ?_
            refine W_draw [0, 0, 2, 6, 14, 0, 32, 96, 224, 0, 0, 1024, 3072, 7168, 0, 0, 65024, 131071, 262143] (.pu 0 (.pu 1 (.pu 2 (.pu 3 (.rd 4 (.pu 5 (.pu 6 (.pu 7 (.rd 8 (.pu 9 (.pu 10 (.pu 11 (.pu 12 (.rd 13 (.pu 14 (.pu 15 (.ef 16 [13] (.ef 17 [4, 8, 13] (.pu 18 .fin) .no) .no))))))))))))))))) (by kernel_rfl) (by kernel_rfl) ?_
            refine s_pu (d := some 100) (v := ((.func (.func 151) #[] #[]))) rfl rfl rfl (r_move rfl) ?_
            refine s_pu (d := some 101) (v := (.pointer l1)) rfl rfl rfl (r_move rfl) ?_
            obtain ⟨p64, e65, H⟩ := H
            refine s_pu (d := some 102) (v := (.pointer (some p64))) rfl rfl rfl (r_nilCheck rfl e65) ?_
            refine s_pu (d := some 103) (v := (.pointer (some (Addr.add p64 4)))) rfl rfl rfl (r_fieldAddr Tryd.underlying197 Tryd.sizeOf134 rfl rfl rfl) ?_
            obtain ⟨x66, e67, H⟩ := H
            refine s_rd (d := some 104) (v := (.pointer x66)) rfl rfl rfl (fun dr => r_load1 Tryd.isAgg134 rfl e67) ?_
            refine s_pu (d := some 105) (v := (.pointer l1)) rfl rfl rfl (r_move rfl) ?_
            obtain ⟨p68, e69, H⟩ := H
            refine s_pu (d := some 106) (v := (.pointer (some p68))) rfl rfl rfl (r_nilCheck rfl e69) ?_
            refine s_pu (d := some 107) (v := (.pointer (some (Addr.add p68 0)))) rfl rfl rfl (r_fieldAddr Tryd.underlying197 Tryd.sizeOf3 rfl rfl rfl) ?_
            obtain ⟨x70, e71, H⟩ := H
            refine s_rd (d := some 108) (v := (.int .i64 x70)) rfl rfl rfl (fun dr => r_load1 Tryd.isAgg3 rfl e71) ?_
            refine s_pu (d := some 109) (v := ((.func (.func 151) #[] #[]))) rfl rfl rfl (r_move rfl) ?_
            refine s_pu (d := some 110) (v := (.pointer l1)) rfl rfl rfl (r_move rfl) ?_
            obtain ⟨p72, e73, H⟩ := H
            refine s_pu (d := some 111) (v := (.pointer (some p72))) rfl rfl rfl (r_nilCheck rfl e73) ?_
            refine s_pu (d := some 112) (v := (.pointer (some (Addr.add p72 5)))) rfl rfl rfl (r_fieldAddr Tryd.underlying197 Tryd.sizeOf134 rfl rfl rfl) ?_
            obtain ⟨x74, e75, H⟩ := H
            refine s_rd (d := some 113) (v := (.pointer x74)) rfl rfl rfl (fun dr => r_load1 Tryd.isAgg134 rfl e75) ?_
            refine s_pu (d := some 114) (v := (.int .i64 v2)) rfl rfl rfl (r_move rfl) ?_
            refine s_pu (d := some 115) (v := (.pointer vr3)) rfl rfl rfl (r_move rfl) ?_
            refine s_ef (d := some 116) rfl rfl rfl (fun dr => r_callV rfl rfl H) ?_ trivial
            rintro _ h9 ⟨y76, rfl, H⟩
            obtain ⟨e77, H⟩ := H
            obtain ⟨e78, H⟩ := H
            refine ⟨⟨trivial, (.inl ⟨rfl, fun dr => r_load1 Tryd.isAgg3 rfl e77⟩), (.inl ⟨rfl, fun dr => r_load1 Tryd.isAgg134 rfl e78⟩), trivial⟩, ?_⟩
            refine s_ef (d := some 117) rfl rfl rfl (fun dr => r_callV rfl rfl H) ?_ trivial
            rintro _ h10 ⟨y79, rfl, H⟩
            refine ⟨⟨trivial, trivial, trivial, trivial⟩, ?_⟩
            refine s_pu (d := some 6) (v := (.pointer y79)) rfl rfl rfl (r_assign rfl) ?_
            refine s_fin ?_
            show W _ _ _ _ _ _ _ _
            refine W_ret ?_
            exact ⟨[(.pointer y79)], ⟨_, _, rfl, rfl, rfl⟩, y79, rfl, H⟩
          · have H := H.2 g119
            refine W_seq ?_
            refine W_region (.pu 0 (.pu 1 (.ef 2 [] (.pu 3 .fin) .no))) rfl rfl ?_
            refine s_pu (d := some 119) (v := (.pointer l1)) rfl rfl rfl (r_move rfl) ?_
            refine s_pu (d := some 120) (v := (.pointer vr3)) rfl rfl rfl (r_move rfl) ?_
            refine s_ef (d := some 121) rfl rfl rfl (fun dr => r_call Tryd.call149 rfl rfl H) ?_ trivial
            rintro _ h11 ⟨y82, rfl, H⟩
            refine ⟨trivial, ?_⟩
            refine s_pu (d := some 118) (v := (.bool y82)) rfl rfl rfl (r_assign rfl) ?_
            refine s_fin ?_
            show W _ _ _ _ _ _ _ _
            refine W_if y82 rfl (fun g118 => ?_) (fun g118 => ?_)
            · have H := H.1 g118
              refine W_seq ?_
              refine W_region (.pu 0 (.pu 1 (.pu 2 (.rl 3 (.pu 4 .fin))))) rfl rfl ?_
              refine s_pu (d := some 122) (v := (.pointer l1)) rfl rfl rfl (r_move rfl) ?_
              obtain ⟨p83, e84, H⟩ := H
              refine s_pu (d := some 123) (v := (.pointer (some p83))) rfl rfl rfl (r_nilCheck rfl e84) ?_
              refine s_pu (d := some 124) (v := (.pointer (some (Addr.add p83 5)))) rfl rfl rfl (r_fieldAddr Tryd.underlying197 Tryd.sizeOf134 rfl rfl rfl) ?_
              obtain ⟨x85, e86, H⟩ := H
              refine s_rl (d := some 125) (v := (.pointer x85)) rfl rfl rfl (fun dr => r_load1 Tryd.isAgg134 rfl e86) ?_
              refine s_pu (d := some 9) (v := (.pointer x85)) rfl rfl rfl (r_assign rfl) ?_
              refine s_fin ?_
              show W _ _ _ _ _ _ _ _
              refine W_seq ?_
              refine W_draw [0, 0, 0, 4, 12, 28, 0, 64, 192, 448, 0, 1024, 3072, 7168, 16382, 0, 32768, 98304, 229376, 0, 0, 1048576, 3145728, 7340032, 0, 0, 66617342, 134217727, 268435455] (.pu 0 (.pu 1 (.pu 2 (.pu 3 (.pu 4 (.rd 5 (.pu 6 (.pu 7 (.pu 8 (.rd 9 (.pu 10 (.pu 11 (.pu 12 (.rd 13 (.pu 15 (.pu 16 (.pu 17 (.rd 18 (.pu 19 (.pu 20 (.pu 21 (.pu 22 (.rd 23 (.pu 24 (.pu 25 (.ef 14 [5, 9, 13] (.ef 26 [5, 9, 13, 23] (.ef 27 [5, 9, 13, 18, 23] (.pu 28 .fin) .no) .no) .no)))))))))))))))))))))))))) (by kernel_rfl) (by kernel_rfl) ?_
              refine s_pu (d := some 126) (v := ((.func (.func 151) #[] #[]))) rfl rfl rfl (r_move rfl) ?_
              refine s_pu (d := some 127) (v := ((.func (.func 151) #[] #[]))) rfl rfl rfl (r_move rfl) ?_
              refine s_pu (d := some 128) (v := (.pointer l1)) rfl rfl rfl (r_move rfl) ?_
              obtain ⟨p87, e88, H⟩ := H
              refine s_pu (d := some 129) (v := (.pointer (some p87))) rfl rfl rfl (r_nilCheck rfl e88) ?_
              refine s_pu (d := some 130) (v := (.pointer (some (Addr.add p87 4)))) rfl rfl rfl (r_fieldAddr Tryd.underlying197 Tryd.sizeOf134 rfl rfl rfl) ?_
              obtain ⟨x89, e90, H⟩ := H
              refine s_rd (d := some 131) (v := (.pointer x89)) rfl rfl rfl (fun dr => r_load1 Tryd.isAgg134 rfl e90) ?_
              refine s_pu (d := some 132) (v := (.pointer l1)) rfl rfl rfl (r_move rfl) ?_
              obtain ⟨p91, e92, H⟩ := H
              refine s_pu (d := some 133) (v := (.pointer (some p91))) rfl rfl rfl (r_nilCheck rfl e92) ?_
              refine s_pu (d := some 134) (v := (.pointer (some (Addr.add p91 0)))) rfl rfl rfl (r_fieldAddr Tryd.underlying197 Tryd.sizeOf3 rfl rfl rfl) ?_
              obtain ⟨x93, e94, H⟩ := H
              refine s_rd (d := some 135) (v := (.int .i64 x93)) rfl rfl rfl (fun dr => r_load1 Tryd.isAgg3 rfl e94) ?_
              refine s_pu (d := some 136) (v := (.pointer x85)) rfl rfl rfl (r_move rfl) ?_
              obtain ⟨p95, e96, H⟩ := H
              refine s_pu (d := some 137) (v := (.pointer (some p95))) rfl rfl rfl (r_nilCheck rfl e96) ?_
              refine s_pu (d := some 138) (v := (.pointer (some (Addr.add p95 4)))) rfl rfl rfl (r_fieldAddr Tryd.underlying197 Tryd.sizeOf134 rfl rfl rfl) ?_
              obtain ⟨x97, e98, H⟩ := H
              refine s_rd (d := some 139) (v := (.pointer x97)) rfl rfl rfl (fun dr => r_load1 Tryd.isAgg134 rfl e98) ?_
              refine s_pu (d := some 141) (v := (.pointer x85)) rfl rfl rfl (r_move rfl) ?_
              obtain ⟨p99, e100, H⟩ := H
              refine s_pu (d := some 142) (v := (.pointer (some p99))) rfl rfl rfl (r_nilCheck rfl e100) ?_
              refine s_pu (d := some 143) (v := (.pointer (some (Addr.add p99 0)))) rfl rfl rfl (r_fieldAddr Tryd.underlying197 Tryd.sizeOf3 rfl rfl rfl) ?_
              obtain ⟨x101, e102, H⟩ := H
              refine s_rd (d := some 144) (v := (.int .i64 x101)) rfl rfl rfl (fun dr => r_load1 Tryd.isAgg3 rfl e102) ?_
              refine s_pu (d := some 145) (v := ((.func (.func 151) #[] #[]))) rfl rfl rfl (r_move rfl) ?_
              refine s_pu (d := some 146) (v := (.pointer x85)) rfl rfl rfl (r_move rfl) ?_
              obtain ⟨p103, e104, H⟩ := H
              refine s_pu (d := some 147) (v := (.pointer (some p103))) rfl rfl rfl (r_nilCheck rfl e104) ?_
              refine s_pu (d := some 148) (v := (.pointer (some (Addr.add p103 5)))) rfl rfl rfl (r_fieldAddr Tryd.underlying197 Tryd.sizeOf134 rfl rfl rfl) ?_
              obtain ⟨x105, e106, H⟩ := H
              refine s_rd (d := some 149) (v := (.pointer x105)) rfl rfl rfl (fun dr => r_load1 Tryd.isAgg134 rfl e106) ?_
              refine s_pu (d := some 150) (v := (.int .i64 v2)) rfl rfl rfl (r_move rfl) ?_
              refine s_pu (d := some 151) (v := (.pointer vr3)) rfl rfl rfl (r_move rfl) ?_
              refine s_ef (d := some 140) rfl rfl rfl (fun dr => r_callV rfl rfl H) ?_ trivial
              rintro _ h12 ⟨y107, rfl, H⟩
              obtain ⟨e108, H⟩ := H
              obtain ⟨e109, H⟩ := H
              refine ⟨⟨(.inl ⟨rfl, fun dr => r_load1 Tryd.isAgg134 rfl e108⟩), (.inl ⟨rfl, fun dr => r_load1 Tryd.isAgg3 rfl e109⟩), trivial, trivial, trivial, trivial⟩, ?_⟩
              refine s_ef (d := some 152) rfl rfl rfl (fun dr => r_callV rfl rfl H) ?_ trivial
              rintro _ h13 ⟨y110, rfl, H⟩
              obtain ⟨e111, H⟩ := H
              refine ⟨⟨trivial, (.inl ⟨rfl, fun dr => r_load1 Tryd.isAgg3 rfl e111⟩), trivial, trivial, trivial, trivial⟩, ?_⟩
              refine s_ef (d := some 153) rfl rfl rfl (fun dr => r_callV rfl rfl H) ?_ trivial
              rintro _ h14 ⟨y112, rfl, H⟩
              refine ⟨⟨trivial, trivial, trivial, trivial, trivial, trivial⟩, ?_⟩
              refine s_pu (d := some 6) (v := (.pointer y112)) rfl rfl rfl (r_assign rfl) ?_
              refine s_fin ?_
              show W _ _ _ _ _ _ _ _
              refine W_ret ?_
              exact ⟨[(.pointer y112)], ⟨_, _, rfl, rfl, rfl⟩, y112, rfl, H⟩
            · have H := H.2 g118
              refine W_skip ?_
              show W _ _ _ _ _ _ _ _
              refine W_seq ?_
              refine W_region (.pu 0 (.pu 1 (.pu 2 (.pu 3 (.ef 4 [] (.pu 5 .fin) .no))))) rfl rfl ?_
              refine s_pu (d := some 154) (v := ((.func (.func 151) #[] #[]))) rfl rfl rfl (r_move rfl) ?_
              refine s_pu (d := some 155) (v := (.pointer l1)) rfl rfl rfl (r_move rfl) ?_
              refine s_pu (d := some 156) (v := (.int .i64 v2)) rfl rfl rfl (r_move rfl) ?_
              refine s_pu (d := some 157) (v := (.pointer vr3)) rfl rfl rfl (r_move rfl) ?_
              refine s_ef (d := some 158) rfl rfl rfl (fun dr => r_callV rfl rfl H) ?_ trivial
              rintro _ h15 ⟨y116, rfl, H⟩
              refine ⟨trivial, ?_⟩
              refine s_pu (d := some 6) (v := (.pointer y116)) rfl rfl rfl (r_assign rfl) ?_
              refine s_fin ?_
              show W _ _ _ _ _ _ _ _
              refine W_ret ?_
              exact ⟨[(.pointer y116)], ⟨_, _, rfl, rfl, rfl⟩, y116, rfl, H⟩)
        clear eN63
        refine W_draw [0, 0, 3, 7, 15, 31, 63, 127, 255, 15, 527, 1551, 3599, 8191, 16383, 32767, 65535, 131071] (.pu 0 (.pu 1 (.ef 2 [] (.pu 3 (.pu 4 (.pu 5 (.pu 6 (.rd 7 (.pu 9 (.pu 10 (.pu 11 (.rd 12 (.ef 8 [7] (.ef 13 [7, 12] (.pu 14 (.pu 15 (.pu 16 (.pu 17 .fin)))) .no) .no)))))))))) .no))) (by kernel_rfl) (by kernel_rfl) ?_
        refine s_pu (d := some 83) (v := (.pointer l1)) rfl rfl rfl (r_move rfl) ?_
        refine s_pu (d := some 84) (v := (.pointer vr3)) rfl rfl rfl (r_move rfl) ?_
        refine s_ef (d := some 85) rfl rfl rfl (fun dr => r_call Tryd.call149 rfl rfl H) ?_ trivial
        rintro _ h16 ⟨y120, rfl, H⟩
        refine ⟨trivial, ?_⟩
        refine s_pu (d := some 86) (v := (.bool y120)) rfl rfl rfl (r_move rfl) ?_
        rcases Bool.eq_false_or_eq_true y120 with g121 | g121
        · have H := H.1 g121
          refine s_pu (d := some 87) (v := (.pointer l1)) rfl rfl (wants_yes rfl rfl rfl rfl g121) (r_move rfl) ?_
          obtain ⟨p122, e123, H⟩ := H
          refine s_pu (d := some 88) (v := (.pointer (some p122))) rfl rfl (wants_yes rfl rfl rfl rfl g121) (r_nilCheck rfl e123) ?_
          refine s_pu (d := some 89) (v := (.pointer (some (Addr.add p122 5)))) rfl rfl (wants_yes rfl rfl rfl rfl g121) (r_fieldAddr Tryd.underlying197 Tryd.sizeOf134 rfl rfl rfl) ?_
          obtain ⟨x124, e125, H⟩ := H
          refine s_rd (d := some 90) (v := (.pointer x124)) rfl rfl (wants_yes rfl rfl rfl rfl g121) (fun dr => r_load1 Tryd.isAgg134 rfl e125) ?_
          refine s_pu (d := some 92) (v := (.pointer l1)) rfl rfl (wants_yes rfl rfl rfl rfl g121) (r_move rfl) ?_
          obtain ⟨p126, e127, H⟩ := H
          refine s_pu (d := some 93) (v := (.pointer (some p126))) rfl rfl (wants_yes rfl rfl rfl rfl g121) (r_nilCheck rfl e127) ?_
          refine s_pu (d := some 94) (v := (.pointer (some (Addr.add p126 4)))) rfl rfl (wants_yes rfl rfl rfl rfl g121) (r_fieldAddr Tryd.underlying197 Tryd.sizeOf134 rfl rfl rfl) ?_
          obtain ⟨x128, e129, H⟩ := H
          refine s_rd (d := some 95) (v := (.pointer x128)) rfl rfl (wants_yes rfl rfl rfl rfl g121) (fun dr => r_load1 Tryd.isAgg134 rfl e129) ?_
          refine s_ef (d := some 91) rfl rfl (wants_yes rfl rfl rfl rfl g121) (fun dr => r_call Tryd.call152 rfl rfl H) ?_ trivial
          rintro _ h17 ⟨y130, rfl, H⟩
          obtain ⟨e131, H⟩ := H
          refine ⟨⟨(.inl ⟨(wants_yes rfl rfl rfl rfl g121), fun dr => r_load1 Tryd.isAgg134 rfl e131⟩), trivial, trivial⟩, ?_⟩
          refine s_ef (d := some 96) rfl rfl (wants_yes rfl rfl rfl rfl g121) (fun dr => r_call Tryd.call152 rfl rfl H) ?_ trivial
          rintro _ h18 ⟨y132, rfl, H⟩
          refine ⟨⟨trivial, trivial, trivial⟩, ?_⟩
          refine s_pu (d := some 97) (v := (.int .i64 (w64 (2 * y132)))) rfl rfl (wants_yes rfl rfl rfl rfl g121) (r_mul rfl rfl) ?_
          refine s_pu (d := some 98) (v := (.bool (decide (y130 < (w64 (2 * y132)))))) rfl rfl (wants_yes rfl rfl rfl rfl g121) (r_lss rfl rfl) ?_
          refine s_pu (d := some 99) (v := (.bool (decide (y130 < (w64 (2 * y132)))))) rfl rfl rfl (r_pick1 rfl g121 rfl) ?_
          refine s_pu (d := some 82) (v := (.bool (decide (y130 < (w64 (2 * y132)))))) rfl rfl rfl (r_assign rfl) ?_
          refine s_fin ?_
          exact N_mk (l := [(0, (.pointer l1)), (1, (.int .i64 v2)), (2, (.pointer vr3)), (7, ((.func (.func 151) #[] #[]))), (82, (.bool (decide (y130 < (w64 (2 * y132))))))]) H ⟨rfl, rfl, rfl, rfl, rfl, trivial⟩
        · have H := H.2 g121
          refine s_sk (d := some 87) rfl rfl (wants_no rfl rfl rfl rfl g121) ?_
          refine s_sk (d := some 88) rfl rfl (wants_no rfl rfl rfl rfl g121) ?_
          refine s_sk (d := some 89) rfl rfl (wants_no rfl rfl rfl rfl g121) ?_
          refine s_skd (d := some 90) rfl rfl (wants_no rfl rfl rfl rfl g121) ?_
          refine s_sk (d := some 92) rfl rfl (wants_no rfl rfl rfl rfl g121) ?_
          refine s_sk (d := some 93) rfl rfl (wants_no rfl rfl rfl rfl g121) ?_
          refine s_sk (d := some 94) rfl rfl (wants_no rfl rfl rfl rfl g121) ?_
          refine s_skd (d := some 95) rfl rfl (wants_no rfl rfl rfl rfl g121) ?_
          refine s_skf (d := some 91) rfl rfl (wants_no rfl rfl rfl rfl g121) ⟨(.inr ⟨wants_no rfl rfl rfl rfl g121, rfl⟩), trivial, trivial⟩ ?_ trivial
          refine s_skf (d := some 96) rfl rfl (wants_no rfl rfl rfl rfl g121) ⟨trivial, trivial, trivial⟩ ?_ trivial
          refine s_sk (d := some 97) rfl rfl (wants_no rfl rfl rfl rfl g121) ?_
          refine s_sk (d := some 98) rfl rfl (wants_no rfl rfl rfl rfl g121) ?_
          refine s_pu (d := some 99) (v := (.bool false)) rfl rfl rfl (r_pick0 rfl g121 rfl) ?_
          refine s_pu (d := some 82) (v := (.bool false)) rfl rfl rfl (r_assign rfl) ?_
          refine s_fin ?_
          exact N_mk (l := [(0, (.pointer l1)), (1, (.int .i64 v2)), (2, (.pointer vr3)), (7, ((.func (.func 151) #[] #[]))), (82, (.bool false))]) H ⟨rfl, rfl, rfl, rfl, rfl, trivial⟩)
  clear eN6
  refine W_draw [0, 0, 3, 7, 15, 31, 63, 127, 255, 15, 527, 1551, 3599, 8191, 16383, 32767, 65535, 131071] (.pu 0 (.pu 1 (.ef 2 [] (.pu 3 (.pu 4 (.pu 5 (.pu 6 (.rd 7 (.pu 9 (.pu 10 (.pu 11 (.rd 12 (.ef 8 [7] (.ef 13 [7, 12] (.pu 14 (.pu 15 (.pu 16 (.pu 17 .fin)))) .no) .no)))))))))) .no))) (by kernel_rfl) (by kernel_rfl) ?_
  refine s_pu (d := some 11) (v := (.pointer vr3)) rfl rfl rfl (r_move rfl) ?_
  refine s_pu (d := some 12) (v := (.pointer l1)) rfl rfl rfl (r_move rfl) ?_
  refine s_ef (d := some 13) rfl rfl rfl (fun dr => r_call Tryd.call149 rfl rfl H) ?_ trivial
  rintro _ h19 ⟨y135, rfl, H⟩
  refine ⟨trivial, ?_⟩
  refine s_pu (d := some 14) (v := (.bool y135)) rfl rfl rfl (r_move rfl) ?_
  rcases Bool.eq_false_or_eq_true y135 with g136 | g136
  · have H := H.1 g136
    refine s_pu (d := some 15) (v := (.pointer vr3)) rfl rfl (wants_yes rfl rfl rfl rfl g136) (r_move rfl) ?_
    obtain ⟨p137, e138, H⟩ := H
    refine s_pu (d := some 16) (v := (.pointer (some p137))) rfl rfl (wants_yes rfl rfl rfl rfl g136) (r_nilCheck rfl e138) ?_
    refine s_pu (d := some 17) (v := (.pointer (some (Addr.add p137 4)))) rfl rfl (wants_yes rfl rfl rfl rfl g136) (r_fieldAddr Tryd.underlying197 Tryd.sizeOf134 rfl rfl rfl) ?_
    obtain ⟨x139, e140, H⟩ := H
    refine s_rd (d := some 18) (v := (.pointer x139)) rfl rfl (wants_yes rfl rfl rfl rfl g136) (fun dr => r_load1 Tryd.isAgg134 rfl e140) ?_
    refine s_pu (d := some 20) (v := (.pointer vr3)) rfl rfl (wants_yes rfl rfl rfl rfl g136) (r_move rfl) ?_
    obtain ⟨p141, e142, H⟩ := H
    refine s_pu (d := some 21) (v := (.pointer (some p141))) rfl rfl (wants_yes rfl rfl rfl rfl g136) (r_nilCheck rfl e142) ?_
    refine s_pu (d := some 22) (v := (.pointer (some (Addr.add p141 5)))) rfl rfl (wants_yes rfl rfl rfl rfl g136) (r_fieldAddr Tryd.underlying197 Tryd.sizeOf134 rfl rfl rfl) ?_
    obtain ⟨x143, e144, H⟩ := H
    refine s_rd (d := some 23) (v := (.pointer x143)) rfl rfl (wants_yes rfl rfl rfl rfl g136) (fun dr => r_load1 Tryd.isAgg134 rfl e144) ?_
    refine s_ef (d := some 19) rfl rfl (wants_yes rfl rfl rfl rfl g136) (fun dr => r_call Tryd.call152 rfl rfl H) ?_ trivial
    rintro _ h20 ⟨y145, rfl, H⟩
    obtain ⟨e146, H⟩ := H
    refine ⟨⟨(.inl ⟨(wants_yes rfl rfl rfl rfl g136), fun dr => r_load1 Tryd.isAgg134 rfl e146⟩), trivial, trivial⟩, ?_⟩
    refine s_ef (d := some 24) rfl rfl (wants_yes rfl rfl rfl rfl g136) (fun dr => r_call Tryd.call152 rfl rfl H) ?_ trivial
    rintro _ h21 ⟨y147, rfl, H⟩
    refine ⟨⟨trivial, trivial, trivial⟩, ?_⟩
    refine s_pu (d := some 25) (v := (.int .i64 (w64 (2 * y147)))) rfl rfl (wants_yes rfl rfl rfl rfl g136) (r_mul rfl rfl) ?_
    refine s_pu (d := some 26) (v := (.bool (decide (y145 < (w64 (2 * y147)))))) rfl rfl (wants_yes rfl rfl rfl rfl g136) (r_lss rfl rfl) ?_
    refine s_pu (d := some 27) (v := (.bool (decide (y145 < (w64 (2 * y147)))))) rfl rfl rfl (r_pick1 rfl g136 rfl) ?_
    refine s_pu (d := some 10) (v := (.bool (decide (y145 < (w64 (2 * y147)))))) rfl rfl rfl (r_assign rfl) ?_
    refine s_fin ?_
    exact N_mk (l := [(0, (.pointer l1)), (1, (.int .i64 v2)), (2, (.pointer vr3)), (7, ((.func (.func 151) #[] #[]))), (10, (.bool (decide (y145 < (w64 (2 * y147))))))]) H ⟨rfl, rfl, rfl, rfl, rfl, trivial⟩
  · have H := H.2 g136
    refine s_sk (d := some 15) rfl rfl (wants_no rfl rfl rfl rfl g136) ?_
    refine s_sk (d := some 16) rfl rfl (wants_no rfl rfl rfl rfl g136) ?_
    refine s_sk (d := some 17) rfl rfl (wants_no rfl rfl rfl rfl g136) ?_
    refine s_skd (d := some 18) rfl rfl (wants_no rfl rfl rfl rfl g136) ?_
    refine s_sk (d := some 20) rfl rfl (wants_no rfl rfl rfl rfl g136) ?_
    refine s_sk (d := some 21) rfl rfl (wants_no rfl rfl rfl rfl g136) ?_
    refine s_sk (d := some 22) rfl rfl (wants_no rfl rfl rfl rfl g136) ?_
    refine s_skd (d := some 23) rfl rfl (wants_no rfl rfl rfl rfl g136) ?_
    refine s_skf (d := some 19) rfl rfl (wants_no rfl rfl rfl rfl g136) ⟨(.inr ⟨wants_no rfl rfl rfl rfl g136, rfl⟩), trivial, trivial⟩ ?_ trivial
    refine s_skf (d := some 24) rfl rfl (wants_no rfl rfl rfl rfl g136) ⟨trivial, trivial, trivial⟩ ?_ trivial
    refine s_sk (d := some 25) rfl rfl (wants_no rfl rfl rfl rfl g136) ?_
    refine s_sk (d := some 26) rfl rfl (wants_no rfl rfl rfl rfl g136) ?_
    refine s_pu (d := some 27) (v := (.bool false)) rfl rfl rfl (r_pick0 rfl g136 rfl) ?_
    refine s_pu (d := some 10) (v := (.bool false)) rfl rfl rfl (r_assign rfl) ?_
    refine s_fin ?_
    exact N_mk (l := [(0, (.pointer l1)), (1, (.int .i64 v2)), (2, (.pointer vr3)), (7, ((.func (.func 151) #[] #[]))), (10, (.bool false))]) H ⟨rfl, rfl, rfl, rfl, rfl, trivial⟩

/-! ### finger_link_int_ord_last_ord_lasts -/

def finger_link_int_ord_last_ord_lasts_F (r : World) (l1 : Option Addr) (v2 : Int) (vr3 : Option Addr) (h : Heap) (R : Option Addr → Heap → Prop) : Prop :=
  finger_heavy_int_ord_last r vr3 l1 h fun y4 h1 =>
  Br y4 (
    Ck vr3 fun p5 =>
    LdP h1 (Addr.add p5 4) fun x7 =>
    Ck vr3 fun p9 =>
    LdI h1 (Addr.add p9 0) fun x11 =>
    Ck vr3 fun p13 =>
    LdP h1 (Addr.add p13 5) fun x15 =>
    finger_link_int_ord_last_ord_lasts r l1 v2 x7 h1 fun y17 h2 =>
    (hcell h2 (Addr.add p13 5) = some (.pointer x15)) ∧
    (hcell h2 (Addr.add p9 0) = some (.int .i64 x11)) ∧
    finger_even_int_ord_last_ord_lasts r y17 x11 x15 h2 fun y20 h3 =>
    R y20 h3) (
    finger_heavy_int_ord_last r l1 vr3 h1 fun y21 h4 =>
    Br y21 (
      Ck l1 fun p22 =>
      LdP h4 (Addr.add p22 4) fun x24 =>
      Ck l1 fun p26 =>
      LdI h4 (Addr.add p26 0) fun x28 =>
      Ck l1 fun p30 =>
      LdP h4 (Addr.add p30 5) fun x32 =>
      finger_link_int_ord_last_ord_lasts r x32 v2 vr3 h4 fun y34 h5 =>
      (hcell h5 (Addr.add p26 0) = some (.int .i64 x28)) ∧
      (hcell h5 (Addr.add p22 4) = some (.pointer x24)) ∧
      finger_even_int_ord_last_ord_lasts r x24 x28 y34 h5 fun y37 h6 =>
      R y37 h6) (
      finger_made_int_ord_last_ord_lasts r l1 v2 vr3 h4 fun y38 h7 =>
      R y38 h7))

set_option maxRecDepth 100000 in
theorem finger_link_int_ord_last_ord_lasts_of {r : World} {l1 : Option Addr} {v2 : Int} {vr3 : Option Addr} {h : Heap} {R : Option Addr → Heap → Prop} (H : finger_link_int_ord_last_ord_lasts_F r l1 v2 vr3 h R) : finger_link_int_ord_last_ord_lasts r l1 v2 vr3 h R := by
  unfold finger_link_int_ord_last_ord_lasts_F at H
  refine calls_of 51 [.tmp 6] Tryd.func142 rfl rfl rfl rfl rfl ?_
  refine W_seq ?_
  refine W_region (.pu 0 .fin) rfl rfl ?_
  refine s_pu (d := some 6) (v := (.pointer none)) rfl rfl rfl (r_assign rfl) ?_
  refine s_fin ?_
  show W _ _ _ _ _ _ _ _
  refine W_seq ?_
  refine W_block ?_
  refine W_seq ?_
  refine W_region (.pu 0 (.pu 1 (.ef 2 [] (.pu 3 .fin) .no))) rfl rfl ?_
  refine s_pu (d := some 8) (v := (.pointer vr3)) rfl rfl rfl (r_move rfl) ?_
  refine s_pu (d := some 9) (v := (.pointer l1)) rfl rfl rfl (r_move rfl) ?_
  refine s_ef (d := some 10) rfl rfl rfl (fun dr => r_call Tryd.call149 rfl rfl H) ?_ trivial
  rintro _ h1 ⟨y4, rfl, H⟩
  refine ⟨trivial, ?_⟩
  refine s_pu (d := some 7) (v := (.bool y4)) rfl rfl rfl (r_assign rfl) ?_
  refine s_fin ?_
  show W _ _ _ _ _ _ _ _
  refine W_if y4 rfl (fun g40 => ?_) (fun g40 => ?_)
  · have H := H.1 g40
    refine W_seq ?_
    refine W_draw [0, 0, 0, 4, 12, 28, 63, 0, 128, 384, 896, 0, 2048, 6144, 14336, 32767, 65535] (.pu 0 (.pu 1 (.pu 2 (.pu 3 (.pu 4 (.rd 5 (.pu 7 (.pu 8 (.pu 9 (.rd 10 (.pu 11 (.pu 12 (.pu 13 (.rd 14 (.ef 6 [5] (.ef 15 [5, 10, 14] (.pu 16 .fin) .no) .no))))))))))))))) (by kernel_rfl) (by kernel_rfl) ?_
    refine s_pu (d := some 11) (v := (.pointer l1)) rfl rfl rfl (r_move rfl) ?_
    refine s_pu (d := some 12) (v := (.int .i64 v2)) rfl rfl rfl (r_move rfl) ?_
    refine s_pu (d := some 13) (v := (.pointer vr3)) rfl rfl rfl (r_move rfl) ?_
    obtain ⟨p5, e6, H⟩ := H
    refine s_pu (d := some 14) (v := (.pointer (some p5))) rfl rfl rfl (r_nilCheck rfl e6) ?_
    refine s_pu (d := some 15) (v := (.pointer (some (Addr.add p5 4)))) rfl rfl rfl (r_fieldAddr Tryd.underlying197 Tryd.sizeOf134 rfl rfl rfl) ?_
    obtain ⟨x7, e8, H⟩ := H
    refine s_rd (d := some 16) (v := (.pointer x7)) rfl rfl rfl (fun dr => r_load1 Tryd.isAgg134 rfl e8) ?_
    refine s_pu (d := some 18) (v := (.pointer vr3)) rfl rfl rfl (r_move rfl) ?_
    obtain ⟨p9, e10, H⟩ := H
    refine s_pu (d := some 19) (v := (.pointer (some p9))) rfl rfl rfl (r_nilCheck rfl e10) ?_
    refine s_pu (d := some 20) (v := (.pointer (some (Addr.add p9 0)))) rfl rfl rfl (r_fieldAddr Tryd.underlying197 Tryd.sizeOf3 rfl rfl rfl) ?_
    obtain ⟨x11, e12, H⟩ := H
    refine s_rd (d := some 21) (v := (.int .i64 x11)) rfl rfl rfl (fun dr => r_load1 Tryd.isAgg3 rfl e12) ?_
    refine s_pu (d := some 22) (v := (.pointer vr3)) rfl rfl rfl (r_move rfl) ?_
    obtain ⟨p13, e14, H⟩ := H
    refine s_pu (d := some 23) (v := (.pointer (some p13))) rfl rfl rfl (r_nilCheck rfl e14) ?_
    refine s_pu (d := some 24) (v := (.pointer (some (Addr.add p13 5)))) rfl rfl rfl (r_fieldAddr Tryd.underlying197 Tryd.sizeOf134 rfl rfl rfl) ?_
    obtain ⟨x15, e16, H⟩ := H
    refine s_rd (d := some 25) (v := (.pointer x15)) rfl rfl rfl (fun dr => r_load1 Tryd.isAgg134 rfl e16) ?_
    refine s_ef (d := some 17) rfl rfl rfl (fun dr => r_call Tryd.call142 rfl rfl H) ?_ trivial
    rintro _ h2 ⟨y17, rfl, H⟩
    obtain ⟨e18, H⟩ := H
    obtain ⟨e19, H⟩ := H
    refine ⟨⟨(.inl ⟨rfl, fun dr => r_load1 Tryd.isAgg134 rfl e18⟩), (.inl ⟨rfl, fun dr => r_load1 Tryd.isAgg3 rfl e19⟩), trivial, trivial⟩, ?_⟩
    refine s_ef (d := some 26) rfl rfl rfl (fun dr => r_call Tryd.call150 rfl rfl H) ?_ trivial
    rintro _ h3 ⟨y20, rfl, H⟩
    refine ⟨⟨trivial, trivial, trivial, trivial⟩, ?_⟩
    refine s_pu (d := some 6) (v := (.pointer y20)) rfl rfl rfl (r_assign rfl) ?_
    refine s_fin ?_
    show W _ _ _ _ _ _ _ _
    refine W_ret ?_
    exact ⟨[(.pointer y20)], ⟨_, _, rfl, rfl, rfl⟩, y20, rfl, H⟩
  · have H := H.2 g40
    refine W_seq ?_
    refine W_region (.pu 0 (.pu 1 (.ef 2 [] (.pu 3 .fin) .no))) rfl rfl ?_
    refine s_pu (d := some 28) (v := (.pointer l1)) rfl rfl rfl (r_move rfl) ?_
    refine s_pu (d := some 29) (v := (.pointer vr3)) rfl rfl rfl (r_move rfl) ?_
    refine s_ef (d := some 30) rfl rfl rfl (fun dr => r_call Tryd.call149 rfl rfl H) ?_ trivial
    rintro _ h4 ⟨y21, rfl, H⟩
    refine ⟨trivial, ?_⟩
    refine s_pu (d := some 27) (v := (.bool y21)) rfl rfl rfl (r_assign rfl) ?_
    refine s_fin ?_
    show W _ _ _ _ _ _ _ _
    refine W_if y21 rfl (fun g39 => ?_) (fun g39 => ?_)
    · have H := H.1 g39
      refine W_seq ?_
      refine W_draw [0, 1, 3, 7, 0, 16, 48, 112, 0, 256, 768, 1792, 0, 0, 16128, 32767, 65535] (.pu 0 (.pu 1 (.pu 2 (.rd 3 (.pu 4 (.pu 5 (.pu 6 (.rd 7 (.pu 8 (.pu 9 (.pu 10 (.rd 11 (.pu 12 (.pu 13 (.ef 14 [11] (.ef 15 [3, 7, 11] (.pu 16 .fin) .no) .no))))))))))))))) (by kernel_rfl) (by kernel_rfl) ?_
      refine s_pu (d := some 31) (v := (.pointer l1)) rfl rfl rfl (r_move rfl) ?_
      obtain ⟨p22, e23, H⟩ := H
      refine s_pu (d := some 32) (v := (.pointer (some p22))) rfl rfl rfl (r_nilCheck rfl e23) ?_
      refine s_pu (d := some 33) (v := (.pointer (some (Addr.add p22 4)))) rfl rfl rfl (r_fieldAddr Tryd.underlying197 Tryd.sizeOf134 rfl rfl rfl) ?_
      obtain ⟨x24, e25, H⟩ := H
      refine s_rd (d := some 34) (v := (.pointer x24)) rfl rfl rfl (fun dr => r_load1 Tryd.isAgg134 rfl e25) ?_
      refine s_pu (d := some 35) (v := (.pointer l1)) rfl rfl rfl (r_move rfl) ?_
      obtain ⟨p26, e27, H⟩ := H
      refine s_pu (d := some 36) (v := (.pointer (some p26))) rfl rfl rfl (r_nilCheck rfl e27) ?_
      refine s_pu (d := some 37) (v := (.pointer (some (Addr.add p26 0)))) rfl rfl rfl (r_fieldAddr Tryd.underlying197 Tryd.sizeOf3 rfl rfl rfl) ?_
      obtain ⟨x28, e29, H⟩ := H
      refine s_rd (d := some 38) (v := (.int .i64 x28)) rfl rfl rfl (fun dr => r_load1 Tryd.isAgg3 rfl e29) ?_
      refine s_pu (d := some 39) (v := (.pointer l1)) rfl rfl rfl (r_move rfl) ?_
      obtain ⟨p30, e31, H⟩ := H
      refine s_pu (d := some 40) (v := (.pointer (some p30))) rfl rfl rfl (r_nilCheck rfl e31) ?_
      refine s_pu (d := some 41) (v := (.pointer (some (Addr.add p30 5)))) rfl rfl rfl (r_fieldAddr Tryd.underlying197 Tryd.sizeOf134 rfl rfl rfl) ?_
      obtain ⟨x32, e33, H⟩ := H
      refine s_rd (d := some 42) (v := (.pointer x32)) rfl rfl rfl (fun dr => r_load1 Tryd.isAgg134 rfl e33) ?_
      refine s_pu (d := some 43) (v := (.int .i64 v2)) rfl rfl rfl (r_move rfl) ?_
      refine s_pu (d := some 44) (v := (.pointer vr3)) rfl rfl rfl (r_move rfl) ?_
      refine s_ef (d := some 45) rfl rfl rfl (fun dr => r_call Tryd.call142 rfl rfl H) ?_ trivial
      rintro _ h5 ⟨y34, rfl, H⟩
      obtain ⟨e35, H⟩ := H
      obtain ⟨e36, H⟩ := H
      refine ⟨⟨trivial, (.inl ⟨rfl, fun dr => r_load1 Tryd.isAgg3 rfl e35⟩), (.inl ⟨rfl, fun dr => r_load1 Tryd.isAgg134 rfl e36⟩), trivial⟩, ?_⟩
      refine s_ef (d := some 46) rfl rfl rfl (fun dr => r_call Tryd.call150 rfl rfl H) ?_ trivial
      rintro _ h6 ⟨y37, rfl, H⟩
      refine ⟨⟨trivial, trivial, trivial, trivial⟩, ?_⟩
      refine s_pu (d := some 6) (v := (.pointer y37)) rfl rfl rfl (r_assign rfl) ?_
      refine s_fin ?_
      show W _ _ _ _ _ _ _ _
      refine W_ret ?_
      exact ⟨[(.pointer y37)], ⟨_, _, rfl, rfl, rfl⟩, y37, rfl, H⟩
    · have H := H.2 g39
      refine W_skip ?_
      show W _ _ _ _ _ _ _ _
      refine W_seq ?_
      refine W_region (.pu 0 (.pu 1 (.pu 2 (.ef 3 [] (.pu 4 .fin) .no)))) rfl rfl ?_
      refine s_pu (d := some 47) (v := (.pointer l1)) rfl rfl rfl (r_move rfl) ?_
      refine s_pu (d := some 48) (v := (.int .i64 v2)) rfl rfl rfl (r_move rfl) ?_
      refine s_pu (d := some 49) (v := (.pointer vr3)) rfl rfl rfl (r_move rfl) ?_
      refine s_ef (d := some 50) rfl rfl rfl (fun dr => r_call Tryd.call151 rfl rfl H) ?_ trivial
      rintro _ h7 ⟨y38, rfl, H⟩
      refine ⟨trivial, ?_⟩
      refine s_pu (d := some 6) (v := (.pointer y38)) rfl rfl rfl (r_assign rfl) ?_
      refine s_fin ?_
      show W _ _ _ _ _ _ _ _
      refine W_ret ?_
      exact ⟨[(.pointer y38)], ⟨_, _, rfl, rfl, rfl⟩, y38, rfl, H⟩

/-! ### finger_split_int_ord_last_ord_lasts -/

def finger_split_int_ord_last_ord_lasts_F (r : World) (t1 : Option Addr) (i2 : Int) (h : Heap) (R : Option Addr → Option Addr → Heap → Prop) : Prop :=
  Br (Option.isNone t1) (
    R none none h) (
    Ck t1 fun p3 =>
    LdP h (Addr.add p3 4) fun x5 =>
    finger_node_int_ord_last_size r x5 h fun y7 h1 =>
    Br (decide (y7 < i2)) (
      Ck t1 fun p8 =>
      LdP h1 (Addr.add p8 5) fun x10 =>
      finger_split_int_ord_last_ord_lasts r x10 (w64 ((w64 (i2 - y7)) - 1)) h1 fun y12 y13 h2 =>
      Ck t1 fun p14 =>
      LdP h2 (Addr.add p14 4) fun x16 =>
      Ck t1 fun p18 =>
      LdI h2 (Addr.add p18 0) fun x20 =>
      finger_link_int_ord_last_ord_lasts r x16 x20 y12 h2 fun y22 h3 =>
      R y22 y13 h3) (
      Ck t1 fun p23 =>
      LdP h1 (Addr.add p23 4) fun x25 =>
      finger_split_int_ord_last_ord_lasts r x25 i2 h1 fun y27 y28 h4 =>
      Ck t1 fun p29 =>
      LdI h4 (Addr.add p29 0) fun x31 =>
      Ck t1 fun p33 =>
      LdP h4 (Addr.add p33 5) fun x35 =>
      finger_link_int_ord_last_ord_lasts r y28 x31 x35 h4 fun y37 h5 =>
      R y27 y37 h5))

set_option maxRecDepth 100000 in
theorem finger_split_int_ord_last_ord_lasts_of {r : World} {t1 : Option Addr} {i2 : Int} {h : Heap} {R : Option Addr → Option Addr → Heap → Prop} (H : finger_split_int_ord_last_ord_lasts_F r t1 i2 h R) : finger_split_int_ord_last_ord_lasts r t1 i2 h R := by
  unfold finger_split_int_ord_last_ord_lasts_F at H
  refine calls_of 64 [.tmp 4, .tmp 5] Tryd.func140 rfl rfl rfl rfl rfl ?_
  refine W_seq ?_
  refine W_region (.pu 0 (.pu 1 .fin)) rfl rfl ?_
  refine s_pu (d := some 4) (v := (.pointer none)) rfl rfl rfl (r_assign rfl) ?_
  refine s_pu (d := some 5) (v := (.pointer none)) rfl rfl rfl (r_assign rfl) ?_
  refine s_fin ?_
  show W _ _ _ _ _ _ _ _
  refine W_seq ?_
  refine W_seq ?_
  refine W_region (.pu 0 (.pu 1 .fin)) rfl rfl ?_
  refine s_pu (d := some 11) (v := (.pointer t1)) rfl rfl rfl (r_move rfl) ?_
  refine s_pu (d := some 12) (v := (.bool (Option.isNone t1))) rfl rfl rfl (r_nilP Tryd.underlying134 rfl rfl) ?_
  refine s_fin ?_
  show W _ _ _ _ _ _ _ _
  refine W_if (Option.isNone t1) rfl (fun g39 => ?_) (fun g39 => ?_)
  · have H := H.1 g39
    refine W_seq ?_
    refine W_region (.pu 0 (.pu 1 .fin)) rfl rfl ?_
    refine s_pu (d := some 4) (v := (.pointer none)) rfl rfl rfl (r_assign rfl) ?_
    refine s_pu (d := some 5) (v := (.pointer none)) rfl rfl rfl (r_assign rfl) ?_
    refine s_fin ?_
    show W _ _ _ _ _ _ _ _
    refine W_ret ?_
    exact ⟨[(.pointer none), (.pointer none)], ⟨_, _, rfl, rfl, ⟨_, _, rfl, rfl, rfl⟩⟩, none, none, rfl, H⟩
  · have H := H.2 g39
    refine W_skip ?_
    show W _ _ _ _ _ _ _ _
    refine W_seq ?_
    refine W_seq ?_
    refine W_region (.pu 0 (.pu 1 (.pu 2 (.rl 3 (.ef 4 [] (.pu 5 .fin) .no))))) rfl rfl ?_
    refine s_pu (d := some 13) (v := (.pointer t1)) rfl rfl rfl (r_move rfl) ?_
    obtain ⟨p3, e4, H⟩ := H
    refine s_pu (d := some 14) (v := (.pointer (some p3))) rfl rfl rfl (r_nilCheck rfl e4) ?_
    refine s_pu (d := some 15) (v := (.pointer (some (Addr.add p3 4)))) rfl rfl rfl (r_fieldAddr Tryd.underlying197 Tryd.sizeOf134 rfl rfl rfl) ?_
    obtain ⟨x5, e6, H⟩ := H
    refine s_rl (d := some 16) (v := (.pointer x5)) rfl rfl rfl (fun dr => r_load1 Tryd.isAgg134 rfl e6) ?_
    refine s_ef (d := some 17) rfl rfl rfl (fun dr => r_call Tryd.call148 rfl rfl H) ?_ trivial
    rintro _ h1 ⟨y7, rfl, H⟩
    refine ⟨trivial, ?_⟩
    refine s_pu (d := some 6) (v := (.int .i64 y7)) rfl rfl rfl (r_assign rfl) ?_
    refine s_fin ?_
    show W _ _ _ _ _ _ _ _
    refine W_seq ?_
    refine W_region (.pu 0 (.pu 1 (.pu 2 .fin))) rfl rfl ?_
    refine s_pu (d := some 18) (v := (.int .i64 i2)) rfl rfl rfl (r_move rfl) ?_
    refine s_pu (d := some 19) (v := (.int .i64 y7)) rfl rfl rfl (r_move rfl) ?_
    refine s_pu (d := some 20) (v := (.bool (decide (y7 < i2)))) rfl rfl rfl (r_gtr rfl rfl) ?_
    refine s_fin ?_
    show W _ _ _ _ _ _ _ _
    refine W_if (decide (y7 < i2)) rfl (fun g38 => ?_) (fun g38 => ?_)
    · have H := H.1 g38
      refine W_seq ?_
      refine W_region (.pu 0 (.pu 1 (.pu 2 (.rl 3 (.pu 4 (.pu 5 (.pu 6 (.pu 7 (.ef 8 [] (.pu 9 (.pu 10 (.pu 11 (.pu 12 (.pu 13 .fin))))) .no))))))))) rfl rfl ?_
      refine s_pu (d := some 22) (v := (.pointer t1)) rfl rfl rfl (r_move rfl) ?_
      obtain ⟨p8, e9, H⟩ := H
      refine s_pu (d := some 23) (v := (.pointer (some p8))) rfl rfl rfl (r_nilCheck rfl e9) ?_
      refine s_pu (d := some 24) (v := (.pointer (some (Addr.add p8 5)))) rfl rfl rfl (r_fieldAddr Tryd.underlying197 Tryd.sizeOf134 rfl rfl rfl) ?_
      obtain ⟨x10, e11, H⟩ := H
      refine s_rl (d := some 25) (v := (.pointer x10)) rfl rfl rfl (fun dr => r_load1 Tryd.isAgg134 rfl e11) ?_
      refine s_pu (d := some 26) (v := (.int .i64 i2)) rfl rfl rfl (r_move rfl) ?_
      refine s_pu (d := some 27) (v := (.int .i64 y7)) rfl rfl rfl (r_move rfl) ?_
      refine s_pu (d := some 28) (v := (.int .i64 (w64 (i2 - y7)))) rfl rfl rfl (r_sub rfl rfl) ?_
      refine s_pu (d := some 29) (v := (.int .i64 (w64 ((w64 (i2 - y7)) - 1)))) rfl rfl rfl (r_sub rfl rfl) ?_
      refine s_ef (d := some 30) rfl rfl rfl (fun dr => r_call Tryd.call140 rfl rfl H) ?_ trivial
      rintro _ h2 ⟨y12, y13, rfl, H⟩
      refine ⟨trivial, ?_⟩
      refine s_pu (d := some 21) (v := (.tuple #[(.pointer y12), (.pointer y13)])) rfl rfl rfl (r_move rfl) ?_
      refine s_pu (d := some 31) (v := (.pointer y12)) rfl rfl rfl (r_extract rfl rfl) ?_
      refine s_pu (d := some 32) (v := (.pointer y13)) rfl rfl rfl (r_extract rfl rfl) ?_
      refine s_pu (d := some 7) (v := (.pointer y12)) rfl rfl rfl (r_assign rfl) ?_
      refine s_pu (d := some 8) (v := (.pointer y13)) rfl rfl rfl (r_assign rfl) ?_
      refine s_fin ?_
      show W _ _ _ _ _ _ _ _
      refine W_seq ?_
      refine W_draw [0, 1, 3, 7, 0, 16, 48, 112, 0, 511, 0, 1023, 4095] (.pu 0 (.pu 1 (.pu 2 (.rd 3 (.pu 4 (.pu 5 (.pu 6 (.rd 7 (.pu 8 (.pu 10 (.ef 9 [3, 7] (.pu 11 (.pu 12 .fin)) .no))))))))))) (by kernel_rfl) (by kernel_rfl) ?_
      refine s_pu (d := some 33) (v := (.pointer t1)) rfl rfl rfl (r_move rfl) ?_
      obtain ⟨p14, e15, H⟩ := H
      refine s_pu (d := some 34) (v := (.pointer (some p14))) rfl rfl rfl (r_nilCheck rfl e15) ?_
      refine s_pu (d := some 35) (v := (.pointer (some (Addr.add p14 4)))) rfl rfl rfl (r_fieldAddr Tryd.underlying197 Tryd.sizeOf134 rfl rfl rfl) ?_
      obtain ⟨x16, e17, H⟩ := H
      refine s_rd (d := some 36) (v := (.pointer x16)) rfl rfl rfl (fun dr => r_load1 Tryd.isAgg134 rfl e17) ?_
      refine s_pu (d := some 37) (v := (.pointer t1)) rfl rfl rfl (r_move rfl) ?_
      obtain ⟨p18, e19, H⟩ := H
      refine s_pu (d := some 38) (v := (.pointer (some p18))) rfl rfl rfl (r_nilCheck rfl e19) ?_
      refine s_pu (d := some 39) (v := (.pointer (some (Addr.add p18 0)))) rfl rfl rfl (r_fieldAddr Tryd.underlying197 Tryd.sizeOf3 rfl rfl rfl) ?_
      obtain ⟨x20, e21, H⟩ := H
      refine s_rd (d := some 40) (v := (.int .i64 x20)) rfl rfl rfl (fun dr => r_load1 Tryd.isAgg3 rfl e21) ?_
      refine s_pu (d := some 41) (v := (.pointer y12)) rfl rfl rfl (r_move rfl) ?_
      refine s_pu (d := some 43) (v := (.pointer y13)) rfl rfl rfl (r_move rfl) ?_
      refine s_ef (d := some 42) rfl rfl rfl (fun dr => r_call Tryd.call142 rfl rfl H) ?_ trivial
      rintro _ h3 ⟨y22, rfl, H⟩
      refine ⟨⟨trivial, trivial, trivial⟩, ?_⟩
      refine s_pu (d := some 4) (v := (.pointer y22)) rfl rfl rfl (r_assign rfl) ?_
      refine s_pu (d := some 5) (v := (.pointer y13)) rfl rfl rfl (r_assign rfl) ?_
      refine s_fin ?_
      show W _ _ _ _ _ _ _ _
      refine W_ret ?_
      exact ⟨[(.pointer y22), (.pointer y13)], ⟨_, _, rfl, rfl, ⟨_, _, rfl, rfl, rfl⟩⟩, y22, y13, rfl, H⟩
    · have H := H.2 g38
      refine W_skip ?_
      show W _ _ _ _ _ _ _ _
      refine W_seq ?_
      refine W_region (.pu 0 (.pu 1 (.pu 2 (.rl 3 (.pu 4 (.ef 5 [] (.pu 6 (.pu 7 (.pu 8 (.pu 9 (.pu 10 .fin))))) .no)))))) rfl rfl ?_
      refine s_pu (d := some 45) (v := (.pointer t1)) rfl rfl rfl (r_move rfl) ?_
      obtain ⟨p23, e24, H⟩ := H
      refine s_pu (d := some 46) (v := (.pointer (some p23))) rfl rfl rfl (r_nilCheck rfl e24) ?_
      refine s_pu (d := some 47) (v := (.pointer (some (Addr.add p23 4)))) rfl rfl rfl (r_fieldAddr Tryd.underlying197 Tryd.sizeOf134 rfl rfl rfl) ?_
      obtain ⟨x25, e26, H⟩ := H
      refine s_rl (d := some 48) (v := (.pointer x25)) rfl rfl rfl (fun dr => r_load1 Tryd.isAgg134 rfl e26) ?_
      refine s_pu (d := some 49) (v := (.int .i64 i2)) rfl rfl rfl (r_move rfl) ?_
      refine s_ef (d := some 50) rfl rfl rfl (fun dr => r_call Tryd.call140 rfl rfl H) ?_ trivial
      rintro _ h4 ⟨y27, y28, rfl, H⟩
      refine ⟨trivial, ?_⟩
      refine s_pu (d := some 44) (v := (.tuple #[(.pointer y27), (.pointer y28)])) rfl rfl rfl (r_move rfl) ?_
      refine s_pu (d := some 51) (v := (.pointer y27)) rfl rfl rfl (r_extract rfl rfl) ?_
      refine s_pu (d := some 52) (v := (.pointer y28)) rfl rfl rfl (r_extract rfl rfl) ?_
      refine s_pu (d := some 9) (v := (.pointer y27)) rfl rfl rfl (r_assign rfl) ?_
      refine s_pu (d := some 10) (v := (.pointer y28)) rfl rfl rfl (r_assign rfl) ?_
      refine s_fin ?_
      show W _ _ _ _ _ _ _ _
      refine W_seq ?_
      refine W_draw [0, 0, 0, 4, 12, 28, 0, 64, 192, 448, 1022, 2047, 4095] (.pu 0 (.pu 1 (.pu 2 (.pu 3 (.pu 4 (.rd 5 (.pu 6 (.pu 7 (.pu 8 (.rd 9 (.ef 10 [5, 9] (.pu 11 (.pu 12 .fin)) .no))))))))))) (by kernel_rfl) (by kernel_rfl) ?_
      refine s_pu (d := some 53) (v := (.pointer y27)) rfl rfl rfl (r_move rfl) ?_
      refine s_pu (d := some 54) (v := (.pointer y28)) rfl rfl rfl (r_move rfl) ?_
      refine s_pu (d := some 55) (v := (.pointer t1)) rfl rfl rfl (r_move rfl) ?_
      obtain ⟨p29, e30, H⟩ := H
      refine s_pu (d := some 56) (v := (.pointer (some p29))) rfl rfl rfl (r_nilCheck rfl e30) ?_
      refine s_pu (d := some 57) (v := (.pointer (some (Addr.add p29 0)))) rfl rfl rfl (r_fieldAddr Tryd.underlying197 Tryd.sizeOf3 rfl rfl rfl) ?_
      obtain ⟨x31, e32, H⟩ := H
      refine s_rd (d := some 58) (v := (.int .i64 x31)) rfl rfl rfl (fun dr => r_load1 Tryd.isAgg3 rfl e32) ?_
      refine s_pu (d := some 59) (v := (.pointer t1)) rfl rfl rfl (r_move rfl) ?_
      obtain ⟨p33, e34, H⟩ := H
      refine s_pu (d := some 60) (v := (.pointer (some p33))) rfl rfl rfl (r_nilCheck rfl e34) ?_
      refine s_pu (d := some 61) (v := (.pointer (some (Addr.add p33 5)))) rfl rfl rfl (r_fieldAddr Tryd.underlying197 Tryd.sizeOf134 rfl rfl rfl) ?_
      obtain ⟨x35, e36, H⟩ := H
      refine s_rd (d := some 62) (v := (.pointer x35)) rfl rfl rfl (fun dr => r_load1 Tryd.isAgg134 rfl e36) ?_
      refine s_ef (d := some 63) rfl rfl rfl (fun dr => r_call Tryd.call142 rfl rfl H) ?_ trivial
      rintro _ h5 ⟨y37, rfl, H⟩
      refine ⟨⟨trivial, trivial, trivial⟩, ?_⟩
      refine s_pu (d := some 4) (v := (.pointer y27)) rfl rfl rfl (r_assign rfl) ?_
      refine s_pu (d := some 5) (v := (.pointer y37)) rfl rfl rfl (r_assign rfl) ?_
      refine s_fin ?_
      show W _ _ _ _ _ _ _ _
      refine W_ret ?_
      exact ⟨[(.pointer y27), (.pointer y37)], ⟨_, _, rfl, rfl, ⟨_, _, rfl, rfl, rfl⟩⟩, y27, y37, rfl, H⟩

/-! ### finger_Many_int_ord_last_ord_lasts_Split -/

def finger_Many_int_ord_last_ord_lasts_Split_F (r : World) (t1 : Option Addr) (i2 : Int) (h : Heap) (R : Option Addr → Option Addr → Heap → Prop) : Prop :=
  New h (.cells #[(.pointer t1)] 136) fun p3 h1 =>
  New h1 (.cells #[(.pointer none)] 136) fun p6 h2 =>
  New h2 (.cells #[(.pointer none)] 136) fun p9 h3 =>
  LdP h3 (Addr.add p3 0) fun x12 =>
  finger_split_int_ord_last_ord_lasts r x12 i2 h3 fun y14 y15 h4 =>
  St h4 p6 1 [(.pointer y14)] fun h5 =>
  St h5 p9 1 [(.pointer y15)] fun h6 =>
  LdP h6 (Addr.add p6 0) fun x20 =>
  LdP h6 (Addr.add p9 0) fun x22 =>
  R x20 x22 h6

set_option maxRecDepth 100000 in
theorem finger_Many_int_ord_last_ord_lasts_Split_of {r : World} {t1 : Option Addr} {i2 : Int} {h : Heap} {R : Option Addr → Option Addr → Heap → Prop} (H : finger_Many_int_ord_last_ord_lasts_Split_F r t1 i2 h R) : finger_Many_int_ord_last_ord_lasts_Split r t1 i2 h R := by
  unfold finger_Many_int_ord_last_ord_lasts_Split_F at H
  refine calls_of 19 [.cell 4 136, .cell 5 136] Tryd.func126 rfl rfl rfl rfl rfl ?_
  refine W_seq ?_
  refine W_region (.ef 0 [] (.ef 1 [] (.ef 2 [] .fin .no) .no) .no) rfl rfl ?_
  obtain ⟨p3, e4⟩ : ∃ p : Addr, p = ⟨h.size, 0, none⟩ := ⟨_, rfl⟩
  obtain ⟨h1, e5⟩ : ∃ hh : Heap, hh = h.push (.cells #[(.pointer t1)] 136) := ⟨_, rfl⟩
  have H := H p3 h1 e4 e5
  refine s_ef1 (d := some 2) (v := (.pointer (some p3))) (h' := h1) rfl rfl rfl (fun dr => (r_box (v := (.agg #[(.pointer t1)])) rfl).trans (by rw [e4, e5]; rfl)) trivial ?_ trivial
  obtain ⟨p6, e7⟩ : ∃ p : Addr, p = ⟨h1.size, 0, none⟩ := ⟨_, rfl⟩
  obtain ⟨h2, e8⟩ : ∃ hh : Heap, hh = h1.push (.cells #[(.pointer none)] 136) := ⟨_, rfl⟩
  have H := H p6 h2 e7 e8
  refine s_ef1 (d := some 4) (v := (.pointer (some p6))) (h' := h2) rfl rfl rfl (fun dr => (r_alloc Tryd.zeroValue136).trans (by rw [e7, e8]; rfl)) trivial ?_ trivial
  obtain ⟨p9, e10⟩ : ∃ p : Addr, p = ⟨h2.size, 0, none⟩ := ⟨_, rfl⟩
  obtain ⟨h3, e11⟩ : ∃ hh : Heap, hh = h2.push (.cells #[(.pointer none)] 136) := ⟨_, rfl⟩
  have H := H p9 h3 e10 e11
  refine s_ef1 (d := some 5) (v := (.pointer (some p9))) (h' := h3) rfl rfl rfl (fun dr => (r_alloc Tryd.zeroValue136).trans (by rw [e10, e11]; rfl)) trivial ?_ trivial
  refine s_fin ?_
  show W _ _ _ _ _ _ _ _
  refine W_seq ?_
  refine W_region (.pu 0 (.rl 1 (.pu 2 (.ef 3 [] (.pu 4 (.pu 5 (.pu 6 (.pu 7 (.pu 8 .fin))))) .no)))) rfl rfl ?_
  refine s_pu (d := some 9) (v := (.pointer (some (Addr.add p3 0)))) rfl rfl rfl (r_fieldAddr Tryd.underlying136 Tryd.sizeOf134 rfl rfl rfl) ?_
  obtain ⟨x12, e13, H⟩ := H
  refine s_rl (d := some 10) (v := (.pointer x12)) rfl rfl rfl (fun dr => r_load1 Tryd.isAgg134 rfl e13) ?_
  refine s_pu (d := some 11) (v := (.int .i64 i2)) rfl rfl rfl (r_move rfl) ?_
  refine s_ef (d := some 12) rfl rfl rfl (fun dr => r_call Tryd.call140 rfl rfl H) ?_ trivial
  rintro _ h4 ⟨y14, y15, rfl, H⟩
  refine ⟨trivial, ?_⟩
  refine s_pu (d := some 8) (v := (.tuple #[(.pointer y14), (.pointer y15)])) rfl rfl rfl (r_move rfl) ?_
  refine s_pu (d := some 13) (v := (.pointer y14)) rfl rfl rfl (r_extract rfl rfl) ?_
  refine s_pu (d := some 14) (v := (.pointer y15)) rfl rfl rfl (r_extract rfl rfl) ?_
  refine s_pu (d := some 6) (v := (.pointer y14)) rfl rfl rfl (r_assign rfl) ?_
  refine s_pu (d := some 7) (v := (.pointer y15)) rfl rfl rfl (r_assign rfl) ?_
  refine s_fin ?_
  show W _ _ _ _ _ _ _ _
  refine W_seq ?_
  refine W_region (.pu 0 (.pu 1 (.pu 2 (.pu 3 (.ef 4 [] (.ef 5 [] .fin .no) .no))))) rfl rfl ?_
  refine s_pu (d := some 15) (v := (.pointer y14)) rfl rfl rfl (r_move rfl) ?_
  refine s_pu (d := some 16) (v := (.agg #[(.pointer y14)])) rfl rfl rfl (fun w => by kernel_rfl) ?_
  refine s_pu (d := some 17) (v := (.pointer y15)) rfl rfl rfl (r_move rfl) ?_
  refine s_pu (d := some 18) (v := (.agg #[(.pointer y15)])) rfl rfl rfl (fun w => by kernel_rfl) ?_
  obtain ⟨e17, H⟩ := H
  obtain ⟨h5, e16⟩ : ∃ hh : Heap, hh = hsets h4 p6 0 [(.pointer y14)] := ⟨_, rfl⟩
  have H := H h5 e16
  refine s_st (d := none) (h' := h5) rfl rfl rfl (fun dr => (r_store (v := (.agg #[(.pointer y14)])) Tryd.sizeOf136 rfl rfl rfl (one_all rfl) e17).trans (by rw [e16]; rfl)) trivial ?_ trivial
  obtain ⟨e19, H⟩ := H
  obtain ⟨h6, e18⟩ : ∃ hh : Heap, hh = hsets h5 p9 0 [(.pointer y15)] := ⟨_, rfl⟩
  have H := H h6 e18
  refine s_st (d := none) (h' := h6) rfl rfl rfl (fun dr => (r_store (v := (.agg #[(.pointer y15)])) Tryd.sizeOf136 rfl rfl rfl (one_all rfl) e19).trans (by rw [e18]; rfl)) trivial ?_ trivial
  refine s_fin ?_
  show W _ _ _ _ _ _ _ _
  refine W_ret ?_
  obtain ⟨x20, e21, H⟩ := H
  obtain ⟨x22, e23, H⟩ := H
  exact ⟨[(.agg #[(.pointer x20)]), (.agg #[(.pointer x22)])], ⟨_, _, _, rfl, rfl, fun dr => run_loadVarN Tryd.isAgg136 Tryd.sizeOf136 (vs := [(.pointer x20)]) rfl ⟨e21, trivial⟩, ⟨_, _, _, rfl, rfl, fun dr => run_loadVarN Tryd.isAgg136 Tryd.sizeOf136 (vs := [(.pointer x22)]) rfl ⟨e23, trivial⟩, rfl⟩⟩, x20, x22, rfl, H⟩

/-! ### finger_Many_int_ord_last_ord_lasts_Insert -/

def finger_Many_int_ord_last_ord_lasts_Insert_F (r : World) (t1 : Option Addr) (i2 : Int) (v3 : Int) (h : Heap) (R : Option Addr → Heap → Prop) : Prop :=
  New h (.cells #[(.pointer t1)] 136) fun p4 h1 =>
  New h1 (.cells #[(.pointer none)] 136) fun p7 h2 =>
  LdP h2 (Addr.add p4 0) fun x10 =>
  finger_split_int_ord_last_ord_lasts r x10 i2 h2 fun y12 y13 h3 =>
  finger_link_int_ord_last_ord_lasts r y12 v3 y13 h3 fun y14 h4 =>
  St h4 p7 1 [(.pointer y14)] fun h5 =>
  LdP h5 (Addr.add p7 0) fun x17 =>
  R x17 h5

set_option maxRecDepth 100000 in
theorem finger_Many_int_ord_last_ord_lasts_Insert_of {r : World} {t1 : Option Addr} {i2 : Int} {v3 : Int} {h : Heap} {R : Option Addr → Heap → Prop} (H : finger_Many_int_ord_last_ord_lasts_Insert_F r t1 i2 v3 h R) : finger_Many_int_ord_last_ord_lasts_Insert r t1 i2 v3 h R := by
  unfold finger_Many_int_ord_last_ord_lasts_Insert_F at H
  refine calls_of 21 [.cell 6 136] Tryd.func128 rfl rfl rfl rfl rfl ?_
  refine W_seq ?_
  refine W_region (.ef 0 [] (.ef 1 [] .fin .no) .no) rfl rfl ?_
  obtain ⟨p4, e5⟩ : ∃ p : Addr, p = ⟨h.size, 0, none⟩ := ⟨_, rfl⟩
  obtain ⟨h1, e6⟩ : ∃ hh : Heap, hh = h.push (.cells #[(.pointer t1)] 136) := ⟨_, rfl⟩
  have H := H p4 h1 e5 e6
  refine s_ef1 (d := some 3) (v := (.pointer (some p4))) (h' := h1) rfl rfl rfl (fun dr => (r_box (v := (.agg #[(.pointer t1)])) rfl).trans (by rw [e5, e6]; rfl)) trivial ?_ trivial
  obtain ⟨p7, e8⟩ : ∃ p : Addr, p = ⟨h1.size, 0, none⟩ := ⟨_, rfl⟩
  obtain ⟨h2, e9⟩ : ∃ hh : Heap, hh = h1.push (.cells #[(.pointer none)] 136) := ⟨_, rfl⟩
  have H := H p7 h2 e8 e9
  refine s_ef1 (d := some 6) (v := (.pointer (some p7))) (h' := h2) rfl rfl rfl (fun dr => (r_alloc Tryd.zeroValue136).trans (by rw [e8, e9]; rfl)) trivial ?_ trivial
  refine s_fin ?_
  show W _ _ _ _ _ _ _ _
  refine W_seq ?_
  refine W_region (.pu 0 (.rl 1 (.pu 2 (.ef 3 [] (.pu 4 (.pu 5 (.pu 6 (.pu 7 (.pu 8 .fin))))) .no)))) rfl rfl ?_
  refine s_pu (d := some 10) (v := (.pointer (some (Addr.add p4 0)))) rfl rfl rfl (r_fieldAddr Tryd.underlying136 Tryd.sizeOf134 rfl rfl rfl) ?_
  obtain ⟨x10, e11, H⟩ := H
  refine s_rl (d := some 11) (v := (.pointer x10)) rfl rfl rfl (fun dr => r_load1 Tryd.isAgg134 rfl e11) ?_
  refine s_pu (d := some 12) (v := (.int .i64 i2)) rfl rfl rfl (r_move rfl) ?_
  refine s_ef (d := some 13) rfl rfl rfl (fun dr => r_call Tryd.call140 rfl rfl H) ?_ trivial
  rintro _ h3 ⟨y12, y13, rfl, H⟩
  refine ⟨trivial, ?_⟩
  refine s_pu (d := some 9) (v := (.tuple #[(.pointer y12), (.pointer y13)])) rfl rfl rfl (r_move rfl) ?_
  refine s_pu (d := some 14) (v := (.pointer y12)) rfl rfl rfl (r_extract rfl rfl) ?_
  refine s_pu (d := some 15) (v := (.pointer y13)) rfl rfl rfl (r_extract rfl rfl) ?_
  refine s_pu (d := some 7) (v := (.pointer y12)) rfl rfl rfl (r_assign rfl) ?_
  refine s_pu (d := some 8) (v := (.pointer y13)) rfl rfl rfl (r_assign rfl) ?_
  refine s_fin ?_
  show W _ _ _ _ _ _ _ _
  refine W_seq ?_
  refine W_region (.pu 0 (.pu 1 (.pu 2 (.ef 3 [] (.pu 4 (.ef 5 [] .fin .no)) .no)))) rfl rfl ?_
  refine s_pu (d := some 16) (v := (.pointer y12)) rfl rfl rfl (r_move rfl) ?_
  refine s_pu (d := some 17) (v := (.int .i64 v3)) rfl rfl rfl (r_move rfl) ?_
  refine s_pu (d := some 18) (v := (.pointer y13)) rfl rfl rfl (r_move rfl) ?_
  refine s_ef (d := some 19) rfl rfl rfl (fun dr => r_call Tryd.call142 rfl rfl H) ?_ trivial
  rintro _ h4 ⟨y14, rfl, H⟩
  refine ⟨trivial, ?_⟩
  refine s_pu (d := some 20) (v := (.agg #[(.pointer y14)])) rfl rfl rfl (fun w => by kernel_rfl) ?_
  obtain ⟨e16, H⟩ := H
  obtain ⟨h5, e15⟩ : ∃ hh : Heap, hh = hsets h4 p7 0 [(.pointer y14)] := ⟨_, rfl⟩
  have H := H h5 e15
  refine s_st (d := none) (h' := h5) rfl rfl rfl (fun dr => (r_store (v := (.agg #[(.pointer y14)])) Tryd.sizeOf136 rfl rfl rfl (one_all rfl) e16).trans (by rw [e15]; rfl)) trivial ?_ trivial
  refine s_fin ?_
  show W _ _ _ _ _ _ _ _
  refine W_ret ?_
  obtain ⟨x17, e18, H⟩ := H
  exact ⟨[(.agg #[(.pointer x17)])], ⟨_, _, _, rfl, rfl, fun dr => run_loadVarN Tryd.isAgg136 Tryd.sizeOf136 (vs := [(.pointer x17)]) rfl ⟨e18, trivial⟩, rfl⟩, x17, rfl, H⟩

/-! ### finger_Many_int_ord_last_ord_lasts_Find -/

def finger_Many_int_ord_last_ord_lasts_Find_F (r : World) (t1 : Option Addr) (p2 : Value) (h : Heap) (R : Int → Heap → Prop) : Prop :=
  New h (.cells #[(.pointer t1)] 136) fun p3 h1 =>
  New h1 (.cells #[] 174) fun p6 h2 =>
  ord_lasts_None r h2 fun y9 y10 h3 =>
  New h3 (.cells #[(.bool false), (.int .i64 0)] 173) fun p11 h4 =>
  St h4 p11 2 [(.bool y9), (.int .i64 y10)] fun h5 =>
  LdP h5 (Addr.add p3 0) fun x16 =>
  ∀ X20 : Int → Option Addr → Heap → Prop, (∀ (va18 : Int) (n19 : Option Addr) (h6 : Heap),
    (Br (!(Option.isNone n19)) (
      ∀ J22 : Addr → Heap → Prop, (∀ (p21 : Addr) (h7 : Heap),
        (LdB h7 (Addr.add p21 0) fun x24 =>
        LdI h7 (Addr.add p21 1) fun x26 =>
        CallV Tryd.prog r p2 [(.agg #[(.bool x24), (.int .i64 x26)])] h7 fun v114 h8 => ∃ (y28 : Bool), v114 = (.bool y28) ∧
        Br y28 (
          Ck n19 fun p29 =>
          LdP h8 (Addr.add p29 4) fun x31 =>
          X20 va18 x31 h8) (
          ∀ J34 : Addr → Heap → Prop, (∀ (p33 : Addr) (h9 : Heap),
            (LdB h9 (Addr.add p33 0) fun x36 =>
            LdI h9 (Addr.add p33 1) fun x38 =>
            CallV Tryd.prog r p2 [(.agg #[(.bool x36), (.int .i64 x38)])] h9 fun v66 h10 => ∃ (y40 : Bool), v66 = (.bool y40) ∧
            Br (!y40) (
              LdB h10 (Addr.add p33 0) fun x41 =>
              LdI h10 (Addr.add p33 1) fun x43 =>
              Ck n19 fun p45 =>
              LdP h10 (Addr.add p45 4) fun x47 =>
              Ck n19 fun p49 =>
              LdP h10 (Addr.add p49 5) fun x51 =>
              finger_node_int_ord_last_size r x47 h10 fun y53 h11 =>
              (hcell h11 (Addr.add p49 5) = some (.pointer x51)) ∧
              (hcell h11 (Addr.add p33 0) = some (.bool x41)) ∧
              (hcell h11 (Addr.add p33 1) = some (.int .i64 x43)) ∧
              St h11 p11 2 [(.bool x41), (.int .i64 x43)] fun h12 =>
              (hcell h12 (Addr.add p49 5) = some (.pointer x51)) ∧
              X20 (w64 ((w64 (va18 + y53)) + 1)) x51 h12) (
              Ck n19 fun p60 =>
              LdP h10 (Addr.add p60 4) fun x62 =>
              finger_node_int_ord_last_size r x62 h10 fun y64 h13 =>
              R (w64 (va18 + y64)) h13)) →
            J34 p33 h9) →
          LdB h8 (Addr.add p21 0) fun x67 =>
          LdI h8 (Addr.add p21 1) fun x69 =>
          Ck n19 fun p71 =>
          LdI h8 (Addr.add p71 0) fun x73 =>
          (ord_lasts_One r x73 h8 fun y75 y76 h14 =>
          (hcell h14 (Addr.add p21 0) = some (.bool x67)) ∧
          (hcell h14 (Addr.add p21 1) = some (.int .i64 x69)) ∧
          (ord_lasts_Join r x67 x69 y75 y76 h14 fun y79 y80 h15 =>
          New h15 (.cells #[(.bool false), (.int .i64 0)] 173) fun p81 h16 =>
          (hcell h16 (Addr.add p71 0) = some (.int .i64 x73)) ∧
          (hcell h16 (Addr.add p21 0) = some (.bool x67)) ∧
          (hcell h16 (Addr.add p21 1) = some (.int .i64 x69)) ∧
          St h16 p81 2 [(.bool y79), (.int .i64 y80)] fun h17 =>
          J34 p81 h17) ∧
          (New h14 (.cells #[(.bool false), (.int .i64 0)] 173) fun p89 h18 =>
          (hcell h18 (Addr.add p71 0) = some (.int .i64 x73)) ∧
          (hcell h18 (Addr.add p21 0) = some (.bool x67)) ∧
          (hcell h18 (Addr.add p21 1) = some (.int .i64 x69)) ∧
          ord_lasts_Join r x67 x69 y75 y76 h18 fun y95 y96 h19 =>
          St h19 p89 2 [(.bool y95), (.int .i64 y96)] fun h20 =>
          J34 p89 h20)) ∧
          (New h8 (.cells #[(.bool false), (.int .i64 0)] 173) fun p99 h21 =>
          (hcell h21 (Addr.add p71 0) = some (.int .i64 x73)) ∧
          (hcell h21 (Addr.add p21 0) = some (.bool x67)) ∧
          (hcell h21 (Addr.add p21 1) = some (.int .i64 x69)) ∧
          ord_lasts_One r x73 h21 fun y105 y106 h22 =>
          (hcell h22 (Addr.add p21 0) = some (.bool x67)) ∧
          (hcell h22 (Addr.add p21 1) = some (.int .i64 x69)) ∧
          ord_lasts_Join r x67 x69 y105 y106 h22 fun y109 y110 h23 =>
          St h23 p99 2 [(.bool y109), (.int .i64 y110)] fun h24 =>
          J34 p99 h24))) →
        J22 p21 h7) →
      LdB h6 (Addr.add p11 0) fun x115 =>
      LdI h6 (Addr.add p11 1) fun x117 =>
      Ck n19 fun p119 =>
      LdP h6 (Addr.add p119 4) fun x121 =>
      (finger_total_int_ord_last_ord_lasts r x121 h6 fun y123 y124 h25 =>
      (hcell h25 (Addr.add p11 0) = some (.bool x115)) ∧
      (hcell h25 (Addr.add p11 1) = some (.int .i64 x117)) ∧
      (ord_lasts_Join r x115 x117 y123 y124 h25 fun y127 y128 h26 =>
      New h26 (.cells #[(.bool false), (.int .i64 0)] 173) fun p129 h27 =>
      (hcell h27 (Addr.add p119 4) = some (.pointer x121)) ∧
      (hcell h27 (Addr.add p11 0) = some (.bool x115)) ∧
      (hcell h27 (Addr.add p11 1) = some (.int .i64 x117)) ∧
      St h27 p129 2 [(.bool y127), (.int .i64 y128)] fun h28 =>
      J22 p129 h28) ∧
      (New h25 (.cells #[(.bool false), (.int .i64 0)] 173) fun p137 h29 =>
      (hcell h29 (Addr.add p119 4) = some (.pointer x121)) ∧
      (hcell h29 (Addr.add p11 0) = some (.bool x115)) ∧
      (hcell h29 (Addr.add p11 1) = some (.int .i64 x117)) ∧
      ord_lasts_Join r x115 x117 y123 y124 h29 fun y143 y144 h30 =>
      St h30 p137 2 [(.bool y143), (.int .i64 y144)] fun h31 =>
      J22 p137 h31)) ∧
      (New h6 (.cells #[(.bool false), (.int .i64 0)] 173) fun p147 h32 =>
      (hcell h32 (Addr.add p119 4) = some (.pointer x121)) ∧
      (hcell h32 (Addr.add p11 0) = some (.bool x115)) ∧
      (hcell h32 (Addr.add p11 1) = some (.int .i64 x117)) ∧
      finger_total_int_ord_last_ord_lasts r x121 h32 fun y153 y154 h33 =>
      (hcell h33 (Addr.add p11 0) = some (.bool x115)) ∧
      (hcell h33 (Addr.add p11 1) = some (.int .i64 x117)) ∧
      ord_lasts_Join r x115 x117 y153 y154 h33 fun y157 y158 h34 =>
      St h34 p147 2 [(.bool y157), (.int .i64 y158)] fun h35 =>
      J22 p147 h35)) (
      R va18 h6)) →
    X20 va18 n19 h6) →
  X20 0 x16 h5

set_option maxRecDepth 100000 in
theorem finger_Many_int_ord_last_ord_lasts_Find_of {r : World} {t1 : Option Addr} {p2 : Value} {h : Heap} {R : Int → Heap → Prop} (H : finger_Many_int_ord_last_ord_lasts_Find_F r t1 p2 h R) : finger_Many_int_ord_last_ord_lasts_Find r t1 p2 h R := by
  unfold finger_Many_int_ord_last_ord_lasts_Find_F at H
  refine calls_of 70 [.tmp 4] Tryd.func137 rfl rfl rfl rfl rfl ?_
  refine W_seq ?_
  refine W_region (.ef 0 [] (.pu 1 .fin) .no) rfl rfl ?_
  obtain ⟨p3, e4⟩ : ∃ p : Addr, p = ⟨h.size, 0, none⟩ := ⟨_, rfl⟩
  obtain ⟨h1, e5⟩ : ∃ hh : Heap, hh = h.push (.cells #[(.pointer t1)] 136) := ⟨_, rfl⟩
  have H := H p3 h1 e4 e5
  refine s_ef1 (d := some 2) (v := (.pointer (some p3))) (h' := h1) rfl rfl rfl (fun dr => (r_box (v := (.agg #[(.pointer t1)])) rfl).trans (by rw [e4, e5]; rfl)) trivial ?_ trivial
  refine s_pu (d := some 4) (v := (.int .i64 0)) rfl rfl rfl (r_assign rfl) ?_
  refine s_fin ?_
  show W _ _ _ _ _ _ _ _
  refine W_seq ?_
  refine W_region (.ef 0 [] .fin .no) rfl rfl ?_
  obtain ⟨p6, e7⟩ : ∃ p : Addr, p = ⟨h1.size, 0, none⟩ := ⟨_, rfl⟩
  obtain ⟨h2, e8⟩ : ∃ hh : Heap, hh = h1.push (.cells #[] 174) := ⟨_, rfl⟩
  have H := H p6 h2 e7 e8
  refine s_ef1 (d := some 5) (v := (.pointer (some p6))) (h' := h2) rfl rfl rfl (fun dr => (r_alloc Tryd.zeroValue174).trans (by rw [e7, e8]; rfl)) trivial ?_ trivial
  refine s_fin ?_
  show W _ _ _ _ _ _ _ _
  refine W_seq ?_
  refine W_region (.pu 0 .fin) rfl rfl ?_
  refine s_pu (d := some 6) (v := (.int .i64 0)) rfl rfl rfl (r_assign rfl) ?_
  refine s_fin ?_
  show W _ _ _ _ _ _ _ _
  refine W_seq ?_
  refine W_region (.rl 0 (.pu 1 (.ef 2 [] (.ef 3 [] (.ef 4 [] .fin .no) .no) .no))) rfl rfl ?_
  refine s_rl (d := some 11) (v := (.agg #[])) rfl rfl rfl (fun dr => r_loadN Tryd.isAgg174 Tryd.sizeOf174 (vs := []) rfl rfl trivial) ?_
  refine s_pu (d := some 12) (v := ((.iface 174 (.agg #[])))) rfl rfl rfl (r_iface Tryd.underlying174 rfl rfl) ?_
  refine s_ef (d := some 13) rfl rfl rfl (fun dr => r_invoke mth_ord_lasts_None rfl rfl H) ?_ trivial
  rintro _ h3 ⟨y9, y10, rfl, H⟩
  refine ⟨trivial, ?_⟩
  obtain ⟨p11, e12⟩ : ∃ p : Addr, p = ⟨h3.size, 0, none⟩ := ⟨_, rfl⟩
  obtain ⟨h4, e13⟩ : ∃ hh : Heap, hh = h3.push (.cells #[(.bool false), (.int .i64 0)] 173) := ⟨_, rfl⟩
  have H := H p11 h4 e12 e13
  refine s_ef1 (d := some 7) (v := (.pointer (some p11))) (h' := h4) rfl rfl rfl (fun dr => (r_alloc Tryd.zeroValue173).trans (by rw [e12, e13]; rfl)) trivial ?_ trivial
  obtain ⟨e15, H⟩ := H
  obtain ⟨h5, e14⟩ : ∃ hh : Heap, hh = hsets h4 p11 0 [(.bool y9), (.int .i64 y10)] := ⟨_, rfl⟩
  have H := H h5 e14
  refine s_st (d := none) (h' := h5) rfl rfl rfl (fun dr => (r_store (v := (.agg #[(.bool y9), (.int .i64 y10)])) Tryd.sizeOf173 rfl rfl rfl (one_all rfl) e15).trans (by rw [e14]; rfl)) trivial ?_ trivial
  refine s_fin ?_
  show W _ _ _ _ _ _ _ _
  refine W_seq ?_
  refine W_seq ?_
  refine W_region (.pu 0 (.rl 1 (.pu 2 .fin))) rfl rfl ?_
  refine s_pu (d := some 14) (v := (.pointer (some (Addr.add p3 0)))) rfl rfl rfl (r_fieldAddr Tryd.underlying136 Tryd.sizeOf134 rfl rfl rfl) ?_
  obtain ⟨x16, e17, H⟩ := H
  refine s_rl (d := some 15) (v := (.pointer x16)) rfl rfl rfl (fun dr => r_load1 Tryd.isAgg134 rfl e17) ?_
  refine s_pu (d := some 8) (v := (.pointer x16)) rfl rfl rfl (r_assign rfl) ?_
  refine s_fin ?_
  show W _ _ _ _ _ _ _ _
  refine W_block ?_
  refine W_loop (WL_mk (l := [(1, p2), (5, (.pointer (some p6))), (6, (.int .i64 0)), (7, (.pointer (some p11))), (8, (.pointer x16))]) ?_ ⟨rfl, rfl, rfl, rfl, rfl, trivial⟩)
  refine H (fun (va18 : Int) (n19 : Option Addr) (h6 : Heap) => ∀ b, WL _ _ _ _ _ _ (mkE [(1, p2), (5, (.pointer (some p6))), (6, (.int .i64 va18)), (7, (.pointer (some p11))), (8, (.pointer n19))] b) h6) ?_
  intro va18 n19 h6 H b
  refine WL_round ?_
  refine W_seq ?_
  refine W_seq ?_
  refine W_region (.pu 0 (.pu 1 .fin)) rfl rfl ?_
  refine s_pu (d := some 16) (v := (.pointer n19)) rfl rfl rfl (r_move rfl) ?_
  refine s_pu (d := some 17) (v := (.bool (!(Option.isNone n19)))) rfl rfl rfl (r_notNilP Tryd.underlying134 rfl rfl) ?_
  refine s_fin ?_
  show W _ _ _ _ _ _ _ _
  refine W_if (!(Option.isNone n19)) rfl (fun g161 => ?_) (fun g161 => ?_)
  · have H := H.1 g161
    refine W_skip ?_
    show W _ _ _ _ _ _ _ _
    refine W_block ?_
    refine W_seq ?_
    refine W_seq ?_
    refine W_set ?_
    intro N23 eN23
    have H := H (fun (p21 : Addr) (h7 : Heap) => ∀ b, N23 [] (mkE [(1, p2), (5, (.pointer (some p6))), (6, (.int .i64 va18)), (7, (.pointer (some p11))), (8, (.pointer n19)), (9, (.pointer (some p21)))] b) h7) (by
      intro p21 h7 H b
      rw [eN23]
      show W _ _ _ _ _ _ _ _
      refine W_seq ?_
      refine W_region (.pu 0 (.rl 1 (.ef 2 [] .fin .no))) rfl rfl ?_
      refine s_pu (d := some 27) (v := p2) rfl rfl rfl (r_move rfl) ?_
      obtain ⟨x24, e25, H⟩ := H
      obtain ⟨x26, e27, H⟩ := H
      refine s_rl (d := some 28) (v := (.agg #[(.bool x24), (.int .i64 x26)])) rfl rfl rfl (fun dr => r_loadN Tryd.isAgg173 Tryd.sizeOf173 (vs := [(.bool x24), (.int .i64 x26)]) rfl rfl ⟨e25, e27, trivial⟩) ?_
      refine s_ef (d := some 29) rfl rfl rfl (fun dr => r_callV rfl rfl H) ?_ trivial
      rintro _ h8 ⟨y28, rfl, H⟩
      refine ⟨trivial, ?_⟩
      refine s_fin ?_
      show W _ _ _ _ _ _ _ _
      refine W_if y28 rfl (fun g113 => ?_) (fun g113 => ?_)
      · have H := H.1 g113
        refine W_seq ?_
        refine W_region (.pu 0 (.pu 1 (.pu 2 (.rl 3 (.pu 4 .fin))))) rfl rfl ?_
        refine s_pu (d := some 30) (v := (.pointer n19)) rfl rfl rfl (r_move rfl) ?_
        obtain ⟨p29, e30, H⟩ := H
        refine s_pu (d := some 31) (v := (.pointer (some p29))) rfl rfl rfl (r_nilCheck rfl e30) ?_
        refine s_pu (d := some 32) (v := (.pointer (some (Addr.add p29 4)))) rfl rfl rfl (r_fieldAddr Tryd.underlying197 Tryd.sizeOf134 rfl rfl rfl) ?_
        obtain ⟨x31, e32, H⟩ := H
        refine s_rl (d := some 33) (v := (.pointer x31)) rfl rfl rfl (fun dr => r_load1 Tryd.isAgg134 rfl e32) ?_
        refine s_pu (d := some 8) (v := (.pointer x31)) rfl rfl rfl (r_assign rfl) ?_
        refine s_fin ?_
        show W _ _ _ _ _ _ _ _
        refine W_exit (inX_here ?_)
        exact WL_mk (l := [(1, p2), (5, (.pointer (some p6))), (6, (.int .i64 va18)), (7, (.pointer (some p11))), (8, (.pointer x31))]) H ⟨rfl, rfl, rfl, rfl, rfl, trivial⟩
      · have H := H.2 g113
        refine W_seq ?_
        refine W_set ?_
        intro N35 eN35
        have H := H (fun (p33 : Addr) (h9 : Heap) => ∀ b, N35 [] (mkE [(1, p2), (5, (.pointer (some p6))), (6, (.int .i64 va18)), (7, (.pointer (some p11))), (8, (.pointer n19)), (10, (.pointer (some p33)))] b) h9) (by
          intro p33 h9 H b
          rw [eN35]
          show W _ _ _ _ _ _ _ _
          refine W_seq ?_
          refine W_region (.pu 0 (.rl 1 (.ef 2 [] (.pu 3 .fin) .no))) rfl rfl ?_
          refine s_pu (d := some 45) (v := p2) rfl rfl rfl (r_move rfl) ?_
          obtain ⟨x36, e37, H⟩ := H
          obtain ⟨x38, e39, H⟩ := H
          refine s_rl (d := some 46) (v := (.agg #[(.bool x36), (.int .i64 x38)])) rfl rfl rfl (fun dr => r_loadN Tryd.isAgg173 Tryd.sizeOf173 (vs := [(.bool x36), (.int .i64 x38)]) rfl rfl ⟨e37, e39, trivial⟩) ?_
          refine s_ef (d := some 47) rfl rfl rfl (fun dr => r_callV rfl rfl H) ?_ trivial
          rintro _ h10 ⟨y40, rfl, H⟩
          refine ⟨trivial, ?_⟩
          refine s_pu (d := some 48) (v := (.bool (!y40))) rfl rfl rfl (r_not rfl) ?_
          refine s_fin ?_
          show W _ _ _ _ _ _ _ _
          refine W_if (!y40) rfl (fun g65 => ?_) (fun g65 => ?_)
          · have H := H.1 g65
            refine W_seq ?_
            refine W_draw [0, 0, 0, 4, 12, 28, 60, 126, 254, 0, 512, 1536, 3584, 125, 8703, 32767] (.rd 0 (.pu 1 (.pu 2 (.pu 3 (.pu 4 (.rd 5 (.pu 9 (.pu 10 (.pu 11 (.rd 12 (.ef 6 [5] (.pu 7 (.pu 8 (.ef 13 [0, 5] (.pu 14 (.pu 15 .fin)) .no))) .no))))))))))) (by kernel_rfl) (by kernel_rfl) ?_
            obtain ⟨x41, e42, H⟩ := H
            obtain ⟨x43, e44, H⟩ := H
            refine s_rd (d := some 49) (v := (.agg #[(.bool x41), (.int .i64 x43)])) rfl rfl rfl (fun dr => r_loadN Tryd.isAgg173 Tryd.sizeOf173 (vs := [(.bool x41), (.int .i64 x43)]) rfl rfl ⟨e42, e44, trivial⟩) ?_
            refine s_pu (d := some 50) (v := (.int .i64 va18)) rfl rfl rfl (r_move rfl) ?_
            refine s_pu (d := some 51) (v := (.pointer n19)) rfl rfl rfl (r_move rfl) ?_
            obtain ⟨p45, e46, H⟩ := H
            refine s_pu (d := some 52) (v := (.pointer (some p45))) rfl rfl rfl (r_nilCheck rfl e46) ?_
            refine s_pu (d := some 53) (v := (.pointer (some (Addr.add p45 4)))) rfl rfl rfl (r_fieldAddr Tryd.underlying197 Tryd.sizeOf134 rfl rfl rfl) ?_
            obtain ⟨x47, e48, H⟩ := H
            refine s_rd (d := some 54) (v := (.pointer x47)) rfl rfl rfl (fun dr => r_load1 Tryd.isAgg134 rfl e48) ?_
            refine s_pu (d := some 58) (v := (.pointer n19)) rfl rfl rfl (r_move rfl) ?_
            obtain ⟨p49, e50, H⟩ := H
            refine s_pu (d := some 59) (v := (.pointer (some p49))) rfl rfl rfl (r_nilCheck rfl e50) ?_
            refine s_pu (d := some 60) (v := (.pointer (some (Addr.add p49 5)))) rfl rfl rfl (r_fieldAddr Tryd.underlying197 Tryd.sizeOf134 rfl rfl rfl) ?_
            obtain ⟨x51, e52, H⟩ := H
            refine s_rd (d := some 61) (v := (.pointer x51)) rfl rfl rfl (fun dr => r_load1 Tryd.isAgg134 rfl e52) ?_
            refine s_ef (d := some 55) rfl rfl rfl (fun dr => r_call Tryd.call148 rfl rfl H) ?_ trivial
            rintro _ h11 ⟨y53, rfl, H⟩
            obtain ⟨e54, H⟩ := H
            obtain ⟨e55, H⟩ := H
            obtain ⟨e56, H⟩ := H
            refine ⟨⟨(.inl ⟨rfl, fun dr => r_load1 Tryd.isAgg134 rfl e54⟩), trivial, (.inl ⟨rfl, fun dr => r_loadN Tryd.isAgg173 Tryd.sizeOf173 (vs := [(.bool x41), (.int .i64 x43)]) rfl rfl ⟨e55, e56, trivial⟩⟩), trivial⟩, ?_⟩
            refine s_pu (d := some 56) (v := (.int .i64 (w64 (va18 + y53)))) rfl rfl rfl (r_add rfl rfl) ?_
            refine s_pu (d := some 57) (v := (.int .i64 (w64 ((w64 (va18 + y53)) + 1)))) rfl rfl rfl (r_add rfl rfl) ?_
            obtain ⟨e58, H⟩ := H
            obtain ⟨h12, e57⟩ : ∃ hh : Heap, hh = hsets h11 p11 0 [(.bool x41), (.int .i64 x43)] := ⟨_, rfl⟩
            have H := H h12 e57
            obtain ⟨e59, H⟩ := H
            refine s_st (d := none) (h' := h12) rfl rfl rfl (fun dr => (r_store (v := (.agg #[(.bool x41), (.int .i64 x43)])) Tryd.sizeOf173 rfl rfl rfl (one_all rfl) e58).trans (by rw [e57]; rfl)) ⟨(.inl ⟨rfl, fun dr => r_load1 Tryd.isAgg134 rfl e59⟩), trivial, trivial, trivial⟩ ?_ trivial
            refine s_pu (d := some 6) (v := (.int .i64 (w64 ((w64 (va18 + y53)) + 1)))) rfl rfl rfl (r_assign rfl) ?_
            refine s_pu (d := some 8) (v := (.pointer x51)) rfl rfl rfl (r_assign rfl) ?_
            refine s_fin ?_
            show W _ _ _ _ _ _ _ _
            refine W_exit (inX_here ?_)
            exact WL_mk (l := [(1, p2), (5, (.pointer (some p6))), (6, (.int .i64 (w64 ((w64 (va18 + y53)) + 1)))), (7, (.pointer (some p11))), (8, (.pointer x51))]) H ⟨rfl, rfl, rfl, rfl, rfl, trivial⟩
          · have H := H.2 g65
            refine W_skip ?_
            show W _ _ _ _ _ _ _ _
            refine W_seq ?_
            refine W_region (.pu 0 (.pu 1 (.pu 2 (.pu 3 (.rl 4 (.ef 5 [] (.pu 6 (.pu 7 .fin)) .no)))))) rfl rfl ?_
            refine s_pu (d := some 62) (v := (.int .i64 va18)) rfl rfl rfl (r_move rfl) ?_
            refine s_pu (d := some 63) (v := (.pointer n19)) rfl rfl rfl (r_move rfl) ?_
            obtain ⟨p60, e61, H⟩ := H
            refine s_pu (d := some 64) (v := (.pointer (some p60))) rfl rfl rfl (r_nilCheck rfl e61) ?_
            refine s_pu (d := some 65) (v := (.pointer (some (Addr.add p60 4)))) rfl rfl rfl (r_fieldAddr Tryd.underlying197 Tryd.sizeOf134 rfl rfl rfl) ?_
            obtain ⟨x62, e63, H⟩ := H
            refine s_rl (d := some 66) (v := (.pointer x62)) rfl rfl rfl (fun dr => r_load1 Tryd.isAgg134 rfl e63) ?_
            refine s_ef (d := some 67) rfl rfl rfl (fun dr => r_call Tryd.call148 rfl rfl H) ?_ trivial
            rintro _ h13 ⟨y64, rfl, H⟩
            refine ⟨trivial, ?_⟩
            refine s_pu (d := some 68) (v := (.int .i64 (w64 (va18 + y64)))) rfl rfl rfl (r_add rfl rfl) ?_
            refine s_pu (d := some 4) (v := (.int .i64 (w64 (va18 + y64)))) rfl rfl rfl (r_assign rfl) ?_
            refine s_fin ?_
            show W _ _ _ _ _ _ _ _
            refine W_ret ?_
            exact ⟨[(.int .i64 (w64 (va18 + y64)))], ⟨_, _, rfl, rfl, rfl⟩, (w64 (va18 + y64)), rfl, H⟩)
        clear eN35
        refine W_draw [0, 1, 0, 0, 8, 0, 32, 96, 224, 504, 1023, 0, 4095] (.rd 0 (.pu 1 (.rd 2 (.rd 3 (.pu 4 (.pu 5 (.pu 6 (.pu 7 (.rd 8 (.ef 9 [3, 8] (.ef 10 [0, 2, 3, 8] (.ef 11 [] (.ef 12 [0, 2, 3, 8] .fin .no) .no) (.ef 11 [] (.ef 10 [0, 2, 3, 8] (.ef 12 [0, 2, 3, 8] .fin .no) .no) .no)) (.ef 11 [] (.ef 9 [3, 8] (.ef 10 [0, 2, 3, 8] (.ef 12 [0, 2, 3, 8] .fin .no) .no) .no) .no))))))))))) (by kernel_rfl) (by kernel_rfl) ?_
        refine s_rd (d := some 34) (v := (.agg #[])) rfl rfl rfl (fun dr => r_loadN Tryd.isAgg174 Tryd.sizeOf174 (vs := []) rfl rfl trivial) ?_
        refine s_pu (d := some 35) (v := ((.iface 174 (.agg #[])))) rfl rfl rfl (r_iface Tryd.underlying174 rfl rfl) ?_
        obtain ⟨x67, e68, H⟩ := H
        obtain ⟨x69, e70, H⟩ := H
        refine s_rd (d := some 36) (v := (.agg #[(.bool x67), (.int .i64 x69)])) rfl rfl rfl (fun dr => r_loadN Tryd.isAgg173 Tryd.sizeOf173 (vs := [(.bool x67), (.int .i64 x69)]) rfl rfl ⟨e68, e70, trivial⟩) ?_
        refine s_rd (d := some 37) (v := (.agg #[])) rfl rfl rfl (fun dr => r_loadN Tryd.isAgg174 Tryd.sizeOf174 (vs := []) rfl rfl trivial) ?_
        refine s_pu (d := some 38) (v := ((.iface 174 (.agg #[])))) rfl rfl rfl (r_iface Tryd.underlying174 rfl rfl) ?_
        refine s_pu (d := some 39) (v := (.pointer n19)) rfl rfl rfl (r_move rfl) ?_
        obtain ⟨p71, e72, H⟩ := H
        refine s_pu (d := some 40) (v := (.pointer (some p71))) rfl rfl rfl (r_nilCheck rfl e72) ?_
        refine s_pu (d := some 41) (v := (.pointer (some (Addr.add p71 0)))) rfl rfl rfl (r_fieldAddr Tryd.underlying197 Tryd.sizeOf3 rfl rfl rfl) ?_
        obtain ⟨x73, e74, H⟩ := H
        refine s_rd (d := some 42) (v := (.int .i64 x73)) rfl rfl rfl (fun dr => r_load1 Tryd.isAgg3 rfl e74) ?_
        refine s_or ?_ ?_
        · have H := H.1
          refine s_ef (d := some 43) rfl rfl rfl (fun dr => r_invoke mth_ord_lasts_One rfl rfl H) ?_ trivial
          rintro _ h14 ⟨y75, y76, rfl, H⟩
          obtain ⟨e77, H⟩ := H
          obtain ⟨e78, H⟩ := H
          refine ⟨⟨trivial, trivial, (.inl ⟨rfl, fun dr => r_loadN Tryd.isAgg173 Tryd.sizeOf173 (vs := [(.bool x67), (.int .i64 x69)]) rfl rfl ⟨e77, e78, trivial⟩⟩), (.inl ⟨rfl, fun dr => r_loadN Tryd.isAgg174 Tryd.sizeOf174 (vs := []) rfl rfl trivial⟩), trivial⟩, ?_⟩
          refine s_or ?_ ?_
          · have H := H.1
            refine s_ef (d := some 44) rfl rfl rfl (fun dr => r_invoke mth_ord_lasts_Join rfl rfl H) ?_ trivial
            rintro _ h15 ⟨y79, y80, rfl, H⟩
            refine ⟨⟨trivial, trivial, trivial, trivial, trivial⟩, ?_⟩
            obtain ⟨p81, e82⟩ : ∃ p : Addr, p = ⟨h15.size, 0, none⟩ := ⟨_, rfl⟩
            obtain ⟨h16, e83⟩ : ∃ hh : Heap, hh = h15.push (.cells #[(.bool false), (.int .i64 0)] 173) := ⟨_, rfl⟩
            have H := H p81 h16 e82 e83
            obtain ⟨e84, H⟩ := H
            obtain ⟨e85, H⟩ := H
            obtain ⟨e86, H⟩ := H
            refine s_ef1 (d := some 10) (v := (.pointer (some p81))) (h' := h16) rfl rfl rfl (fun dr => (r_alloc Tryd.zeroValue173).trans (by rw [e82, e83]; rfl)) ⟨(.inl ⟨rfl, fun dr => r_load1 Tryd.isAgg3 rfl e84⟩), (.inl ⟨rfl, fun dr => r_loadN Tryd.isAgg174 Tryd.sizeOf174 (vs := []) rfl rfl trivial⟩), (.inl ⟨rfl, fun dr => r_loadN Tryd.isAgg173 Tryd.sizeOf173 (vs := [(.bool x67), (.int .i64 x69)]) rfl rfl ⟨e85, e86, trivial⟩⟩), (.inl ⟨rfl, fun dr => r_loadN Tryd.isAgg174 Tryd.sizeOf174 (vs := []) rfl rfl trivial⟩), trivial⟩ ?_ trivial
            obtain ⟨e88, H⟩ := H
            obtain ⟨h17, e87⟩ : ∃ hh : Heap, hh = hsets h16 p81 0 [(.bool y79), (.int .i64 y80)] := ⟨_, rfl⟩
            have H := H h17 e87
            refine s_st (d := none) (h' := h17) rfl rfl rfl (fun dr => (r_store (v := (.agg #[(.bool y79), (.int .i64 y80)])) Tryd.sizeOf173 rfl rfl rfl (one_all rfl) e88).trans (by rw [e87]; rfl)) ⟨trivial, trivial, trivial, trivial, trivial⟩ ?_ trivial
            refine s_fin ?_
            exact N_mk (l := [(1, p2), (5, (.pointer (some p6))), (6, (.int .i64 va18)), (7, (.pointer (some p11))), (8, (.pointer n19)), (10, (.pointer (some p81)))]) H ⟨rfl, rfl, rfl, rfl, rfl, rfl, trivial⟩
          · have H := H.2
            obtain ⟨p89, e90⟩ : ∃ p : Addr, p = ⟨h14.size, 0, none⟩ := ⟨_, rfl⟩
            obtain ⟨h18, e91⟩ : ∃ hh : Heap, hh = h14.push (.cells #[(.bool false), (.int .i64 0)] 173) := ⟨_, rfl⟩
            have H := H p89 h18 e90 e91
            obtain ⟨e92, H⟩ := H
            obtain ⟨e93, H⟩ := H
            obtain ⟨e94, H⟩ := H
            refine s_ef1 (d := some 10) (v := (.pointer (some p89))) (h' := h18) rfl rfl rfl (fun dr => (r_alloc Tryd.zeroValue173).trans (by rw [e90, e91]; rfl)) ⟨(.inl ⟨rfl, fun dr => r_load1 Tryd.isAgg3 rfl e92⟩), (.inl ⟨rfl, fun dr => r_loadN Tryd.isAgg174 Tryd.sizeOf174 (vs := []) rfl rfl trivial⟩), (.inl ⟨rfl, fun dr => r_loadN Tryd.isAgg173 Tryd.sizeOf173 (vs := [(.bool x67), (.int .i64 x69)]) rfl rfl ⟨e93, e94, trivial⟩⟩), (.inl ⟨rfl, fun dr => r_loadN Tryd.isAgg174 Tryd.sizeOf174 (vs := []) rfl rfl trivial⟩), trivial⟩ ?_ trivial
            refine s_ef (d := some 44) rfl rfl rfl (fun dr => r_invoke mth_ord_lasts_Join rfl rfl H) ?_ trivial
            rintro _ h19 ⟨y95, y96, rfl, H⟩
            refine ⟨⟨trivial, trivial, trivial, trivial, trivial⟩, ?_⟩
            obtain ⟨e98, H⟩ := H
            obtain ⟨h20, e97⟩ : ∃ hh : Heap, hh = hsets h19 p89 0 [(.bool y95), (.int .i64 y96)] := ⟨_, rfl⟩
            have H := H h20 e97
            refine s_st (d := none) (h' := h20) rfl rfl rfl (fun dr => (r_store (v := (.agg #[(.bool y95), (.int .i64 y96)])) Tryd.sizeOf173 rfl rfl rfl (one_all rfl) e98).trans (by rw [e97]; rfl)) ⟨trivial, trivial, trivial, trivial, trivial⟩ ?_ trivial
            refine s_fin ?_
            exact N_mk (l := [(1, p2), (5, (.pointer (some p6))), (6, (.int .i64 va18)), (7, (.pointer (some p11))), (8, (.pointer n19)), (10, (.pointer (some p89)))]) H ⟨rfl, rfl, rfl, rfl, rfl, rfl, trivial⟩
        · have H := H.2
          obtain ⟨p99, e100⟩ : ∃ p : Addr, p = ⟨h8.size, 0, none⟩ := ⟨_, rfl⟩
          obtain ⟨h21, e101⟩ : ∃ hh : Heap, hh = h8.push (.cells #[(.bool false), (.int .i64 0)] 173) := ⟨_, rfl⟩
          have H := H p99 h21 e100 e101
          obtain ⟨e102, H⟩ := H
          obtain ⟨e103, H⟩ := H
          obtain ⟨e104, H⟩ := H
          refine s_ef1 (d := some 10) (v := (.pointer (some p99))) (h' := h21) rfl rfl rfl (fun dr => (r_alloc Tryd.zeroValue173).trans (by rw [e100, e101]; rfl)) ⟨(.inl ⟨rfl, fun dr => r_load1 Tryd.isAgg3 rfl e102⟩), (.inl ⟨rfl, fun dr => r_loadN Tryd.isAgg174 Tryd.sizeOf174 (vs := []) rfl rfl trivial⟩), (.inl ⟨rfl, fun dr => r_loadN Tryd.isAgg173 Tryd.sizeOf173 (vs := [(.bool x67), (.int .i64 x69)]) rfl rfl ⟨e103, e104, trivial⟩⟩), (.inl ⟨rfl, fun dr => r_loadN Tryd.isAgg174 Tryd.sizeOf174 (vs := []) rfl rfl trivial⟩), trivial⟩ ?_ trivial
          refine s_ef (d := some 43) rfl rfl rfl (fun dr => r_invoke mth_ord_lasts_One rfl rfl H) ?_ trivial
          rintro _ h22 ⟨y105, y106, rfl, H⟩
          obtain ⟨e107, H⟩ := H
          obtain ⟨e108, H⟩ := H
          refine ⟨⟨trivial, trivial, (.inl ⟨rfl, fun dr => r_loadN Tryd.isAgg173 Tryd.sizeOf173 (vs := [(.bool x67), (.int .i64 x69)]) rfl rfl ⟨e107, e108, trivial⟩⟩), (.inl ⟨rfl, fun dr => r_loadN Tryd.isAgg174 Tryd.sizeOf174 (vs := []) rfl rfl trivial⟩), trivial⟩, ?_⟩
          refine s_ef (d := some 44) rfl rfl rfl (fun dr => r_invoke mth_ord_lasts_Join rfl rfl H) ?_ trivial
          rintro _ h23 ⟨y109, y110, rfl, H⟩
          refine ⟨⟨trivial, trivial, trivial, trivial, trivial⟩, ?_⟩
          obtain ⟨e112, H⟩ := H
          obtain ⟨h24, e111⟩ : ∃ hh : Heap, hh = hsets h23 p99 0 [(.bool y109), (.int .i64 y110)] := ⟨_, rfl⟩
          have H := H h24 e111
          refine s_st (d := none) (h' := h24) rfl rfl rfl (fun dr => (r_store (v := (.agg #[(.bool y109), (.int .i64 y110)])) Tryd.sizeOf173 rfl rfl rfl (one_all rfl) e112).trans (by rw [e111]; rfl)) ⟨trivial, trivial, trivial, trivial, trivial⟩ ?_ trivial
          refine s_fin ?_
          exact N_mk (l := [(1, p2), (5, (.pointer (some p6))), (6, (.int .i64 va18)), (7, (.pointer (some p11))), (8, (.pointer n19)), (10, (.pointer (some p99)))]) H ⟨rfl, rfl, rfl, rfl, rfl, rfl, trivial⟩)
    clear eN23
    refine W_draw [0, 1, 0, 0, 8, 24, 56, 120, 255, 0, 1023] (.rd 0 (.pu 1 (.rd 2 (.pu 3 (.pu 4 (.pu 5 (.rd 6 (.ef 7 [6] (.ef 8 [0, 2, 6] (.ef 9 [] (.ef 10 [0, 2, 6] .fin .no) .no) (.ef 9 [] (.ef 8 [0, 2, 6] (.ef 10 [0, 2, 6] .fin .no) .no) .no)) (.ef 9 [] (.ef 7 [6] (.ef 8 [0, 2, 6] (.ef 10 [0, 2, 6] .fin .no) .no) .no) .no))))))))) (by kernel_rfl) (by kernel_rfl) ?_
    refine s_rd (d := some 18) (v := (.agg #[])) rfl rfl rfl (fun dr => r_loadN Tryd.isAgg174 Tryd.sizeOf174 (vs := []) rfl rfl trivial) ?_
    refine s_pu (d := some 19) (v := ((.iface 174 (.agg #[])))) rfl rfl rfl (r_iface Tryd.underlying174 rfl rfl) ?_
    obtain ⟨x115, e116, H⟩ := H
    obtain ⟨x117, e118, H⟩ := H
    refine s_rd (d := some 20) (v := (.agg #[(.bool x115), (.int .i64 x117)])) rfl rfl rfl (fun dr => r_loadN Tryd.isAgg173 Tryd.sizeOf173 (vs := [(.bool x115), (.int .i64 x117)]) rfl rfl ⟨e116, e118, trivial⟩) ?_
    refine s_pu (d := some 21) (v := (.pointer n19)) rfl rfl rfl (r_move rfl) ?_
    obtain ⟨p119, e120, H⟩ := H
    refine s_pu (d := some 22) (v := (.pointer (some p119))) rfl rfl rfl (r_nilCheck rfl e120) ?_
    refine s_pu (d := some 23) (v := (.pointer (some (Addr.add p119 4)))) rfl rfl rfl (r_fieldAddr Tryd.underlying197 Tryd.sizeOf134 rfl rfl rfl) ?_
    obtain ⟨x121, e122, H⟩ := H
    refine s_rd (d := some 24) (v := (.pointer x121)) rfl rfl rfl (fun dr => r_load1 Tryd.isAgg134 rfl e122) ?_
    refine s_or ?_ ?_
    · have H := H.1
      refine s_ef (d := some 25) rfl rfl rfl (fun dr => r_call Tryd.call147 rfl rfl H) ?_ trivial
      rintro _ h25 ⟨y123, y124, rfl, H⟩
      obtain ⟨e125, H⟩ := H
      obtain ⟨e126, H⟩ := H
      refine ⟨⟨trivial, (.inl ⟨rfl, fun dr => r_loadN Tryd.isAgg173 Tryd.sizeOf173 (vs := [(.bool x115), (.int .i64 x117)]) rfl rfl ⟨e125, e126, trivial⟩⟩), (.inl ⟨rfl, fun dr => r_loadN Tryd.isAgg174 Tryd.sizeOf174 (vs := []) rfl rfl trivial⟩), trivial⟩, ?_⟩
      refine s_or ?_ ?_
      · have H := H.1
        refine s_ef (d := some 26) rfl rfl rfl (fun dr => r_invoke mth_ord_lasts_Join rfl rfl H) ?_ trivial
        rintro _ h26 ⟨y127, y128, rfl, H⟩
        refine ⟨⟨trivial, trivial, trivial, trivial⟩, ?_⟩
        obtain ⟨p129, e130⟩ : ∃ p : Addr, p = ⟨h26.size, 0, none⟩ := ⟨_, rfl⟩
        obtain ⟨h27, e131⟩ : ∃ hh : Heap, hh = h26.push (.cells #[(.bool false), (.int .i64 0)] 173) := ⟨_, rfl⟩
        have H := H p129 h27 e130 e131
        obtain ⟨e132, H⟩ := H
        obtain ⟨e133, H⟩ := H
        obtain ⟨e134, H⟩ := H
        refine s_ef1 (d := some 9) (v := (.pointer (some p129))) (h' := h27) rfl rfl rfl (fun dr => (r_alloc Tryd.zeroValue173).trans (by rw [e130, e131]; rfl)) ⟨(.inl ⟨rfl, fun dr => r_load1 Tryd.isAgg134 rfl e132⟩), (.inl ⟨rfl, fun dr => r_loadN Tryd.isAgg173 Tryd.sizeOf173 (vs := [(.bool x115), (.int .i64 x117)]) rfl rfl ⟨e133, e134, trivial⟩⟩), (.inl ⟨rfl, fun dr => r_loadN Tryd.isAgg174 Tryd.sizeOf174 (vs := []) rfl rfl trivial⟩), trivial⟩ ?_ trivial
        obtain ⟨e136, H⟩ := H
        obtain ⟨h28, e135⟩ : ∃ hh : Heap, hh = hsets h27 p129 0 [(.bool y127), (.int .i64 y128)] := ⟨_, rfl⟩
        have H := H h28 e135
        refine s_st (d := none) (h' := h28) rfl rfl rfl (fun dr => (r_store (v := (.agg #[(.bool y127), (.int .i64 y128)])) Tryd.sizeOf173 rfl rfl rfl (one_all rfl) e136).trans (by rw [e135]; rfl)) ⟨trivial, trivial, trivial, trivial⟩ ?_ trivial
        refine s_fin ?_
        exact N_mk (l := [(1, p2), (5, (.pointer (some p6))), (6, (.int .i64 va18)), (7, (.pointer (some p11))), (8, (.pointer n19)), (9, (.pointer (some p129)))]) H ⟨rfl, rfl, rfl, rfl, rfl, rfl, trivial⟩
      · have H := H.2
        obtain ⟨p137, e138⟩ : ∃ p : Addr, p = ⟨h25.size, 0, none⟩ := ⟨_, rfl⟩
        obtain ⟨h29, e139⟩ : ∃ hh : Heap, hh = h25.push (.cells #[(.bool false), (.int .i64 0)] 173) := ⟨_, rfl⟩
        have H := H p137 h29 e138 e139
        obtain ⟨e140, H⟩ := H
        obtain ⟨e141, H⟩ := H
        obtain ⟨e142, H⟩ := H
        refine s_ef1 (d := some 9) (v := (.pointer (some p137))) (h' := h29) rfl rfl rfl (fun dr => (r_alloc Tryd.zeroValue173).trans (by rw [e138, e139]; rfl)) ⟨(.inl ⟨rfl, fun dr => r_load1 Tryd.isAgg134 rfl e140⟩), (.inl ⟨rfl, fun dr => r_loadN Tryd.isAgg173 Tryd.sizeOf173 (vs := [(.bool x115), (.int .i64 x117)]) rfl rfl ⟨e141, e142, trivial⟩⟩), (.inl ⟨rfl, fun dr => r_loadN Tryd.isAgg174 Tryd.sizeOf174 (vs := []) rfl rfl trivial⟩), trivial⟩ ?_ trivial
        refine s_ef (d := some 26) rfl rfl rfl (fun dr => r_invoke mth_ord_lasts_Join rfl rfl H) ?_ trivial
        rintro _ h30 ⟨y143, y144, rfl, H⟩
        refine ⟨⟨trivial, trivial, trivial, trivial⟩, ?_⟩
        obtain ⟨e146, H⟩ := H
        obtain ⟨h31, e145⟩ : ∃ hh : Heap, hh = hsets h30 p137 0 [(.bool y143), (.int .i64 y144)] := ⟨_, rfl⟩
        have H := H h31 e145
        refine s_st (d := none) (h' := h31) rfl rfl rfl (fun dr => (r_store (v := (.agg #[(.bool y143), (.int .i64 y144)])) Tryd.sizeOf173 rfl rfl rfl (one_all rfl) e146).trans (by rw [e145]; rfl)) ⟨trivial, trivial, trivial, trivial⟩ ?_ trivial
        refine s_fin ?_
        exact N_mk (l := [(1, p2), (5, (.pointer (some p6))), (6, (.int .i64 va18)), (7, (.pointer (some p11))), (8, (.pointer n19)), (9, (.pointer (some p137)))]) H ⟨rfl, rfl, rfl, rfl, rfl, rfl, trivial⟩
    · have H := H.2
      obtain ⟨p147, e148⟩ : ∃ p : Addr, p = ⟨h6.size, 0, none⟩ := ⟨_, rfl⟩
      obtain ⟨h32, e149⟩ : ∃ hh : Heap, hh = h6.push (.cells #[(.bool false), (.int .i64 0)] 173) := ⟨_, rfl⟩
      have H := H p147 h32 e148 e149
      obtain ⟨e150, H⟩ := H
      obtain ⟨e151, H⟩ := H
      obtain ⟨e152, H⟩ := H
      refine s_ef1 (d := some 9) (v := (.pointer (some p147))) (h' := h32) rfl rfl rfl (fun dr => (r_alloc Tryd.zeroValue173).trans (by rw [e148, e149]; rfl)) ⟨(.inl ⟨rfl, fun dr => r_load1 Tryd.isAgg134 rfl e150⟩), (.inl ⟨rfl, fun dr => r_loadN Tryd.isAgg173 Tryd.sizeOf173 (vs := [(.bool x115), (.int .i64 x117)]) rfl rfl ⟨e151, e152, trivial⟩⟩), (.inl ⟨rfl, fun dr => r_loadN Tryd.isAgg174 Tryd.sizeOf174 (vs := []) rfl rfl trivial⟩), trivial⟩ ?_ trivial
      refine s_ef (d := some 25) rfl rfl rfl (fun dr => r_call Tryd.call147 rfl rfl H) ?_ trivial
      rintro _ h33 ⟨y153, y154, rfl, H⟩
      obtain ⟨e155, H⟩ := H
      obtain ⟨e156, H⟩ := H
      refine ⟨⟨trivial, (.inl ⟨rfl, fun dr => r_loadN Tryd.isAgg173 Tryd.sizeOf173 (vs := [(.bool x115), (.int .i64 x117)]) rfl rfl ⟨e155, e156, trivial⟩⟩), (.inl ⟨rfl, fun dr => r_loadN Tryd.isAgg174 Tryd.sizeOf174 (vs := []) rfl rfl trivial⟩), trivial⟩, ?_⟩
      refine s_ef (d := some 26) rfl rfl rfl (fun dr => r_invoke mth_ord_lasts_Join rfl rfl H) ?_ trivial
      rintro _ h34 ⟨y157, y158, rfl, H⟩
      refine ⟨⟨trivial, trivial, trivial, trivial⟩, ?_⟩
      obtain ⟨e160, H⟩ := H
      obtain ⟨h35, e159⟩ : ∃ hh : Heap, hh = hsets h34 p147 0 [(.bool y157), (.int .i64 y158)] := ⟨_, rfl⟩
      have H := H h35 e159
      refine s_st (d := none) (h' := h35) rfl rfl rfl (fun dr => (r_store (v := (.agg #[(.bool y157), (.int .i64 y158)])) Tryd.sizeOf173 rfl rfl rfl (one_all rfl) e160).trans (by rw [e159]; rfl)) ⟨trivial, trivial, trivial, trivial⟩ ?_ trivial
      refine s_fin ?_
      exact N_mk (l := [(1, p2), (5, (.pointer (some p6))), (6, (.int .i64 va18)), (7, (.pointer (some p11))), (8, (.pointer n19)), (9, (.pointer (some p147)))]) H ⟨rfl, rfl, rfl, rfl, rfl, rfl, trivial⟩
  · have H := H.2 g161
    refine W_exit (inX_here ?_)
    show W _ _ _ _ _ _ _ _
    refine W_seq ?_
    refine W_region (.pu 0 (.pu 1 .fin)) rfl rfl ?_
    refine s_pu (d := some 69) (v := (.int .i64 va18)) rfl rfl rfl (r_move rfl) ?_
    refine s_pu (d := some 4) (v := (.int .i64 va18)) rfl rfl rfl (r_assign rfl) ?_
    refine s_fin ?_
    show W _ _ _ _ _ _ _ _
    refine W_ret ?_
    exact ⟨[(.int .i64 va18)], ⟨_, _, rfl, rfl, rfl⟩, va18, rfl, H⟩

/-! ### finger_Many_int_ord_last_ord_lasts_All -/

def finger_Many_int_ord_last_ord_lasts_All_F (r : World) (t1 : Option Addr) (h : Heap) (R : Sl → Heap → Prop) : Prop :=
  New h (.cells #[(.pointer t1)] 136) fun p2 h1 =>
  New h1 (.cells #[(Sl.v Sl.nil)] 22) fun p5 h2 =>
  New h2 (.cells #[.nilFunc] 195) fun p8 h3 =>
  St h3 p8 1 [((.func (.func 141) #[] #[(.pointer (some p8)), (.pointer (some p5))]))] fun h4 =>
  LdV h4 p8 fun x13 =>
  LdP h4 (Addr.add p2 0) fun x15 =>
  CallV Tryd.prog r x13 [(.pointer x15)] h4 fun v19 h5 => v19 = (.tuple #[]) ∧
  LdS h5 p5 fun x17 =>
  R x17 h5

set_option maxRecDepth 100000 in
theorem finger_Many_int_ord_last_ord_lasts_All_of {r : World} {t1 : Option Addr} {h : Heap} {R : Sl → Heap → Prop} (H : finger_Many_int_ord_last_ord_lasts_All_F r t1 h R) : finger_Many_int_ord_last_ord_lasts_All r t1 h R := by
  unfold finger_Many_int_ord_last_ord_lasts_All_F at H
  refine calls_of 11 [.tmp 2] Tryd.func127 rfl rfl rfl rfl rfl ?_
  refine W_seq ?_
  refine W_region (.ef 0 [] (.pu 1 .fin) .no) rfl rfl ?_
  obtain ⟨p2, e3⟩ : ∃ p : Addr, p = ⟨h.size, 0, none⟩ := ⟨_, rfl⟩
  obtain ⟨h1, e4⟩ : ∃ hh : Heap, hh = h.push (.cells #[(.pointer t1)] 136) := ⟨_, rfl⟩
  have H := H p2 h1 e3 e4
  refine s_ef1 (d := some 1) (v := (.pointer (some p2))) (h' := h1) rfl rfl rfl (fun dr => (r_box (v := (.agg #[(.pointer t1)])) rfl).trans (by rw [e3, e4]; rfl)) trivial ?_ trivial
  refine s_pu (d := some 2) (v := (Sl.v Sl.nil)) rfl rfl rfl (r_assign rfl) ?_
  refine s_fin ?_
  show W _ _ _ _ _ _ _ _
  refine W_seq ?_
  refine W_region (.ef 0 [] .fin .no) rfl rfl ?_
  obtain ⟨p5, e6⟩ : ∃ p : Addr, p = ⟨h1.size, 0, none⟩ := ⟨_, rfl⟩
  obtain ⟨h2, e7⟩ : ∃ hh : Heap, hh = h1.push (.cells #[(Sl.v Sl.nil)] 22) := ⟨_, rfl⟩
  have H := H p5 h2 e6 e7
  refine s_ef1 (d := some 3) (v := (.pointer (some p5))) (h' := h2) rfl rfl rfl (fun dr => (r_alloc Tryd.zeroValue22).trans (by rw [e6, e7]; rfl)) trivial ?_ trivial
  refine s_fin ?_
  show W _ _ _ _ _ _ _ _
  refine W_seq ?_
  refine W_region (.ef 0 [] .fin .no) rfl rfl ?_
  obtain ⟨p8, e9⟩ : ∃ p : Addr, p = ⟨h2.size, 0, none⟩ := ⟨_, rfl⟩
  obtain ⟨h3, e10⟩ : ∃ hh : Heap, hh = h2.push (.cells #[.nilFunc] 195) := ⟨_, rfl⟩
  have H := H p8 h3 e9 e10
  refine s_ef1 (d := some 4) (v := (.pointer (some p8))) (h' := h3) rfl rfl rfl (fun dr => (r_alloc Tryd.zeroValue195).trans (by rw [e9, e10]; rfl)) trivial ?_ trivial
  refine s_fin ?_
  show W _ _ _ _ _ _ _ _
  refine W_seq ?_
  refine W_region (.pu 0 (.ef 1 [] .fin .no)) rfl rfl ?_
  refine s_pu (d := some 5) (v := ((.func (.func 141) #[] #[(.pointer (some p8)), (.pointer (some p5))]))) rfl rfl rfl (r_makeFunc rfl rfl) ?_
  obtain ⟨e12, H⟩ := H
  obtain ⟨h4, e11⟩ : ∃ hh : Heap, hh = hsets h3 p8 0 [((.func (.func 141) #[] #[(.pointer (some p8)), (.pointer (some p5))]))] := ⟨_, rfl⟩
  have H := H h4 e11
  refine s_st (d := none) (h' := h4) rfl rfl rfl (fun dr => (r_store (v := ((.func (.func 141) #[] #[(.pointer (some p8)), (.pointer (some p5))]))) Tryd.sizeOf195 rfl rfl rfl (one_all rfl) e12).trans (by rw [e11]; rfl)) trivial ?_ trivial
  refine s_fin ?_
  show W _ _ _ _ _ _ _ _
  refine W_seq ?_
  refine W_region (.rl 0 (.pu 1 (.rl 2 (.ef 3 [] .fin .no)))) rfl rfl ?_
  obtain ⟨x13, e14, H⟩ := H
  refine s_rl (d := some 6) (v := x13) rfl rfl rfl (fun dr => r_load1 Tryd.isAgg195 rfl e14) ?_
  refine s_pu (d := some 7) (v := (.pointer (some (Addr.add p2 0)))) rfl rfl rfl (r_fieldAddr Tryd.underlying136 Tryd.sizeOf134 rfl rfl rfl) ?_
  obtain ⟨x15, e16, H⟩ := H
  refine s_rl (d := some 8) (v := (.pointer x15)) rfl rfl rfl (fun dr => r_load1 Tryd.isAgg134 rfl e16) ?_
  refine s_ef (d := some 9) rfl rfl rfl (fun dr => r_callV rfl rfl H) ?_ trivial
  rintro _ h5 ⟨rfl, H⟩
  refine ⟨trivial, ?_⟩
  refine s_fin ?_
  show W _ _ _ _ _ _ _ _
  refine W_seq ?_
  refine W_region (.rl 0 (.pu 1 .fin)) rfl rfl ?_
  obtain ⟨x17, e18, H⟩ := H
  refine s_rl (d := some 10) (v := (Sl.v x17)) rfl rfl rfl (fun dr => r_load1 Tryd.isAgg22 rfl e18) ?_
  refine s_pu (d := some 2) (v := (Sl.v x17)) rfl rfl rfl (r_assign rfl) ?_
  refine s_fin ?_
  show W _ _ _ _ _ _ _ _
  refine W_ret ?_
  exact ⟨[(Sl.v x17)], ⟨_, _, rfl, rfl, rfl⟩, x17, rfl, H⟩

/-! ### finger_Many_int_ord_last_ord_lasts_All_1 -/

def finger_Many_int_ord_last_ord_lasts_All_1_F (r : World) (n1 : Option Addr) (c2 : Addr) (c3 : Addr) (h : Heap) (R : Heap → Prop) : Prop :=
  Br (!(Option.isNone n1)) (
    LdV h c2 fun x4 =>
    Ck n1 fun p6 =>
    LdP h (Addr.add p6 4) fun x8 =>
    CallV Tryd.prog r x4 [(.pointer x8)] h fun v30 h1 => v30 = (.tuple #[]) ∧
    LdS h1 c3 fun x10 =>
    Ck n1 fun p12 =>
    LdI h1 (Addr.add p12 0) fun x14 =>
    New h1 (.cells #[(.int .i64 x14)] 3) fun p16 h2 =>
    (hcell h2 c3 = some (Sl.v x10)) ∧
    App 3 1 8 (.int .i64 0) x10 ((⟨some p16, 1, 1⟩ : Sl)) h2 fun s20 h3 =>
    St h3 c3 1 [(Sl.v s20)] fun h4 =>
    LdV h4 c2 fun x23 =>
    Ck n1 fun p25 =>
    LdP h4 (Addr.add p25 5) fun x27 =>
    CallV Tryd.prog r x23 [(.pointer x27)] h4 fun v29 h5 => v29 = (.tuple #[]) ∧
    R h5) (
    R h)

set_option maxRecDepth 100000 in
theorem finger_Many_int_ord_last_ord_lasts_All_1_of {r : World} {n1 : Option Addr} {c2 : Addr} {c3 : Addr} {h : Heap} {R : Heap → Prop} (H : finger_Many_int_ord_last_ord_lasts_All_1_F r n1 c2 c3 h R) : finger_Many_int_ord_last_ord_lasts_All_1 r n1 c2 c3 h R := by
  unfold finger_Many_int_ord_last_ord_lasts_All_1_F at H
  refine calls_of 25 [] Tryd.func141 rfl rfl rfl rfl rfl ?_
  refine W_seq ?_
  refine W_region (.pu 0 (.pu 1 .fin)) rfl rfl ?_
  refine s_pu (d := some 4) (v := (.pointer n1)) rfl rfl rfl (r_move rfl) ?_
  refine s_pu (d := some 5) (v := (.bool (!(Option.isNone n1)))) rfl rfl rfl (r_notNilP Tryd.underlying134 rfl rfl) ?_
  refine s_fin ?_
  show W _ _ _ _ _ _ _ _
  refine W_if (!(Option.isNone n1)) rfl (fun g31 => ?_) (fun g31 => ?_)
  · have H := H.1 g31
    refine W_seq ?_
    refine W_draw [0, 0, 2, 6, 14, 31] (.rd 0 (.pu 1 (.pu 2 (.pu 3 (.rd 4 (.ef 5 [0, 4] .fin .no)))))) (by kernel_rfl) (by kernel_rfl) ?_
    obtain ⟨x4, e5, H⟩ := H
    refine s_rd (d := some 6) (v := x4) rfl rfl rfl (fun dr => r_load1 Tryd.isAgg195 rfl e5) ?_
    refine s_pu (d := some 7) (v := (.pointer n1)) rfl rfl rfl (r_move rfl) ?_
    obtain ⟨p6, e7, H⟩ := H
    refine s_pu (d := some 8) (v := (.pointer (some p6))) rfl rfl rfl (r_nilCheck rfl e7) ?_
    refine s_pu (d := some 9) (v := (.pointer (some (Addr.add p6 4)))) rfl rfl rfl (r_fieldAddr Tryd.underlying197 Tryd.sizeOf134 rfl rfl rfl) ?_
    obtain ⟨x8, e9, H⟩ := H
    refine s_rd (d := some 10) (v := (.pointer x8)) rfl rfl rfl (fun dr => r_load1 Tryd.isAgg134 rfl e9) ?_
    refine s_ef (d := some 11) rfl rfl rfl (fun dr => r_callV rfl rfl H) ?_ trivial
    rintro _ h1 ⟨rfl, H⟩
    refine ⟨⟨trivial, trivial, trivial⟩, ?_⟩
    refine s_fin ?_
    show W _ _ _ _ _ _ _ _
    refine W_seq ?_
    refine W_draw [0, 0, 2, 6, 14, 30, 63, 127] (.rd 0 (.pu 1 (.pu 2 (.pu 3 (.rd 4 (.ef 5 [4] (.ef 6 [0, 4] (.ef 7 [0, 4] .fin .no) .no) .no)))))) (by kernel_rfl) (by kernel_rfl) ?_
    obtain ⟨x10, e11, H⟩ := H
    refine s_rd (d := some 12) (v := (Sl.v x10)) rfl rfl rfl (fun dr => r_load1 Tryd.isAgg22 rfl e11) ?_
    refine s_pu (d := some 13) (v := (.pointer n1)) rfl rfl rfl (r_move rfl) ?_
    obtain ⟨p12, e13, H⟩ := H
    refine s_pu (d := some 14) (v := (.pointer (some p12))) rfl rfl rfl (r_nilCheck rfl e13) ?_
    refine s_pu (d := some 15) (v := (.pointer (some (Addr.add p12 0)))) rfl rfl rfl (r_fieldAddr Tryd.underlying197 Tryd.sizeOf3 rfl rfl rfl) ?_
    obtain ⟨x14, e15, H⟩ := H
    refine s_rd (d := some 16) (v := (.int .i64 x14)) rfl rfl rfl (fun dr => r_load1 Tryd.isAgg3 rfl e15) ?_
    obtain ⟨p16, e17⟩ : ∃ p : Addr, p = ⟨h1.size, 0, none⟩ := ⟨_, rfl⟩
    obtain ⟨h2, e18⟩ : ∃ hh : Heap, hh = h1.push (.cells #[(.int .i64 x14)] 3) := ⟨_, rfl⟩
    have H := H p16 h2 e17 e18
    obtain ⟨e19, H⟩ := H
    refine s_ef1 (d := some 17) (v := (Sl.v ((⟨some p16, 1, 1⟩ : Sl)))) (h' := h2) rfl rfl rfl (fun dr => (slFDVOMan_22.build (cells := #[(.int .i64 x14)]) (by decide) rfl (by kernel_rfl)).trans (by rw [e17, e18]; rfl)) ⟨trivial, (.inl ⟨rfl, fun dr => r_load1 Tryd.isAgg22 rfl e19⟩), trivial⟩ ?_ trivial
    refine s_ef (d := some 18) rfl rfl rfl (fun dr => slFDVOMan_22.append rfl rfl H) ?_ trivial
    rintro _ h3 ⟨s20, rfl, H⟩
    refine ⟨⟨trivial, trivial, trivial⟩, ?_⟩
    obtain ⟨e22, H⟩ := H
    obtain ⟨h4, e21⟩ : ∃ hh : Heap, hh = hsets h3 c3 0 [(Sl.v s20)] := ⟨_, rfl⟩
    have H := H h4 e21
    refine s_st (d := none) (h' := h4) rfl rfl rfl (fun dr => (r_store (v := (Sl.v s20)) Tryd.sizeOf22 rfl rfl rfl (one_all rfl) e22).trans (by rw [e21]; rfl)) ⟨trivial, trivial, trivial⟩ ?_ trivial
    refine s_fin ?_
    show W _ _ _ _ _ _ _ _
    refine W_draw [0, 0, 2, 6, 14, 31] (.rd 0 (.pu 1 (.pu 2 (.pu 3 (.rd 4 (.ef 5 [0, 4] .fin .no)))))) (by kernel_rfl) (by kernel_rfl) ?_
    obtain ⟨x23, e24, H⟩ := H
    refine s_rd (d := some 19) (v := x23) rfl rfl rfl (fun dr => r_load1 Tryd.isAgg195 rfl e24) ?_
    refine s_pu (d := some 20) (v := (.pointer n1)) rfl rfl rfl (r_move rfl) ?_
    obtain ⟨p25, e26, H⟩ := H
    refine s_pu (d := some 21) (v := (.pointer (some p25))) rfl rfl rfl (r_nilCheck rfl e26) ?_
    refine s_pu (d := some 22) (v := (.pointer (some (Addr.add p25 5)))) rfl rfl rfl (r_fieldAddr Tryd.underlying197 Tryd.sizeOf134 rfl rfl rfl) ?_
    obtain ⟨x27, e28, H⟩ := H
    refine s_rd (d := some 23) (v := (.pointer x27)) rfl rfl rfl (fun dr => r_load1 Tryd.isAgg134 rfl e28) ?_
    refine s_ef (d := some 24) rfl rfl rfl (fun dr => r_callV rfl rfl H) ?_ trivial
    rintro _ h5 ⟨rfl, H⟩
    refine ⟨⟨trivial, trivial, trivial⟩, ?_⟩
    refine s_fin ?_
    exact ⟨[], rfl, rfl, H⟩
  · have H := H.2 g31
    refine W_skip ?_
    exact ⟨[], rfl, rfl, H⟩

end Go.Proofs.YtcafckgflpmfgaaDoor
