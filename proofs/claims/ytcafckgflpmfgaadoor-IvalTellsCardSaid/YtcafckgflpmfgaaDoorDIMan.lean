/- Typed words of functions, and that they hold: printed by gen.py (an own tool of this claim) off the model's own form of each function. -/
import Derived.Test.YtcafckgflpmfgaaDoorProg
import Derived.Test.YtcafckgflpmfgaaDoorTwInv
import Derived.Test.YtcafckgflpmfgaaDoorTwGrow
namespace Go.Proofs.YtcafckgflpmfgaaDoor
open Go Go.RowKit Go.Tw
set_option linter.unusedVariables false

theorem slFDIMan_67 : SlF Tryd.prog 67 74 3 24 (.agg #[(.int .i64 0), (.int .i64 0), (.int .i64 0)]) := ⟨Tryd.underlying67, ⟨Tryd.t74, by kernel_rfl, rfl, rfl, rfl⟩, rfl, Tryd.sizeOf74, Tryd.zeroValue74⟩
theorem mth_ival_reaches_None (args : Array Value) (w : World) : (callMethod (.iface 126 (.agg #[])) "None" args).run Tryd.prog w = .ok (.enter 173 (#[(.agg #[])] ++ args)) w := by kernel_rfl
theorem mth_ival_reaches_Join (args : Array Value) (w : World) : (callMethod (.iface 126 (.agg #[])) "Join" args).run Tryd.prog w = .ok (.enter 172 (#[(.agg #[])] ++ args)) w := by kernel_rfl
theorem mth_ival_reaches_One (args : Array Value) (w : World) : (callMethod (.iface 126 (.agg #[])) "One" args).run Tryd.prog w = .ok (.enter 174 (#[(.agg #[])] ++ args)) w := by kernel_rfl

/-! ### the calls -/

abbrev finger_node_api_Span_ival_reach_size (r : World) (t1 : Option Addr) (h : Heap) (R : Int → Heap → Prop) : Prop :=
  CallsH Tryd.prog r 118 [(.pointer t1)] h fun v h' => ∃ (y2 : Int), v = (.int .i64 y2) ∧ R y2 h'

theorem finger_node_api_Span_ival_reach_size.mono {r : World} {t1 : Option Addr} {h : Heap} {R R' : Int → Heap → Prop} (H : finger_node_api_Span_ival_reach_size r t1 h R) (hr : ∀ y2 h, R y2 h → R' y2 h) : finger_node_api_Span_ival_reach_size r t1 h R' :=
  CallsH.mono H fun _ _ hx => by
    obtain ⟨y2, hv, hR⟩ := hx
    exact ⟨y2, hv, hr _ _ hR⟩

abbrev finger_node_api_Span_ival_reach_weight (r : World) (t1 : Option Addr) (h : Heap) (R : Int → Heap → Prop) : Prop :=
  CallsH Tryd.prog r 146 [(.pointer t1)] h fun v h' => ∃ (y2 : Int), v = (.int .i64 y2) ∧ R y2 h'

theorem finger_node_api_Span_ival_reach_weight.mono {r : World} {t1 : Option Addr} {h : Heap} {R R' : Int → Heap → Prop} (H : finger_node_api_Span_ival_reach_weight r t1 h R) (hr : ∀ y2 h, R y2 h → R' y2 h) : finger_node_api_Span_ival_reach_weight r t1 h R' :=
  CallsH.mono H fun _ _ hx => by
    obtain ⟨y2, hv, hR⟩ := hx
    exact ⟨y2, hv, hr _ _ hR⟩

abbrev finger_heavy_api_Span_ival_reach (r : World) (a1 : Option Addr) (vb2 : Option Addr) (h : Heap) (R : Bool → Heap → Prop) : Prop :=
  CallsH Tryd.prog r 134 [(.pointer a1), (.pointer vb2)] h fun v h' => ∃ (y3 : Bool), v = (.bool y3) ∧ R y3 h'

theorem finger_heavy_api_Span_ival_reach.mono {r : World} {a1 : Option Addr} {vb2 : Option Addr} {h : Heap} {R R' : Bool → Heap → Prop} (H : finger_heavy_api_Span_ival_reach r a1 vb2 h R) (hr : ∀ y3 h, R y3 h → R' y3 h) : finger_heavy_api_Span_ival_reach r a1 vb2 h R' :=
  CallsH.mono H fun _ _ hx => by
    obtain ⟨y3, hv, hR⟩ := hx
    exact ⟨y3, hv, hr _ _ hR⟩

abbrev ival_reaches_None (r : World)  (h : Heap) (R : Bool → Int → Int → Heap → Prop) : Prop :=
  CallsH Tryd.prog r 173 [(.agg #[])] h fun v h' => ∃ (y1 : Bool) (y2 : Int) (y3 : Int), v = (.agg #[(.bool y1), (.int .i64 y2), (.int .i64 y3)]) ∧ R y1 y2 y3 h'

theorem ival_reaches_None.mono {r : World}  {h : Heap} {R R' : Bool → Int → Int → Heap → Prop} (H : ival_reaches_None r  h R) (hr : ∀ y1 y2 y3 h, R y1 y2 y3 h → R' y1 y2 y3 h) : ival_reaches_None r  h R' :=
  CallsH.mono H fun _ _ hx => by
    obtain ⟨y1, y2, y3, hv, hR⟩ := hx
    exact ⟨y1, y2, y3, hv, hr _ _ _ _ hR⟩

abbrev ival_reaches_One (r : World) (s1 : Int) (s2 : Int) (s3 : Int) (h : Heap) (R : Bool → Int → Int → Heap → Prop) : Prop :=
  CallsH Tryd.prog r 174 [(.agg #[]), (.agg #[(.int .i64 s1), (.int .i64 s2), (.int .i64 s3)])] h fun v h' => ∃ (y4 : Bool) (y5 : Int) (y6 : Int), v = (.agg #[(.bool y4), (.int .i64 y5), (.int .i64 y6)]) ∧ R y4 y5 y6 h'

theorem ival_reaches_One.mono {r : World} {s1 : Int} {s2 : Int} {s3 : Int} {h : Heap} {R R' : Bool → Int → Int → Heap → Prop} (H : ival_reaches_One r s1 s2 s3 h R) (hr : ∀ y4 y5 y6 h, R y4 y5 y6 h → R' y4 y5 y6 h) : ival_reaches_One r s1 s2 s3 h R' :=
  CallsH.mono H fun _ _ hx => by
    obtain ⟨y4, y5, y6, hv, hR⟩ := hx
    exact ⟨y4, y5, y6, hv, hr _ _ _ _ hR⟩

abbrev ival_reaches_Join (r : World) (a1 : Bool) (a2 : Int) (a3 : Int) (vb4 : Bool) (vb5 : Int) (vb6 : Int) (h : Heap) (R : Bool → Int → Int → Heap → Prop) : Prop :=
  CallsH Tryd.prog r 172 [(.agg #[]), (.agg #[(.bool a1), (.int .i64 a2), (.int .i64 a3)]), (.agg #[(.bool vb4), (.int .i64 vb5), (.int .i64 vb6)])] h fun v h' => ∃ (y7 : Bool) (y8 : Int) (y9 : Int), v = (.agg #[(.bool y7), (.int .i64 y8), (.int .i64 y9)]) ∧ R y7 y8 y9 h'

theorem ival_reaches_Join.mono {r : World} {a1 : Bool} {a2 : Int} {a3 : Int} {vb4 : Bool} {vb5 : Int} {vb6 : Int} {h : Heap} {R R' : Bool → Int → Int → Heap → Prop} (H : ival_reaches_Join r a1 a2 a3 vb4 vb5 vb6 h R) (hr : ∀ y7 y8 y9 h, R y7 y8 y9 h → R' y7 y8 y9 h) : ival_reaches_Join r a1 a2 a3 vb4 vb5 vb6 h R' :=
  CallsH.mono H fun _ _ hx => by
    obtain ⟨y7, y8, y9, hv, hR⟩ := hx
    exact ⟨y7, y8, y9, hv, hr _ _ _ _ hR⟩

abbrev finger_total_api_Span_ival_reach_ival_reaches (r : World) (t1 : Option Addr) (h : Heap) (R : Bool → Int → Int → Heap → Prop) : Prop :=
  CallsH Tryd.prog r 117 [(.pointer t1)] h fun v h' => ∃ (y2 : Bool) (y3 : Int) (y4 : Int), v = (.agg #[(.bool y2), (.int .i64 y3), (.int .i64 y4)]) ∧ R y2 y3 y4 h'

theorem finger_total_api_Span_ival_reach_ival_reaches.mono {r : World} {t1 : Option Addr} {h : Heap} {R R' : Bool → Int → Int → Heap → Prop} (H : finger_total_api_Span_ival_reach_ival_reaches r t1 h R) (hr : ∀ y2 y3 y4 h, R y2 y3 y4 h → R' y2 y3 y4 h) : finger_total_api_Span_ival_reach_ival_reaches r t1 h R' :=
  CallsH.mono H fun _ _ hx => by
    obtain ⟨y2, y3, y4, hv, hR⟩ := hx
    exact ⟨y2, y3, y4, hv, hr _ _ _ _ hR⟩

abbrev finger_made_api_Span_ival_reach_ival_reaches (r : World) (l1 : Option Addr) (v2 : Int) (v3 : Int) (v4 : Int) (vr5 : Option Addr) (h : Heap) (R : Option Addr → Heap → Prop) : Prop :=
  CallsH Tryd.prog r 136 [(.pointer l1), (.agg #[(.int .i64 v2), (.int .i64 v3), (.int .i64 v4)]), (.pointer vr5)] h fun v h' => ∃ (y6 : Option Addr), v = (.pointer y6) ∧ R y6 h'

theorem finger_made_api_Span_ival_reach_ival_reaches.mono {r : World} {l1 : Option Addr} {v2 : Int} {v3 : Int} {v4 : Int} {vr5 : Option Addr} {h : Heap} {R R' : Option Addr → Heap → Prop} (H : finger_made_api_Span_ival_reach_ival_reaches r l1 v2 v3 v4 vr5 h R) (hr : ∀ y6 h, R y6 h → R' y6 h) : finger_made_api_Span_ival_reach_ival_reaches r l1 v2 v3 v4 vr5 h R' :=
  CallsH.mono H fun _ _ hx => by
    obtain ⟨y6, hv, hR⟩ := hx
    exact ⟨y6, hv, hr _ _ hR⟩

abbrev finger_even_api_Span_ival_reach_ival_reaches (r : World) (l1 : Option Addr) (v2 : Int) (v3 : Int) (v4 : Int) (vr5 : Option Addr) (h : Heap) (R : Option Addr → Heap → Prop) : Prop :=
  CallsH Tryd.prog r 135 [(.pointer l1), (.agg #[(.int .i64 v2), (.int .i64 v3), (.int .i64 v4)]), (.pointer vr5)] h fun v h' => ∃ (y6 : Option Addr), v = (.pointer y6) ∧ R y6 h'

theorem finger_even_api_Span_ival_reach_ival_reaches.mono {r : World} {l1 : Option Addr} {v2 : Int} {v3 : Int} {v4 : Int} {vr5 : Option Addr} {h : Heap} {R R' : Option Addr → Heap → Prop} (H : finger_even_api_Span_ival_reach_ival_reaches r l1 v2 v3 v4 vr5 h R) (hr : ∀ y6 h, R y6 h → R' y6 h) : finger_even_api_Span_ival_reach_ival_reaches r l1 v2 v3 v4 vr5 h R' :=
  CallsH.mono H fun _ _ hx => by
    obtain ⟨y6, hv, hR⟩ := hx
    exact ⟨y6, hv, hr _ _ hR⟩

abbrev finger_link_api_Span_ival_reach_ival_reaches (r : World) (l1 : Option Addr) (v2 : Int) (v3 : Int) (v4 : Int) (vr5 : Option Addr) (h : Heap) (R : Option Addr → Heap → Prop) : Prop :=
  CallsH Tryd.prog r 120 [(.pointer l1), (.agg #[(.int .i64 v2), (.int .i64 v3), (.int .i64 v4)]), (.pointer vr5)] h fun v h' => ∃ (y6 : Option Addr), v = (.pointer y6) ∧ R y6 h'

theorem finger_link_api_Span_ival_reach_ival_reaches.mono {r : World} {l1 : Option Addr} {v2 : Int} {v3 : Int} {v4 : Int} {vr5 : Option Addr} {h : Heap} {R R' : Option Addr → Heap → Prop} (H : finger_link_api_Span_ival_reach_ival_reaches r l1 v2 v3 v4 vr5 h R) (hr : ∀ y6 h, R y6 h → R' y6 h) : finger_link_api_Span_ival_reach_ival_reaches r l1 v2 v3 v4 vr5 h R' :=
  CallsH.mono H fun _ _ hx => by
    obtain ⟨y6, hv, hR⟩ := hx
    exact ⟨y6, hv, hr _ _ hR⟩

abbrev finger_split_api_Span_ival_reach_ival_reaches (r : World) (t1 : Option Addr) (i2 : Int) (h : Heap) (R : Option Addr → Option Addr → Heap → Prop) : Prop :=
  CallsH Tryd.prog r 119 [(.pointer t1), (.int .i64 i2)] h fun v h' => ∃ (y3 : Option Addr) (y4 : Option Addr), v = (.tuple #[(.pointer y3), (.pointer y4)]) ∧ R y3 y4 h'

theorem finger_split_api_Span_ival_reach_ival_reaches.mono {r : World} {t1 : Option Addr} {i2 : Int} {h : Heap} {R R' : Option Addr → Option Addr → Heap → Prop} (H : finger_split_api_Span_ival_reach_ival_reaches r t1 i2 h R) (hr : ∀ y3 y4 h, R y3 y4 h → R' y3 y4 h) : finger_split_api_Span_ival_reach_ival_reaches r t1 i2 h R' :=
  CallsH.mono H fun _ _ hx => by
    obtain ⟨y3, y4, hv, hR⟩ := hx
    exact ⟨y3, y4, hv, hr _ _ _ hR⟩

abbrev finger_Many_api_Span_ival_reach_ival_reaches_Len (r : World) (t1 : Option Addr) (h : Heap) (R : Int → Heap → Prop) : Prop :=
  CallsH Tryd.prog r 92 [(.agg #[(.pointer t1)])] h fun v h' => ∃ (y2 : Int), v = (.int .i64 y2) ∧ R y2 h'

theorem finger_Many_api_Span_ival_reach_ival_reaches_Len.mono {r : World} {t1 : Option Addr} {h : Heap} {R R' : Int → Heap → Prop} (H : finger_Many_api_Span_ival_reach_ival_reaches_Len r t1 h R) (hr : ∀ y2 h, R y2 h → R' y2 h) : finger_Many_api_Span_ival_reach_ival_reaches_Len r t1 h R' :=
  CallsH.mono H fun _ _ hx => by
    obtain ⟨y2, hv, hR⟩ := hx
    exact ⟨y2, hv, hr _ _ hR⟩

abbrev finger_Many_api_Span_ival_reach_ival_reaches_Split (r : World) (t1 : Option Addr) (i2 : Int) (h : Heap) (R : Option Addr → Option Addr → Heap → Prop) : Prop :=
  CallsH Tryd.prog r 90 [(.agg #[(.pointer t1)]), (.int .i64 i2)] h fun v h' => ∃ (y3 : Option Addr) (y4 : Option Addr), v = (.tuple #[(.agg #[(.pointer y3)]), (.agg #[(.pointer y4)])]) ∧ R y3 y4 h'

theorem finger_Many_api_Span_ival_reach_ival_reaches_Split.mono {r : World} {t1 : Option Addr} {i2 : Int} {h : Heap} {R R' : Option Addr → Option Addr → Heap → Prop} (H : finger_Many_api_Span_ival_reach_ival_reaches_Split r t1 i2 h R) (hr : ∀ y3 y4 h, R y3 y4 h → R' y3 y4 h) : finger_Many_api_Span_ival_reach_ival_reaches_Split r t1 i2 h R' :=
  CallsH.mono H fun _ _ hx => by
    obtain ⟨y3, y4, hv, hR⟩ := hx
    exact ⟨y3, y4, hv, hr _ _ _ hR⟩

abbrev finger_Many_api_Span_ival_reach_ival_reaches_Insert (r : World) (t1 : Option Addr) (i2 : Int) (v3 : Int) (v4 : Int) (v5 : Int) (h : Heap) (R : Option Addr → Heap → Prop) : Prop :=
  CallsH Tryd.prog r 88 [(.agg #[(.pointer t1)]), (.int .i64 i2), (.agg #[(.int .i64 v3), (.int .i64 v4), (.int .i64 v5)])] h fun v h' => ∃ (y6 : Option Addr), v = (.agg #[(.pointer y6)]) ∧ R y6 h'

theorem finger_Many_api_Span_ival_reach_ival_reaches_Insert.mono {r : World} {t1 : Option Addr} {i2 : Int} {v3 : Int} {v4 : Int} {v5 : Int} {h : Heap} {R R' : Option Addr → Heap → Prop} (H : finger_Many_api_Span_ival_reach_ival_reaches_Insert r t1 i2 v3 v4 v5 h R) (hr : ∀ y6 h, R y6 h → R' y6 h) : finger_Many_api_Span_ival_reach_ival_reaches_Insert r t1 i2 v3 v4 v5 h R' :=
  CallsH.mono H fun _ _ hx => by
    obtain ⟨y6, hv, hR⟩ := hx
    exact ⟨y6, hv, hr _ _ hR⟩

abbrev finger_Many_api_Span_ival_reach_ival_reaches_At (r : World) (t1 : Option Addr) (i2 : Int) (h : Heap) (R : Int → Int → Int → Heap → Prop) : Prop :=
  CallsH Tryd.prog r 94 [(.agg #[(.pointer t1)]), (.int .i64 i2)] h fun v h' => ∃ (y3 : Int) (y4 : Int) (y5 : Int), v = (.agg #[(.int .i64 y3), (.int .i64 y4), (.int .i64 y5)]) ∧ R y3 y4 y5 h'

theorem finger_Many_api_Span_ival_reach_ival_reaches_At.mono {r : World} {t1 : Option Addr} {i2 : Int} {h : Heap} {R R' : Int → Int → Int → Heap → Prop} (H : finger_Many_api_Span_ival_reach_ival_reaches_At r t1 i2 h R) (hr : ∀ y3 y4 y5 h, R y3 y4 y5 h → R' y3 y4 y5 h) : finger_Many_api_Span_ival_reach_ival_reaches_At r t1 i2 h R' :=
  CallsH.mono H fun _ _ hx => by
    obtain ⟨y3, y4, y5, hv, hR⟩ := hx
    exact ⟨y3, y4, y5, hv, hr _ _ _ _ hR⟩

abbrev finger_Many_api_Span_ival_reach_ival_reaches_Find (r : World) (t1 : Option Addr) (p2 : Value) (h : Heap) (R : Int → Heap → Prop) : Prop :=
  CallsH Tryd.prog r 86 [(.agg #[(.pointer t1)]), p2] h fun v h' => ∃ (y3 : Int), v = (.int .i64 y3) ∧ R y3 h'

theorem finger_Many_api_Span_ival_reach_ival_reaches_Find.mono {r : World} {t1 : Option Addr} {p2 : Value} {h : Heap} {R R' : Int → Heap → Prop} (H : finger_Many_api_Span_ival_reach_ival_reaches_Find r t1 p2 h R) (hr : ∀ y3 h, R y3 h → R' y3 h) : finger_Many_api_Span_ival_reach_ival_reaches_Find r t1 p2 h R' :=
  CallsH.mono H fun _ _ hx => by
    obtain ⟨y3, hv, hR⟩ := hx
    exact ⟨y3, hv, hr _ _ hR⟩

abbrev finger_Many_api_Span_ival_reach_ival_reaches_All (r : World) (t1 : Option Addr) (h : Heap) (R : Sl → Heap → Prop) : Prop :=
  CallsH Tryd.prog r 89 [(.agg #[(.pointer t1)])] h fun v h' => ∃ (y2 : Sl), v = (Sl.v y2) ∧ R y2 h'

theorem finger_Many_api_Span_ival_reach_ival_reaches_All.mono {r : World} {t1 : Option Addr} {h : Heap} {R R' : Sl → Heap → Prop} (H : finger_Many_api_Span_ival_reach_ival_reaches_All r t1 h R) (hr : ∀ y2 h, R y2 h → R' y2 h) : finger_Many_api_Span_ival_reach_ival_reaches_All r t1 h R' :=
  CallsH.mono H fun _ _ hx => by
    obtain ⟨y2, hv, hR⟩ := hx
    exact ⟨y2, hv, hr _ _ hR⟩

abbrev finger_Many_api_Span_ival_reach_ival_reaches_All_1 (r : World) (n1 : Option Addr) (c2 : Addr) (c3 : Addr) (h : Heap) (R : Heap → Prop) : Prop :=
  CallsH Tryd.prog r 121 [(.pointer n1), (.pointer (some c2)), (.pointer (some c3))] h fun v h' => v = (.tuple #[]) ∧ R  h'

theorem finger_Many_api_Span_ival_reach_ival_reaches_All_1.mono {r : World} {n1 : Option Addr} {c2 : Addr} {c3 : Addr} {h : Heap} {R R' : Heap → Prop} (H : finger_Many_api_Span_ival_reach_ival_reaches_All_1 r n1 c2 c3 h R) (hr : ∀  h, R  h → R'  h) : finger_Many_api_Span_ival_reach_ival_reaches_All_1 r n1 c2 c3 h R' :=
  CallsH.mono H fun _ _ hx => by
    obtain ⟨hv, hR⟩ := hx
    exact ⟨hv, hr _ hR⟩

/-! ### finger_node_api_Span_ival_reach_size -/

def finger_node_api_Span_ival_reach_size_F (r : World) (t1 : Option Addr) (h : Heap) (R : Int → Heap → Prop) : Prop :=
  Br (Option.isNone t1) (
    R 0 h) (
    Ck t1 fun p2 =>
    LdI h (Addr.add p2 3) fun x4 =>
    R x4 h)

set_option maxRecDepth 100000 in
theorem finger_node_api_Span_ival_reach_size_of {r : World} {t1 : Option Addr} {h : Heap} {R : Int → Heap → Prop} (H : finger_node_api_Span_ival_reach_size_F r t1 h R) : finger_node_api_Span_ival_reach_size r t1 h R := by
  unfold finger_node_api_Span_ival_reach_size_F at H
  refine calls_of 9 [.tmp 2] Tryd.func118 rfl rfl rfl rfl rfl ?_
  refine W_seq ?_
  refine W_region (.pu 0 .fin) rfl rfl ?_
  refine s_pu (d := some 2) (v := (.int .i64 0)) rfl rfl rfl (r_assign rfl) ?_
  refine s_fin ?_
  show W _ _ _ _ _ _ _ _
  refine W_seq ?_
  refine W_seq ?_
  refine W_region (.pu 0 (.pu 1 .fin)) rfl rfl ?_
  refine s_pu (d := some 3) (v := (.pointer t1)) rfl rfl rfl (r_move rfl) ?_
  refine s_pu (d := some 4) (v := (.bool (Option.isNone t1))) rfl rfl rfl (r_nilP Tryd.underlying68 rfl rfl) ?_
  refine s_fin ?_
  show W _ _ _ _ _ _ _ _
  refine W_if (Option.isNone t1) rfl (fun g6 => ?_) (fun g6 => ?_)
  · have H := H.1 g6
    refine W_seq ?_
    refine W_region (.pu 0 .fin) rfl rfl ?_
    refine s_pu (d := some 2) (v := (.int .i64 0)) rfl rfl rfl (r_assign rfl) ?_
    refine s_fin ?_
    show W _ _ _ _ _ _ _ _
    refine W_ret ?_
    exact ⟨[(.int .i64 0)], ⟨_, _, rfl, rfl, rfl⟩, 0, rfl, H⟩
  · have H := H.2 g6
    refine W_skip ?_
    show W _ _ _ _ _ _ _ _
    refine W_seq ?_
    refine W_region (.pu 0 (.pu 1 (.pu 2 (.rl 3 (.pu 4 .fin))))) rfl rfl ?_
    refine s_pu (d := some 5) (v := (.pointer t1)) rfl rfl rfl (r_move rfl) ?_
    obtain ⟨p2, e3, H⟩ := H
    refine s_pu (d := some 6) (v := (.pointer (some p2))) rfl rfl rfl (r_nilCheck rfl e3) ?_
    refine s_pu (d := some 7) (v := (.pointer (some (Addr.add p2 3)))) rfl rfl rfl (r_fieldAddr Tryd.underlying164 Tryd.sizeOf3 rfl rfl rfl) ?_
    obtain ⟨x4, e5, H⟩ := H
    refine s_rl (d := some 8) (v := (.int .i64 x4)) rfl rfl rfl (fun dr => r_load1 Tryd.isAgg3 rfl e5) ?_
    refine s_pu (d := some 2) (v := (.int .i64 x4)) rfl rfl rfl (r_assign rfl) ?_
    refine s_fin ?_
    show W _ _ _ _ _ _ _ _
    refine W_ret ?_
    exact ⟨[(.int .i64 x4)], ⟨_, _, rfl, rfl, rfl⟩, x4, rfl, H⟩

/-! ### finger_node_api_Span_ival_reach_weight -/

def finger_node_api_Span_ival_reach_weight_F (r : World) (t1 : Option Addr) (h : Heap) (R : Int → Heap → Prop) : Prop :=
  finger_node_api_Span_ival_reach_size r t1 h fun y2 h1 =>
  R (w64 (y2 + 1)) h1

set_option maxRecDepth 100000 in
theorem finger_node_api_Span_ival_reach_weight_of {r : World} {t1 : Option Addr} {h : Heap} {R : Int → Heap → Prop} (H : finger_node_api_Span_ival_reach_weight_F r t1 h R) : finger_node_api_Span_ival_reach_weight r t1 h R := by
  unfold finger_node_api_Span_ival_reach_weight_F at H
  refine calls_of 6 [.tmp 2] Tryd.func146 rfl rfl rfl rfl rfl ?_
  refine W_seq ?_
  refine W_region (.pu 0 .fin) rfl rfl ?_
  refine s_pu (d := some 2) (v := (.int .i64 0)) rfl rfl rfl (r_assign rfl) ?_
  refine s_fin ?_
  show W _ _ _ _ _ _ _ _
  refine W_seq ?_
  refine W_region (.pu 0 (.ef 1 [] (.pu 2 (.pu 3 .fin)) .no)) rfl rfl ?_
  refine s_pu (d := some 3) (v := (.pointer t1)) rfl rfl rfl (r_move rfl) ?_
  refine s_ef (d := some 4) rfl rfl rfl (fun dr => r_call Tryd.call118 rfl rfl H) ?_ trivial
  rintro _ h1 ⟨y2, rfl, H⟩
  refine ⟨trivial, ?_⟩
  refine s_pu (d := some 5) (v := (.int .i64 (w64 (y2 + 1)))) rfl rfl rfl (r_add rfl rfl) ?_
  refine s_pu (d := some 2) (v := (.int .i64 (w64 (y2 + 1)))) rfl rfl rfl (r_assign rfl) ?_
  refine s_fin ?_
  show W _ _ _ _ _ _ _ _
  refine W_ret ?_
  exact ⟨[(.int .i64 (w64 (y2 + 1)))], ⟨_, _, rfl, rfl, rfl⟩, (w64 (y2 + 1)), rfl, H⟩

/-! ### finger_heavy_api_Span_ival_reach -/

def finger_heavy_api_Span_ival_reach_F (r : World) (a1 : Option Addr) (vb2 : Option Addr) (h : Heap) (R : Bool → Heap → Prop) : Prop :=
  finger_node_api_Span_ival_reach_weight r a1 h fun y3 h1 =>
  finger_node_api_Span_ival_reach_weight r vb2 h1 fun y4 h2 =>
  R (decide ((w64 (3 * y4)) < y3)) h2

set_option maxRecDepth 100000 in
theorem finger_heavy_api_Span_ival_reach_of {r : World} {a1 : Option Addr} {vb2 : Option Addr} {h : Heap} {R : Bool → Heap → Prop} (H : finger_heavy_api_Span_ival_reach_F r a1 vb2 h R) : finger_heavy_api_Span_ival_reach r a1 vb2 h R := by
  unfold finger_heavy_api_Span_ival_reach_F at H
  refine calls_of 11 [.tmp 4] Tryd.func134 rfl rfl rfl rfl rfl ?_
  refine W_seq ?_
  refine W_region (.pu 0 .fin) rfl rfl ?_
  refine s_pu (d := some 4) (v := (.bool false)) rfl rfl rfl (r_assign rfl) ?_
  refine s_fin ?_
  show W _ _ _ _ _ _ _ _
  refine W_seq ?_
  refine W_region (.pu 0 (.ef 1 [] (.pu 2 (.ef 3 [] (.pu 4 (.pu 5 (.pu 6 .fin))) .no)) .no)) rfl rfl ?_
  refine s_pu (d := some 5) (v := (.pointer a1)) rfl rfl rfl (r_move rfl) ?_
  refine s_ef (d := some 6) rfl rfl rfl (fun dr => r_call Tryd.call146 rfl rfl H) ?_ trivial
  rintro _ h1 ⟨y3, rfl, H⟩
  refine ⟨trivial, ?_⟩
  refine s_pu (d := some 7) (v := (.pointer vb2)) rfl rfl rfl (r_move rfl) ?_
  refine s_ef (d := some 8) rfl rfl rfl (fun dr => r_call Tryd.call146 rfl rfl H) ?_ trivial
  rintro _ h2 ⟨y4, rfl, H⟩
  refine ⟨trivial, ?_⟩
  refine s_pu (d := some 9) (v := (.int .i64 (w64 (3 * y4)))) rfl rfl rfl (r_mul rfl rfl) ?_
  refine s_pu (d := some 10) (v := (.bool (decide ((w64 (3 * y4)) < y3)))) rfl rfl rfl (r_gtr rfl rfl) ?_
  refine s_pu (d := some 4) (v := (.bool (decide ((w64 (3 * y4)) < y3)))) rfl rfl rfl (r_assign rfl) ?_
  refine s_fin ?_
  show W _ _ _ _ _ _ _ _
  refine W_ret ?_
  exact ⟨[(.bool (decide ((w64 (3 * y4)) < y3)))], ⟨_, _, rfl, rfl, rfl⟩, (decide ((w64 (3 * y4)) < y3)), rfl, H⟩

/-! ### ival_reaches_None -/

def ival_reaches_None_F (r : World)  (h : Heap) (R : Bool → Int → Int → Heap → Prop) : Prop :=
  New h (.cells #[] 126) fun p1 h1 =>
  New h1 (.cells #[(.bool false), (.int .i64 0), (.int .i64 0)] 124) fun p4 h2 =>
  St h2 p4 3 [(.bool false), (.int .i64 0), (.int .i64 0)] fun h3 =>
  LdB h3 (Addr.add p4 0) fun x9 =>
  LdI h3 (Addr.add p4 1) fun x11 =>
  LdI h3 (Addr.add p4 2) fun x13 =>
  R x9 x11 x13 h3

set_option maxRecDepth 100000 in
theorem ival_reaches_None_of {r : World}  {h : Heap} {R : Bool → Int → Int → Heap → Prop} (H : ival_reaches_None_F r  h R) : ival_reaches_None r  h R := by
  unfold ival_reaches_None_F at H
  refine calls_of 4 [.cell 2 124] Tryd.func173 rfl rfl rfl rfl rfl ?_
  refine W_seq ?_
  refine W_region (.ef 0 [] (.ef 1 [] .fin .no) .no) rfl rfl ?_
  obtain ⟨p1, e2⟩ : ∃ p : Addr, p = ⟨h.size, 0, none⟩ := ⟨_, rfl⟩
  obtain ⟨h1, e3⟩ : ∃ hh : Heap, hh = h.push (.cells #[] 126) := ⟨_, rfl⟩
  have H := H p1 h1 e2 e3
  refine s_ef1 (d := some 1) (v := (.pointer (some p1))) (h' := h1) rfl rfl rfl (fun dr => (r_box (v := (.agg #[])) rfl).trans (by rw [e2, e3]; rfl)) trivial ?_ trivial
  obtain ⟨p4, e5⟩ : ∃ p : Addr, p = ⟨h1.size, 0, none⟩ := ⟨_, rfl⟩
  obtain ⟨h2, e6⟩ : ∃ hh : Heap, hh = h1.push (.cells #[(.bool false), (.int .i64 0), (.int .i64 0)] 124) := ⟨_, rfl⟩
  have H := H p4 h2 e5 e6
  refine s_ef1 (d := some 2) (v := (.pointer (some p4))) (h' := h2) rfl rfl rfl (fun dr => (r_alloc Tryd.zeroValue124).trans (by rw [e5, e6]; rfl)) trivial ?_ trivial
  refine s_fin ?_
  show W _ _ _ _ _ _ _ _
  refine W_seq ?_
  refine W_region (.pu 0 (.ef 1 [] .fin .no)) rfl rfl ?_
  refine s_pu (d := some 3) (v := (.agg #[(.bool false), (.int .i64 0), (.int .i64 0)])) rfl rfl rfl (fun w => by kernel_rfl) ?_
  obtain ⟨e8, H⟩ := H
  obtain ⟨h3, e7⟩ : ∃ hh : Heap, hh = hsets h2 p4 0 [(.bool false), (.int .i64 0), (.int .i64 0)] := ⟨_, rfl⟩
  have H := H h3 e7
  refine s_st (d := none) (h' := h3) rfl rfl rfl (fun dr => (r_store (v := (.agg #[(.bool false), (.int .i64 0), (.int .i64 0)])) Tryd.sizeOf124 rfl rfl rfl (one_all rfl) e8).trans (by rw [e7]; rfl)) trivial ?_ trivial
  refine s_fin ?_
  show W _ _ _ _ _ _ _ _
  refine W_ret ?_
  obtain ⟨x9, e10, H⟩ := H
  obtain ⟨x11, e12, H⟩ := H
  obtain ⟨x13, e14, H⟩ := H
  exact ⟨[(.agg #[(.bool x9), (.int .i64 x11), (.int .i64 x13)])], ⟨_, _, _, rfl, rfl, fun dr => run_loadVarN Tryd.isAgg124 Tryd.sizeOf124 (vs := [(.bool x9), (.int .i64 x11), (.int .i64 x13)]) rfl ⟨e10, e12, e14, trivial⟩, rfl⟩, x9, x11, x13, rfl, H⟩

/-! ### ival_reaches_One -/

def ival_reaches_One_F (r : World) (s1 : Int) (s2 : Int) (s3 : Int) (h : Heap) (R : Bool → Int → Int → Heap → Prop) : Prop :=
  New h (.cells #[] 126) fun p4 h1 =>
  New h1 (.cells #[(.int .i64 s1), (.int .i64 s2), (.int .i64 s3)] 74) fun p7 h2 =>
  New h2 (.cells #[(.bool false), (.int .i64 0), (.int .i64 0)] 124) fun p10 h3 =>
  LdI h3 (Addr.add p7 0) fun x13 =>
  LdI h3 (Addr.add p7 1) fun x15 =>
  St h3 p10 3 [(.bool true), (.int .i64 x13), (.int .i64 x15)] fun h4 =>
  LdB h4 (Addr.add p10 0) fun x19 =>
  LdI h4 (Addr.add p10 1) fun x21 =>
  LdI h4 (Addr.add p10 2) fun x23 =>
  R x19 x21 x23 h4

set_option maxRecDepth 100000 in
theorem ival_reaches_One_of {r : World} {s1 : Int} {s2 : Int} {s3 : Int} {h : Heap} {R : Bool → Int → Int → Heap → Prop} (H : ival_reaches_One_F r s1 s2 s3 h R) : ival_reaches_One r s1 s2 s3 h R := by
  unfold ival_reaches_One_F at H
  refine calls_of 10 [.cell 4 124] Tryd.func174 rfl rfl rfl rfl rfl ?_
  refine W_seq ?_
  refine W_region (.ef 0 [] (.ef 1 [] (.ef 2 [] .fin .no) .no) .no) rfl rfl ?_
  obtain ⟨p4, e5⟩ : ∃ p : Addr, p = ⟨h.size, 0, none⟩ := ⟨_, rfl⟩
  obtain ⟨h1, e6⟩ : ∃ hh : Heap, hh = h.push (.cells #[] 126) := ⟨_, rfl⟩
  have H := H p4 h1 e5 e6
  refine s_ef1 (d := some 2) (v := (.pointer (some p4))) (h' := h1) rfl rfl rfl (fun dr => (r_box (v := (.agg #[])) rfl).trans (by rw [e5, e6]; rfl)) trivial ?_ trivial
  obtain ⟨p7, e8⟩ : ∃ p : Addr, p = ⟨h1.size, 0, none⟩ := ⟨_, rfl⟩
  obtain ⟨h2, e9⟩ : ∃ hh : Heap, hh = h1.push (.cells #[(.int .i64 s1), (.int .i64 s2), (.int .i64 s3)] 74) := ⟨_, rfl⟩
  have H := H p7 h2 e8 e9
  refine s_ef1 (d := some 3) (v := (.pointer (some p7))) (h' := h2) rfl rfl rfl (fun dr => (r_box (v := (.agg #[(.int .i64 s1), (.int .i64 s2), (.int .i64 s3)])) rfl).trans (by rw [e8, e9]; rfl)) trivial ?_ trivial
  obtain ⟨p10, e11⟩ : ∃ p : Addr, p = ⟨h2.size, 0, none⟩ := ⟨_, rfl⟩
  obtain ⟨h3, e12⟩ : ∃ hh : Heap, hh = h2.push (.cells #[(.bool false), (.int .i64 0), (.int .i64 0)] 124) := ⟨_, rfl⟩
  have H := H p10 h3 e11 e12
  refine s_ef1 (d := some 4) (v := (.pointer (some p10))) (h' := h3) rfl rfl rfl (fun dr => (r_alloc Tryd.zeroValue124).trans (by rw [e11, e12]; rfl)) trivial ?_ trivial
  refine s_fin ?_
  show W _ _ _ _ _ _ _ _
  refine W_seq ?_
  refine W_region (.pu 0 (.rl 1 (.pu 2 (.rl 3 (.pu 4 (.ef 5 [] .fin .no)))))) rfl rfl ?_
  refine s_pu (d := some 5) (v := (.pointer (some (Addr.add p7 0)))) rfl rfl rfl (r_fieldAddr Tryd.underlying74 Tryd.sizeOf3 rfl rfl rfl) ?_
  obtain ⟨x13, e14, H⟩ := H
  refine s_rl (d := some 6) (v := (.int .i64 x13)) rfl rfl rfl (fun dr => r_load1 Tryd.isAgg3 rfl e14) ?_
  refine s_pu (d := some 7) (v := (.pointer (some (Addr.add p7 1)))) rfl rfl rfl (r_fieldAddr Tryd.underlying74 Tryd.sizeOf3 rfl rfl rfl) ?_
  obtain ⟨x15, e16, H⟩ := H
  refine s_rl (d := some 8) (v := (.int .i64 x15)) rfl rfl rfl (fun dr => r_load1 Tryd.isAgg3 rfl e16) ?_
  refine s_pu (d := some 9) (v := (.agg #[(.bool true), (.int .i64 x13), (.int .i64 x15)])) rfl rfl rfl (fun w => by kernel_rfl) ?_
  obtain ⟨e18, H⟩ := H
  obtain ⟨h4, e17⟩ : ∃ hh : Heap, hh = hsets h3 p10 0 [(.bool true), (.int .i64 x13), (.int .i64 x15)] := ⟨_, rfl⟩
  have H := H h4 e17
  refine s_st (d := none) (h' := h4) rfl rfl rfl (fun dr => (r_store (v := (.agg #[(.bool true), (.int .i64 x13), (.int .i64 x15)])) Tryd.sizeOf124 rfl rfl rfl (one_all rfl) e18).trans (by rw [e17]; rfl)) trivial ?_ trivial
  refine s_fin ?_
  show W _ _ _ _ _ _ _ _
  refine W_ret ?_
  obtain ⟨x19, e20, H⟩ := H
  obtain ⟨x21, e22, H⟩ := H
  obtain ⟨x23, e24, H⟩ := H
  exact ⟨[(.agg #[(.bool x19), (.int .i64 x21), (.int .i64 x23)])], ⟨_, _, _, rfl, rfl, fun dr => run_loadVarN Tryd.isAgg124 Tryd.sizeOf124 (vs := [(.bool x19), (.int .i64 x21), (.int .i64 x23)]) rfl ⟨e20, e22, e24, trivial⟩, rfl⟩, x19, x21, x23, rfl, H⟩

/-! ### ival_reaches_Join -/

def ival_reaches_Join_F (r : World) (a1 : Bool) (a2 : Int) (a3 : Int) (vb4 : Bool) (vb5 : Int) (vb6 : Int) (h : Heap) (R : Bool → Int → Int → Heap → Prop) : Prop :=
  New h (.cells #[] 126) fun p7 h1 =>
  New h1 (.cells #[(.bool a1), (.int .i64 a2), (.int .i64 a3)] 124) fun p10 h2 =>
  New h2 (.cells #[(.bool vb4), (.int .i64 vb5), (.int .i64 vb6)] 124) fun p13 h3 =>
  New h3 (.cells #[(.bool false), (.int .i64 0), (.int .i64 0)] 124) fun p16 h4 =>
  LdB h4 (Addr.add p10 0) fun x19 =>
  Br (!x19) (
    LdB h4 (Addr.add p13 0) fun x21 =>
    LdI h4 (Addr.add p13 1) fun x23 =>
    LdI h4 (Addr.add p13 2) fun x25 =>
    St h4 p16 3 [(.bool x21), (.int .i64 x23), (.int .i64 x25)] fun h5 =>
    LdB h5 (Addr.add p16 0) fun x29 =>
    LdI h5 (Addr.add p16 1) fun x31 =>
    LdI h5 (Addr.add p16 2) fun x33 =>
    R x29 x31 x33 h5) (
    LdB h4 (Addr.add p13 0) fun x35 =>
    Br (!x35) (
      LdB h4 (Addr.add p10 0) fun x37 =>
      LdI h4 (Addr.add p10 1) fun x39 =>
      LdI h4 (Addr.add p10 2) fun x41 =>
      St h4 p16 3 [(.bool x37), (.int .i64 x39), (.int .i64 x41)] fun h6 =>
      LdB h6 (Addr.add p16 0) fun x45 =>
      LdI h6 (Addr.add p16 1) fun x47 =>
      LdI h6 (Addr.add p16 2) fun x49 =>
      R x45 x47 x49 h6) (
      LdI h4 (Addr.add p13 1) fun x51 =>
      LdI h4 (Addr.add p10 2) fun x53 =>
      LdI h4 (Addr.add p13 2) fun x55 =>
      St h4 p16 3 [(.bool true), (.int .i64 x51), (.int .i64 (max x53 x55))] fun h7 =>
      LdB h7 (Addr.add p16 0) fun x59 =>
      LdI h7 (Addr.add p16 1) fun x61 =>
      LdI h7 (Addr.add p16 2) fun x63 =>
      R x59 x61 x63 h7))

set_option maxRecDepth 100000 in
theorem ival_reaches_Join_of {r : World} {a1 : Bool} {a2 : Int} {a3 : Int} {vb4 : Bool} {vb5 : Int} {vb6 : Int} {h : Heap} {R : Bool → Int → Int → Heap → Prop} (H : ival_reaches_Join_F r a1 a2 a3 vb4 vb5 vb6 h R) : ival_reaches_Join r a1 a2 a3 vb4 vb5 vb6 h R := by
  unfold ival_reaches_Join_F at H
  refine calls_of 25 [.cell 6 124] Tryd.func172 rfl rfl rfl rfl rfl ?_
  refine W_seq ?_
  refine W_region (.ef 0 [] (.ef 1 [] (.ef 2 [] (.ef 3 [] .fin .no) .no) .no) .no) rfl rfl ?_
  obtain ⟨p7, e8⟩ : ∃ p : Addr, p = ⟨h.size, 0, none⟩ := ⟨_, rfl⟩
  obtain ⟨h1, e9⟩ : ∃ hh : Heap, hh = h.push (.cells #[] 126) := ⟨_, rfl⟩
  have H := H p7 h1 e8 e9
  refine s_ef1 (d := some 3) (v := (.pointer (some p7))) (h' := h1) rfl rfl rfl (fun dr => (r_box (v := (.agg #[])) rfl).trans (by rw [e8, e9]; rfl)) trivial ?_ trivial
  obtain ⟨p10, e11⟩ : ∃ p : Addr, p = ⟨h1.size, 0, none⟩ := ⟨_, rfl⟩
  obtain ⟨h2, e12⟩ : ∃ hh : Heap, hh = h1.push (.cells #[(.bool a1), (.int .i64 a2), (.int .i64 a3)] 124) := ⟨_, rfl⟩
  have H := H p10 h2 e11 e12
  refine s_ef1 (d := some 4) (v := (.pointer (some p10))) (h' := h2) rfl rfl rfl (fun dr => (r_box (v := (.agg #[(.bool a1), (.int .i64 a2), (.int .i64 a3)])) rfl).trans (by rw [e11, e12]; rfl)) trivial ?_ trivial
  obtain ⟨p13, e14⟩ : ∃ p : Addr, p = ⟨h2.size, 0, none⟩ := ⟨_, rfl⟩
  obtain ⟨h3, e15⟩ : ∃ hh : Heap, hh = h2.push (.cells #[(.bool vb4), (.int .i64 vb5), (.int .i64 vb6)] 124) := ⟨_, rfl⟩
  have H := H p13 h3 e14 e15
  refine s_ef1 (d := some 5) (v := (.pointer (some p13))) (h' := h3) rfl rfl rfl (fun dr => (r_box (v := (.agg #[(.bool vb4), (.int .i64 vb5), (.int .i64 vb6)])) rfl).trans (by rw [e14, e15]; rfl)) trivial ?_ trivial
  obtain ⟨p16, e17⟩ : ∃ p : Addr, p = ⟨h3.size, 0, none⟩ := ⟨_, rfl⟩
  obtain ⟨h4, e18⟩ : ∃ hh : Heap, hh = h3.push (.cells #[(.bool false), (.int .i64 0), (.int .i64 0)] 124) := ⟨_, rfl⟩
  have H := H p16 h4 e17 e18
  refine s_ef1 (d := some 6) (v := (.pointer (some p16))) (h' := h4) rfl rfl rfl (fun dr => (r_alloc Tryd.zeroValue124).trans (by rw [e17, e18]; rfl)) trivial ?_ trivial
  refine s_fin ?_
  show W _ _ _ _ _ _ _ _
  refine W_seq ?_
  refine W_block ?_
  refine W_seq ?_
  refine W_region (.pu 0 (.rl 1 (.pu 2 (.pu 3 .fin)))) rfl rfl ?_
  refine s_pu (d := some 8) (v := (.pointer (some (Addr.add p10 0)))) rfl rfl rfl (r_fieldAddr Tryd.underlying124 Tryd.sizeOf4 rfl rfl rfl) ?_
  obtain ⟨x19, e20, H⟩ := H
  refine s_rl (d := some 9) (v := (.bool x19)) rfl rfl rfl (fun dr => r_load1 Tryd.isAgg4 rfl e20) ?_
  refine s_pu (d := some 10) (v := (.bool (!x19))) rfl rfl rfl (r_not rfl) ?_
  refine s_pu (d := some 7) (v := (.bool (!x19))) rfl rfl rfl (r_assign rfl) ?_
  refine s_fin ?_
  show W _ _ _ _ _ _ _ _
  refine W_if (!x19) rfl (fun g66 => ?_) (fun g66 => ?_)
  · have H := H.1 g66
    refine W_seq ?_
    refine W_region (.rl 0 (.ef 1 [] .fin .no)) rfl rfl ?_
    obtain ⟨x21, e22, H⟩ := H
    obtain ⟨x23, e24, H⟩ := H
    obtain ⟨x25, e26, H⟩ := H
    refine s_rl (d := some 11) (v := (.agg #[(.bool x21), (.int .i64 x23), (.int .i64 x25)])) rfl rfl rfl (fun dr => r_loadN Tryd.isAgg124 Tryd.sizeOf124 (vs := [(.bool x21), (.int .i64 x23), (.int .i64 x25)]) rfl rfl ⟨e22, e24, e26, trivial⟩) ?_
    obtain ⟨e28, H⟩ := H
    obtain ⟨h5, e27⟩ : ∃ hh : Heap, hh = hsets h4 p16 0 [(.bool x21), (.int .i64 x23), (.int .i64 x25)] := ⟨_, rfl⟩
    have H := H h5 e27
    refine s_st (d := none) (h' := h5) rfl rfl rfl (fun dr => (r_store (v := (.agg #[(.bool x21), (.int .i64 x23), (.int .i64 x25)])) Tryd.sizeOf124 rfl rfl rfl (one_all rfl) e28).trans (by rw [e27]; rfl)) trivial ?_ trivial
    refine s_fin ?_
    show W _ _ _ _ _ _ _ _
    refine W_ret ?_
    obtain ⟨x29, e30, H⟩ := H
    obtain ⟨x31, e32, H⟩ := H
    obtain ⟨x33, e34, H⟩ := H
    exact ⟨[(.agg #[(.bool x29), (.int .i64 x31), (.int .i64 x33)])], ⟨_, _, _, rfl, rfl, fun dr => run_loadVarN Tryd.isAgg124 Tryd.sizeOf124 (vs := [(.bool x29), (.int .i64 x31), (.int .i64 x33)]) rfl ⟨e30, e32, e34, trivial⟩, rfl⟩, x29, x31, x33, rfl, H⟩
  · have H := H.2 g66
    refine W_seq ?_
    refine W_region (.pu 0 (.rl 1 (.pu 2 (.pu 3 .fin)))) rfl rfl ?_
    refine s_pu (d := some 13) (v := (.pointer (some (Addr.add p13 0)))) rfl rfl rfl (r_fieldAddr Tryd.underlying124 Tryd.sizeOf4 rfl rfl rfl) ?_
    obtain ⟨x35, e36, H⟩ := H
    refine s_rl (d := some 14) (v := (.bool x35)) rfl rfl rfl (fun dr => r_load1 Tryd.isAgg4 rfl e36) ?_
    refine s_pu (d := some 15) (v := (.bool (!x35))) rfl rfl rfl (r_not rfl) ?_
    refine s_pu (d := some 12) (v := (.bool (!x35))) rfl rfl rfl (r_assign rfl) ?_
    refine s_fin ?_
    show W _ _ _ _ _ _ _ _
    refine W_if (!x35) rfl (fun g65 => ?_) (fun g65 => ?_)
    · have H := H.1 g65
      refine W_seq ?_
      refine W_region (.rl 0 (.ef 1 [] .fin .no)) rfl rfl ?_
      obtain ⟨x37, e38, H⟩ := H
      obtain ⟨x39, e40, H⟩ := H
      obtain ⟨x41, e42, H⟩ := H
      refine s_rl (d := some 16) (v := (.agg #[(.bool x37), (.int .i64 x39), (.int .i64 x41)])) rfl rfl rfl (fun dr => r_loadN Tryd.isAgg124 Tryd.sizeOf124 (vs := [(.bool x37), (.int .i64 x39), (.int .i64 x41)]) rfl rfl ⟨e38, e40, e42, trivial⟩) ?_
      obtain ⟨e44, H⟩ := H
      obtain ⟨h6, e43⟩ : ∃ hh : Heap, hh = hsets h4 p16 0 [(.bool x37), (.int .i64 x39), (.int .i64 x41)] := ⟨_, rfl⟩
      have H := H h6 e43
      refine s_st (d := none) (h' := h6) rfl rfl rfl (fun dr => (r_store (v := (.agg #[(.bool x37), (.int .i64 x39), (.int .i64 x41)])) Tryd.sizeOf124 rfl rfl rfl (one_all rfl) e44).trans (by rw [e43]; rfl)) trivial ?_ trivial
      refine s_fin ?_
      show W _ _ _ _ _ _ _ _
      refine W_ret ?_
      obtain ⟨x45, e46, H⟩ := H
      obtain ⟨x47, e48, H⟩ := H
      obtain ⟨x49, e50, H⟩ := H
      exact ⟨[(.agg #[(.bool x45), (.int .i64 x47), (.int .i64 x49)])], ⟨_, _, _, rfl, rfl, fun dr => run_loadVarN Tryd.isAgg124 Tryd.sizeOf124 (vs := [(.bool x45), (.int .i64 x47), (.int .i64 x49)]) rfl ⟨e46, e48, e50, trivial⟩, rfl⟩, x45, x47, x49, rfl, H⟩
    · have H := H.2 g65
      refine W_skip ?_
      show W _ _ _ _ _ _ _ _
      refine W_seq ?_
      refine W_region (.pu 0 (.rl 1 (.pu 2 (.rl 3 (.pu 4 (.rl 5 (.pu 6 (.pu 7 (.ef 8 [] .fin .no))))))))) rfl rfl ?_
      refine s_pu (d := some 17) (v := (.pointer (some (Addr.add p13 1)))) rfl rfl rfl (r_fieldAddr Tryd.underlying124 Tryd.sizeOf3 rfl rfl rfl) ?_
      obtain ⟨x51, e52, H⟩ := H
      refine s_rl (d := some 18) (v := (.int .i64 x51)) rfl rfl rfl (fun dr => r_load1 Tryd.isAgg3 rfl e52) ?_
      refine s_pu (d := some 19) (v := (.pointer (some (Addr.add p10 2)))) rfl rfl rfl (r_fieldAddr Tryd.underlying124 Tryd.sizeOf3 rfl rfl rfl) ?_
      obtain ⟨x53, e54, H⟩ := H
      refine s_rl (d := some 20) (v := (.int .i64 x53)) rfl rfl rfl (fun dr => r_load1 Tryd.isAgg3 rfl e54) ?_
      refine s_pu (d := some 21) (v := (.pointer (some (Addr.add p13 2)))) rfl rfl rfl (r_fieldAddr Tryd.underlying124 Tryd.sizeOf3 rfl rfl rfl) ?_
      obtain ⟨x55, e56, H⟩ := H
      refine s_rl (d := some 22) (v := (.int .i64 x55)) rfl rfl rfl (fun dr => r_load1 Tryd.isAgg3 rfl e56) ?_
      refine s_pu (d := some 23) (v := (.int .i64 (max x53 x55))) rfl rfl rfl (r_max rfl rfl) ?_
      refine s_pu (d := some 24) (v := (.agg #[(.bool true), (.int .i64 x51), (.int .i64 (max x53 x55))])) rfl rfl rfl (fun w => by kernel_rfl) ?_
      obtain ⟨e58, H⟩ := H
      obtain ⟨h7, e57⟩ : ∃ hh : Heap, hh = hsets h4 p16 0 [(.bool true), (.int .i64 x51), (.int .i64 (max x53 x55))] := ⟨_, rfl⟩
      have H := H h7 e57
      refine s_st (d := none) (h' := h7) rfl rfl rfl (fun dr => (r_store (v := (.agg #[(.bool true), (.int .i64 x51), (.int .i64 (max x53 x55))])) Tryd.sizeOf124 rfl rfl rfl (one_all rfl) e58).trans (by rw [e57]; rfl)) trivial ?_ trivial
      refine s_fin ?_
      show W _ _ _ _ _ _ _ _
      refine W_ret ?_
      obtain ⟨x59, e60, H⟩ := H
      obtain ⟨x61, e62, H⟩ := H
      obtain ⟨x63, e64, H⟩ := H
      exact ⟨[(.agg #[(.bool x59), (.int .i64 x61), (.int .i64 x63)])], ⟨_, _, _, rfl, rfl, fun dr => run_loadVarN Tryd.isAgg124 Tryd.sizeOf124 (vs := [(.bool x59), (.int .i64 x61), (.int .i64 x63)]) rfl ⟨e60, e62, e64, trivial⟩, rfl⟩, x59, x61, x63, rfl, H⟩

/-! ### finger_total_api_Span_ival_reach_ival_reaches -/

def finger_total_api_Span_ival_reach_ival_reaches_F (r : World) (t1 : Option Addr) (h : Heap) (R : Bool → Int → Int → Heap → Prop) : Prop :=
  New h (.cells #[(.bool false), (.int .i64 0), (.int .i64 0)] 124) fun p2 h1 =>
  Br (Option.isNone t1) (
    New h1 (.cells #[] 126) fun p5 h2 =>
    ival_reaches_None r h2 fun y8 y9 y10 h3 =>
    St h3 p2 3 [(.bool y8), (.int .i64 y9), (.int .i64 y10)] fun h4 =>
    LdB h4 (Addr.add p2 0) fun x13 =>
    LdI h4 (Addr.add p2 1) fun x15 =>
    LdI h4 (Addr.add p2 2) fun x17 =>
    R x13 x15 x17 h4) (
    Ck t1 fun p19 =>
    LdB h1 (Addr.add (Addr.add p19 4) 0) fun x21 =>
    LdI h1 (Addr.add (Addr.add p19 4) 1) fun x23 =>
    LdI h1 (Addr.add (Addr.add p19 4) 2) fun x25 =>
    St h1 p2 3 [(.bool x21), (.int .i64 x23), (.int .i64 x25)] fun h5 =>
    LdB h5 (Addr.add p2 0) fun x29 =>
    LdI h5 (Addr.add p2 1) fun x31 =>
    LdI h5 (Addr.add p2 2) fun x33 =>
    R x29 x31 x33 h5)

set_option maxRecDepth 100000 in
theorem finger_total_api_Span_ival_reach_ival_reaches_of {r : World} {t1 : Option Addr} {h : Heap} {R : Bool → Int → Int → Heap → Prop} (H : finger_total_api_Span_ival_reach_ival_reaches_F r t1 h R) : finger_total_api_Span_ival_reach_ival_reaches r t1 h R := by
  unfold finger_total_api_Span_ival_reach_ival_reaches_F at H
  refine calls_of 13 [.cell 2 124] Tryd.func117 rfl rfl rfl rfl rfl ?_
  refine W_seq ?_
  refine W_region (.ef 0 [] .fin .no) rfl rfl ?_
  obtain ⟨p2, e3⟩ : ∃ p : Addr, p = ⟨h.size, 0, none⟩ := ⟨_, rfl⟩
  obtain ⟨h1, e4⟩ : ∃ hh : Heap, hh = h.push (.cells #[(.bool false), (.int .i64 0), (.int .i64 0)] 124) := ⟨_, rfl⟩
  have H := H p2 h1 e3 e4
  refine s_ef1 (d := some 2) (v := (.pointer (some p2))) (h' := h1) rfl rfl rfl (fun dr => (r_alloc Tryd.zeroValue124).trans (by rw [e3, e4]; rfl)) trivial ?_ trivial
  refine s_fin ?_
  show W _ _ _ _ _ _ _ _
  refine W_seq ?_
  refine W_seq ?_
  refine W_region (.pu 0 (.pu 1 .fin)) rfl rfl ?_
  refine s_pu (d := some 4) (v := (.pointer t1)) rfl rfl rfl (r_move rfl) ?_
  refine s_pu (d := some 5) (v := (.bool (Option.isNone t1))) rfl rfl rfl (r_nilP Tryd.underlying68 rfl rfl) ?_
  refine s_fin ?_
  show W _ _ _ _ _ _ _ _
  refine W_if (Option.isNone t1) rfl (fun g35 => ?_) (fun g35 => ?_)
  · have H := H.1 g35
    refine W_seq ?_
    refine W_region (.ef 0 [] .fin .no) rfl rfl ?_
    obtain ⟨p5, e6⟩ : ∃ p : Addr, p = ⟨h1.size, 0, none⟩ := ⟨_, rfl⟩
    obtain ⟨h2, e7⟩ : ∃ hh : Heap, hh = h1.push (.cells #[] 126) := ⟨_, rfl⟩
    have H := H p5 h2 e6 e7
    refine s_ef1 (d := some 3) (v := (.pointer (some p5))) (h' := h2) rfl rfl rfl (fun dr => (r_alloc Tryd.zeroValue126).trans (by rw [e6, e7]; rfl)) trivial ?_ trivial
    refine s_fin ?_
    show W _ _ _ _ _ _ _ _
    refine W_seq ?_
    refine W_region (.rl 0 (.pu 1 (.ef 2 [] (.ef 3 [] .fin .no) .no))) rfl rfl ?_
    refine s_rl (d := some 6) (v := (.agg #[])) rfl rfl rfl (fun dr => r_loadN Tryd.isAgg126 Tryd.sizeOf126 (vs := []) rfl rfl trivial) ?_
    refine s_pu (d := some 7) (v := ((.iface 126 (.agg #[])))) rfl rfl rfl (r_iface Tryd.underlying126 rfl rfl) ?_
    refine s_ef (d := some 8) rfl rfl rfl (fun dr => r_invoke mth_ival_reaches_None rfl rfl H) ?_ trivial
    rintro _ h3 ⟨y8, y9, y10, rfl, H⟩
    refine ⟨trivial, ?_⟩
    obtain ⟨e12, H⟩ := H
    obtain ⟨h4, e11⟩ : ∃ hh : Heap, hh = hsets h3 p2 0 [(.bool y8), (.int .i64 y9), (.int .i64 y10)] := ⟨_, rfl⟩
    have H := H h4 e11
    refine s_st (d := none) (h' := h4) rfl rfl rfl (fun dr => (r_store (v := (.agg #[(.bool y8), (.int .i64 y9), (.int .i64 y10)])) Tryd.sizeOf124 rfl rfl rfl (one_all rfl) e12).trans (by rw [e11]; rfl)) trivial ?_ trivial
    refine s_fin ?_
    show W _ _ _ _ _ _ _ _
    refine W_ret ?_
    obtain ⟨x13, e14, H⟩ := H
    obtain ⟨x15, e16, H⟩ := H
    obtain ⟨x17, e18, H⟩ := H
    exact ⟨[(.agg #[(.bool x13), (.int .i64 x15), (.int .i64 x17)])], ⟨_, _, _, rfl, rfl, fun dr => run_loadVarN Tryd.isAgg124 Tryd.sizeOf124 (vs := [(.bool x13), (.int .i64 x15), (.int .i64 x17)]) rfl ⟨e14, e16, e18, trivial⟩, rfl⟩, x13, x15, x17, rfl, H⟩
  · have H := H.2 g35
    refine W_skip ?_
    show W _ _ _ _ _ _ _ _
    refine W_seq ?_
    refine W_region (.pu 0 (.pu 1 (.pu 2 (.rl 3 (.ef 4 [] .fin .no))))) rfl rfl ?_
    refine s_pu (d := some 9) (v := (.pointer t1)) rfl rfl rfl (r_move rfl) ?_
    obtain ⟨p19, e20, H⟩ := H
    refine s_pu (d := some 10) (v := (.pointer (some p19))) rfl rfl rfl (r_nilCheck rfl e20) ?_
    refine s_pu (d := some 11) (v := (.pointer (some (Addr.add p19 4)))) rfl rfl rfl (r_fieldAddr Tryd.underlying164 Tryd.sizeOf124 rfl rfl rfl) ?_
    obtain ⟨x21, e22, H⟩ := H
    obtain ⟨x23, e24, H⟩ := H
    obtain ⟨x25, e26, H⟩ := H
    refine s_rl (d := some 12) (v := (.agg #[(.bool x21), (.int .i64 x23), (.int .i64 x25)])) rfl rfl rfl (fun dr => r_loadN Tryd.isAgg124 Tryd.sizeOf124 (vs := [(.bool x21), (.int .i64 x23), (.int .i64 x25)]) rfl rfl ⟨e22, e24, e26, trivial⟩) ?_
    obtain ⟨e28, H⟩ := H
    obtain ⟨h5, e27⟩ : ∃ hh : Heap, hh = hsets h1 p2 0 [(.bool x21), (.int .i64 x23), (.int .i64 x25)] := ⟨_, rfl⟩
    have H := H h5 e27
    refine s_st (d := none) (h' := h5) rfl rfl rfl (fun dr => (r_store (v := (.agg #[(.bool x21), (.int .i64 x23), (.int .i64 x25)])) Tryd.sizeOf124 rfl rfl rfl (one_all rfl) e28).trans (by rw [e27]; rfl)) trivial ?_ trivial
    refine s_fin ?_
    show W _ _ _ _ _ _ _ _
    refine W_ret ?_
    obtain ⟨x29, e30, H⟩ := H
    obtain ⟨x31, e32, H⟩ := H
    obtain ⟨x33, e34, H⟩ := H
    exact ⟨[(.agg #[(.bool x29), (.int .i64 x31), (.int .i64 x33)])], ⟨_, _, _, rfl, rfl, fun dr => run_loadVarN Tryd.isAgg124 Tryd.sizeOf124 (vs := [(.bool x29), (.int .i64 x31), (.int .i64 x33)]) rfl ⟨e30, e32, e34, trivial⟩, rfl⟩, x29, x31, x33, rfl, H⟩

/-! ### finger_made_api_Span_ival_reach_ival_reaches -/

def finger_made_api_Span_ival_reach_ival_reaches_F (r : World) (l1 : Option Addr) (v2 : Int) (v3 : Int) (v4 : Int) (vr5 : Option Addr) (h : Heap) (R : Option Addr → Heap → Prop) : Prop :=
  New h (.cells #[(.int .i64 v2), (.int .i64 v3), (.int .i64 v4)] 74) fun p6 h1 =>
  New h1 (.cells #[] 126) fun p9 h2 =>
  LdI h2 (Addr.add p6 0) fun x12 =>
  LdI h2 (Addr.add p6 1) fun x14 =>
  LdI h2 (Addr.add p6 2) fun x16 =>
  LdI h2 (Addr.add p6 0) fun x18 =>
  LdI h2 (Addr.add p6 1) fun x20 =>
  LdI h2 (Addr.add p6 2) fun x22 =>
  finger_node_api_Span_ival_reach_size r l1 h2 fun y24 h3 =>
  (hcell h3 (Addr.add p6 0) = some (.int .i64 x18)) ∧
  (hcell h3 (Addr.add p6 1) = some (.int .i64 x20)) ∧
  (hcell h3 (Addr.add p6 2) = some (.int .i64 x22)) ∧
  (hcell h3 (Addr.add p6 0) = some (.int .i64 x12)) ∧
  (hcell h3 (Addr.add p6 1) = some (.int .i64 x14)) ∧
  (hcell h3 (Addr.add p6 2) = some (.int .i64 x16)) ∧
  finger_node_api_Span_ival_reach_size r vr5 h3 fun y31 h4 =>
  (hcell h4 (Addr.add p6 0) = some (.int .i64 x18)) ∧
  (hcell h4 (Addr.add p6 1) = some (.int .i64 x20)) ∧
  (hcell h4 (Addr.add p6 2) = some (.int .i64 x22)) ∧
  (hcell h4 (Addr.add p6 0) = some (.int .i64 x12)) ∧
  (hcell h4 (Addr.add p6 1) = some (.int .i64 x14)) ∧
  (hcell h4 (Addr.add p6 2) = some (.int .i64 x16)) ∧
  finger_total_api_Span_ival_reach_ival_reaches r l1 h4 fun y38 y39 y40 h5 =>
  (hcell h5 (Addr.add p6 0) = some (.int .i64 x18)) ∧
  (hcell h5 (Addr.add p6 1) = some (.int .i64 x20)) ∧
  (hcell h5 (Addr.add p6 2) = some (.int .i64 x22)) ∧
  (hcell h5 (Addr.add p6 0) = some (.int .i64 x12)) ∧
  (hcell h5 (Addr.add p6 1) = some (.int .i64 x14)) ∧
  (hcell h5 (Addr.add p6 2) = some (.int .i64 x16)) ∧
  ival_reaches_One r x18 x20 x22 h5 fun y47 y48 y49 h6 =>
  (hcell h6 (Addr.add p6 0) = some (.int .i64 x12)) ∧
  (hcell h6 (Addr.add p6 1) = some (.int .i64 x14)) ∧
  (hcell h6 (Addr.add p6 2) = some (.int .i64 x16)) ∧
  ival_reaches_Join r y38 y39 y40 y47 y48 y49 h6 fun y53 y54 y55 h7 =>
  (hcell h7 (Addr.add p6 0) = some (.int .i64 x12)) ∧
  (hcell h7 (Addr.add p6 1) = some (.int .i64 x14)) ∧
  (hcell h7 (Addr.add p6 2) = some (.int .i64 x16)) ∧
  finger_total_api_Span_ival_reach_ival_reaches r vr5 h7 fun y59 y60 y61 h8 =>
  (hcell h8 (Addr.add p6 0) = some (.int .i64 x12)) ∧
  (hcell h8 (Addr.add p6 1) = some (.int .i64 x14)) ∧
  (hcell h8 (Addr.add p6 2) = some (.int .i64 x16)) ∧
  ival_reaches_Join r y53 y54 y55 y59 y60 y61 h8 fun y65 y66 y67 h9 =>
  (hcell h9 (Addr.add p6 0) = some (.int .i64 x12)) ∧
  (hcell h9 (Addr.add p6 1) = some (.int .i64 x14)) ∧
  (hcell h9 (Addr.add p6 2) = some (.int .i64 x16)) ∧
  New h9 (.cells #[(.int .i64 x12), (.int .i64 x14), (.int .i64 x16), (.int .i64 (w64 ((w64 (1 + y24)) + y31))), (.bool y65), (.int .i64 y66), (.int .i64 y67), (.pointer l1), (.pointer vr5)] 164) fun p71 h10 =>
  R (some p71) h10

set_option maxRecDepth 100000 in
theorem finger_made_api_Span_ival_reach_ival_reaches_of {r : World} {l1 : Option Addr} {v2 : Int} {v3 : Int} {v4 : Int} {vr5 : Option Addr} {h : Heap} {R : Option Addr → Heap → Prop} (H : finger_made_api_Span_ival_reach_ival_reaches_F r l1 v2 v3 v4 vr5 h R) : finger_made_api_Span_ival_reach_ival_reaches r l1 v2 v3 v4 vr5 h R := by
  unfold finger_made_api_Span_ival_reach_ival_reaches_F at H
  refine calls_of 33 [.tmp 6] Tryd.func136 rfl rfl rfl rfl rfl ?_
  refine W_seq ?_
  refine W_region (.ef 0 [] (.pu 1 .fin) .no) rfl rfl ?_
  obtain ⟨p6, e7⟩ : ∃ p : Addr, p = ⟨h.size, 0, none⟩ := ⟨_, rfl⟩
  obtain ⟨h1, e8⟩ : ∃ hh : Heap, hh = h.push (.cells #[(.int .i64 v2), (.int .i64 v3), (.int .i64 v4)] 74) := ⟨_, rfl⟩
  have H := H p6 h1 e7 e8
  refine s_ef1 (d := some 4) (v := (.pointer (some p6))) (h' := h1) rfl rfl rfl (fun dr => (r_box (v := (.agg #[(.int .i64 v2), (.int .i64 v3), (.int .i64 v4)])) rfl).trans (by rw [e7, e8]; rfl)) trivial ?_ trivial
  refine s_pu (d := some 6) (v := (.pointer none)) rfl rfl rfl (r_assign rfl) ?_
  refine s_fin ?_
  show W _ _ _ _ _ _ _ _
  refine W_seq ?_
  refine W_region (.ef 0 [] .fin .no) rfl rfl ?_
  obtain ⟨p9, e10⟩ : ∃ p : Addr, p = ⟨h1.size, 0, none⟩ := ⟨_, rfl⟩
  obtain ⟨h2, e11⟩ : ∃ hh : Heap, hh = h1.push (.cells #[] 126) := ⟨_, rfl⟩
  have H := H p9 h2 e10 e11
  refine s_ef1 (d := some 7) (v := (.pointer (some p9))) (h' := h2) rfl rfl rfl (fun dr => (r_alloc Tryd.zeroValue126).trans (by rw [e10, e11]; rfl)) trivial ?_ trivial
  refine s_fin ?_
  show W _ _ _ _ _ _ _ _
  refine W_seq ?_
  refine W_draw [0, 0, 2, 6, 0, 22, 62, 0, 128, 0, 512, 0, 2102, 0, 8192, 0, 63542, 130614, 0, 523830, 1048502, 0, 0, 8388607, 16777215, 33554431] (.rd 0 (.pu 1 (.pu 4 (.rd 7 (.pu 8 (.rd 9 (.pu 10 (.pu 11 (.rd 13 (.pu 14 (.rd 15 (.pu 18 (.pu 21 (.pu 22 (.ef 2 [] (.pu 3 (.ef 5 [] (.pu 6 (.ef 12 [] (.ef 16 [13, 15] (.ef 17 [9, 13, 15] (.ef 19 [9, 13, 15] (.ef 20 [7, 9, 13, 15] (.pu 23 (.ef 24 [0, 7, 9, 13, 15] (.pu 25 .fin) .no)) .no) .no) .no) .no) .no)) .no)) .no))))))))))))))) (by kernel_rfl) (by kernel_rfl) ?_
  obtain ⟨x12, e13, H⟩ := H
  obtain ⟨x14, e15, H⟩ := H
  obtain ⟨x16, e17, H⟩ := H
  refine s_rd (d := some 8) (v := (.agg #[(.int .i64 x12), (.int .i64 x14), (.int .i64 x16)])) rfl rfl rfl (fun dr => r_loadN Tryd.isAgg74 Tryd.sizeOf74 (vs := [(.int .i64 x12), (.int .i64 x14), (.int .i64 x16)]) rfl rfl ⟨e13, e15, e17, trivial⟩) ?_
  refine s_pu (d := some 9) (v := (.pointer l1)) rfl rfl rfl (r_move rfl) ?_
  refine s_pu (d := some 12) (v := (.pointer vr5)) rfl rfl rfl (r_move rfl) ?_
  refine s_rd (d := some 15) (v := (.agg #[])) rfl rfl rfl (fun dr => r_loadN Tryd.isAgg126 Tryd.sizeOf126 (vs := []) rfl rfl trivial) ?_
  refine s_pu (d := some 16) (v := ((.iface 126 (.agg #[])))) rfl rfl rfl (r_iface Tryd.underlying126 rfl rfl) ?_
  refine s_rd (d := some 17) (v := (.agg #[])) rfl rfl rfl (fun dr => r_loadN Tryd.isAgg126 Tryd.sizeOf126 (vs := []) rfl rfl trivial) ?_
  refine s_pu (d := some 18) (v := ((.iface 126 (.agg #[])))) rfl rfl rfl (r_iface Tryd.underlying126 rfl rfl) ?_
  refine s_pu (d := some 19) (v := (.pointer l1)) rfl rfl rfl (r_move rfl) ?_
  refine s_rd (d := some 21) (v := (.agg #[])) rfl rfl rfl (fun dr => r_loadN Tryd.isAgg126 Tryd.sizeOf126 (vs := []) rfl rfl trivial) ?_
  refine s_pu (d := some 22) (v := ((.iface 126 (.agg #[])))) rfl rfl rfl (r_iface Tryd.underlying126 rfl rfl) ?_
  obtain ⟨x18, e19, H⟩ := H
  obtain ⟨x20, e21, H⟩ := H
  obtain ⟨x22, e23, H⟩ := H
  refine s_rd (d := some 23) (v := (.agg #[(.int .i64 x18), (.int .i64 x20), (.int .i64 x22)])) rfl rfl rfl (fun dr => r_loadN Tryd.isAgg74 Tryd.sizeOf74 (vs := [(.int .i64 x18), (.int .i64 x20), (.int .i64 x22)]) rfl rfl ⟨e19, e21, e23, trivial⟩) ?_
  refine s_pu (d := some 26) (v := (.pointer vr5)) rfl rfl rfl (r_move rfl) ?_
  refine s_pu (d := some 29) (v := (.pointer l1)) rfl rfl rfl (r_move rfl) ?_
  refine s_pu (d := some 30) (v := (.pointer vr5)) rfl rfl rfl (r_move rfl) ?_
  refine s_ef (d := some 10) rfl rfl rfl (fun dr => r_call Tryd.call118 rfl rfl H) ?_ trivial
  rintro _ h3 ⟨y24, rfl, H⟩
  obtain ⟨e25, H⟩ := H
  obtain ⟨e26, H⟩ := H
  obtain ⟨e27, H⟩ := H
  obtain ⟨e28, H⟩ := H
  obtain ⟨e29, H⟩ := H
  obtain ⟨e30, H⟩ := H
  refine ⟨⟨(.inl ⟨rfl, fun dr => r_loadN Tryd.isAgg74 Tryd.sizeOf74 (vs := [(.int .i64 x18), (.int .i64 x20), (.int .i64 x22)]) rfl rfl ⟨e25, e26, e27, trivial⟩⟩), (.inl ⟨rfl, fun dr => r_loadN Tryd.isAgg126 Tryd.sizeOf126 (vs := []) rfl rfl trivial⟩), (.inl ⟨rfl, fun dr => r_loadN Tryd.isAgg126 Tryd.sizeOf126 (vs := []) rfl rfl trivial⟩), (.inl ⟨rfl, fun dr => r_loadN Tryd.isAgg126 Tryd.sizeOf126 (vs := []) rfl rfl trivial⟩), (.inl ⟨rfl, fun dr => r_loadN Tryd.isAgg74 Tryd.sizeOf74 (vs := [(.int .i64 x12), (.int .i64 x14), (.int .i64 x16)]) rfl rfl ⟨e28, e29, e30, trivial⟩⟩), trivial⟩, ?_⟩
  refine s_pu (d := some 11) (v := (.int .i64 (w64 (1 + y24)))) rfl rfl rfl (r_add rfl rfl) ?_
  refine s_ef (d := some 13) rfl rfl rfl (fun dr => r_call Tryd.call118 rfl rfl H) ?_ trivial
  rintro _ h4 ⟨y31, rfl, H⟩
  obtain ⟨e32, H⟩ := H
  obtain ⟨e33, H⟩ := H
  obtain ⟨e34, H⟩ := H
  obtain ⟨e35, H⟩ := H
  obtain ⟨e36, H⟩ := H
  obtain ⟨e37, H⟩ := H
  refine ⟨⟨(.inl ⟨rfl, fun dr => r_loadN Tryd.isAgg74 Tryd.sizeOf74 (vs := [(.int .i64 x18), (.int .i64 x20), (.int .i64 x22)]) rfl rfl ⟨e32, e33, e34, trivial⟩⟩), (.inl ⟨rfl, fun dr => r_loadN Tryd.isAgg126 Tryd.sizeOf126 (vs := []) rfl rfl trivial⟩), (.inl ⟨rfl, fun dr => r_loadN Tryd.isAgg126 Tryd.sizeOf126 (vs := []) rfl rfl trivial⟩), (.inl ⟨rfl, fun dr => r_loadN Tryd.isAgg126 Tryd.sizeOf126 (vs := []) rfl rfl trivial⟩), (.inl ⟨rfl, fun dr => r_loadN Tryd.isAgg74 Tryd.sizeOf74 (vs := [(.int .i64 x12), (.int .i64 x14), (.int .i64 x16)]) rfl rfl ⟨e35, e36, e37, trivial⟩⟩), trivial⟩, ?_⟩
  refine s_pu (d := some 14) (v := (.int .i64 (w64 ((w64 (1 + y24)) + y31)))) rfl rfl rfl (r_add rfl rfl) ?_
  refine s_ef (d := some 20) rfl rfl rfl (fun dr => r_call Tryd.call117 rfl rfl H) ?_ trivial
  rintro _ h5 ⟨y38, y39, y40, rfl, H⟩
  obtain ⟨e41, H⟩ := H
  obtain ⟨e42, H⟩ := H
  obtain ⟨e43, H⟩ := H
  obtain ⟨e44, H⟩ := H
  obtain ⟨e45, H⟩ := H
  obtain ⟨e46, H⟩ := H
  refine ⟨⟨(.inl ⟨rfl, fun dr => r_loadN Tryd.isAgg74 Tryd.sizeOf74 (vs := [(.int .i64 x18), (.int .i64 x20), (.int .i64 x22)]) rfl rfl ⟨e41, e42, e43, trivial⟩⟩), (.inl ⟨rfl, fun dr => r_loadN Tryd.isAgg126 Tryd.sizeOf126 (vs := []) rfl rfl trivial⟩), (.inl ⟨rfl, fun dr => r_loadN Tryd.isAgg126 Tryd.sizeOf126 (vs := []) rfl rfl trivial⟩), (.inl ⟨rfl, fun dr => r_loadN Tryd.isAgg126 Tryd.sizeOf126 (vs := []) rfl rfl trivial⟩), (.inl ⟨rfl, fun dr => r_loadN Tryd.isAgg74 Tryd.sizeOf74 (vs := [(.int .i64 x12), (.int .i64 x14), (.int .i64 x16)]) rfl rfl ⟨e44, e45, e46, trivial⟩⟩), trivial⟩, ?_⟩
  refine s_ef (d := some 24) rfl rfl rfl (fun dr => r_invoke mth_ival_reaches_One rfl rfl H) ?_ trivial
  rintro _ h6 ⟨y47, y48, y49, rfl, H⟩
  obtain ⟨e50, H⟩ := H
  obtain ⟨e51, H⟩ := H
  obtain ⟨e52, H⟩ := H
  refine ⟨⟨trivial, trivial, (.inl ⟨rfl, fun dr => r_loadN Tryd.isAgg126 Tryd.sizeOf126 (vs := []) rfl rfl trivial⟩), (.inl ⟨rfl, fun dr => r_loadN Tryd.isAgg126 Tryd.sizeOf126 (vs := []) rfl rfl trivial⟩), (.inl ⟨rfl, fun dr => r_loadN Tryd.isAgg74 Tryd.sizeOf74 (vs := [(.int .i64 x12), (.int .i64 x14), (.int .i64 x16)]) rfl rfl ⟨e50, e51, e52, trivial⟩⟩), trivial⟩, ?_⟩
  refine s_ef (d := some 25) rfl rfl rfl (fun dr => r_invoke mth_ival_reaches_Join rfl rfl H) ?_ trivial
  rintro _ h7 ⟨y53, y54, y55, rfl, H⟩
  obtain ⟨e56, H⟩ := H
  obtain ⟨e57, H⟩ := H
  obtain ⟨e58, H⟩ := H
  refine ⟨⟨trivial, trivial, trivial, (.inl ⟨rfl, fun dr => r_loadN Tryd.isAgg126 Tryd.sizeOf126 (vs := []) rfl rfl trivial⟩), (.inl ⟨rfl, fun dr => r_loadN Tryd.isAgg74 Tryd.sizeOf74 (vs := [(.int .i64 x12), (.int .i64 x14), (.int .i64 x16)]) rfl rfl ⟨e56, e57, e58, trivial⟩⟩), trivial⟩, ?_⟩
  refine s_ef (d := some 27) rfl rfl rfl (fun dr => r_call Tryd.call117 rfl rfl H) ?_ trivial
  rintro _ h8 ⟨y59, y60, y61, rfl, H⟩
  obtain ⟨e62, H⟩ := H
  obtain ⟨e63, H⟩ := H
  obtain ⟨e64, H⟩ := H
  refine ⟨⟨trivial, trivial, trivial, (.inl ⟨rfl, fun dr => r_loadN Tryd.isAgg126 Tryd.sizeOf126 (vs := []) rfl rfl trivial⟩), (.inl ⟨rfl, fun dr => r_loadN Tryd.isAgg74 Tryd.sizeOf74 (vs := [(.int .i64 x12), (.int .i64 x14), (.int .i64 x16)]) rfl rfl ⟨e62, e63, e64, trivial⟩⟩), trivial⟩, ?_⟩
  refine s_ef (d := some 28) rfl rfl rfl (fun dr => r_invoke mth_ival_reaches_Join rfl rfl H) ?_ trivial
  rintro _ h9 ⟨y65, y66, y67, rfl, H⟩
  obtain ⟨e68, H⟩ := H
  obtain ⟨e69, H⟩ := H
  obtain ⟨e70, H⟩ := H
  refine ⟨⟨trivial, trivial, trivial, trivial, (.inl ⟨rfl, fun dr => r_loadN Tryd.isAgg74 Tryd.sizeOf74 (vs := [(.int .i64 x12), (.int .i64 x14), (.int .i64 x16)]) rfl rfl ⟨e68, e69, e70, trivial⟩⟩), trivial⟩, ?_⟩
  refine s_pu (d := some 31) (v := (.agg #[(.int .i64 x12), (.int .i64 x14), (.int .i64 x16), (.int .i64 (w64 ((w64 (1 + y24)) + y31))), (.bool y65), (.int .i64 y66), (.int .i64 y67), (.pointer l1), (.pointer vr5)])) rfl rfl rfl (fun w => by kernel_rfl) ?_
  obtain ⟨p71, e72⟩ : ∃ p : Addr, p = ⟨h9.size, 0, none⟩ := ⟨_, rfl⟩
  obtain ⟨h10, e73⟩ : ∃ hh : Heap, hh = h9.push (.cells #[(.int .i64 x12), (.int .i64 x14), (.int .i64 x16), (.int .i64 (w64 ((w64 (1 + y24)) + y31))), (.bool y65), (.int .i64 y66), (.int .i64 y67), (.pointer l1), (.pointer vr5)] 164) := ⟨_, rfl⟩
  have H := H p71 h10 e72 e73
  refine s_ef1 (d := some 32) (v := (.pointer (some p71))) (h' := h10) rfl rfl rfl (fun dr => (r_box (v := (.agg #[(.int .i64 x12), (.int .i64 x14), (.int .i64 x16), (.int .i64 (w64 ((w64 (1 + y24)) + y31))), (.bool y65), (.int .i64 y66), (.int .i64 y67), (.pointer l1), (.pointer vr5)])) rfl).trans (by rw [e72, e73]; rfl)) ⟨trivial, trivial, trivial, trivial, trivial, trivial⟩ ?_ trivial
  refine s_pu (d := some 6) (v := (.pointer (some p71))) rfl rfl rfl (r_assign rfl) ?_
  refine s_fin ?_
  show W _ _ _ _ _ _ _ _
  refine W_ret ?_
  exact ⟨[(.pointer (some p71))], ⟨_, _, rfl, rfl, rfl⟩, (some p71), rfl, H⟩

/-! ### finger_even_api_Span_ival_reach_ival_reaches -/

def finger_even_api_Span_ival_reach_ival_reaches_F (r : World) (l1 : Option Addr) (v2 : Int) (v3 : Int) (v4 : Int) (vr5 : Option Addr) (h : Heap) (R : Option Addr → Heap → Prop) : Prop :=
  New h (.cells #[(.int .i64 v2), (.int .i64 v3), (.int .i64 v4)] 74) fun p6 h1 =>
  ∀ J10 : Bool → Heap → Prop, (∀ (x9 : Bool) (h2 : Heap),
    (Br x9 (
      LdI h2 (Addr.add p6 0) fun x12 =>
      LdI h2 (Addr.add p6 1) fun x14 =>
      LdI h2 (Addr.add p6 2) fun x16 =>
      Ck vr5 fun p18 =>
      LdP h2 (Addr.add p18 7) fun x20 =>
      Ck vr5 fun p22 =>
      LdI h2 (Addr.add (Addr.add p22 0) 0) fun x24 =>
      LdI h2 (Addr.add (Addr.add p22 0) 1) fun x26 =>
      LdI h2 (Addr.add (Addr.add p22 0) 2) fun x28 =>
      Ck vr5 fun p30 =>
      LdP h2 (Addr.add p30 8) fun x32 =>
      CallV Tryd.prog r ((.func (.func 136) #[] #[])) [(.pointer l1), (.agg #[(.int .i64 x12), (.int .i64 x14), (.int .i64 x16)]), (.pointer x20)] h2 fun v41 h3 => ∃ (y34 : Option Addr), v41 = (.pointer y34) ∧
      (hcell h3 (Addr.add p30 8) = some (.pointer x32)) ∧
      (hcell h3 (Addr.add (Addr.add p22 0) 0) = some (.int .i64 x24)) ∧
      (hcell h3 (Addr.add (Addr.add p22 0) 1) = some (.int .i64 x26)) ∧
      (hcell h3 (Addr.add (Addr.add p22 0) 2) = some (.int .i64 x28)) ∧
      CallV Tryd.prog r ((.func (.func 136) #[] #[])) [(.pointer y34), (.agg #[(.int .i64 x24), (.int .i64 x26), (.int .i64 x28)]), (.pointer x32)] h3 fun v40 h4 => ∃ (y39 : Option Addr), v40 = (.pointer y39) ∧
      R y39 h4) (
      finger_heavy_api_Span_ival_reach r vr5 l1 h2 fun y42 h5 =>
      Br y42 (
        Ck vr5 fun p43 =>
        LdP h5 (Addr.add p43 7) fun x45 =>
        LdI h5 (Addr.add p6 0) fun x47 =>
        LdI h5 (Addr.add p6 1) fun x49 =>
        LdI h5 (Addr.add p6 2) fun x51 =>
        Ck x45 fun p53 =>
        LdP h5 (Addr.add p53 7) fun x55 =>
        Ck x45 fun p57 =>
        LdI h5 (Addr.add (Addr.add p57 0) 0) fun x59 =>
        LdI h5 (Addr.add (Addr.add p57 0) 1) fun x61 =>
        LdI h5 (Addr.add (Addr.add p57 0) 2) fun x63 =>
        Ck x45 fun p65 =>
        LdP h5 (Addr.add p65 8) fun x67 =>
        Ck vr5 fun p69 =>
        LdI h5 (Addr.add (Addr.add p69 0) 0) fun x71 =>
        LdI h5 (Addr.add (Addr.add p69 0) 1) fun x73 =>
        LdI h5 (Addr.add (Addr.add p69 0) 2) fun x75 =>
        Ck vr5 fun p77 =>
        LdP h5 (Addr.add p77 8) fun x79 =>
        CallV Tryd.prog r ((.func (.func 136) #[] #[])) [(.pointer l1), (.agg #[(.int .i64 x47), (.int .i64 x49), (.int .i64 x51)]), (.pointer x55)] h5 fun v97 h6 => ∃ (y81 : Option Addr), v97 = (.pointer y81) ∧
        (hcell h6 (Addr.add p77 8) = some (.pointer x79)) ∧
        (hcell h6 (Addr.add (Addr.add p69 0) 0) = some (.int .i64 x71)) ∧
        (hcell h6 (Addr.add (Addr.add p69 0) 1) = some (.int .i64 x73)) ∧
        (hcell h6 (Addr.add (Addr.add p69 0) 2) = some (.int .i64 x75)) ∧
        (hcell h6 (Addr.add p65 8) = some (.pointer x67)) ∧
        (hcell h6 (Addr.add (Addr.add p57 0) 0) = some (.int .i64 x59)) ∧
        (hcell h6 (Addr.add (Addr.add p57 0) 1) = some (.int .i64 x61)) ∧
        (hcell h6 (Addr.add (Addr.add p57 0) 2) = some (.int .i64 x63)) ∧
        CallV Tryd.prog r ((.func (.func 136) #[] #[])) [(.pointer x67), (.agg #[(.int .i64 x71), (.int .i64 x73), (.int .i64 x75)]), (.pointer x79)] h6 fun v96 h7 => ∃ (y90 : Option Addr), v96 = (.pointer y90) ∧
        (hcell h7 (Addr.add (Addr.add p57 0) 0) = some (.int .i64 x59)) ∧
        (hcell h7 (Addr.add (Addr.add p57 0) 1) = some (.int .i64 x61)) ∧
        (hcell h7 (Addr.add (Addr.add p57 0) 2) = some (.int .i64 x63)) ∧
        CallV Tryd.prog r ((.func (.func 136) #[] #[])) [(.pointer y81), (.agg #[(.int .i64 x59), (.int .i64 x61), (.int .i64 x63)]), (.pointer y90)] h7 fun v95 h8 => ∃ (y94 : Option Addr), v95 = (.pointer y94) ∧
        R y94 h8) (
        ∀ J99 : Bool → Heap → Prop, (∀ (x98 : Bool) (h9 : Heap),
          (Br x98 (
            Ck l1 fun p101 =>
            LdP h9 (Addr.add p101 7) fun x103 =>
            Ck l1 fun p105 =>
            LdI h9 (Addr.add (Addr.add p105 0) 0) fun x107 =>
            LdI h9 (Addr.add (Addr.add p105 0) 1) fun x109 =>
            LdI h9 (Addr.add (Addr.add p105 0) 2) fun x111 =>
            Ck l1 fun p113 =>
            LdP h9 (Addr.add p113 8) fun x115 =>
            LdI h9 (Addr.add p6 0) fun x117 =>
            LdI h9 (Addr.add p6 1) fun x119 =>
            LdI h9 (Addr.add p6 2) fun x121 =>
            CallV Tryd.prog r ((.func (.func 136) #[] #[])) [(.pointer x115), (.agg #[(.int .i64 x117), (.int .i64 x119), (.int .i64 x121)]), (.pointer vr5)] h9 fun v130 h10 => ∃ (y123 : Option Addr), v130 = (.pointer y123) ∧
            (hcell h10 (Addr.add (Addr.add p105 0) 0) = some (.int .i64 x107)) ∧
            (hcell h10 (Addr.add (Addr.add p105 0) 1) = some (.int .i64 x109)) ∧
            (hcell h10 (Addr.add (Addr.add p105 0) 2) = some (.int .i64 x111)) ∧
            (hcell h10 (Addr.add p101 7) = some (.pointer x103)) ∧
            CallV Tryd.prog r ((.func (.func 136) #[] #[])) [(.pointer x103), (.agg #[(.int .i64 x107), (.int .i64 x109), (.int .i64 x111)]), (.pointer y123)] h10 fun v129 h11 => ∃ (y128 : Option Addr), v129 = (.pointer y128) ∧
            R y128 h11) (
            finger_heavy_api_Span_ival_reach r l1 vr5 h9 fun y131 h12 =>
            Br y131 (
              Ck l1 fun p132 =>
              LdP h12 (Addr.add p132 8) fun x134 =>
              Ck l1 fun p136 =>
              LdP h12 (Addr.add p136 7) fun x138 =>
              Ck l1 fun p140 =>
              LdI h12 (Addr.add (Addr.add p140 0) 0) fun x142 =>
              LdI h12 (Addr.add (Addr.add p140 0) 1) fun x144 =>
              LdI h12 (Addr.add (Addr.add p140 0) 2) fun x146 =>
              Ck x134 fun p148 =>
              LdP h12 (Addr.add p148 7) fun x150 =>
              Ck x134 fun p152 =>
              LdI h12 (Addr.add (Addr.add p152 0) 0) fun x154 =>
              LdI h12 (Addr.add (Addr.add p152 0) 1) fun x156 =>
              LdI h12 (Addr.add (Addr.add p152 0) 2) fun x158 =>
              Ck x134 fun p160 =>
              LdP h12 (Addr.add p160 8) fun x162 =>
              LdI h12 (Addr.add p6 0) fun x164 =>
              LdI h12 (Addr.add p6 1) fun x166 =>
              LdI h12 (Addr.add p6 2) fun x168 =>
              CallV Tryd.prog r ((.func (.func 136) #[] #[])) [(.pointer x138), (.agg #[(.int .i64 x142), (.int .i64 x144), (.int .i64 x146)]), (.pointer x150)] h12 fun v185 h13 => ∃ (y170 : Option Addr), v185 = (.pointer y170) ∧
              (hcell h13 (Addr.add p6 0) = some (.int .i64 x164)) ∧
              (hcell h13 (Addr.add p6 1) = some (.int .i64 x166)) ∧
              (hcell h13 (Addr.add p6 2) = some (.int .i64 x168)) ∧
              (hcell h13 (Addr.add p160 8) = some (.pointer x162)) ∧
              (hcell h13 (Addr.add (Addr.add p152 0) 0) = some (.int .i64 x154)) ∧
              (hcell h13 (Addr.add (Addr.add p152 0) 1) = some (.int .i64 x156)) ∧
              (hcell h13 (Addr.add (Addr.add p152 0) 2) = some (.int .i64 x158)) ∧
              CallV Tryd.prog r ((.func (.func 136) #[] #[])) [(.pointer x162), (.agg #[(.int .i64 x164), (.int .i64 x166), (.int .i64 x168)]), (.pointer vr5)] h13 fun v184 h14 => ∃ (y178 : Option Addr), v184 = (.pointer y178) ∧
              (hcell h14 (Addr.add (Addr.add p152 0) 0) = some (.int .i64 x154)) ∧
              (hcell h14 (Addr.add (Addr.add p152 0) 1) = some (.int .i64 x156)) ∧
              (hcell h14 (Addr.add (Addr.add p152 0) 2) = some (.int .i64 x158)) ∧
              CallV Tryd.prog r ((.func (.func 136) #[] #[])) [(.pointer y170), (.agg #[(.int .i64 x154), (.int .i64 x156), (.int .i64 x158)]), (.pointer y178)] h14 fun v183 h15 => ∃ (y182 : Option Addr), v183 = (.pointer y182) ∧
              R y182 h15) (
              LdI h12 (Addr.add p6 0) fun x186 =>
              LdI h12 (Addr.add p6 1) fun x188 =>
              LdI h12 (Addr.add p6 2) fun x190 =>
              CallV Tryd.prog r ((.func (.func 136) #[] #[])) [(.pointer l1), (.agg #[(.int .i64 x186), (.int .i64 x188), (.int .i64 x190)]), (.pointer vr5)] h12 fun v193 h16 => ∃ (y192 : Option Addr), v193 = (.pointer y192) ∧
              R y192 h16))) →
          J99 x98 h9) →
        finger_heavy_api_Span_ival_reach r l1 vr5 h5 fun y196 h17 =>
        Br y196 (
          Ck l1 fun p198 =>
          LdP h17 (Addr.add p198 8) fun x200 =>
          Ck l1 fun p202 =>
          LdP h17 (Addr.add p202 7) fun x204 =>
          finger_node_api_Span_ival_reach_weight r x200 h17 fun y206 h18 =>
          (hcell h18 (Addr.add p202 7) = some (.pointer x204)) ∧
          finger_node_api_Span_ival_reach_weight r x204 h18 fun y208 h19 =>
          J99 (decide (y206 < (w64 (2 * y208)))) h19) (
          J99 false h17)))) →
    J10 x9 h2) →
  finger_heavy_api_Span_ival_reach r vr5 l1 h1 fun y211 h20 =>
  Br y211 (
    Ck vr5 fun p213 =>
    LdP h20 (Addr.add p213 7) fun x215 =>
    Ck vr5 fun p217 =>
    LdP h20 (Addr.add p217 8) fun x219 =>
    finger_node_api_Span_ival_reach_weight r x215 h20 fun y221 h21 =>
    (hcell h21 (Addr.add p217 8) = some (.pointer x219)) ∧
    finger_node_api_Span_ival_reach_weight r x219 h21 fun y223 h22 =>
    J10 (decide (y221 < (w64 (2 * y223)))) h22) (
    J10 false h20)

set_option maxRecDepth 100000 in
theorem finger_even_api_Span_ival_reach_ival_reaches_of {r : World} {l1 : Option Addr} {v2 : Int} {v3 : Int} {v4 : Int} {vr5 : Option Addr} {h : Heap} {R : Option Addr → Heap → Prop} (H : finger_even_api_Span_ival_reach_ival_reaches_F r l1 v2 v3 v4 vr5 h R) : finger_even_api_Span_ival_reach_ival_reaches r l1 v2 v3 v4 vr5 h R := by
  unfold finger_even_api_Span_ival_reach_ival_reaches_F at H
  refine calls_of 159 [.tmp 6] Tryd.func135 rfl rfl rfl rfl rfl ?_
  refine W_seq ?_
  refine W_region (.ef 0 [] (.pu 1 .fin) .no) rfl rfl ?_
  obtain ⟨p6, e7⟩ : ∃ p : Addr, p = ⟨h.size, 0, none⟩ := ⟨_, rfl⟩
  obtain ⟨h1, e8⟩ : ∃ hh : Heap, hh = h.push (.cells #[(.int .i64 v2), (.int .i64 v3), (.int .i64 v4)] 74) := ⟨_, rfl⟩
  have H := H p6 h1 e7 e8
  refine s_ef1 (d := some 4) (v := (.pointer (some p6))) (h' := h1) rfl rfl rfl (fun dr => (r_box (v := (.agg #[(.int .i64 v2), (.int .i64 v3), (.int .i64 v4)])) rfl).trans (by rw [e7, e8]; rfl)) trivial ?_ trivial
  refine s_pu (d := some 6) (v := (.pointer none)) rfl rfl rfl (r_assign rfl) ?_
  refine s_fin ?_
  show W _ _ _ _ _ _ _ _
  refine W_seq ?_
  refine W_region (.pu 0 .fin) rfl rfl ?_
  refine s_pu (d := some 7) (v := ((.func (.func 136) #[] #[]))) rfl rfl rfl (r_assign rfl) ?_
  refine s_fin ?_
  show W _ _ _ _ _ _ _ _
  refine W_seq ?_
  refine W_block ?_
  refine W_seq ?_
  refine W_set ?_
  intro N11 eN11
  have H := H (fun (x9 : Bool) (h2 : Heap) => ∀ b, N11 [] (mkE [(0, (.pointer l1)), (2, (.pointer vr5)), (4, (.pointer (some p6))), (7, ((.func (.func 136) #[] #[]))), (10, (.bool x9))] b) h2) (by
    intro x9 h2 H b
    rw [eN11]
    show W _ _ _ _ _ _ _ _
    refine W_if x9 rfl (fun g210 => ?_) (fun g210 => ?_)
    · have H := H.1 g210
      refine W_seq ?_
      refine W_draw [0, 0, 0, 0, 0, 16, 48, 112, 254, 0, 512, 1536, 3584, 0, 8192, 24576, 57344, 131071, 262143] (.pu 0 (.pu 1 (.pu 2 (.rd 3 (.pu 4 (.pu 5 (.pu 6 (.rd 7 (.pu 9 (.pu 10 (.pu 11 (.rd 12 (.pu 13 (.pu 14 (.pu 15 (.rd 16 (.ef 8 [3, 7] (.ef 17 [3, 7, 12, 16] (.pu 18 .fin) .no) .no))))))))))))))))) (by kernel_rfl) (by kernel_rfl) ?_
      refine s_pu (d := some 28) (v := ((.func (.func 136) #[] #[]))) rfl rfl rfl (r_move rfl) ?_
      refine s_pu (d := some 29) (v := ((.func (.func 136) #[] #[]))) rfl rfl rfl (r_move rfl) ?_
      refine s_pu (d := some 30) (v := (.pointer l1)) rfl rfl rfl (r_move rfl) ?_
      obtain ⟨x12, e13, H⟩ := H
      obtain ⟨x14, e15, H⟩ := H
      obtain ⟨x16, e17, H⟩ := H
      refine s_rd (d := some 31) (v := (.agg #[(.int .i64 x12), (.int .i64 x14), (.int .i64 x16)])) rfl rfl rfl (fun dr => r_loadN Tryd.isAgg74 Tryd.sizeOf74 (vs := [(.int .i64 x12), (.int .i64 x14), (.int .i64 x16)]) rfl rfl ⟨e13, e15, e17, trivial⟩) ?_
      refine s_pu (d := some 32) (v := (.pointer vr5)) rfl rfl rfl (r_move rfl) ?_
      obtain ⟨p18, e19, H⟩ := H
      refine s_pu (d := some 33) (v := (.pointer (some p18))) rfl rfl rfl (r_nilCheck rfl e19) ?_
      refine s_pu (d := some 34) (v := (.pointer (some (Addr.add p18 7)))) rfl rfl rfl (r_fieldAddr Tryd.underlying164 Tryd.sizeOf68 rfl rfl rfl) ?_
      obtain ⟨x20, e21, H⟩ := H
      refine s_rd (d := some 35) (v := (.pointer x20)) rfl rfl rfl (fun dr => r_load1 Tryd.isAgg68 rfl e21) ?_
      refine s_pu (d := some 37) (v := (.pointer vr5)) rfl rfl rfl (r_move rfl) ?_
      obtain ⟨p22, e23, H⟩ := H
      refine s_pu (d := some 38) (v := (.pointer (some p22))) rfl rfl rfl (r_nilCheck rfl e23) ?_
      refine s_pu (d := some 39) (v := (.pointer (some (Addr.add p22 0)))) rfl rfl rfl (r_fieldAddr Tryd.underlying164 Tryd.sizeOf74 rfl rfl rfl) ?_
      obtain ⟨x24, e25, H⟩ := H
      obtain ⟨x26, e27, H⟩ := H
      obtain ⟨x28, e29, H⟩ := H
      refine s_rd (d := some 40) (v := (.agg #[(.int .i64 x24), (.int .i64 x26), (.int .i64 x28)])) rfl rfl rfl (fun dr => r_loadN Tryd.isAgg74 Tryd.sizeOf74 (vs := [(.int .i64 x24), (.int .i64 x26), (.int .i64 x28)]) rfl rfl ⟨e25, e27, e29, trivial⟩) ?_
      refine s_pu (d := some 41) (v := (.pointer vr5)) rfl rfl rfl (r_move rfl) ?_
      obtain ⟨p30, e31, H⟩ := H
      refine s_pu (d := some 42) (v := (.pointer (some p30))) rfl rfl rfl (r_nilCheck rfl e31) ?_
      refine s_pu (d := some 43) (v := (.pointer (some (Addr.add p30 8)))) rfl rfl rfl (r_fieldAddr Tryd.underlying164 Tryd.sizeOf68 rfl rfl rfl) ?_
      obtain ⟨x32, e33, H⟩ := H
      refine s_rd (d := some 44) (v := (.pointer x32)) rfl rfl rfl (fun dr => r_load1 Tryd.isAgg68 rfl e33) ?_
      refine s_ef (d := some 36) rfl rfl rfl (fun dr => r_callV rfl rfl H) ?_ trivial
      rintro _ h3 ⟨y34, rfl, H⟩
      obtain ⟨e35, H⟩ := H
      obtain ⟨e36, H⟩ := H
      obtain ⟨e37, H⟩ := H
      obtain ⟨e38, H⟩ := H
      refine ⟨⟨(.inl ⟨rfl, fun dr => r_load1 Tryd.isAgg68 rfl e35⟩), (.inl ⟨rfl, fun dr => r_loadN Tryd.isAgg74 Tryd.sizeOf74 (vs := [(.int .i64 x24), (.int .i64 x26), (.int .i64 x28)]) rfl rfl ⟨e36, e37, e38, trivial⟩⟩), trivial, trivial, trivial⟩, ?_⟩
      refine s_ef (d := some 45) rfl rfl rfl (fun dr => r_callV rfl rfl H) ?_ trivial
      rintro _ h4 ⟨y39, rfl, H⟩
      refine ⟨⟨trivial, trivial, trivial, trivial, trivial⟩, ?_⟩
      refine s_pu (d := some 6) (v := (.pointer y39)) rfl rfl rfl (r_assign rfl) ?_
      refine s_fin ?_
      show W _ _ _ _ _ _ _ _
      refine W_ret ?_
      exact ⟨[(.pointer y39)], ⟨_, _, rfl, rfl, rfl⟩, y39, rfl, H⟩
    · have H := H.2 g210
      refine W_seq ?_
      refine W_region (.pu 0 (.pu 1 (.ef 2 [] (.pu 3 .fin) .no))) rfl rfl ?_
      refine s_pu (d := some 47) (v := (.pointer vr5)) rfl rfl rfl (r_move rfl) ?_
      refine s_pu (d := some 48) (v := (.pointer l1)) rfl rfl rfl (r_move rfl) ?_
      refine s_ef (d := some 49) rfl rfl rfl (fun dr => r_call Tryd.call134 rfl rfl H) ?_ trivial
      rintro _ h5 ⟨y42, rfl, H⟩
      refine ⟨trivial, ?_⟩
      refine s_pu (d := some 46) (v := (.bool y42)) rfl rfl rfl (r_assign rfl) ?_
      refine s_fin ?_
      show W _ _ _ _ _ _ _ _
      refine W_if y42 rfl (fun g209 => ?_) (fun g209 => ?_)
      · have H := H.1 g209
        refine W_seq ?_
        refine W_region (.pu 0 (.pu 1 (.pu 2 (.rl 3 (.pu 4 .fin))))) rfl rfl ?_
        refine s_pu (d := some 50) (v := (.pointer vr5)) rfl rfl rfl (r_move rfl) ?_
        obtain ⟨p43, e44, H⟩ := H
        refine s_pu (d := some 51) (v := (.pointer (some p43))) rfl rfl rfl (r_nilCheck rfl e44) ?_
        refine s_pu (d := some 52) (v := (.pointer (some (Addr.add p43 7)))) rfl rfl rfl (r_fieldAddr Tryd.underlying164 Tryd.sizeOf68 rfl rfl rfl) ?_
        obtain ⟨x45, e46, H⟩ := H
        refine s_rl (d := some 53) (v := (.pointer x45)) rfl rfl rfl (fun dr => r_load1 Tryd.isAgg68 rfl e46) ?_
        refine s_pu (d := some 8) (v := (.pointer x45)) rfl rfl rfl (r_assign rfl) ?_
        refine s_fin ?_
        show W _ _ _ _ _ _ _ _
        refine W_seq ?_
        refine W_draw [0, 0, 0, 0, 0, 16, 48, 112, 254, 0, 512, 1536, 3584, 0, 0, 16384, 49152, 114688, 0, 262144, 786432, 1835008, 0, 4194304, 12582912, 29360128, 67101182, 134217727, 268435455] (.pu 0 (.pu 1 (.pu 2 (.rd 3 (.pu 4 (.pu 5 (.pu 6 (.rd 7 (.pu 9 (.pu 10 (.pu 11 (.rd 12 (.pu 13 (.pu 14 (.pu 15 (.pu 16 (.rd 17 (.pu 18 (.pu 19 (.pu 20 (.rd 21 (.pu 22 (.pu 23 (.pu 24 (.rd 25 (.ef 8 [3, 7] (.ef 26 [3, 7, 17, 21, 25] (.ef 27 [3, 7, 12, 17, 21, 25] (.pu 28 .fin) .no) .no) .no)))))))))))))))))))))))))) (by kernel_rfl) (by kernel_rfl) ?_
        refine s_pu (d := some 54) (v := ((.func (.func 136) #[] #[]))) rfl rfl rfl (r_move rfl) ?_
        refine s_pu (d := some 55) (v := ((.func (.func 136) #[] #[]))) rfl rfl rfl (r_move rfl) ?_
        refine s_pu (d := some 56) (v := (.pointer l1)) rfl rfl rfl (r_move rfl) ?_
        obtain ⟨x47, e48, H⟩ := H
        obtain ⟨x49, e50, H⟩ := H
        obtain ⟨x51, e52, H⟩ := H
        refine s_rd (d := some 57) (v := (.agg #[(.int .i64 x47), (.int .i64 x49), (.int .i64 x51)])) rfl rfl rfl (fun dr => r_loadN Tryd.isAgg74 Tryd.sizeOf74 (vs := [(.int .i64 x47), (.int .i64 x49), (.int .i64 x51)]) rfl rfl ⟨e48, e50, e52, trivial⟩) ?_
        refine s_pu (d := some 58) (v := (.pointer x45)) rfl rfl rfl (r_move rfl) ?_
        obtain ⟨p53, e54, H⟩ := H
        refine s_pu (d := some 59) (v := (.pointer (some p53))) rfl rfl rfl (r_nilCheck rfl e54) ?_
        refine s_pu (d := some 60) (v := (.pointer (some (Addr.add p53 7)))) rfl rfl rfl (r_fieldAddr Tryd.underlying164 Tryd.sizeOf68 rfl rfl rfl) ?_
        obtain ⟨x55, e56, H⟩ := H
        refine s_rd (d := some 61) (v := (.pointer x55)) rfl rfl rfl (fun dr => r_load1 Tryd.isAgg68 rfl e56) ?_
        refine s_pu (d := some 63) (v := (.pointer x45)) rfl rfl rfl (r_move rfl) ?_
        obtain ⟨p57, e58, H⟩ := H
        refine s_pu (d := some 64) (v := (.pointer (some p57))) rfl rfl rfl (r_nilCheck rfl e58) ?_
        refine s_pu (d := some 65) (v := (.pointer (some (Addr.add p57 0)))) rfl rfl rfl (r_fieldAddr Tryd.underlying164 Tryd.sizeOf74 rfl rfl rfl) ?_
        obtain ⟨x59, e60, H⟩ := H
        obtain ⟨x61, e62, H⟩ := H
        obtain ⟨x63, e64, H⟩ := H
        refine s_rd (d := some 66) (v := (.agg #[(.int .i64 x59), (.int .i64 x61), (.int .i64 x63)])) rfl rfl rfl (fun dr => r_loadN Tryd.isAgg74 Tryd.sizeOf74 (vs := [(.int .i64 x59), (.int .i64 x61), (.int .i64 x63)]) rfl rfl ⟨e60, e62, e64, trivial⟩) ?_
        refine s_pu (d := some 67) (v := ((.func (.func 136) #[] #[]))) rfl rfl rfl (r_move rfl) ?_
        refine s_pu (d := some 68) (v := (.pointer x45)) rfl rfl rfl (r_move rfl) ?_
        obtain ⟨p65, e66, H⟩ := H
        refine s_pu (d := some 69) (v := (.pointer (some p65))) rfl rfl rfl (r_nilCheck rfl e66) ?_
        refine s_pu (d := some 70) (v := (.pointer (some (Addr.add p65 8)))) rfl rfl rfl (r_fieldAddr Tryd.underlying164 Tryd.sizeOf68 rfl rfl rfl) ?_
        obtain ⟨x67, e68, H⟩ := H
        refine s_rd (d := some 71) (v := (.pointer x67)) rfl rfl rfl (fun dr => r_load1 Tryd.isAgg68 rfl e68) ?_
        refine s_pu (d := some 72) (v := (.pointer vr5)) rfl rfl rfl (r_move rfl) ?_
        obtain ⟨p69, e70, H⟩ := H
        refine s_pu (d := some 73) (v := (.pointer (some p69))) rfl rfl rfl (r_nilCheck rfl e70) ?_
        refine s_pu (d := some 74) (v := (.pointer (some (Addr.add p69 0)))) rfl rfl rfl (r_fieldAddr Tryd.underlying164 Tryd.sizeOf74 rfl rfl rfl) ?_
        obtain ⟨x71, e72, H⟩ := H
        obtain ⟨x73, e74, H⟩ := H
        obtain ⟨x75, e76, H⟩ := H
        refine s_rd (d := some 75) (v := (.agg #[(.int .i64 x71), (.int .i64 x73), (.int .i64 x75)])) rfl rfl rfl (fun dr => r_loadN Tryd.isAgg74 Tryd.sizeOf74 (vs := [(.int .i64 x71), (.int .i64 x73), (.int .i64 x75)]) rfl rfl ⟨e72, e74, e76, trivial⟩) ?_
        refine s_pu (d := some 76) (v := (.pointer vr5)) rfl rfl rfl (r_move rfl) ?_
        obtain ⟨p77, e78, H⟩ := H
        refine s_pu (d := some 77) (v := (.pointer (some p77))) rfl rfl rfl (r_nilCheck rfl e78) ?_
        refine s_pu (d := some 78) (v := (.pointer (some (Addr.add p77 8)))) rfl rfl rfl (r_fieldAddr Tryd.underlying164 Tryd.sizeOf68 rfl rfl rfl) ?_
        obtain ⟨x79, e80, H⟩ := H
        refine s_rd (d := some 79) (v := (.pointer x79)) rfl rfl rfl (fun dr => r_load1 Tryd.isAgg68 rfl e80) ?_
        refine s_ef (d := some 62) rfl rfl rfl (fun dr => r_callV rfl rfl H) ?_ trivial
        rintro _ h6 ⟨y81, rfl, H⟩
        obtain ⟨e82, H⟩ := H
        obtain ⟨e83, H⟩ := H
        obtain ⟨e84, H⟩ := H
        obtain ⟨e85, H⟩ := H
        obtain ⟨e86, H⟩ := H
        obtain ⟨e87, H⟩ := H
        obtain ⟨e88, H⟩ := H
        obtain ⟨e89, H⟩ := H
        refine ⟨⟨(.inl ⟨rfl, fun dr => r_load1 Tryd.isAgg68 rfl e82⟩), (.inl ⟨rfl, fun dr => r_loadN Tryd.isAgg74 Tryd.sizeOf74 (vs := [(.int .i64 x71), (.int .i64 x73), (.int .i64 x75)]) rfl rfl ⟨e83, e84, e85, trivial⟩⟩), (.inl ⟨rfl, fun dr => r_load1 Tryd.isAgg68 rfl e86⟩), (.inl ⟨rfl, fun dr => r_loadN Tryd.isAgg74 Tryd.sizeOf74 (vs := [(.int .i64 x59), (.int .i64 x61), (.int .i64 x63)]) rfl rfl ⟨e87, e88, e89, trivial⟩⟩), trivial, trivial, trivial⟩, ?_⟩
        refine s_ef (d := some 80) rfl rfl rfl (fun dr => r_callV rfl rfl H) ?_ trivial
        rintro _ h7 ⟨y90, rfl, H⟩
        obtain ⟨e91, H⟩ := H
        obtain ⟨e92, H⟩ := H
        obtain ⟨e93, H⟩ := H
        refine ⟨⟨trivial, trivial, trivial, (.inl ⟨rfl, fun dr => r_loadN Tryd.isAgg74 Tryd.sizeOf74 (vs := [(.int .i64 x59), (.int .i64 x61), (.int .i64 x63)]) rfl rfl ⟨e91, e92, e93, trivial⟩⟩), trivial, trivial, trivial⟩, ?_⟩
        refine s_ef (d := some 81) rfl rfl rfl (fun dr => r_callV rfl rfl H) ?_ trivial
        rintro _ h8 ⟨y94, rfl, H⟩
        refine ⟨⟨trivial, trivial, trivial, trivial, trivial, trivial, trivial⟩, ?_⟩
        refine s_pu (d := some 6) (v := (.pointer y94)) rfl rfl rfl (r_assign rfl) ?_
        refine s_fin ?_
        show W _ _ _ _ _ _ _ _
        refine W_ret ?_
        exact ⟨[(.pointer y94)], ⟨_, _, rfl, rfl, rfl⟩, y94, rfl, H⟩
      · have H := H.2 g209
        refine W_seq ?_
        refine W_set ?_
        intro N100 eN100
        have H := H (fun (x98 : Bool) (h9 : Heap) => ∀ b, N100 [] (mkE [(0, (.pointer l1)), (2, (.pointer vr5)), (4, (.pointer (some p6))), (7, ((.func (.func 136) #[] #[]))), (82, (.bool x98))] b) h9) (by
          intro x98 h9 H b
          rw [eN100]
          show W _ _ _ _ _ _ _ _
          refine W_if x98 rfl (fun g195 => ?_) (fun g195 => ?_)
          · have H := H.1 g195
            refine W_seq ?_
            refine W_draw [0, 0, 2, 6, 14, 0, 32, 96, 224, 0, 0, 1024, 3072, 7168, 0, 0, 65024, 131071, 262143] (.pu 0 (.pu 1 (.pu 2 (.pu 3 (.rd 4 (.pu 5 (.pu 6 (.pu 7 (.rd 8 (.pu 9 (.pu 10 (.pu 11 (.pu 12 (.rd 13 (.rd 14 (.pu 15 (.ef 16 [13, 14] (.ef 17 [4, 8, 13, 14] (.pu 18 .fin) .no) .no))))))))))))))))) (by kernel_rfl) (by kernel_rfl) ?_
            refine s_pu (d := some 100) (v := ((.func (.func 136) #[] #[]))) rfl rfl rfl (r_move rfl) ?_
            refine s_pu (d := some 101) (v := (.pointer l1)) rfl rfl rfl (r_move rfl) ?_
            obtain ⟨p101, e102, H⟩ := H
            refine s_pu (d := some 102) (v := (.pointer (some p101))) rfl rfl rfl (r_nilCheck rfl e102) ?_
            refine s_pu (d := some 103) (v := (.pointer (some (Addr.add p101 7)))) rfl rfl rfl (r_fieldAddr Tryd.underlying164 Tryd.sizeOf68 rfl rfl rfl) ?_
            obtain ⟨x103, e104, H⟩ := H
            refine s_rd (d := some 104) (v := (.pointer x103)) rfl rfl rfl (fun dr => r_load1 Tryd.isAgg68 rfl e104) ?_
            refine s_pu (d := some 105) (v := (.pointer l1)) rfl rfl rfl (r_move rfl) ?_
            obtain ⟨p105, e106, H⟩ := H
            refine s_pu (d := some 106) (v := (.pointer (some p105))) rfl rfl rfl (r_nilCheck rfl e106) ?_
            refine s_pu (d := some 107) (v := (.pointer (some (Addr.add p105 0)))) rfl rfl rfl (r_fieldAddr Tryd.underlying164 Tryd.sizeOf74 rfl rfl rfl) ?_
            obtain ⟨x107, e108, H⟩ := H
            obtain ⟨x109, e110, H⟩ := H
            obtain ⟨x111, e112, H⟩ := H
            refine s_rd (d := some 108) (v := (.agg #[(.int .i64 x107), (.int .i64 x109), (.int .i64 x111)])) rfl rfl rfl (fun dr => r_loadN Tryd.isAgg74 Tryd.sizeOf74 (vs := [(.int .i64 x107), (.int .i64 x109), (.int .i64 x111)]) rfl rfl ⟨e108, e110, e112, trivial⟩) ?_
            refine s_pu (d := some 109) (v := ((.func (.func 136) #[] #[]))) rfl rfl rfl (r_move rfl) ?_
            refine s_pu (d := some 110) (v := (.pointer l1)) rfl rfl rfl (r_move rfl) ?_
            obtain ⟨p113, e114, H⟩ := H
            refine s_pu (d := some 111) (v := (.pointer (some p113))) rfl rfl rfl (r_nilCheck rfl e114) ?_
            refine s_pu (d := some 112) (v := (.pointer (some (Addr.add p113 8)))) rfl rfl rfl (r_fieldAddr Tryd.underlying164 Tryd.sizeOf68 rfl rfl rfl) ?_
            obtain ⟨x115, e116, H⟩ := H
            refine s_rd (d := some 113) (v := (.pointer x115)) rfl rfl rfl (fun dr => r_load1 Tryd.isAgg68 rfl e116) ?_
            obtain ⟨x117, e118, H⟩ := H
            obtain ⟨x119, e120, H⟩ := H
            obtain ⟨x121, e122, H⟩ := H
            refine s_rd (d := some 114) (v := (.agg #[(.int .i64 x117), (.int .i64 x119), (.int .i64 x121)])) rfl rfl rfl (fun dr => r_loadN Tryd.isAgg74 Tryd.sizeOf74 (vs := [(.int .i64 x117), (.int .i64 x119), (.int .i64 x121)]) rfl rfl ⟨e118, e120, e122, trivial⟩) ?_
            refine s_pu (d := some 115) (v := (.pointer vr5)) rfl rfl rfl (r_move rfl) ?_
            refine s_ef (d := some 116) rfl rfl rfl (fun dr => r_callV rfl rfl H) ?_ trivial
            rintro _ h10 ⟨y123, rfl, H⟩
            obtain ⟨e124, H⟩ := H
            obtain ⟨e125, H⟩ := H
            obtain ⟨e126, H⟩ := H
            obtain ⟨e127, H⟩ := H
            refine ⟨⟨trivial, trivial, (.inl ⟨rfl, fun dr => r_loadN Tryd.isAgg74 Tryd.sizeOf74 (vs := [(.int .i64 x107), (.int .i64 x109), (.int .i64 x111)]) rfl rfl ⟨e124, e125, e126, trivial⟩⟩), (.inl ⟨rfl, fun dr => r_load1 Tryd.isAgg68 rfl e127⟩), trivial⟩, ?_⟩
            refine s_ef (d := some 117) rfl rfl rfl (fun dr => r_callV rfl rfl H) ?_ trivial
            rintro _ h11 ⟨y128, rfl, H⟩
            refine ⟨⟨trivial, trivial, trivial, trivial, trivial⟩, ?_⟩
            refine s_pu (d := some 6) (v := (.pointer y128)) rfl rfl rfl (r_assign rfl) ?_
            refine s_fin ?_
            show W _ _ _ _ _ _ _ _
            refine W_ret ?_
            exact ⟨[(.pointer y128)], ⟨_, _, rfl, rfl, rfl⟩, y128, rfl, H⟩
          · have H := H.2 g195
            refine W_seq ?_
            refine W_region (.pu 0 (.pu 1 (.ef 2 [] (.pu 3 .fin) .no))) rfl rfl ?_
            refine s_pu (d := some 119) (v := (.pointer l1)) rfl rfl rfl (r_move rfl) ?_
            refine s_pu (d := some 120) (v := (.pointer vr5)) rfl rfl rfl (r_move rfl) ?_
            refine s_ef (d := some 121) rfl rfl rfl (fun dr => r_call Tryd.call134 rfl rfl H) ?_ trivial
            rintro _ h12 ⟨y131, rfl, H⟩
            refine ⟨trivial, ?_⟩
            refine s_pu (d := some 118) (v := (.bool y131)) rfl rfl rfl (r_assign rfl) ?_
            refine s_fin ?_
            show W _ _ _ _ _ _ _ _
            refine W_if y131 rfl (fun g194 => ?_) (fun g194 => ?_)
            · have H := H.1 g194
              refine W_seq ?_
              refine W_region (.pu 0 (.pu 1 (.pu 2 (.rl 3 (.pu 4 .fin))))) rfl rfl ?_
              refine s_pu (d := some 122) (v := (.pointer l1)) rfl rfl rfl (r_move rfl) ?_
              obtain ⟨p132, e133, H⟩ := H
              refine s_pu (d := some 123) (v := (.pointer (some p132))) rfl rfl rfl (r_nilCheck rfl e133) ?_
              refine s_pu (d := some 124) (v := (.pointer (some (Addr.add p132 8)))) rfl rfl rfl (r_fieldAddr Tryd.underlying164 Tryd.sizeOf68 rfl rfl rfl) ?_
              obtain ⟨x134, e135, H⟩ := H
              refine s_rl (d := some 125) (v := (.pointer x134)) rfl rfl rfl (fun dr => r_load1 Tryd.isAgg68 rfl e135) ?_
              refine s_pu (d := some 9) (v := (.pointer x134)) rfl rfl rfl (r_assign rfl) ?_
              refine s_fin ?_
              show W _ _ _ _ _ _ _ _
              refine W_seq ?_
              refine W_draw [0, 0, 0, 4, 12, 28, 0, 64, 192, 448, 0, 1024, 3072, 7168, 16382, 0, 32768, 98304, 229376, 0, 0, 1048576, 3145728, 7340032, 0, 0, 66617342, 134217727, 268435455] (.pu 0 (.pu 1 (.pu 2 (.pu 3 (.pu 4 (.rd 5 (.pu 6 (.pu 7 (.pu 8 (.rd 9 (.pu 10 (.pu 11 (.pu 12 (.rd 13 (.pu 15 (.pu 16 (.pu 17 (.rd 18 (.pu 19 (.pu 20 (.pu 21 (.pu 22 (.rd 23 (.rd 24 (.pu 25 (.ef 14 [5, 9, 13] (.ef 26 [5, 9, 13, 23, 24] (.ef 27 [5, 9, 13, 18, 23, 24] (.pu 28 .fin) .no) .no) .no)))))))))))))))))))))))))) (by kernel_rfl) (by kernel_rfl) ?_
              refine s_pu (d := some 126) (v := ((.func (.func 136) #[] #[]))) rfl rfl rfl (r_move rfl) ?_
              refine s_pu (d := some 127) (v := ((.func (.func 136) #[] #[]))) rfl rfl rfl (r_move rfl) ?_
              refine s_pu (d := some 128) (v := (.pointer l1)) rfl rfl rfl (r_move rfl) ?_
              obtain ⟨p136, e137, H⟩ := H
              refine s_pu (d := some 129) (v := (.pointer (some p136))) rfl rfl rfl (r_nilCheck rfl e137) ?_
              refine s_pu (d := some 130) (v := (.pointer (some (Addr.add p136 7)))) rfl rfl rfl (r_fieldAddr Tryd.underlying164 Tryd.sizeOf68 rfl rfl rfl) ?_
              obtain ⟨x138, e139, H⟩ := H
              refine s_rd (d := some 131) (v := (.pointer x138)) rfl rfl rfl (fun dr => r_load1 Tryd.isAgg68 rfl e139) ?_
              refine s_pu (d := some 132) (v := (.pointer l1)) rfl rfl rfl (r_move rfl) ?_
              obtain ⟨p140, e141, H⟩ := H
              refine s_pu (d := some 133) (v := (.pointer (some p140))) rfl rfl rfl (r_nilCheck rfl e141) ?_
              refine s_pu (d := some 134) (v := (.pointer (some (Addr.add p140 0)))) rfl rfl rfl (r_fieldAddr Tryd.underlying164 Tryd.sizeOf74 rfl rfl rfl) ?_
              obtain ⟨x142, e143, H⟩ := H
              obtain ⟨x144, e145, H⟩ := H
              obtain ⟨x146, e147, H⟩ := H
              refine s_rd (d := some 135) (v := (.agg #[(.int .i64 x142), (.int .i64 x144), (.int .i64 x146)])) rfl rfl rfl (fun dr => r_loadN Tryd.isAgg74 Tryd.sizeOf74 (vs := [(.int .i64 x142), (.int .i64 x144), (.int .i64 x146)]) rfl rfl ⟨e143, e145, e147, trivial⟩) ?_
              refine s_pu (d := some 136) (v := (.pointer x134)) rfl rfl rfl (r_move rfl) ?_
              obtain ⟨p148, e149, H⟩ := H
              refine s_pu (d := some 137) (v := (.pointer (some p148))) rfl rfl rfl (r_nilCheck rfl e149) ?_
              refine s_pu (d := some 138) (v := (.pointer (some (Addr.add p148 7)))) rfl rfl rfl (r_fieldAddr Tryd.underlying164 Tryd.sizeOf68 rfl rfl rfl) ?_
              obtain ⟨x150, e151, H⟩ := H
              refine s_rd (d := some 139) (v := (.pointer x150)) rfl rfl rfl (fun dr => r_load1 Tryd.isAgg68 rfl e151) ?_
              refine s_pu (d := some 141) (v := (.pointer x134)) rfl rfl rfl (r_move rfl) ?_
              obtain ⟨p152, e153, H⟩ := H
              refine s_pu (d := some 142) (v := (.pointer (some p152))) rfl rfl rfl (r_nilCheck rfl e153) ?_
              refine s_pu (d := some 143) (v := (.pointer (some (Addr.add p152 0)))) rfl rfl rfl (r_fieldAddr Tryd.underlying164 Tryd.sizeOf74 rfl rfl rfl) ?_
              obtain ⟨x154, e155, H⟩ := H
              obtain ⟨x156, e157, H⟩ := H
              obtain ⟨x158, e159, H⟩ := H
              refine s_rd (d := some 144) (v := (.agg #[(.int .i64 x154), (.int .i64 x156), (.int .i64 x158)])) rfl rfl rfl (fun dr => r_loadN Tryd.isAgg74 Tryd.sizeOf74 (vs := [(.int .i64 x154), (.int .i64 x156), (.int .i64 x158)]) rfl rfl ⟨e155, e157, e159, trivial⟩) ?_
              refine s_pu (d := some 145) (v := ((.func (.func 136) #[] #[]))) rfl rfl rfl (r_move rfl) ?_
              refine s_pu (d := some 146) (v := (.pointer x134)) rfl rfl rfl (r_move rfl) ?_
              obtain ⟨p160, e161, H⟩ := H
              refine s_pu (d := some 147) (v := (.pointer (some p160))) rfl rfl rfl (r_nilCheck rfl e161) ?_
              refine s_pu (d := some 148) (v := (.pointer (some (Addr.add p160 8)))) rfl rfl rfl (r_fieldAddr Tryd.underlying164 Tryd.sizeOf68 rfl rfl rfl) ?_
              obtain ⟨x162, e163, H⟩ := H
              refine s_rd (d := some 149) (v := (.pointer x162)) rfl rfl rfl (fun dr => r_load1 Tryd.isAgg68 rfl e163) ?_
              obtain ⟨x164, e165, H⟩ := H
              obtain ⟨x166, e167, H⟩ := H
              obtain ⟨x168, e169, H⟩ := H
              refine s_rd (d := some 150) (v := (.agg #[(.int .i64 x164), (.int .i64 x166), (.int .i64 x168)])) rfl rfl rfl (fun dr => r_loadN Tryd.isAgg74 Tryd.sizeOf74 (vs := [(.int .i64 x164), (.int .i64 x166), (.int .i64 x168)]) rfl rfl ⟨e165, e167, e169, trivial⟩) ?_
              refine s_pu (d := some 151) (v := (.pointer vr5)) rfl rfl rfl (r_move rfl) ?_
              refine s_ef (d := some 140) rfl rfl rfl (fun dr => r_callV rfl rfl H) ?_ trivial
              rintro _ h13 ⟨y170, rfl, H⟩
              obtain ⟨e171, H⟩ := H
              obtain ⟨e172, H⟩ := H
              obtain ⟨e173, H⟩ := H
              obtain ⟨e174, H⟩ := H
              obtain ⟨e175, H⟩ := H
              obtain ⟨e176, H⟩ := H
              obtain ⟨e177, H⟩ := H
              refine ⟨⟨(.inl ⟨rfl, fun dr => r_loadN Tryd.isAgg74 Tryd.sizeOf74 (vs := [(.int .i64 x164), (.int .i64 x166), (.int .i64 x168)]) rfl rfl ⟨e171, e172, e173, trivial⟩⟩), (.inl ⟨rfl, fun dr => r_load1 Tryd.isAgg68 rfl e174⟩), (.inl ⟨rfl, fun dr => r_loadN Tryd.isAgg74 Tryd.sizeOf74 (vs := [(.int .i64 x154), (.int .i64 x156), (.int .i64 x158)]) rfl rfl ⟨e175, e176, e177, trivial⟩⟩), trivial, trivial, trivial, trivial⟩, ?_⟩
              refine s_ef (d := some 152) rfl rfl rfl (fun dr => r_callV rfl rfl H) ?_ trivial
              rintro _ h14 ⟨y178, rfl, H⟩
              obtain ⟨e179, H⟩ := H
              obtain ⟨e180, H⟩ := H
              obtain ⟨e181, H⟩ := H
              refine ⟨⟨trivial, trivial, (.inl ⟨rfl, fun dr => r_loadN Tryd.isAgg74 Tryd.sizeOf74 (vs := [(.int .i64 x154), (.int .i64 x156), (.int .i64 x158)]) rfl rfl ⟨e179, e180, e181, trivial⟩⟩), trivial, trivial, trivial, trivial⟩, ?_⟩
              refine s_ef (d := some 153) rfl rfl rfl (fun dr => r_callV rfl rfl H) ?_ trivial
              rintro _ h15 ⟨y182, rfl, H⟩
              refine ⟨⟨trivial, trivial, trivial, trivial, trivial, trivial, trivial⟩, ?_⟩
              refine s_pu (d := some 6) (v := (.pointer y182)) rfl rfl rfl (r_assign rfl) ?_
              refine s_fin ?_
              show W _ _ _ _ _ _ _ _
              refine W_ret ?_
              exact ⟨[(.pointer y182)], ⟨_, _, rfl, rfl, rfl⟩, y182, rfl, H⟩
            · have H := H.2 g194
              refine W_skip ?_
              show W _ _ _ _ _ _ _ _
              refine W_seq ?_
              refine W_region (.pu 0 (.pu 1 (.rl 2 (.pu 3 (.ef 4 [] (.pu 5 .fin) .no))))) rfl rfl ?_
              refine s_pu (d := some 154) (v := ((.func (.func 136) #[] #[]))) rfl rfl rfl (r_move rfl) ?_
              refine s_pu (d := some 155) (v := (.pointer l1)) rfl rfl rfl (r_move rfl) ?_
              obtain ⟨x186, e187, H⟩ := H
              obtain ⟨x188, e189, H⟩ := H
              obtain ⟨x190, e191, H⟩ := H
              refine s_rl (d := some 156) (v := (.agg #[(.int .i64 x186), (.int .i64 x188), (.int .i64 x190)])) rfl rfl rfl (fun dr => r_loadN Tryd.isAgg74 Tryd.sizeOf74 (vs := [(.int .i64 x186), (.int .i64 x188), (.int .i64 x190)]) rfl rfl ⟨e187, e189, e191, trivial⟩) ?_
              refine s_pu (d := some 157) (v := (.pointer vr5)) rfl rfl rfl (r_move rfl) ?_
              refine s_ef (d := some 158) rfl rfl rfl (fun dr => r_callV rfl rfl H) ?_ trivial
              rintro _ h16 ⟨y192, rfl, H⟩
              refine ⟨trivial, ?_⟩
              refine s_pu (d := some 6) (v := (.pointer y192)) rfl rfl rfl (r_assign rfl) ?_
              refine s_fin ?_
              show W _ _ _ _ _ _ _ _
              refine W_ret ?_
              exact ⟨[(.pointer y192)], ⟨_, _, rfl, rfl, rfl⟩, y192, rfl, H⟩)
        clear eN100
        refine W_draw [0, 0, 3, 7, 15, 31, 63, 127, 255, 15, 527, 1551, 3599, 8191, 16383, 32767, 65535, 131071] (.pu 0 (.pu 1 (.ef 2 [] (.pu 3 (.pu 4 (.pu 5 (.pu 6 (.rd 7 (.pu 9 (.pu 10 (.pu 11 (.rd 12 (.ef 8 [7] (.ef 13 [7, 12] (.pu 14 (.pu 15 (.pu 16 (.pu 17 .fin)))) .no) .no)))))))))) .no))) (by kernel_rfl) (by kernel_rfl) ?_
        refine s_pu (d := some 83) (v := (.pointer l1)) rfl rfl rfl (r_move rfl) ?_
        refine s_pu (d := some 84) (v := (.pointer vr5)) rfl rfl rfl (r_move rfl) ?_
        refine s_ef (d := some 85) rfl rfl rfl (fun dr => r_call Tryd.call134 rfl rfl H) ?_ trivial
        rintro _ h17 ⟨y196, rfl, H⟩
        refine ⟨trivial, ?_⟩
        refine s_pu (d := some 86) (v := (.bool y196)) rfl rfl rfl (r_move rfl) ?_
        rcases Bool.eq_false_or_eq_true y196 with g197 | g197
        · have H := H.1 g197
          refine s_pu (d := some 87) (v := (.pointer l1)) rfl rfl (wants_yes rfl rfl rfl rfl g197) (r_move rfl) ?_
          obtain ⟨p198, e199, H⟩ := H
          refine s_pu (d := some 88) (v := (.pointer (some p198))) rfl rfl (wants_yes rfl rfl rfl rfl g197) (r_nilCheck rfl e199) ?_
          refine s_pu (d := some 89) (v := (.pointer (some (Addr.add p198 8)))) rfl rfl (wants_yes rfl rfl rfl rfl g197) (r_fieldAddr Tryd.underlying164 Tryd.sizeOf68 rfl rfl rfl) ?_
          obtain ⟨x200, e201, H⟩ := H
          refine s_rd (d := some 90) (v := (.pointer x200)) rfl rfl (wants_yes rfl rfl rfl rfl g197) (fun dr => r_load1 Tryd.isAgg68 rfl e201) ?_
          refine s_pu (d := some 92) (v := (.pointer l1)) rfl rfl (wants_yes rfl rfl rfl rfl g197) (r_move rfl) ?_
          obtain ⟨p202, e203, H⟩ := H
          refine s_pu (d := some 93) (v := (.pointer (some p202))) rfl rfl (wants_yes rfl rfl rfl rfl g197) (r_nilCheck rfl e203) ?_
          refine s_pu (d := some 94) (v := (.pointer (some (Addr.add p202 7)))) rfl rfl (wants_yes rfl rfl rfl rfl g197) (r_fieldAddr Tryd.underlying164 Tryd.sizeOf68 rfl rfl rfl) ?_
          obtain ⟨x204, e205, H⟩ := H
          refine s_rd (d := some 95) (v := (.pointer x204)) rfl rfl (wants_yes rfl rfl rfl rfl g197) (fun dr => r_load1 Tryd.isAgg68 rfl e205) ?_
          refine s_ef (d := some 91) rfl rfl (wants_yes rfl rfl rfl rfl g197) (fun dr => r_call Tryd.call146 rfl rfl H) ?_ trivial
          rintro _ h18 ⟨y206, rfl, H⟩
          obtain ⟨e207, H⟩ := H
          refine ⟨⟨(.inl ⟨(wants_yes rfl rfl rfl rfl g197), fun dr => r_load1 Tryd.isAgg68 rfl e207⟩), trivial, trivial⟩, ?_⟩
          refine s_ef (d := some 96) rfl rfl (wants_yes rfl rfl rfl rfl g197) (fun dr => r_call Tryd.call146 rfl rfl H) ?_ trivial
          rintro _ h19 ⟨y208, rfl, H⟩
          refine ⟨⟨trivial, trivial, trivial⟩, ?_⟩
          refine s_pu (d := some 97) (v := (.int .i64 (w64 (2 * y208)))) rfl rfl (wants_yes rfl rfl rfl rfl g197) (r_mul rfl rfl) ?_
          refine s_pu (d := some 98) (v := (.bool (decide (y206 < (w64 (2 * y208)))))) rfl rfl (wants_yes rfl rfl rfl rfl g197) (r_lss rfl rfl) ?_
          refine s_pu (d := some 99) (v := (.bool (decide (y206 < (w64 (2 * y208)))))) rfl rfl rfl (r_pick1 rfl g197 rfl) ?_
          refine s_pu (d := some 82) (v := (.bool (decide (y206 < (w64 (2 * y208)))))) rfl rfl rfl (r_assign rfl) ?_
          refine s_fin ?_
          exact N_mk (l := [(0, (.pointer l1)), (2, (.pointer vr5)), (4, (.pointer (some p6))), (7, ((.func (.func 136) #[] #[]))), (82, (.bool (decide (y206 < (w64 (2 * y208))))))]) H ⟨rfl, rfl, rfl, rfl, rfl, trivial⟩
        · have H := H.2 g197
          refine s_sk (d := some 87) rfl rfl (wants_no rfl rfl rfl rfl g197) ?_
          refine s_sk (d := some 88) rfl rfl (wants_no rfl rfl rfl rfl g197) ?_
          refine s_sk (d := some 89) rfl rfl (wants_no rfl rfl rfl rfl g197) ?_
          refine s_skd (d := some 90) rfl rfl (wants_no rfl rfl rfl rfl g197) ?_
          refine s_sk (d := some 92) rfl rfl (wants_no rfl rfl rfl rfl g197) ?_
          refine s_sk (d := some 93) rfl rfl (wants_no rfl rfl rfl rfl g197) ?_
          refine s_sk (d := some 94) rfl rfl (wants_no rfl rfl rfl rfl g197) ?_
          refine s_skd (d := some 95) rfl rfl (wants_no rfl rfl rfl rfl g197) ?_
          refine s_skf (d := some 91) rfl rfl (wants_no rfl rfl rfl rfl g197) ⟨(.inr ⟨wants_no rfl rfl rfl rfl g197, rfl⟩), trivial, trivial⟩ ?_ trivial
          refine s_skf (d := some 96) rfl rfl (wants_no rfl rfl rfl rfl g197) ⟨trivial, trivial, trivial⟩ ?_ trivial
          refine s_sk (d := some 97) rfl rfl (wants_no rfl rfl rfl rfl g197) ?_
          refine s_sk (d := some 98) rfl rfl (wants_no rfl rfl rfl rfl g197) ?_
          refine s_pu (d := some 99) (v := (.bool false)) rfl rfl rfl (r_pick0 rfl g197 rfl) ?_
          refine s_pu (d := some 82) (v := (.bool false)) rfl rfl rfl (r_assign rfl) ?_
          refine s_fin ?_
          exact N_mk (l := [(0, (.pointer l1)), (2, (.pointer vr5)), (4, (.pointer (some p6))), (7, ((.func (.func 136) #[] #[]))), (82, (.bool false))]) H ⟨rfl, rfl, rfl, rfl, rfl, trivial⟩)
  clear eN11
  refine W_draw [0, 0, 3, 7, 15, 31, 63, 127, 255, 15, 527, 1551, 3599, 8191, 16383, 32767, 65535, 131071] (.pu 0 (.pu 1 (.ef 2 [] (.pu 3 (.pu 4 (.pu 5 (.pu 6 (.rd 7 (.pu 9 (.pu 10 (.pu 11 (.rd 12 (.ef 8 [7] (.ef 13 [7, 12] (.pu 14 (.pu 15 (.pu 16 (.pu 17 .fin)))) .no) .no)))))))))) .no))) (by kernel_rfl) (by kernel_rfl) ?_
  refine s_pu (d := some 11) (v := (.pointer vr5)) rfl rfl rfl (r_move rfl) ?_
  refine s_pu (d := some 12) (v := (.pointer l1)) rfl rfl rfl (r_move rfl) ?_
  refine s_ef (d := some 13) rfl rfl rfl (fun dr => r_call Tryd.call134 rfl rfl H) ?_ trivial
  rintro _ h20 ⟨y211, rfl, H⟩
  refine ⟨trivial, ?_⟩
  refine s_pu (d := some 14) (v := (.bool y211)) rfl rfl rfl (r_move rfl) ?_
  rcases Bool.eq_false_or_eq_true y211 with g212 | g212
  · have H := H.1 g212
    refine s_pu (d := some 15) (v := (.pointer vr5)) rfl rfl (wants_yes rfl rfl rfl rfl g212) (r_move rfl) ?_
    obtain ⟨p213, e214, H⟩ := H
    refine s_pu (d := some 16) (v := (.pointer (some p213))) rfl rfl (wants_yes rfl rfl rfl rfl g212) (r_nilCheck rfl e214) ?_
    refine s_pu (d := some 17) (v := (.pointer (some (Addr.add p213 7)))) rfl rfl (wants_yes rfl rfl rfl rfl g212) (r_fieldAddr Tryd.underlying164 Tryd.sizeOf68 rfl rfl rfl) ?_
    obtain ⟨x215, e216, H⟩ := H
    refine s_rd (d := some 18) (v := (.pointer x215)) rfl rfl (wants_yes rfl rfl rfl rfl g212) (fun dr => r_load1 Tryd.isAgg68 rfl e216) ?_
    refine s_pu (d := some 20) (v := (.pointer vr5)) rfl rfl (wants_yes rfl rfl rfl rfl g212) (r_move rfl) ?_
    obtain ⟨p217, e218, H⟩ := H
    refine s_pu (d := some 21) (v := (.pointer (some p217))) rfl rfl (wants_yes rfl rfl rfl rfl g212) (r_nilCheck rfl e218) ?_
    refine s_pu (d := some 22) (v := (.pointer (some (Addr.add p217 8)))) rfl rfl (wants_yes rfl rfl rfl rfl g212) (r_fieldAddr Tryd.underlying164 Tryd.sizeOf68 rfl rfl rfl) ?_
    obtain ⟨x219, e220, H⟩ := H
    refine s_rd (d := some 23) (v := (.pointer x219)) rfl rfl (wants_yes rfl rfl rfl rfl g212) (fun dr => r_load1 Tryd.isAgg68 rfl e220) ?_
    refine s_ef (d := some 19) rfl rfl (wants_yes rfl rfl rfl rfl g212) (fun dr => r_call Tryd.call146 rfl rfl H) ?_ trivial
    rintro _ h21 ⟨y221, rfl, H⟩
    obtain ⟨e222, H⟩ := H
    refine ⟨⟨(.inl ⟨(wants_yes rfl rfl rfl rfl g212), fun dr => r_load1 Tryd.isAgg68 rfl e222⟩), trivial, trivial⟩, ?_⟩
    refine s_ef (d := some 24) rfl rfl (wants_yes rfl rfl rfl rfl g212) (fun dr => r_call Tryd.call146 rfl rfl H) ?_ trivial
    rintro _ h22 ⟨y223, rfl, H⟩
    refine ⟨⟨trivial, trivial, trivial⟩, ?_⟩
    refine s_pu (d := some 25) (v := (.int .i64 (w64 (2 * y223)))) rfl rfl (wants_yes rfl rfl rfl rfl g212) (r_mul rfl rfl) ?_
    refine s_pu (d := some 26) (v := (.bool (decide (y221 < (w64 (2 * y223)))))) rfl rfl (wants_yes rfl rfl rfl rfl g212) (r_lss rfl rfl) ?_
    refine s_pu (d := some 27) (v := (.bool (decide (y221 < (w64 (2 * y223)))))) rfl rfl rfl (r_pick1 rfl g212 rfl) ?_
    refine s_pu (d := some 10) (v := (.bool (decide (y221 < (w64 (2 * y223)))))) rfl rfl rfl (r_assign rfl) ?_
    refine s_fin ?_
    exact N_mk (l := [(0, (.pointer l1)), (2, (.pointer vr5)), (4, (.pointer (some p6))), (7, ((.func (.func 136) #[] #[]))), (10, (.bool (decide (y221 < (w64 (2 * y223))))))]) H ⟨rfl, rfl, rfl, rfl, rfl, trivial⟩
  · have H := H.2 g212
    refine s_sk (d := some 15) rfl rfl (wants_no rfl rfl rfl rfl g212) ?_
    refine s_sk (d := some 16) rfl rfl (wants_no rfl rfl rfl rfl g212) ?_
    refine s_sk (d := some 17) rfl rfl (wants_no rfl rfl rfl rfl g212) ?_
    refine s_skd (d := some 18) rfl rfl (wants_no rfl rfl rfl rfl g212) ?_
    refine s_sk (d := some 20) rfl rfl (wants_no rfl rfl rfl rfl g212) ?_
    refine s_sk (d := some 21) rfl rfl (wants_no rfl rfl rfl rfl g212) ?_
    refine s_sk (d := some 22) rfl rfl (wants_no rfl rfl rfl rfl g212) ?_
    refine s_skd (d := some 23) rfl rfl (wants_no rfl rfl rfl rfl g212) ?_
    refine s_skf (d := some 19) rfl rfl (wants_no rfl rfl rfl rfl g212) ⟨(.inr ⟨wants_no rfl rfl rfl rfl g212, rfl⟩), trivial, trivial⟩ ?_ trivial
    refine s_skf (d := some 24) rfl rfl (wants_no rfl rfl rfl rfl g212) ⟨trivial, trivial, trivial⟩ ?_ trivial
    refine s_sk (d := some 25) rfl rfl (wants_no rfl rfl rfl rfl g212) ?_
    refine s_sk (d := some 26) rfl rfl (wants_no rfl rfl rfl rfl g212) ?_
    refine s_pu (d := some 27) (v := (.bool false)) rfl rfl rfl (r_pick0 rfl g212 rfl) ?_
    refine s_pu (d := some 10) (v := (.bool false)) rfl rfl rfl (r_assign rfl) ?_
    refine s_fin ?_
    exact N_mk (l := [(0, (.pointer l1)), (2, (.pointer vr5)), (4, (.pointer (some p6))), (7, ((.func (.func 136) #[] #[]))), (10, (.bool false))]) H ⟨rfl, rfl, rfl, rfl, rfl, trivial⟩

/-! ### finger_link_api_Span_ival_reach_ival_reaches -/

def finger_link_api_Span_ival_reach_ival_reaches_F (r : World) (l1 : Option Addr) (v2 : Int) (v3 : Int) (v4 : Int) (vr5 : Option Addr) (h : Heap) (R : Option Addr → Heap → Prop) : Prop :=
  New h (.cells #[(.int .i64 v2), (.int .i64 v3), (.int .i64 v4)] 74) fun p6 h1 =>
  finger_heavy_api_Span_ival_reach r vr5 l1 h1 fun y9 h2 =>
  Br y9 (
    LdI h2 (Addr.add p6 0) fun x10 =>
    LdI h2 (Addr.add p6 1) fun x12 =>
    LdI h2 (Addr.add p6 2) fun x14 =>
    Ck vr5 fun p16 =>
    LdP h2 (Addr.add p16 7) fun x18 =>
    Ck vr5 fun p20 =>
    LdI h2 (Addr.add (Addr.add p20 0) 0) fun x22 =>
    LdI h2 (Addr.add (Addr.add p20 0) 1) fun x24 =>
    LdI h2 (Addr.add (Addr.add p20 0) 2) fun x26 =>
    Ck vr5 fun p28 =>
    LdP h2 (Addr.add p28 8) fun x30 =>
    finger_link_api_Span_ival_reach_ival_reaches r l1 x10 x12 x14 x18 h2 fun y32 h3 =>
    (hcell h3 (Addr.add p28 8) = some (.pointer x30)) ∧
    (hcell h3 (Addr.add (Addr.add p20 0) 0) = some (.int .i64 x22)) ∧
    (hcell h3 (Addr.add (Addr.add p20 0) 1) = some (.int .i64 x24)) ∧
    (hcell h3 (Addr.add (Addr.add p20 0) 2) = some (.int .i64 x26)) ∧
    finger_even_api_Span_ival_reach_ival_reaches r y32 x22 x24 x26 x30 h3 fun y37 h4 =>
    R y37 h4) (
    finger_heavy_api_Span_ival_reach r l1 vr5 h2 fun y38 h5 =>
    Br y38 (
      Ck l1 fun p39 =>
      LdP h5 (Addr.add p39 7) fun x41 =>
      Ck l1 fun p43 =>
      LdI h5 (Addr.add (Addr.add p43 0) 0) fun x45 =>
      LdI h5 (Addr.add (Addr.add p43 0) 1) fun x47 =>
      LdI h5 (Addr.add (Addr.add p43 0) 2) fun x49 =>
      Ck l1 fun p51 =>
      LdP h5 (Addr.add p51 8) fun x53 =>
      LdI h5 (Addr.add p6 0) fun x55 =>
      LdI h5 (Addr.add p6 1) fun x57 =>
      LdI h5 (Addr.add p6 2) fun x59 =>
      finger_link_api_Span_ival_reach_ival_reaches r x53 x55 x57 x59 vr5 h5 fun y61 h6 =>
      (hcell h6 (Addr.add (Addr.add p43 0) 0) = some (.int .i64 x45)) ∧
      (hcell h6 (Addr.add (Addr.add p43 0) 1) = some (.int .i64 x47)) ∧
      (hcell h6 (Addr.add (Addr.add p43 0) 2) = some (.int .i64 x49)) ∧
      (hcell h6 (Addr.add p39 7) = some (.pointer x41)) ∧
      finger_even_api_Span_ival_reach_ival_reaches r x41 x45 x47 x49 y61 h6 fun y66 h7 =>
      R y66 h7) (
      LdI h5 (Addr.add p6 0) fun x67 =>
      LdI h5 (Addr.add p6 1) fun x69 =>
      LdI h5 (Addr.add p6 2) fun x71 =>
      finger_made_api_Span_ival_reach_ival_reaches r l1 x67 x69 x71 vr5 h5 fun y73 h8 =>
      R y73 h8))

set_option maxRecDepth 100000 in
theorem finger_link_api_Span_ival_reach_ival_reaches_of {r : World} {l1 : Option Addr} {v2 : Int} {v3 : Int} {v4 : Int} {vr5 : Option Addr} {h : Heap} {R : Option Addr → Heap → Prop} (H : finger_link_api_Span_ival_reach_ival_reaches_F r l1 v2 v3 v4 vr5 h R) : finger_link_api_Span_ival_reach_ival_reaches r l1 v2 v3 v4 vr5 h R := by
  unfold finger_link_api_Span_ival_reach_ival_reaches_F at H
  refine calls_of 51 [.tmp 6] Tryd.func120 rfl rfl rfl rfl rfl ?_
  refine W_seq ?_
  refine W_region (.ef 0 [] (.pu 1 .fin) .no) rfl rfl ?_
  obtain ⟨p6, e7⟩ : ∃ p : Addr, p = ⟨h.size, 0, none⟩ := ⟨_, rfl⟩
  obtain ⟨h1, e8⟩ : ∃ hh : Heap, hh = h.push (.cells #[(.int .i64 v2), (.int .i64 v3), (.int .i64 v4)] 74) := ⟨_, rfl⟩
  have H := H p6 h1 e7 e8
  refine s_ef1 (d := some 4) (v := (.pointer (some p6))) (h' := h1) rfl rfl rfl (fun dr => (r_box (v := (.agg #[(.int .i64 v2), (.int .i64 v3), (.int .i64 v4)])) rfl).trans (by rw [e7, e8]; rfl)) trivial ?_ trivial
  refine s_pu (d := some 6) (v := (.pointer none)) rfl rfl rfl (r_assign rfl) ?_
  refine s_fin ?_
  show W _ _ _ _ _ _ _ _
  refine W_seq ?_
  refine W_block ?_
  refine W_seq ?_
  refine W_region (.pu 0 (.pu 1 (.ef 2 [] (.pu 3 .fin) .no))) rfl rfl ?_
  refine s_pu (d := some 8) (v := (.pointer vr5)) rfl rfl rfl (r_move rfl) ?_
  refine s_pu (d := some 9) (v := (.pointer l1)) rfl rfl rfl (r_move rfl) ?_
  refine s_ef (d := some 10) rfl rfl rfl (fun dr => r_call Tryd.call134 rfl rfl H) ?_ trivial
  rintro _ h2 ⟨y9, rfl, H⟩
  refine ⟨trivial, ?_⟩
  refine s_pu (d := some 7) (v := (.bool y9)) rfl rfl rfl (r_assign rfl) ?_
  refine s_fin ?_
  show W _ _ _ _ _ _ _ _
  refine W_if y9 rfl (fun g75 => ?_) (fun g75 => ?_)
  · have H := H.1 g75
    refine W_seq ?_
    refine W_draw [0, 0, 0, 4, 12, 28, 63, 0, 128, 384, 896, 0, 2048, 6144, 14336, 32767, 65535] (.pu 0 (.rd 1 (.pu 2 (.pu 3 (.pu 4 (.rd 5 (.pu 7 (.pu 8 (.pu 9 (.rd 10 (.pu 11 (.pu 12 (.pu 13 (.rd 14 (.ef 6 [1, 5] (.ef 15 [1, 5, 10, 14] (.pu 16 .fin) .no) .no))))))))))))))) (by kernel_rfl) (by kernel_rfl) ?_
    refine s_pu (d := some 11) (v := (.pointer l1)) rfl rfl rfl (r_move rfl) ?_
    obtain ⟨x10, e11, H⟩ := H
    obtain ⟨x12, e13, H⟩ := H
    obtain ⟨x14, e15, H⟩ := H
    refine s_rd (d := some 12) (v := (.agg #[(.int .i64 x10), (.int .i64 x12), (.int .i64 x14)])) rfl rfl rfl (fun dr => r_loadN Tryd.isAgg74 Tryd.sizeOf74 (vs := [(.int .i64 x10), (.int .i64 x12), (.int .i64 x14)]) rfl rfl ⟨e11, e13, e15, trivial⟩) ?_
    refine s_pu (d := some 13) (v := (.pointer vr5)) rfl rfl rfl (r_move rfl) ?_
    obtain ⟨p16, e17, H⟩ := H
    refine s_pu (d := some 14) (v := (.pointer (some p16))) rfl rfl rfl (r_nilCheck rfl e17) ?_
    refine s_pu (d := some 15) (v := (.pointer (some (Addr.add p16 7)))) rfl rfl rfl (r_fieldAddr Tryd.underlying164 Tryd.sizeOf68 rfl rfl rfl) ?_
    obtain ⟨x18, e19, H⟩ := H
    refine s_rd (d := some 16) (v := (.pointer x18)) rfl rfl rfl (fun dr => r_load1 Tryd.isAgg68 rfl e19) ?_
    refine s_pu (d := some 18) (v := (.pointer vr5)) rfl rfl rfl (r_move rfl) ?_
    obtain ⟨p20, e21, H⟩ := H
    refine s_pu (d := some 19) (v := (.pointer (some p20))) rfl rfl rfl (r_nilCheck rfl e21) ?_
    refine s_pu (d := some 20) (v := (.pointer (some (Addr.add p20 0)))) rfl rfl rfl (r_fieldAddr Tryd.underlying164 Tryd.sizeOf74 rfl rfl rfl) ?_
    obtain ⟨x22, e23, H⟩ := H
    obtain ⟨x24, e25, H⟩ := H
    obtain ⟨x26, e27, H⟩ := H
    refine s_rd (d := some 21) (v := (.agg #[(.int .i64 x22), (.int .i64 x24), (.int .i64 x26)])) rfl rfl rfl (fun dr => r_loadN Tryd.isAgg74 Tryd.sizeOf74 (vs := [(.int .i64 x22), (.int .i64 x24), (.int .i64 x26)]) rfl rfl ⟨e23, e25, e27, trivial⟩) ?_
    refine s_pu (d := some 22) (v := (.pointer vr5)) rfl rfl rfl (r_move rfl) ?_
    obtain ⟨p28, e29, H⟩ := H
    refine s_pu (d := some 23) (v := (.pointer (some p28))) rfl rfl rfl (r_nilCheck rfl e29) ?_
    refine s_pu (d := some 24) (v := (.pointer (some (Addr.add p28 8)))) rfl rfl rfl (r_fieldAddr Tryd.underlying164 Tryd.sizeOf68 rfl rfl rfl) ?_
    obtain ⟨x30, e31, H⟩ := H
    refine s_rd (d := some 25) (v := (.pointer x30)) rfl rfl rfl (fun dr => r_load1 Tryd.isAgg68 rfl e31) ?_
    refine s_ef (d := some 17) rfl rfl rfl (fun dr => r_call Tryd.call120 rfl rfl H) ?_ trivial
    rintro _ h3 ⟨y32, rfl, H⟩
    obtain ⟨e33, H⟩ := H
    obtain ⟨e34, H⟩ := H
    obtain ⟨e35, H⟩ := H
    obtain ⟨e36, H⟩ := H
    refine ⟨⟨(.inl ⟨rfl, fun dr => r_load1 Tryd.isAgg68 rfl e33⟩), (.inl ⟨rfl, fun dr => r_loadN Tryd.isAgg74 Tryd.sizeOf74 (vs := [(.int .i64 x22), (.int .i64 x24), (.int .i64 x26)]) rfl rfl ⟨e34, e35, e36, trivial⟩⟩), trivial, trivial, trivial⟩, ?_⟩
    refine s_ef (d := some 26) rfl rfl rfl (fun dr => r_call Tryd.call135 rfl rfl H) ?_ trivial
    rintro _ h4 ⟨y37, rfl, H⟩
    refine ⟨⟨trivial, trivial, trivial, trivial, trivial⟩, ?_⟩
    refine s_pu (d := some 6) (v := (.pointer y37)) rfl rfl rfl (r_assign rfl) ?_
    refine s_fin ?_
    show W _ _ _ _ _ _ _ _
    refine W_ret ?_
    exact ⟨[(.pointer y37)], ⟨_, _, rfl, rfl, rfl⟩, y37, rfl, H⟩
  · have H := H.2 g75
    refine W_seq ?_
    refine W_region (.pu 0 (.pu 1 (.ef 2 [] (.pu 3 .fin) .no))) rfl rfl ?_
    refine s_pu (d := some 28) (v := (.pointer l1)) rfl rfl rfl (r_move rfl) ?_
    refine s_pu (d := some 29) (v := (.pointer vr5)) rfl rfl rfl (r_move rfl) ?_
    refine s_ef (d := some 30) rfl rfl rfl (fun dr => r_call Tryd.call134 rfl rfl H) ?_ trivial
    rintro _ h5 ⟨y38, rfl, H⟩
    refine ⟨trivial, ?_⟩
    refine s_pu (d := some 27) (v := (.bool y38)) rfl rfl rfl (r_assign rfl) ?_
    refine s_fin ?_
    show W _ _ _ _ _ _ _ _
    refine W_if y38 rfl (fun g74 => ?_) (fun g74 => ?_)
    · have H := H.1 g74
      refine W_seq ?_
      refine W_draw [0, 1, 3, 7, 0, 16, 48, 112, 0, 256, 768, 1792, 0, 0, 16128, 32767, 65535] (.pu 0 (.pu 1 (.pu 2 (.rd 3 (.pu 4 (.pu 5 (.pu 6 (.rd 7 (.pu 8 (.pu 9 (.pu 10 (.rd 11 (.rd 12 (.pu 13 (.ef 14 [11, 12] (.ef 15 [3, 7, 11, 12] (.pu 16 .fin) .no) .no))))))))))))))) (by kernel_rfl) (by kernel_rfl) ?_
      refine s_pu (d := some 31) (v := (.pointer l1)) rfl rfl rfl (r_move rfl) ?_
      obtain ⟨p39, e40, H⟩ := H
      refine s_pu (d := some 32) (v := (.pointer (some p39))) rfl rfl rfl (r_nilCheck rfl e40) ?_
      refine s_pu (d := some 33) (v := (.pointer (some (Addr.add p39 7)))) rfl rfl rfl (r_fieldAddr Tryd.underlying164 Tryd.sizeOf68 rfl rfl rfl) ?_
      obtain ⟨x41, e42, H⟩ := H
      refine s_rd (d := some 34) (v := (.pointer x41)) rfl rfl rfl (fun dr => r_load1 Tryd.isAgg68 rfl e42) ?_
      refine s_pu (d := some 35) (v := (.pointer l1)) rfl rfl rfl (r_move rfl) ?_
      obtain ⟨p43, e44, H⟩ := H
      refine s_pu (d := some 36) (v := (.pointer (some p43))) rfl rfl rfl (r_nilCheck rfl e44) ?_
      refine s_pu (d := some 37) (v := (.pointer (some (Addr.add p43 0)))) rfl rfl rfl (r_fieldAddr Tryd.underlying164 Tryd.sizeOf74 rfl rfl rfl) ?_
      obtain ⟨x45, e46, H⟩ := H
      obtain ⟨x47, e48, H⟩ := H
      obtain ⟨x49, e50, H⟩ := H
      refine s_rd (d := some 38) (v := (.agg #[(.int .i64 x45), (.int .i64 x47), (.int .i64 x49)])) rfl rfl rfl (fun dr => r_loadN Tryd.isAgg74 Tryd.sizeOf74 (vs := [(.int .i64 x45), (.int .i64 x47), (.int .i64 x49)]) rfl rfl ⟨e46, e48, e50, trivial⟩) ?_
      refine s_pu (d := some 39) (v := (.pointer l1)) rfl rfl rfl (r_move rfl) ?_
      obtain ⟨p51, e52, H⟩ := H
      refine s_pu (d := some 40) (v := (.pointer (some p51))) rfl rfl rfl (r_nilCheck rfl e52) ?_
      refine s_pu (d := some 41) (v := (.pointer (some (Addr.add p51 8)))) rfl rfl rfl (r_fieldAddr Tryd.underlying164 Tryd.sizeOf68 rfl rfl rfl) ?_
      obtain ⟨x53, e54, H⟩ := H
      refine s_rd (d := some 42) (v := (.pointer x53)) rfl rfl rfl (fun dr => r_load1 Tryd.isAgg68 rfl e54) ?_
      obtain ⟨x55, e56, H⟩ := H
      obtain ⟨x57, e58, H⟩ := H
      obtain ⟨x59, e60, H⟩ := H
      refine s_rd (d := some 43) (v := (.agg #[(.int .i64 x55), (.int .i64 x57), (.int .i64 x59)])) rfl rfl rfl (fun dr => r_loadN Tryd.isAgg74 Tryd.sizeOf74 (vs := [(.int .i64 x55), (.int .i64 x57), (.int .i64 x59)]) rfl rfl ⟨e56, e58, e60, trivial⟩) ?_
      refine s_pu (d := some 44) (v := (.pointer vr5)) rfl rfl rfl (r_move rfl) ?_
      refine s_ef (d := some 45) rfl rfl rfl (fun dr => r_call Tryd.call120 rfl rfl H) ?_ trivial
      rintro _ h6 ⟨y61, rfl, H⟩
      obtain ⟨e62, H⟩ := H
      obtain ⟨e63, H⟩ := H
      obtain ⟨e64, H⟩ := H
      obtain ⟨e65, H⟩ := H
      refine ⟨⟨trivial, trivial, (.inl ⟨rfl, fun dr => r_loadN Tryd.isAgg74 Tryd.sizeOf74 (vs := [(.int .i64 x45), (.int .i64 x47), (.int .i64 x49)]) rfl rfl ⟨e62, e63, e64, trivial⟩⟩), (.inl ⟨rfl, fun dr => r_load1 Tryd.isAgg68 rfl e65⟩), trivial⟩, ?_⟩
      refine s_ef (d := some 46) rfl rfl rfl (fun dr => r_call Tryd.call135 rfl rfl H) ?_ trivial
      rintro _ h7 ⟨y66, rfl, H⟩
      refine ⟨⟨trivial, trivial, trivial, trivial, trivial⟩, ?_⟩
      refine s_pu (d := some 6) (v := (.pointer y66)) rfl rfl rfl (r_assign rfl) ?_
      refine s_fin ?_
      show W _ _ _ _ _ _ _ _
      refine W_ret ?_
      exact ⟨[(.pointer y66)], ⟨_, _, rfl, rfl, rfl⟩, y66, rfl, H⟩
    · have H := H.2 g74
      refine W_skip ?_
      show W _ _ _ _ _ _ _ _
      refine W_seq ?_
      refine W_region (.pu 0 (.rl 1 (.pu 2 (.ef 3 [] (.pu 4 .fin) .no)))) rfl rfl ?_
      refine s_pu (d := some 47) (v := (.pointer l1)) rfl rfl rfl (r_move rfl) ?_
      obtain ⟨x67, e68, H⟩ := H
      obtain ⟨x69, e70, H⟩ := H
      obtain ⟨x71, e72, H⟩ := H
      refine s_rl (d := some 48) (v := (.agg #[(.int .i64 x67), (.int .i64 x69), (.int .i64 x71)])) rfl rfl rfl (fun dr => r_loadN Tryd.isAgg74 Tryd.sizeOf74 (vs := [(.int .i64 x67), (.int .i64 x69), (.int .i64 x71)]) rfl rfl ⟨e68, e70, e72, trivial⟩) ?_
      refine s_pu (d := some 49) (v := (.pointer vr5)) rfl rfl rfl (r_move rfl) ?_
      refine s_ef (d := some 50) rfl rfl rfl (fun dr => r_call Tryd.call136 rfl rfl H) ?_ trivial
      rintro _ h8 ⟨y73, rfl, H⟩
      refine ⟨trivial, ?_⟩
      refine s_pu (d := some 6) (v := (.pointer y73)) rfl rfl rfl (r_assign rfl) ?_
      refine s_fin ?_
      show W _ _ _ _ _ _ _ _
      refine W_ret ?_
      exact ⟨[(.pointer y73)], ⟨_, _, rfl, rfl, rfl⟩, y73, rfl, H⟩

/-! ### finger_split_api_Span_ival_reach_ival_reaches -/

def finger_split_api_Span_ival_reach_ival_reaches_F (r : World) (t1 : Option Addr) (i2 : Int) (h : Heap) (R : Option Addr → Option Addr → Heap → Prop) : Prop :=
  Br (Option.isNone t1) (
    R none none h) (
    Ck t1 fun p3 =>
    LdP h (Addr.add p3 7) fun x5 =>
    finger_node_api_Span_ival_reach_size r x5 h fun y7 h1 =>
    Br (decide (y7 < i2)) (
      Ck t1 fun p8 =>
      LdP h1 (Addr.add p8 8) fun x10 =>
      finger_split_api_Span_ival_reach_ival_reaches r x10 (w64 ((w64 (i2 - y7)) - 1)) h1 fun y12 y13 h2 =>
      Ck t1 fun p14 =>
      LdP h2 (Addr.add p14 7) fun x16 =>
      Ck t1 fun p18 =>
      LdI h2 (Addr.add (Addr.add p18 0) 0) fun x20 =>
      LdI h2 (Addr.add (Addr.add p18 0) 1) fun x22 =>
      LdI h2 (Addr.add (Addr.add p18 0) 2) fun x24 =>
      finger_link_api_Span_ival_reach_ival_reaches r x16 x20 x22 x24 y12 h2 fun y26 h3 =>
      R y26 y13 h3) (
      Ck t1 fun p27 =>
      LdP h1 (Addr.add p27 7) fun x29 =>
      finger_split_api_Span_ival_reach_ival_reaches r x29 i2 h1 fun y31 y32 h4 =>
      Ck t1 fun p33 =>
      LdI h4 (Addr.add (Addr.add p33 0) 0) fun x35 =>
      LdI h4 (Addr.add (Addr.add p33 0) 1) fun x37 =>
      LdI h4 (Addr.add (Addr.add p33 0) 2) fun x39 =>
      Ck t1 fun p41 =>
      LdP h4 (Addr.add p41 8) fun x43 =>
      finger_link_api_Span_ival_reach_ival_reaches r y32 x35 x37 x39 x43 h4 fun y45 h5 =>
      R y31 y45 h5))

set_option maxRecDepth 100000 in
theorem finger_split_api_Span_ival_reach_ival_reaches_of {r : World} {t1 : Option Addr} {i2 : Int} {h : Heap} {R : Option Addr → Option Addr → Heap → Prop} (H : finger_split_api_Span_ival_reach_ival_reaches_F r t1 i2 h R) : finger_split_api_Span_ival_reach_ival_reaches r t1 i2 h R := by
  unfold finger_split_api_Span_ival_reach_ival_reaches_F at H
  refine calls_of 64 [.tmp 4, .tmp 5] Tryd.func119 rfl rfl rfl rfl rfl ?_
  refine W_seq ?_
  refine W_region (.pu 0 (.pu 1 .fin)) rfl rfl ?_
  refine s_pu (d := some 4) (v := (.pointer none)) rfl rfl rfl (r_assign rfl) ?_
  refine s_pu (d := some 5) (v := (.pointer none)) rfl rfl rfl (r_assign rfl) ?_
  refine s_fin ?_
  show W _ _ _ _ _ _ _ _
  refine W_seq ?_
  refine W_seq ?_
  refine W_region (.pu 0 (.pu 1 .fin)) rfl rfl ?_
  refine s_pu (d := some 11) (v := (.pointer t1)) rfl rfl rfl (r_move rfl) ?_
  refine s_pu (d := some 12) (v := (.bool (Option.isNone t1))) rfl rfl rfl (r_nilP Tryd.underlying68 rfl rfl) ?_
  refine s_fin ?_
  show W _ _ _ _ _ _ _ _
  refine W_if (Option.isNone t1) rfl (fun g47 => ?_) (fun g47 => ?_)
  · have H := H.1 g47
    refine W_seq ?_
    refine W_region (.pu 0 (.pu 1 .fin)) rfl rfl ?_
    refine s_pu (d := some 4) (v := (.pointer none)) rfl rfl rfl (r_assign rfl) ?_
    refine s_pu (d := some 5) (v := (.pointer none)) rfl rfl rfl (r_assign rfl) ?_
    refine s_fin ?_
    show W _ _ _ _ _ _ _ _
    refine W_ret ?_
    exact ⟨[(.pointer none), (.pointer none)], ⟨_, _, rfl, rfl, ⟨_, _, rfl, rfl, rfl⟩⟩, none, none, rfl, H⟩
  · have H := H.2 g47
    refine W_skip ?_
    show W _ _ _ _ _ _ _ _
    refine W_seq ?_
    refine W_seq ?_
    refine W_region (.pu 0 (.pu 1 (.pu 2 (.rl 3 (.ef 4 [] (.pu 5 .fin) .no))))) rfl rfl ?_
    refine s_pu (d := some 13) (v := (.pointer t1)) rfl rfl rfl (r_move rfl) ?_
    obtain ⟨p3, e4, H⟩ := H
    refine s_pu (d := some 14) (v := (.pointer (some p3))) rfl rfl rfl (r_nilCheck rfl e4) ?_
    refine s_pu (d := some 15) (v := (.pointer (some (Addr.add p3 7)))) rfl rfl rfl (r_fieldAddr Tryd.underlying164 Tryd.sizeOf68 rfl rfl rfl) ?_
    obtain ⟨x5, e6, H⟩ := H
    refine s_rl (d := some 16) (v := (.pointer x5)) rfl rfl rfl (fun dr => r_load1 Tryd.isAgg68 rfl e6) ?_
    refine s_ef (d := some 17) rfl rfl rfl (fun dr => r_call Tryd.call118 rfl rfl H) ?_ trivial
    rintro _ h1 ⟨y7, rfl, H⟩
    refine ⟨trivial, ?_⟩
    refine s_pu (d := some 6) (v := (.int .i64 y7)) rfl rfl rfl (r_assign rfl) ?_
    refine s_fin ?_
    show W _ _ _ _ _ _ _ _
    refine W_seq ?_
    refine W_region (.pu 0 (.pu 1 (.pu 2 .fin))) rfl rfl ?_
    refine s_pu (d := some 18) (v := (.int .i64 i2)) rfl rfl rfl (r_move rfl) ?_
    refine s_pu (d := some 19) (v := (.int .i64 y7)) rfl rfl rfl (r_move rfl) ?_
    refine s_pu (d := some 20) (v := (.bool (decide (y7 < i2)))) rfl rfl rfl (r_gtr rfl rfl) ?_
    refine s_fin ?_
    show W _ _ _ _ _ _ _ _
    refine W_if (decide (y7 < i2)) rfl (fun g46 => ?_) (fun g46 => ?_)
    · have H := H.1 g46
      refine W_seq ?_
      refine W_region (.pu 0 (.pu 1 (.pu 2 (.rl 3 (.pu 4 (.pu 5 (.pu 6 (.pu 7 (.ef 8 [] (.pu 9 (.pu 10 (.pu 11 (.pu 12 (.pu 13 .fin))))) .no))))))))) rfl rfl ?_
      refine s_pu (d := some 22) (v := (.pointer t1)) rfl rfl rfl (r_move rfl) ?_
      obtain ⟨p8, e9, H⟩ := H
      refine s_pu (d := some 23) (v := (.pointer (some p8))) rfl rfl rfl (r_nilCheck rfl e9) ?_
      refine s_pu (d := some 24) (v := (.pointer (some (Addr.add p8 8)))) rfl rfl rfl (r_fieldAddr Tryd.underlying164 Tryd.sizeOf68 rfl rfl rfl) ?_
      obtain ⟨x10, e11, H⟩ := H
      refine s_rl (d := some 25) (v := (.pointer x10)) rfl rfl rfl (fun dr => r_load1 Tryd.isAgg68 rfl e11) ?_
      refine s_pu (d := some 26) (v := (.int .i64 i2)) rfl rfl rfl (r_move rfl) ?_
      refine s_pu (d := some 27) (v := (.int .i64 y7)) rfl rfl rfl (r_move rfl) ?_
      refine s_pu (d := some 28) (v := (.int .i64 (w64 (i2 - y7)))) rfl rfl rfl (r_sub rfl rfl) ?_
      refine s_pu (d := some 29) (v := (.int .i64 (w64 ((w64 (i2 - y7)) - 1)))) rfl rfl rfl (r_sub rfl rfl) ?_
      refine s_ef (d := some 30) rfl rfl rfl (fun dr => r_call Tryd.call119 rfl rfl H) ?_ trivial
      rintro _ h2 ⟨y12, y13, rfl, H⟩
      refine ⟨trivial, ?_⟩
      refine s_pu (d := some 21) (v := (.tuple #[(.pointer y12), (.pointer y13)])) rfl rfl rfl (r_move rfl) ?_
      refine s_pu (d := some 31) (v := (.pointer y12)) rfl rfl rfl (r_extract rfl rfl) ?_
      refine s_pu (d := some 32) (v := (.pointer y13)) rfl rfl rfl (r_extract rfl rfl) ?_
      refine s_pu (d := some 7) (v := (.pointer y12)) rfl rfl rfl (r_assign rfl) ?_
      refine s_pu (d := some 8) (v := (.pointer y13)) rfl rfl rfl (r_assign rfl) ?_
      refine s_fin ?_
      show W _ _ _ _ _ _ _ _
      refine W_seq ?_
      refine W_draw [0, 1, 3, 7, 0, 16, 48, 112, 0, 511, 0, 1023, 4095] (.pu 0 (.pu 1 (.pu 2 (.rd 3 (.pu 4 (.pu 5 (.pu 6 (.rd 7 (.pu 8 (.pu 10 (.ef 9 [3, 7] (.pu 11 (.pu 12 .fin)) .no))))))))))) (by kernel_rfl) (by kernel_rfl) ?_
      refine s_pu (d := some 33) (v := (.pointer t1)) rfl rfl rfl (r_move rfl) ?_
      obtain ⟨p14, e15, H⟩ := H
      refine s_pu (d := some 34) (v := (.pointer (some p14))) rfl rfl rfl (r_nilCheck rfl e15) ?_
      refine s_pu (d := some 35) (v := (.pointer (some (Addr.add p14 7)))) rfl rfl rfl (r_fieldAddr Tryd.underlying164 Tryd.sizeOf68 rfl rfl rfl) ?_
      obtain ⟨x16, e17, H⟩ := H
      refine s_rd (d := some 36) (v := (.pointer x16)) rfl rfl rfl (fun dr => r_load1 Tryd.isAgg68 rfl e17) ?_
      refine s_pu (d := some 37) (v := (.pointer t1)) rfl rfl rfl (r_move rfl) ?_
      obtain ⟨p18, e19, H⟩ := H
      refine s_pu (d := some 38) (v := (.pointer (some p18))) rfl rfl rfl (r_nilCheck rfl e19) ?_
      refine s_pu (d := some 39) (v := (.pointer (some (Addr.add p18 0)))) rfl rfl rfl (r_fieldAddr Tryd.underlying164 Tryd.sizeOf74 rfl rfl rfl) ?_
      obtain ⟨x20, e21, H⟩ := H
      obtain ⟨x22, e23, H⟩ := H
      obtain ⟨x24, e25, H⟩ := H
      refine s_rd (d := some 40) (v := (.agg #[(.int .i64 x20), (.int .i64 x22), (.int .i64 x24)])) rfl rfl rfl (fun dr => r_loadN Tryd.isAgg74 Tryd.sizeOf74 (vs := [(.int .i64 x20), (.int .i64 x22), (.int .i64 x24)]) rfl rfl ⟨e21, e23, e25, trivial⟩) ?_
      refine s_pu (d := some 41) (v := (.pointer y12)) rfl rfl rfl (r_move rfl) ?_
      refine s_pu (d := some 43) (v := (.pointer y13)) rfl rfl rfl (r_move rfl) ?_
      refine s_ef (d := some 42) rfl rfl rfl (fun dr => r_call Tryd.call120 rfl rfl H) ?_ trivial
      rintro _ h3 ⟨y26, rfl, H⟩
      refine ⟨⟨trivial, trivial, trivial⟩, ?_⟩
      refine s_pu (d := some 4) (v := (.pointer y26)) rfl rfl rfl (r_assign rfl) ?_
      refine s_pu (d := some 5) (v := (.pointer y13)) rfl rfl rfl (r_assign rfl) ?_
      refine s_fin ?_
      show W _ _ _ _ _ _ _ _
      refine W_ret ?_
      exact ⟨[(.pointer y26), (.pointer y13)], ⟨_, _, rfl, rfl, ⟨_, _, rfl, rfl, rfl⟩⟩, y26, y13, rfl, H⟩
    · have H := H.2 g46
      refine W_skip ?_
      show W _ _ _ _ _ _ _ _
      refine W_seq ?_
      refine W_region (.pu 0 (.pu 1 (.pu 2 (.rl 3 (.pu 4 (.ef 5 [] (.pu 6 (.pu 7 (.pu 8 (.pu 9 (.pu 10 .fin))))) .no)))))) rfl rfl ?_
      refine s_pu (d := some 45) (v := (.pointer t1)) rfl rfl rfl (r_move rfl) ?_
      obtain ⟨p27, e28, H⟩ := H
      refine s_pu (d := some 46) (v := (.pointer (some p27))) rfl rfl rfl (r_nilCheck rfl e28) ?_
      refine s_pu (d := some 47) (v := (.pointer (some (Addr.add p27 7)))) rfl rfl rfl (r_fieldAddr Tryd.underlying164 Tryd.sizeOf68 rfl rfl rfl) ?_
      obtain ⟨x29, e30, H⟩ := H
      refine s_rl (d := some 48) (v := (.pointer x29)) rfl rfl rfl (fun dr => r_load1 Tryd.isAgg68 rfl e30) ?_
      refine s_pu (d := some 49) (v := (.int .i64 i2)) rfl rfl rfl (r_move rfl) ?_
      refine s_ef (d := some 50) rfl rfl rfl (fun dr => r_call Tryd.call119 rfl rfl H) ?_ trivial
      rintro _ h4 ⟨y31, y32, rfl, H⟩
      refine ⟨trivial, ?_⟩
      refine s_pu (d := some 44) (v := (.tuple #[(.pointer y31), (.pointer y32)])) rfl rfl rfl (r_move rfl) ?_
      refine s_pu (d := some 51) (v := (.pointer y31)) rfl rfl rfl (r_extract rfl rfl) ?_
      refine s_pu (d := some 52) (v := (.pointer y32)) rfl rfl rfl (r_extract rfl rfl) ?_
      refine s_pu (d := some 9) (v := (.pointer y31)) rfl rfl rfl (r_assign rfl) ?_
      refine s_pu (d := some 10) (v := (.pointer y32)) rfl rfl rfl (r_assign rfl) ?_
      refine s_fin ?_
      show W _ _ _ _ _ _ _ _
      refine W_seq ?_
      refine W_draw [0, 0, 0, 4, 12, 28, 0, 64, 192, 448, 1022, 2047, 4095] (.pu 0 (.pu 1 (.pu 2 (.pu 3 (.pu 4 (.rd 5 (.pu 6 (.pu 7 (.pu 8 (.rd 9 (.ef 10 [5, 9] (.pu 11 (.pu 12 .fin)) .no))))))))))) (by kernel_rfl) (by kernel_rfl) ?_
      refine s_pu (d := some 53) (v := (.pointer y31)) rfl rfl rfl (r_move rfl) ?_
      refine s_pu (d := some 54) (v := (.pointer y32)) rfl rfl rfl (r_move rfl) ?_
      refine s_pu (d := some 55) (v := (.pointer t1)) rfl rfl rfl (r_move rfl) ?_
      obtain ⟨p33, e34, H⟩ := H
      refine s_pu (d := some 56) (v := (.pointer (some p33))) rfl rfl rfl (r_nilCheck rfl e34) ?_
      refine s_pu (d := some 57) (v := (.pointer (some (Addr.add p33 0)))) rfl rfl rfl (r_fieldAddr Tryd.underlying164 Tryd.sizeOf74 rfl rfl rfl) ?_
      obtain ⟨x35, e36, H⟩ := H
      obtain ⟨x37, e38, H⟩ := H
      obtain ⟨x39, e40, H⟩ := H
      refine s_rd (d := some 58) (v := (.agg #[(.int .i64 x35), (.int .i64 x37), (.int .i64 x39)])) rfl rfl rfl (fun dr => r_loadN Tryd.isAgg74 Tryd.sizeOf74 (vs := [(.int .i64 x35), (.int .i64 x37), (.int .i64 x39)]) rfl rfl ⟨e36, e38, e40, trivial⟩) ?_
      refine s_pu (d := some 59) (v := (.pointer t1)) rfl rfl rfl (r_move rfl) ?_
      obtain ⟨p41, e42, H⟩ := H
      refine s_pu (d := some 60) (v := (.pointer (some p41))) rfl rfl rfl (r_nilCheck rfl e42) ?_
      refine s_pu (d := some 61) (v := (.pointer (some (Addr.add p41 8)))) rfl rfl rfl (r_fieldAddr Tryd.underlying164 Tryd.sizeOf68 rfl rfl rfl) ?_
      obtain ⟨x43, e44, H⟩ := H
      refine s_rd (d := some 62) (v := (.pointer x43)) rfl rfl rfl (fun dr => r_load1 Tryd.isAgg68 rfl e44) ?_
      refine s_ef (d := some 63) rfl rfl rfl (fun dr => r_call Tryd.call120 rfl rfl H) ?_ trivial
      rintro _ h5 ⟨y45, rfl, H⟩
      refine ⟨⟨trivial, trivial, trivial⟩, ?_⟩
      refine s_pu (d := some 4) (v := (.pointer y31)) rfl rfl rfl (r_assign rfl) ?_
      refine s_pu (d := some 5) (v := (.pointer y45)) rfl rfl rfl (r_assign rfl) ?_
      refine s_fin ?_
      show W _ _ _ _ _ _ _ _
      refine W_ret ?_
      exact ⟨[(.pointer y31), (.pointer y45)], ⟨_, _, rfl, rfl, ⟨_, _, rfl, rfl, rfl⟩⟩, y31, y45, rfl, H⟩

/-! ### finger_Many_api_Span_ival_reach_ival_reaches_Len -/

def finger_Many_api_Span_ival_reach_ival_reaches_Len_F (r : World) (t1 : Option Addr) (h : Heap) (R : Int → Heap → Prop) : Prop :=
  New h (.cells #[(.pointer t1)] 70) fun p2 h1 =>
  LdP h1 (Addr.add p2 0) fun x5 =>
  finger_node_api_Span_ival_reach_size r x5 h1 fun y7 h2 =>
  R y7 h2

set_option maxRecDepth 100000 in
theorem finger_Many_api_Span_ival_reach_ival_reaches_Len_of {r : World} {t1 : Option Addr} {h : Heap} {R : Int → Heap → Prop} (H : finger_Many_api_Span_ival_reach_ival_reaches_Len_F r t1 h R) : finger_Many_api_Span_ival_reach_ival_reaches_Len r t1 h R := by
  unfold finger_Many_api_Span_ival_reach_ival_reaches_Len_F at H
  refine calls_of 6 [.tmp 2] Tryd.func92 rfl rfl rfl rfl rfl ?_
  refine W_seq ?_
  refine W_region (.ef 0 [] (.pu 1 .fin) .no) rfl rfl ?_
  obtain ⟨p2, e3⟩ : ∃ p : Addr, p = ⟨h.size, 0, none⟩ := ⟨_, rfl⟩
  obtain ⟨h1, e4⟩ : ∃ hh : Heap, hh = h.push (.cells #[(.pointer t1)] 70) := ⟨_, rfl⟩
  have H := H p2 h1 e3 e4
  refine s_ef1 (d := some 1) (v := (.pointer (some p2))) (h' := h1) rfl rfl rfl (fun dr => (r_box (v := (.agg #[(.pointer t1)])) rfl).trans (by rw [e3, e4]; rfl)) trivial ?_ trivial
  refine s_pu (d := some 2) (v := (.int .i64 0)) rfl rfl rfl (r_assign rfl) ?_
  refine s_fin ?_
  show W _ _ _ _ _ _ _ _
  refine W_seq ?_
  refine W_region (.pu 0 (.rl 1 (.ef 2 [] (.pu 3 .fin) .no))) rfl rfl ?_
  refine s_pu (d := some 3) (v := (.pointer (some (Addr.add p2 0)))) rfl rfl rfl (r_fieldAddr Tryd.underlying70 Tryd.sizeOf68 rfl rfl rfl) ?_
  obtain ⟨x5, e6, H⟩ := H
  refine s_rl (d := some 4) (v := (.pointer x5)) rfl rfl rfl (fun dr => r_load1 Tryd.isAgg68 rfl e6) ?_
  refine s_ef (d := some 5) rfl rfl rfl (fun dr => r_call Tryd.call118 rfl rfl H) ?_ trivial
  rintro _ h2 ⟨y7, rfl, H⟩
  refine ⟨trivial, ?_⟩
  refine s_pu (d := some 2) (v := (.int .i64 y7)) rfl rfl rfl (r_assign rfl) ?_
  refine s_fin ?_
  show W _ _ _ _ _ _ _ _
  refine W_ret ?_
  exact ⟨[(.int .i64 y7)], ⟨_, _, rfl, rfl, rfl⟩, y7, rfl, H⟩

/-! ### finger_Many_api_Span_ival_reach_ival_reaches_Split -/

def finger_Many_api_Span_ival_reach_ival_reaches_Split_F (r : World) (t1 : Option Addr) (i2 : Int) (h : Heap) (R : Option Addr → Option Addr → Heap → Prop) : Prop :=
  New h (.cells #[(.pointer t1)] 70) fun p3 h1 =>
  New h1 (.cells #[(.pointer none)] 70) fun p6 h2 =>
  New h2 (.cells #[(.pointer none)] 70) fun p9 h3 =>
  LdP h3 (Addr.add p3 0) fun x12 =>
  finger_split_api_Span_ival_reach_ival_reaches r x12 i2 h3 fun y14 y15 h4 =>
  St h4 p6 1 [(.pointer y14)] fun h5 =>
  St h5 p9 1 [(.pointer y15)] fun h6 =>
  LdP h6 (Addr.add p6 0) fun x20 =>
  LdP h6 (Addr.add p9 0) fun x22 =>
  R x20 x22 h6

set_option maxRecDepth 100000 in
theorem finger_Many_api_Span_ival_reach_ival_reaches_Split_of {r : World} {t1 : Option Addr} {i2 : Int} {h : Heap} {R : Option Addr → Option Addr → Heap → Prop} (H : finger_Many_api_Span_ival_reach_ival_reaches_Split_F r t1 i2 h R) : finger_Many_api_Span_ival_reach_ival_reaches_Split r t1 i2 h R := by
  unfold finger_Many_api_Span_ival_reach_ival_reaches_Split_F at H
  refine calls_of 19 [.cell 4 70, .cell 5 70] Tryd.func90 rfl rfl rfl rfl rfl ?_
  refine W_seq ?_
  refine W_region (.ef 0 [] (.ef 1 [] (.ef 2 [] .fin .no) .no) .no) rfl rfl ?_
  obtain ⟨p3, e4⟩ : ∃ p : Addr, p = ⟨h.size, 0, none⟩ := ⟨_, rfl⟩
  obtain ⟨h1, e5⟩ : ∃ hh : Heap, hh = h.push (.cells #[(.pointer t1)] 70) := ⟨_, rfl⟩
  have H := H p3 h1 e4 e5
  refine s_ef1 (d := some 2) (v := (.pointer (some p3))) (h' := h1) rfl rfl rfl (fun dr => (r_box (v := (.agg #[(.pointer t1)])) rfl).trans (by rw [e4, e5]; rfl)) trivial ?_ trivial
  obtain ⟨p6, e7⟩ : ∃ p : Addr, p = ⟨h1.size, 0, none⟩ := ⟨_, rfl⟩
  obtain ⟨h2, e8⟩ : ∃ hh : Heap, hh = h1.push (.cells #[(.pointer none)] 70) := ⟨_, rfl⟩
  have H := H p6 h2 e7 e8
  refine s_ef1 (d := some 4) (v := (.pointer (some p6))) (h' := h2) rfl rfl rfl (fun dr => (r_alloc Tryd.zeroValue70).trans (by rw [e7, e8]; rfl)) trivial ?_ trivial
  obtain ⟨p9, e10⟩ : ∃ p : Addr, p = ⟨h2.size, 0, none⟩ := ⟨_, rfl⟩
  obtain ⟨h3, e11⟩ : ∃ hh : Heap, hh = h2.push (.cells #[(.pointer none)] 70) := ⟨_, rfl⟩
  have H := H p9 h3 e10 e11
  refine s_ef1 (d := some 5) (v := (.pointer (some p9))) (h' := h3) rfl rfl rfl (fun dr => (r_alloc Tryd.zeroValue70).trans (by rw [e10, e11]; rfl)) trivial ?_ trivial
  refine s_fin ?_
  show W _ _ _ _ _ _ _ _
  refine W_seq ?_
  refine W_region (.pu 0 (.rl 1 (.pu 2 (.ef 3 [] (.pu 4 (.pu 5 (.pu 6 (.pu 7 (.pu 8 .fin))))) .no)))) rfl rfl ?_
  refine s_pu (d := some 9) (v := (.pointer (some (Addr.add p3 0)))) rfl rfl rfl (r_fieldAddr Tryd.underlying70 Tryd.sizeOf68 rfl rfl rfl) ?_
  obtain ⟨x12, e13, H⟩ := H
  refine s_rl (d := some 10) (v := (.pointer x12)) rfl rfl rfl (fun dr => r_load1 Tryd.isAgg68 rfl e13) ?_
  refine s_pu (d := some 11) (v := (.int .i64 i2)) rfl rfl rfl (r_move rfl) ?_
  refine s_ef (d := some 12) rfl rfl rfl (fun dr => r_call Tryd.call119 rfl rfl H) ?_ trivial
  rintro _ h4 ⟨y14, y15, rfl, H⟩
  refine ⟨trivial, ?_⟩
  refine s_pu (d := some 8) (v := (.tuple #[(.pointer y14), (.pointer y15)])) rfl rfl rfl (r_move rfl) ?_
  refine s_pu (d := some 13) (v := (.pointer y14)) rfl rfl rfl (r_extract rfl rfl) ?_
  refine s_pu (d := some 14) (v := (.pointer y15)) rfl rfl rfl (r_extract rfl rfl) ?_
  refine s_pu (d := some 6) (v := (.pointer y14)) rfl rfl rfl (r_assign rfl) ?_
  refine s_pu (d := some 7) (v := (.pointer y15)) rfl rfl rfl (r_assign rfl) ?_
  refine s_fin ?_
  show W _ _ _ _ _ _ _ _
  refine W_seq ?_
  refine W_region (.pu 0 (.pu 1 (.pu 2 (.pu 3 (.ef 4 [] (.ef 5 [] .fin .no) .no))))) rfl rfl ?_
  refine s_pu (d := some 15) (v := (.pointer y14)) rfl rfl rfl (r_move rfl) ?_
  refine s_pu (d := some 16) (v := (.agg #[(.pointer y14)])) rfl rfl rfl (fun w => by kernel_rfl) ?_
  refine s_pu (d := some 17) (v := (.pointer y15)) rfl rfl rfl (r_move rfl) ?_
  refine s_pu (d := some 18) (v := (.agg #[(.pointer y15)])) rfl rfl rfl (fun w => by kernel_rfl) ?_
  obtain ⟨e17, H⟩ := H
  obtain ⟨h5, e16⟩ : ∃ hh : Heap, hh = hsets h4 p6 0 [(.pointer y14)] := ⟨_, rfl⟩
  have H := H h5 e16
  refine s_st (d := none) (h' := h5) rfl rfl rfl (fun dr => (r_store (v := (.agg #[(.pointer y14)])) Tryd.sizeOf70 rfl rfl rfl (one_all rfl) e17).trans (by rw [e16]; rfl)) trivial ?_ trivial
  obtain ⟨e19, H⟩ := H
  obtain ⟨h6, e18⟩ : ∃ hh : Heap, hh = hsets h5 p9 0 [(.pointer y15)] := ⟨_, rfl⟩
  have H := H h6 e18
  refine s_st (d := none) (h' := h6) rfl rfl rfl (fun dr => (r_store (v := (.agg #[(.pointer y15)])) Tryd.sizeOf70 rfl rfl rfl (one_all rfl) e19).trans (by rw [e18]; rfl)) trivial ?_ trivial
  refine s_fin ?_
  show W _ _ _ _ _ _ _ _
  refine W_ret ?_
  obtain ⟨x20, e21, H⟩ := H
  obtain ⟨x22, e23, H⟩ := H
  exact ⟨[(.agg #[(.pointer x20)]), (.agg #[(.pointer x22)])], ⟨_, _, _, rfl, rfl, fun dr => run_loadVarN Tryd.isAgg70 Tryd.sizeOf70 (vs := [(.pointer x20)]) rfl ⟨e21, trivial⟩, ⟨_, _, _, rfl, rfl, fun dr => run_loadVarN Tryd.isAgg70 Tryd.sizeOf70 (vs := [(.pointer x22)]) rfl ⟨e23, trivial⟩, rfl⟩⟩, x20, x22, rfl, H⟩

/-! ### finger_Many_api_Span_ival_reach_ival_reaches_Insert -/

def finger_Many_api_Span_ival_reach_ival_reaches_Insert_F (r : World) (t1 : Option Addr) (i2 : Int) (v3 : Int) (v4 : Int) (v5 : Int) (h : Heap) (R : Option Addr → Heap → Prop) : Prop :=
  New h (.cells #[(.pointer t1)] 70) fun p6 h1 =>
  New h1 (.cells #[(.int .i64 v3), (.int .i64 v4), (.int .i64 v5)] 74) fun p9 h2 =>
  New h2 (.cells #[(.pointer none)] 70) fun p12 h3 =>
  LdP h3 (Addr.add p6 0) fun x15 =>
  finger_split_api_Span_ival_reach_ival_reaches r x15 i2 h3 fun y17 y18 h4 =>
  LdI h4 (Addr.add p9 0) fun x19 =>
  LdI h4 (Addr.add p9 1) fun x21 =>
  LdI h4 (Addr.add p9 2) fun x23 =>
  finger_link_api_Span_ival_reach_ival_reaches r y17 x19 x21 x23 y18 h4 fun y25 h5 =>
  St h5 p12 1 [(.pointer y25)] fun h6 =>
  LdP h6 (Addr.add p12 0) fun x28 =>
  R x28 h6

set_option maxRecDepth 100000 in
theorem finger_Many_api_Span_ival_reach_ival_reaches_Insert_of {r : World} {t1 : Option Addr} {i2 : Int} {v3 : Int} {v4 : Int} {v5 : Int} {h : Heap} {R : Option Addr → Heap → Prop} (H : finger_Many_api_Span_ival_reach_ival_reaches_Insert_F r t1 i2 v3 v4 v5 h R) : finger_Many_api_Span_ival_reach_ival_reaches_Insert r t1 i2 v3 v4 v5 h R := by
  unfold finger_Many_api_Span_ival_reach_ival_reaches_Insert_F at H
  refine calls_of 21 [.cell 6 70] Tryd.func88 rfl rfl rfl rfl rfl ?_
  refine W_seq ?_
  refine W_region (.ef 0 [] (.ef 1 [] (.ef 2 [] .fin .no) .no) .no) rfl rfl ?_
  obtain ⟨p6, e7⟩ : ∃ p : Addr, p = ⟨h.size, 0, none⟩ := ⟨_, rfl⟩
  obtain ⟨h1, e8⟩ : ∃ hh : Heap, hh = h.push (.cells #[(.pointer t1)] 70) := ⟨_, rfl⟩
  have H := H p6 h1 e7 e8
  refine s_ef1 (d := some 3) (v := (.pointer (some p6))) (h' := h1) rfl rfl rfl (fun dr => (r_box (v := (.agg #[(.pointer t1)])) rfl).trans (by rw [e7, e8]; rfl)) trivial ?_ trivial
  obtain ⟨p9, e10⟩ : ∃ p : Addr, p = ⟨h1.size, 0, none⟩ := ⟨_, rfl⟩
  obtain ⟨h2, e11⟩ : ∃ hh : Heap, hh = h1.push (.cells #[(.int .i64 v3), (.int .i64 v4), (.int .i64 v5)] 74) := ⟨_, rfl⟩
  have H := H p9 h2 e10 e11
  refine s_ef1 (d := some 5) (v := (.pointer (some p9))) (h' := h2) rfl rfl rfl (fun dr => (r_box (v := (.agg #[(.int .i64 v3), (.int .i64 v4), (.int .i64 v5)])) rfl).trans (by rw [e10, e11]; rfl)) trivial ?_ trivial
  obtain ⟨p12, e13⟩ : ∃ p : Addr, p = ⟨h2.size, 0, none⟩ := ⟨_, rfl⟩
  obtain ⟨h3, e14⟩ : ∃ hh : Heap, hh = h2.push (.cells #[(.pointer none)] 70) := ⟨_, rfl⟩
  have H := H p12 h3 e13 e14
  refine s_ef1 (d := some 6) (v := (.pointer (some p12))) (h' := h3) rfl rfl rfl (fun dr => (r_alloc Tryd.zeroValue70).trans (by rw [e13, e14]; rfl)) trivial ?_ trivial
  refine s_fin ?_
  show W _ _ _ _ _ _ _ _
  refine W_seq ?_
  refine W_region (.pu 0 (.rl 1 (.pu 2 (.ef 3 [] (.pu 4 (.pu 5 (.pu 6 (.pu 7 (.pu 8 .fin))))) .no)))) rfl rfl ?_
  refine s_pu (d := some 10) (v := (.pointer (some (Addr.add p6 0)))) rfl rfl rfl (r_fieldAddr Tryd.underlying70 Tryd.sizeOf68 rfl rfl rfl) ?_
  obtain ⟨x15, e16, H⟩ := H
  refine s_rl (d := some 11) (v := (.pointer x15)) rfl rfl rfl (fun dr => r_load1 Tryd.isAgg68 rfl e16) ?_
  refine s_pu (d := some 12) (v := (.int .i64 i2)) rfl rfl rfl (r_move rfl) ?_
  refine s_ef (d := some 13) rfl rfl rfl (fun dr => r_call Tryd.call119 rfl rfl H) ?_ trivial
  rintro _ h4 ⟨y17, y18, rfl, H⟩
  refine ⟨trivial, ?_⟩
  refine s_pu (d := some 9) (v := (.tuple #[(.pointer y17), (.pointer y18)])) rfl rfl rfl (r_move rfl) ?_
  refine s_pu (d := some 14) (v := (.pointer y17)) rfl rfl rfl (r_extract rfl rfl) ?_
  refine s_pu (d := some 15) (v := (.pointer y18)) rfl rfl rfl (r_extract rfl rfl) ?_
  refine s_pu (d := some 7) (v := (.pointer y17)) rfl rfl rfl (r_assign rfl) ?_
  refine s_pu (d := some 8) (v := (.pointer y18)) rfl rfl rfl (r_assign rfl) ?_
  refine s_fin ?_
  show W _ _ _ _ _ _ _ _
  refine W_seq ?_
  refine W_region (.pu 0 (.rl 1 (.pu 2 (.ef 3 [] (.pu 4 (.ef 5 [] .fin .no)) .no)))) rfl rfl ?_
  refine s_pu (d := some 16) (v := (.pointer y17)) rfl rfl rfl (r_move rfl) ?_
  obtain ⟨x19, e20, H⟩ := H
  obtain ⟨x21, e22, H⟩ := H
  obtain ⟨x23, e24, H⟩ := H
  refine s_rl (d := some 17) (v := (.agg #[(.int .i64 x19), (.int .i64 x21), (.int .i64 x23)])) rfl rfl rfl (fun dr => r_loadN Tryd.isAgg74 Tryd.sizeOf74 (vs := [(.int .i64 x19), (.int .i64 x21), (.int .i64 x23)]) rfl rfl ⟨e20, e22, e24, trivial⟩) ?_
  refine s_pu (d := some 18) (v := (.pointer y18)) rfl rfl rfl (r_move rfl) ?_
  refine s_ef (d := some 19) rfl rfl rfl (fun dr => r_call Tryd.call120 rfl rfl H) ?_ trivial
  rintro _ h5 ⟨y25, rfl, H⟩
  refine ⟨trivial, ?_⟩
  refine s_pu (d := some 20) (v := (.agg #[(.pointer y25)])) rfl rfl rfl (fun w => by kernel_rfl) ?_
  obtain ⟨e27, H⟩ := H
  obtain ⟨h6, e26⟩ : ∃ hh : Heap, hh = hsets h5 p12 0 [(.pointer y25)] := ⟨_, rfl⟩
  have H := H h6 e26
  refine s_st (d := none) (h' := h6) rfl rfl rfl (fun dr => (r_store (v := (.agg #[(.pointer y25)])) Tryd.sizeOf70 rfl rfl rfl (one_all rfl) e27).trans (by rw [e26]; rfl)) trivial ?_ trivial
  refine s_fin ?_
  show W _ _ _ _ _ _ _ _
  refine W_ret ?_
  obtain ⟨x28, e29, H⟩ := H
  exact ⟨[(.agg #[(.pointer x28)])], ⟨_, _, _, rfl, rfl, fun dr => run_loadVarN Tryd.isAgg70 Tryd.sizeOf70 (vs := [(.pointer x28)]) rfl ⟨e29, trivial⟩, rfl⟩, x28, rfl, H⟩

/-! ### finger_Many_api_Span_ival_reach_ival_reaches_At -/

def finger_Many_api_Span_ival_reach_ival_reaches_At_F (r : World) (t1 : Option Addr) (i2 : Int) (h : Heap) (R : Int → Int → Int → Heap → Prop) : Prop :=
  New h (.cells #[(.pointer t1)] 70) fun p3 h1 =>
  New h1 (.cells #[(.int .i64 0), (.int .i64 0), (.int .i64 0)] 74) fun p6 h2 =>
  LdP h2 (Addr.add p3 0) fun x9 =>
  ∀ X13 : Int → Option Addr → Heap → Prop, (∀ (i11 : Int) (n12 : Option Addr) (h3 : Heap),
    (Ck n12 fun p14 =>
    LdP h3 (Addr.add p14 7) fun x16 =>
    finger_node_api_Span_ival_reach_size r x16 h3 fun y18 h4 =>
    Br (decide (i11 < y18)) (
      Ck n12 fun p19 =>
      LdP h4 (Addr.add p19 7) fun x21 =>
      X13 i11 x21 h4) (
      Br (decide (y18 < i11)) (
        Ck n12 fun p23 =>
        LdP h4 (Addr.add p23 8) fun x25 =>
        X13 (w64 ((w64 (i11 - y18)) - 1)) x25 h4) (
        Ck n12 fun p27 =>
        LdI h4 (Addr.add (Addr.add p27 0) 0) fun x29 =>
        LdI h4 (Addr.add (Addr.add p27 0) 1) fun x31 =>
        LdI h4 (Addr.add (Addr.add p27 0) 2) fun x33 =>
        St h4 p6 3 [(.int .i64 x29), (.int .i64 x31), (.int .i64 x33)] fun h5 =>
        LdI h5 (Addr.add p6 0) fun x37 =>
        LdI h5 (Addr.add p6 1) fun x39 =>
        LdI h5 (Addr.add p6 2) fun x41 =>
        R x37 x39 x41 h5))) →
    X13 i11 n12 h3) →
  X13 i2 x9 h2

set_option maxRecDepth 100000 in
theorem finger_Many_api_Span_ival_reach_ival_reaches_At_of {r : World} {t1 : Option Addr} {i2 : Int} {h : Heap} {R : Int → Int → Int → Heap → Prop} (H : finger_Many_api_Span_ival_reach_ival_reaches_At_F r t1 i2 h R) : finger_Many_api_Span_ival_reach_ival_reaches_At r t1 i2 h R := by
  unfold finger_Many_api_Span_ival_reach_ival_reaches_At_F at H
  refine calls_of 38 [.cell 4 74] Tryd.func94 rfl rfl rfl rfl rfl ?_
  refine W_seq ?_
  refine W_region (.ef 0 [] (.ef 1 [] .fin .no) .no) rfl rfl ?_
  obtain ⟨p3, e4⟩ : ∃ p : Addr, p = ⟨h.size, 0, none⟩ := ⟨_, rfl⟩
  obtain ⟨h1, e5⟩ : ∃ hh : Heap, hh = h.push (.cells #[(.pointer t1)] 70) := ⟨_, rfl⟩
  have H := H p3 h1 e4 e5
  refine s_ef1 (d := some 2) (v := (.pointer (some p3))) (h' := h1) rfl rfl rfl (fun dr => (r_box (v := (.agg #[(.pointer t1)])) rfl).trans (by rw [e4, e5]; rfl)) trivial ?_ trivial
  obtain ⟨p6, e7⟩ : ∃ p : Addr, p = ⟨h1.size, 0, none⟩ := ⟨_, rfl⟩
  obtain ⟨h2, e8⟩ : ∃ hh : Heap, hh = h1.push (.cells #[(.int .i64 0), (.int .i64 0), (.int .i64 0)] 74) := ⟨_, rfl⟩
  have H := H p6 h2 e7 e8
  refine s_ef1 (d := some 4) (v := (.pointer (some p6))) (h' := h2) rfl rfl rfl (fun dr => (r_alloc Tryd.zeroValue74).trans (by rw [e7, e8]; rfl)) trivial ?_ trivial
  refine s_fin ?_
  show W _ _ _ _ _ _ _ _
  refine W_seq ?_
  refine W_region (.pu 0 (.rl 1 (.pu 2 .fin))) rfl rfl ?_
  refine s_pu (d := some 7) (v := (.pointer (some (Addr.add p3 0)))) rfl rfl rfl (r_fieldAddr Tryd.underlying70 Tryd.sizeOf68 rfl rfl rfl) ?_
  obtain ⟨x9, e10, H⟩ := H
  refine s_rl (d := some 8) (v := (.pointer x9)) rfl rfl rfl (fun dr => r_load1 Tryd.isAgg68 rfl e10) ?_
  refine s_pu (d := some 5) (v := (.pointer x9)) rfl rfl rfl (r_assign rfl) ?_
  refine s_fin ?_
  show W _ _ _ _ _ _ _ _
  refine W_block ?_
  refine W_loop (WL_mk (l := [(1, (.int .i64 i2)), (4, (.pointer (some p6))), (5, (.pointer x9))]) ?_ ⟨rfl, rfl, rfl, trivial⟩)
  refine H (fun (i11 : Int) (n12 : Option Addr) (h3 : Heap) => ∀ b, WL _ _ _ _ _ _ (mkE [(1, (.int .i64 i11)), (4, (.pointer (some p6))), (5, (.pointer n12))] b) h3) ?_
  intro i11 n12 h3 H b
  refine WL_round ?_
  refine W_block ?_
  refine W_seq ?_
  refine W_region (.pu 0 (.pu 1 (.pu 2 (.rl 3 (.ef 4 [] (.pu 5 .fin) .no))))) rfl rfl ?_
  refine s_pu (d := some 9) (v := (.pointer n12)) rfl rfl rfl (r_move rfl) ?_
  obtain ⟨p14, e15, H⟩ := H
  refine s_pu (d := some 10) (v := (.pointer (some p14))) rfl rfl rfl (r_nilCheck rfl e15) ?_
  refine s_pu (d := some 11) (v := (.pointer (some (Addr.add p14 7)))) rfl rfl rfl (r_fieldAddr Tryd.underlying164 Tryd.sizeOf68 rfl rfl rfl) ?_
  obtain ⟨x16, e17, H⟩ := H
  refine s_rl (d := some 12) (v := (.pointer x16)) rfl rfl rfl (fun dr => r_load1 Tryd.isAgg68 rfl e17) ?_
  refine s_ef (d := some 13) rfl rfl rfl (fun dr => r_call Tryd.call118 rfl rfl H) ?_ trivial
  rintro _ h4 ⟨y18, rfl, H⟩
  refine ⟨trivial, ?_⟩
  refine s_pu (d := some 6) (v := (.int .i64 y18)) rfl rfl rfl (r_assign rfl) ?_
  refine s_fin ?_
  show W _ _ _ _ _ _ _ _
  refine W_block ?_
  refine W_seq ?_
  refine W_region (.pu 0 (.pu 1 (.pu 2 (.pu 3 .fin)))) rfl rfl ?_
  refine s_pu (d := some 19) (v := (.int .i64 i11)) rfl rfl rfl (r_move rfl) ?_
  refine s_pu (d := some 20) (v := (.int .i64 y18)) rfl rfl rfl (r_move rfl) ?_
  refine s_pu (d := some 21) (v := (.bool (decide (i11 < y18)))) rfl rfl rfl (r_lss rfl rfl) ?_
  refine s_pu (d := some 18) (v := (.bool (decide (i11 < y18)))) rfl rfl rfl (r_assign rfl) ?_
  refine s_fin ?_
  show W _ _ _ _ _ _ _ _
  refine W_if (decide (i11 < y18)) rfl (fun g44 => ?_) (fun g44 => ?_)
  · have H := H.1 g44
    refine W_region (.pu 0 (.pu 1 (.pu 2 (.rl 3 (.pu 4 .fin))))) rfl rfl ?_
    refine s_pu (d := some 22) (v := (.pointer n12)) rfl rfl rfl (r_move rfl) ?_
    obtain ⟨p19, e20, H⟩ := H
    refine s_pu (d := some 23) (v := (.pointer (some p19))) rfl rfl rfl (r_nilCheck rfl e20) ?_
    refine s_pu (d := some 24) (v := (.pointer (some (Addr.add p19 7)))) rfl rfl rfl (r_fieldAddr Tryd.underlying164 Tryd.sizeOf68 rfl rfl rfl) ?_
    obtain ⟨x21, e22, H⟩ := H
    refine s_rl (d := some 25) (v := (.pointer x21)) rfl rfl rfl (fun dr => r_load1 Tryd.isAgg68 rfl e22) ?_
    refine s_pu (d := some 5) (v := (.pointer x21)) rfl rfl rfl (r_assign rfl) ?_
    refine s_fin ?_
    exact WL_mk (l := [(1, (.int .i64 i11)), (4, (.pointer (some p6))), (5, (.pointer x21))]) H ⟨rfl, rfl, rfl, trivial⟩
  · have H := H.2 g44
    refine W_seq ?_
    refine W_region (.pu 0 (.pu 1 (.pu 2 (.pu 3 .fin)))) rfl rfl ?_
    refine s_pu (d := some 27) (v := (.int .i64 i11)) rfl rfl rfl (r_move rfl) ?_
    refine s_pu (d := some 28) (v := (.int .i64 y18)) rfl rfl rfl (r_move rfl) ?_
    refine s_pu (d := some 29) (v := (.bool (decide (y18 < i11)))) rfl rfl rfl (r_gtr rfl rfl) ?_
    refine s_pu (d := some 26) (v := (.bool (decide (y18 < i11)))) rfl rfl rfl (r_assign rfl) ?_
    refine s_fin ?_
    show W _ _ _ _ _ _ _ _
    refine W_if (decide (y18 < i11)) rfl (fun g43 => ?_) (fun g43 => ?_)
    · have H := H.1 g43
      refine W_region (.pu 0 (.pu 1 (.pu 2 (.rl 3 (.pu 4 (.pu 5 (.pu 6 (.pu 7 (.pu 8 (.pu 9 .fin)))))))))) rfl rfl ?_
      refine s_pu (d := some 30) (v := (.pointer n12)) rfl rfl rfl (r_move rfl) ?_
      obtain ⟨p23, e24, H⟩ := H
      refine s_pu (d := some 31) (v := (.pointer (some p23))) rfl rfl rfl (r_nilCheck rfl e24) ?_
      refine s_pu (d := some 32) (v := (.pointer (some (Addr.add p23 8)))) rfl rfl rfl (r_fieldAddr Tryd.underlying164 Tryd.sizeOf68 rfl rfl rfl) ?_
      obtain ⟨x25, e26, H⟩ := H
      refine s_rl (d := some 33) (v := (.pointer x25)) rfl rfl rfl (fun dr => r_load1 Tryd.isAgg68 rfl e26) ?_
      refine s_pu (d := some 34) (v := (.int .i64 i11)) rfl rfl rfl (r_move rfl) ?_
      refine s_pu (d := some 35) (v := (.int .i64 y18)) rfl rfl rfl (r_move rfl) ?_
      refine s_pu (d := some 36) (v := (.int .i64 (w64 (i11 - y18)))) rfl rfl rfl (r_sub rfl rfl) ?_
      refine s_pu (d := some 37) (v := (.int .i64 (w64 ((w64 (i11 - y18)) - 1)))) rfl rfl rfl (r_sub rfl rfl) ?_
      refine s_pu (d := some 5) (v := (.pointer x25)) rfl rfl rfl (r_assign rfl) ?_
      refine s_pu (d := some 1) (v := (.int .i64 (w64 ((w64 (i11 - y18)) - 1)))) rfl rfl rfl (r_assign rfl) ?_
      refine s_fin ?_
      exact WL_mk (l := [(1, (.int .i64 (w64 ((w64 (i11 - y18)) - 1)))), (4, (.pointer (some p6))), (5, (.pointer x25))]) H ⟨rfl, rfl, rfl, trivial⟩
    · have H := H.2 g43
      refine W_seq ?_
      refine W_region (.pu 0 (.pu 1 (.pu 2 (.rl 3 (.ef 4 [] .fin .no))))) rfl rfl ?_
      refine s_pu (d := some 14) (v := (.pointer n12)) rfl rfl rfl (r_move rfl) ?_
      obtain ⟨p27, e28, H⟩ := H
      refine s_pu (d := some 15) (v := (.pointer (some p27))) rfl rfl rfl (r_nilCheck rfl e28) ?_
      refine s_pu (d := some 16) (v := (.pointer (some (Addr.add p27 0)))) rfl rfl rfl (r_fieldAddr Tryd.underlying164 Tryd.sizeOf74 rfl rfl rfl) ?_
      obtain ⟨x29, e30, H⟩ := H
      obtain ⟨x31, e32, H⟩ := H
      obtain ⟨x33, e34, H⟩ := H
      refine s_rl (d := some 17) (v := (.agg #[(.int .i64 x29), (.int .i64 x31), (.int .i64 x33)])) rfl rfl rfl (fun dr => r_loadN Tryd.isAgg74 Tryd.sizeOf74 (vs := [(.int .i64 x29), (.int .i64 x31), (.int .i64 x33)]) rfl rfl ⟨e30, e32, e34, trivial⟩) ?_
      obtain ⟨e36, H⟩ := H
      obtain ⟨h5, e35⟩ : ∃ hh : Heap, hh = hsets h4 p6 0 [(.int .i64 x29), (.int .i64 x31), (.int .i64 x33)] := ⟨_, rfl⟩
      have H := H h5 e35
      refine s_st (d := none) (h' := h5) rfl rfl rfl (fun dr => (r_store (v := (.agg #[(.int .i64 x29), (.int .i64 x31), (.int .i64 x33)])) Tryd.sizeOf74 rfl rfl rfl (one_all rfl) e36).trans (by rw [e35]; rfl)) trivial ?_ trivial
      refine s_fin ?_
      show W _ _ _ _ _ _ _ _
      refine W_ret ?_
      obtain ⟨x37, e38, H⟩ := H
      obtain ⟨x39, e40, H⟩ := H
      obtain ⟨x41, e42, H⟩ := H
      exact ⟨[(.agg #[(.int .i64 x37), (.int .i64 x39), (.int .i64 x41)])], ⟨_, _, _, rfl, rfl, fun dr => run_loadVarN Tryd.isAgg74 Tryd.sizeOf74 (vs := [(.int .i64 x37), (.int .i64 x39), (.int .i64 x41)]) rfl ⟨e38, e40, e42, trivial⟩, rfl⟩, x37, x39, x41, rfl, H⟩

/-! ### finger_Many_api_Span_ival_reach_ival_reaches_Find -/

def finger_Many_api_Span_ival_reach_ival_reaches_Find_F (r : World) (t1 : Option Addr) (p2 : Value) (h : Heap) (R : Int → Heap → Prop) : Prop :=
  New h (.cells #[(.pointer t1)] 70) fun p3 h1 =>
  New h1 (.cells #[] 126) fun p6 h2 =>
  ival_reaches_None r h2 fun y9 y10 y11 h3 =>
  New h3 (.cells #[(.bool false), (.int .i64 0), (.int .i64 0)] 124) fun p12 h4 =>
  St h4 p12 3 [(.bool y9), (.int .i64 y10), (.int .i64 y11)] fun h5 =>
  LdP h5 (Addr.add p3 0) fun x17 =>
  ∀ X21 : Int → Option Addr → Heap → Prop, (∀ (va19 : Int) (n20 : Option Addr) (h6 : Heap),
    (Br (!(Option.isNone n20)) (
      ∀ J23 : Addr → Heap → Prop, (∀ (p22 : Addr) (h7 : Heap),
        (LdB h7 (Addr.add p22 0) fun x25 =>
        LdI h7 (Addr.add p22 1) fun x27 =>
        LdI h7 (Addr.add p22 2) fun x29 =>
        CallV Tryd.prog r p2 [(.agg #[(.bool x25), (.int .i64 x27), (.int .i64 x29)])] h7 fun v144 h8 => ∃ (y31 : Bool), v144 = (.bool y31) ∧
        Br y31 (
          Ck n20 fun p32 =>
          LdP h8 (Addr.add p32 7) fun x34 =>
          X21 va19 x34 h8) (
          ∀ J37 : Addr → Heap → Prop, (∀ (p36 : Addr) (h9 : Heap),
            (LdB h9 (Addr.add p36 0) fun x39 =>
            LdI h9 (Addr.add p36 1) fun x41 =>
            LdI h9 (Addr.add p36 2) fun x43 =>
            CallV Tryd.prog r p2 [(.agg #[(.bool x39), (.int .i64 x41), (.int .i64 x43)])] h9 fun v74 h10 => ∃ (y45 : Bool), v74 = (.bool y45) ∧
            Br (!y45) (
              LdB h10 (Addr.add p36 0) fun x46 =>
              LdI h10 (Addr.add p36 1) fun x48 =>
              LdI h10 (Addr.add p36 2) fun x50 =>
              Ck n20 fun p52 =>
              LdP h10 (Addr.add p52 7) fun x54 =>
              Ck n20 fun p56 =>
              LdP h10 (Addr.add p56 8) fun x58 =>
              finger_node_api_Span_ival_reach_size r x54 h10 fun y60 h11 =>
              (hcell h11 (Addr.add p56 8) = some (.pointer x58)) ∧
              (hcell h11 (Addr.add p36 0) = some (.bool x46)) ∧
              (hcell h11 (Addr.add p36 1) = some (.int .i64 x48)) ∧
              (hcell h11 (Addr.add p36 2) = some (.int .i64 x50)) ∧
              St h11 p12 3 [(.bool x46), (.int .i64 x48), (.int .i64 x50)] fun h12 =>
              (hcell h12 (Addr.add p56 8) = some (.pointer x58)) ∧
              X21 (w64 ((w64 (va19 + y60)) + 1)) x58 h12) (
              Ck n20 fun p68 =>
              LdP h10 (Addr.add p68 7) fun x70 =>
              finger_node_api_Span_ival_reach_size r x70 h10 fun y72 h13 =>
              R (w64 (va19 + y72)) h13)) →
            J37 p36 h9) →
          LdB h8 (Addr.add p22 0) fun x75 =>
          LdI h8 (Addr.add p22 1) fun x77 =>
          LdI h8 (Addr.add p22 2) fun x79 =>
          Ck n20 fun p81 =>
          LdI h8 (Addr.add (Addr.add p81 0) 0) fun x83 =>
          LdI h8 (Addr.add (Addr.add p81 0) 1) fun x85 =>
          LdI h8 (Addr.add (Addr.add p81 0) 2) fun x87 =>
          (ival_reaches_One r x83 x85 x87 h8 fun y89 y90 y91 h14 =>
          (hcell h14 (Addr.add p22 0) = some (.bool x75)) ∧
          (hcell h14 (Addr.add p22 1) = some (.int .i64 x77)) ∧
          (hcell h14 (Addr.add p22 2) = some (.int .i64 x79)) ∧
          (ival_reaches_Join r x75 x77 x79 y89 y90 y91 h14 fun y95 y96 y97 h15 =>
          New h15 (.cells #[(.bool false), (.int .i64 0), (.int .i64 0)] 124) fun p98 h16 =>
          (hcell h16 (Addr.add (Addr.add p81 0) 0) = some (.int .i64 x83)) ∧
          (hcell h16 (Addr.add (Addr.add p81 0) 1) = some (.int .i64 x85)) ∧
          (hcell h16 (Addr.add (Addr.add p81 0) 2) = some (.int .i64 x87)) ∧
          (hcell h16 (Addr.add p22 0) = some (.bool x75)) ∧
          (hcell h16 (Addr.add p22 1) = some (.int .i64 x77)) ∧
          (hcell h16 (Addr.add p22 2) = some (.int .i64 x79)) ∧
          St h16 p98 3 [(.bool y95), (.int .i64 y96), (.int .i64 y97)] fun h17 =>
          J37 p98 h17) ∧
          (New h14 (.cells #[(.bool false), (.int .i64 0), (.int .i64 0)] 124) fun p109 h18 =>
          (hcell h18 (Addr.add (Addr.add p81 0) 0) = some (.int .i64 x83)) ∧
          (hcell h18 (Addr.add (Addr.add p81 0) 1) = some (.int .i64 x85)) ∧
          (hcell h18 (Addr.add (Addr.add p81 0) 2) = some (.int .i64 x87)) ∧
          (hcell h18 (Addr.add p22 0) = some (.bool x75)) ∧
          (hcell h18 (Addr.add p22 1) = some (.int .i64 x77)) ∧
          (hcell h18 (Addr.add p22 2) = some (.int .i64 x79)) ∧
          ival_reaches_Join r x75 x77 x79 y89 y90 y91 h18 fun y118 y119 y120 h19 =>
          St h19 p109 3 [(.bool y118), (.int .i64 y119), (.int .i64 y120)] fun h20 =>
          J37 p109 h20)) ∧
          (New h8 (.cells #[(.bool false), (.int .i64 0), (.int .i64 0)] 124) fun p123 h21 =>
          (hcell h21 (Addr.add (Addr.add p81 0) 0) = some (.int .i64 x83)) ∧
          (hcell h21 (Addr.add (Addr.add p81 0) 1) = some (.int .i64 x85)) ∧
          (hcell h21 (Addr.add (Addr.add p81 0) 2) = some (.int .i64 x87)) ∧
          (hcell h21 (Addr.add p22 0) = some (.bool x75)) ∧
          (hcell h21 (Addr.add p22 1) = some (.int .i64 x77)) ∧
          (hcell h21 (Addr.add p22 2) = some (.int .i64 x79)) ∧
          ival_reaches_One r x83 x85 x87 h21 fun y132 y133 y134 h22 =>
          (hcell h22 (Addr.add p22 0) = some (.bool x75)) ∧
          (hcell h22 (Addr.add p22 1) = some (.int .i64 x77)) ∧
          (hcell h22 (Addr.add p22 2) = some (.int .i64 x79)) ∧
          ival_reaches_Join r x75 x77 x79 y132 y133 y134 h22 fun y138 y139 y140 h23 =>
          St h23 p123 3 [(.bool y138), (.int .i64 y139), (.int .i64 y140)] fun h24 =>
          J37 p123 h24))) →
        J23 p22 h7) →
      LdB h6 (Addr.add p12 0) fun x145 =>
      LdI h6 (Addr.add p12 1) fun x147 =>
      LdI h6 (Addr.add p12 2) fun x149 =>
      Ck n20 fun p151 =>
      LdP h6 (Addr.add p151 7) fun x153 =>
      (finger_total_api_Span_ival_reach_ival_reaches r x153 h6 fun y155 y156 y157 h25 =>
      (hcell h25 (Addr.add p12 0) = some (.bool x145)) ∧
      (hcell h25 (Addr.add p12 1) = some (.int .i64 x147)) ∧
      (hcell h25 (Addr.add p12 2) = some (.int .i64 x149)) ∧
      (ival_reaches_Join r x145 x147 x149 y155 y156 y157 h25 fun y161 y162 y163 h26 =>
      New h26 (.cells #[(.bool false), (.int .i64 0), (.int .i64 0)] 124) fun p164 h27 =>
      (hcell h27 (Addr.add p151 7) = some (.pointer x153)) ∧
      (hcell h27 (Addr.add p12 0) = some (.bool x145)) ∧
      (hcell h27 (Addr.add p12 1) = some (.int .i64 x147)) ∧
      (hcell h27 (Addr.add p12 2) = some (.int .i64 x149)) ∧
      St h27 p164 3 [(.bool y161), (.int .i64 y162), (.int .i64 y163)] fun h28 =>
      J23 p164 h28) ∧
      (New h25 (.cells #[(.bool false), (.int .i64 0), (.int .i64 0)] 124) fun p173 h29 =>
      (hcell h29 (Addr.add p151 7) = some (.pointer x153)) ∧
      (hcell h29 (Addr.add p12 0) = some (.bool x145)) ∧
      (hcell h29 (Addr.add p12 1) = some (.int .i64 x147)) ∧
      (hcell h29 (Addr.add p12 2) = some (.int .i64 x149)) ∧
      ival_reaches_Join r x145 x147 x149 y155 y156 y157 h29 fun y180 y181 y182 h30 =>
      St h30 p173 3 [(.bool y180), (.int .i64 y181), (.int .i64 y182)] fun h31 =>
      J23 p173 h31)) ∧
      (New h6 (.cells #[(.bool false), (.int .i64 0), (.int .i64 0)] 124) fun p185 h32 =>
      (hcell h32 (Addr.add p151 7) = some (.pointer x153)) ∧
      (hcell h32 (Addr.add p12 0) = some (.bool x145)) ∧
      (hcell h32 (Addr.add p12 1) = some (.int .i64 x147)) ∧
      (hcell h32 (Addr.add p12 2) = some (.int .i64 x149)) ∧
      finger_total_api_Span_ival_reach_ival_reaches r x153 h32 fun y192 y193 y194 h33 =>
      (hcell h33 (Addr.add p12 0) = some (.bool x145)) ∧
      (hcell h33 (Addr.add p12 1) = some (.int .i64 x147)) ∧
      (hcell h33 (Addr.add p12 2) = some (.int .i64 x149)) ∧
      ival_reaches_Join r x145 x147 x149 y192 y193 y194 h33 fun y198 y199 y200 h34 =>
      St h34 p185 3 [(.bool y198), (.int .i64 y199), (.int .i64 y200)] fun h35 =>
      J23 p185 h35)) (
      R va19 h6)) →
    X21 va19 n20 h6) →
  X21 0 x17 h5

set_option maxRecDepth 100000 in
theorem finger_Many_api_Span_ival_reach_ival_reaches_Find_of {r : World} {t1 : Option Addr} {p2 : Value} {h : Heap} {R : Int → Heap → Prop} (H : finger_Many_api_Span_ival_reach_ival_reaches_Find_F r t1 p2 h R) : finger_Many_api_Span_ival_reach_ival_reaches_Find r t1 p2 h R := by
  unfold finger_Many_api_Span_ival_reach_ival_reaches_Find_F at H
  refine calls_of 70 [.tmp 4] Tryd.func86 rfl rfl rfl rfl rfl ?_
  refine W_seq ?_
  refine W_region (.ef 0 [] (.pu 1 .fin) .no) rfl rfl ?_
  obtain ⟨p3, e4⟩ : ∃ p : Addr, p = ⟨h.size, 0, none⟩ := ⟨_, rfl⟩
  obtain ⟨h1, e5⟩ : ∃ hh : Heap, hh = h.push (.cells #[(.pointer t1)] 70) := ⟨_, rfl⟩
  have H := H p3 h1 e4 e5
  refine s_ef1 (d := some 2) (v := (.pointer (some p3))) (h' := h1) rfl rfl rfl (fun dr => (r_box (v := (.agg #[(.pointer t1)])) rfl).trans (by rw [e4, e5]; rfl)) trivial ?_ trivial
  refine s_pu (d := some 4) (v := (.int .i64 0)) rfl rfl rfl (r_assign rfl) ?_
  refine s_fin ?_
  show W _ _ _ _ _ _ _ _
  refine W_seq ?_
  refine W_region (.ef 0 [] .fin .no) rfl rfl ?_
  obtain ⟨p6, e7⟩ : ∃ p : Addr, p = ⟨h1.size, 0, none⟩ := ⟨_, rfl⟩
  obtain ⟨h2, e8⟩ : ∃ hh : Heap, hh = h1.push (.cells #[] 126) := ⟨_, rfl⟩
  have H := H p6 h2 e7 e8
  refine s_ef1 (d := some 5) (v := (.pointer (some p6))) (h' := h2) rfl rfl rfl (fun dr => (r_alloc Tryd.zeroValue126).trans (by rw [e7, e8]; rfl)) trivial ?_ trivial
  refine s_fin ?_
  show W _ _ _ _ _ _ _ _
  refine W_seq ?_
  refine W_region (.pu 0 .fin) rfl rfl ?_
  refine s_pu (d := some 6) (v := (.int .i64 0)) rfl rfl rfl (r_assign rfl) ?_
  refine s_fin ?_
  show W _ _ _ _ _ _ _ _
  refine W_seq ?_
  refine W_region (.rl 0 (.pu 1 (.ef 2 [] (.ef 3 [] (.ef 4 [] .fin .no) .no) .no))) rfl rfl ?_
  refine s_rl (d := some 11) (v := (.agg #[])) rfl rfl rfl (fun dr => r_loadN Tryd.isAgg126 Tryd.sizeOf126 (vs := []) rfl rfl trivial) ?_
  refine s_pu (d := some 12) (v := ((.iface 126 (.agg #[])))) rfl rfl rfl (r_iface Tryd.underlying126 rfl rfl) ?_
  refine s_ef (d := some 13) rfl rfl rfl (fun dr => r_invoke mth_ival_reaches_None rfl rfl H) ?_ trivial
  rintro _ h3 ⟨y9, y10, y11, rfl, H⟩
  refine ⟨trivial, ?_⟩
  obtain ⟨p12, e13⟩ : ∃ p : Addr, p = ⟨h3.size, 0, none⟩ := ⟨_, rfl⟩
  obtain ⟨h4, e14⟩ : ∃ hh : Heap, hh = h3.push (.cells #[(.bool false), (.int .i64 0), (.int .i64 0)] 124) := ⟨_, rfl⟩
  have H := H p12 h4 e13 e14
  refine s_ef1 (d := some 7) (v := (.pointer (some p12))) (h' := h4) rfl rfl rfl (fun dr => (r_alloc Tryd.zeroValue124).trans (by rw [e13, e14]; rfl)) trivial ?_ trivial
  obtain ⟨e16, H⟩ := H
  obtain ⟨h5, e15⟩ : ∃ hh : Heap, hh = hsets h4 p12 0 [(.bool y9), (.int .i64 y10), (.int .i64 y11)] := ⟨_, rfl⟩
  have H := H h5 e15
  refine s_st (d := none) (h' := h5) rfl rfl rfl (fun dr => (r_store (v := (.agg #[(.bool y9), (.int .i64 y10), (.int .i64 y11)])) Tryd.sizeOf124 rfl rfl rfl (one_all rfl) e16).trans (by rw [e15]; rfl)) trivial ?_ trivial
  refine s_fin ?_
  show W _ _ _ _ _ _ _ _
  refine W_seq ?_
  refine W_seq ?_
  refine W_region (.pu 0 (.rl 1 (.pu 2 .fin))) rfl rfl ?_
  refine s_pu (d := some 14) (v := (.pointer (some (Addr.add p3 0)))) rfl rfl rfl (r_fieldAddr Tryd.underlying70 Tryd.sizeOf68 rfl rfl rfl) ?_
  obtain ⟨x17, e18, H⟩ := H
  refine s_rl (d := some 15) (v := (.pointer x17)) rfl rfl rfl (fun dr => r_load1 Tryd.isAgg68 rfl e18) ?_
  refine s_pu (d := some 8) (v := (.pointer x17)) rfl rfl rfl (r_assign rfl) ?_
  refine s_fin ?_
  show W _ _ _ _ _ _ _ _
  refine W_block ?_
  refine W_loop (WL_mk (l := [(1, p2), (5, (.pointer (some p6))), (6, (.int .i64 0)), (7, (.pointer (some p12))), (8, (.pointer x17))]) ?_ ⟨rfl, rfl, rfl, rfl, rfl, trivial⟩)
  refine H (fun (va19 : Int) (n20 : Option Addr) (h6 : Heap) => ∀ b, WL _ _ _ _ _ _ (mkE [(1, p2), (5, (.pointer (some p6))), (6, (.int .i64 va19)), (7, (.pointer (some p12))), (8, (.pointer n20))] b) h6) ?_
  intro va19 n20 h6 H b
  refine WL_round ?_
  refine W_seq ?_
  refine W_seq ?_
  refine W_region (.pu 0 (.pu 1 .fin)) rfl rfl ?_
  refine s_pu (d := some 16) (v := (.pointer n20)) rfl rfl rfl (r_move rfl) ?_
  refine s_pu (d := some 17) (v := (.bool (!(Option.isNone n20)))) rfl rfl rfl (r_notNilP Tryd.underlying68 rfl rfl) ?_
  refine s_fin ?_
  show W _ _ _ _ _ _ _ _
  refine W_if (!(Option.isNone n20)) rfl (fun g203 => ?_) (fun g203 => ?_)
  · have H := H.1 g203
    refine W_skip ?_
    show W _ _ _ _ _ _ _ _
    refine W_block ?_
    refine W_seq ?_
    refine W_seq ?_
    refine W_set ?_
    intro N24 eN24
    have H := H (fun (p22 : Addr) (h7 : Heap) => ∀ b, N24 [] (mkE [(1, p2), (5, (.pointer (some p6))), (6, (.int .i64 va19)), (7, (.pointer (some p12))), (8, (.pointer n20)), (9, (.pointer (some p22)))] b) h7) (by
      intro p22 h7 H b
      rw [eN24]
      show W _ _ _ _ _ _ _ _
      refine W_seq ?_
      refine W_region (.pu 0 (.rl 1 (.ef 2 [] .fin .no))) rfl rfl ?_
      refine s_pu (d := some 27) (v := p2) rfl rfl rfl (r_move rfl) ?_
      obtain ⟨x25, e26, H⟩ := H
      obtain ⟨x27, e28, H⟩ := H
      obtain ⟨x29, e30, H⟩ := H
      refine s_rl (d := some 28) (v := (.agg #[(.bool x25), (.int .i64 x27), (.int .i64 x29)])) rfl rfl rfl (fun dr => r_loadN Tryd.isAgg124 Tryd.sizeOf124 (vs := [(.bool x25), (.int .i64 x27), (.int .i64 x29)]) rfl rfl ⟨e26, e28, e30, trivial⟩) ?_
      refine s_ef (d := some 29) rfl rfl rfl (fun dr => r_callV rfl rfl H) ?_ trivial
      rintro _ h8 ⟨y31, rfl, H⟩
      refine ⟨trivial, ?_⟩
      refine s_fin ?_
      show W _ _ _ _ _ _ _ _
      refine W_if y31 rfl (fun g143 => ?_) (fun g143 => ?_)
      · have H := H.1 g143
        refine W_seq ?_
        refine W_region (.pu 0 (.pu 1 (.pu 2 (.rl 3 (.pu 4 .fin))))) rfl rfl ?_
        refine s_pu (d := some 30) (v := (.pointer n20)) rfl rfl rfl (r_move rfl) ?_
        obtain ⟨p32, e33, H⟩ := H
        refine s_pu (d := some 31) (v := (.pointer (some p32))) rfl rfl rfl (r_nilCheck rfl e33) ?_
        refine s_pu (d := some 32) (v := (.pointer (some (Addr.add p32 7)))) rfl rfl rfl (r_fieldAddr Tryd.underlying164 Tryd.sizeOf68 rfl rfl rfl) ?_
        obtain ⟨x34, e35, H⟩ := H
        refine s_rl (d := some 33) (v := (.pointer x34)) rfl rfl rfl (fun dr => r_load1 Tryd.isAgg68 rfl e35) ?_
        refine s_pu (d := some 8) (v := (.pointer x34)) rfl rfl rfl (r_assign rfl) ?_
        refine s_fin ?_
        show W _ _ _ _ _ _ _ _
        refine W_exit (inX_here ?_)
        exact WL_mk (l := [(1, p2), (5, (.pointer (some p6))), (6, (.int .i64 va19)), (7, (.pointer (some p12))), (8, (.pointer x34))]) H ⟨rfl, rfl, rfl, rfl, rfl, trivial⟩
      · have H := H.2 g143
        refine W_seq ?_
        refine W_set ?_
        intro N38 eN38
        have H := H (fun (p36 : Addr) (h9 : Heap) => ∀ b, N38 [] (mkE [(1, p2), (5, (.pointer (some p6))), (6, (.int .i64 va19)), (7, (.pointer (some p12))), (8, (.pointer n20)), (10, (.pointer (some p36)))] b) h9) (by
          intro p36 h9 H b
          rw [eN38]
          show W _ _ _ _ _ _ _ _
          refine W_seq ?_
          refine W_region (.pu 0 (.rl 1 (.ef 2 [] (.pu 3 .fin) .no))) rfl rfl ?_
          refine s_pu (d := some 45) (v := p2) rfl rfl rfl (r_move rfl) ?_
          obtain ⟨x39, e40, H⟩ := H
          obtain ⟨x41, e42, H⟩ := H
          obtain ⟨x43, e44, H⟩ := H
          refine s_rl (d := some 46) (v := (.agg #[(.bool x39), (.int .i64 x41), (.int .i64 x43)])) rfl rfl rfl (fun dr => r_loadN Tryd.isAgg124 Tryd.sizeOf124 (vs := [(.bool x39), (.int .i64 x41), (.int .i64 x43)]) rfl rfl ⟨e40, e42, e44, trivial⟩) ?_
          refine s_ef (d := some 47) rfl rfl rfl (fun dr => r_callV rfl rfl H) ?_ trivial
          rintro _ h10 ⟨y45, rfl, H⟩
          refine ⟨trivial, ?_⟩
          refine s_pu (d := some 48) (v := (.bool (!y45))) rfl rfl rfl (r_not rfl) ?_
          refine s_fin ?_
          show W _ _ _ _ _ _ _ _
          refine W_if (!y45) rfl (fun g73 => ?_) (fun g73 => ?_)
          · have H := H.1 g73
            refine W_seq ?_
            refine W_draw [0, 0, 0, 4, 12, 28, 60, 126, 254, 0, 512, 1536, 3584, 125, 8703, 32767] (.rd 0 (.pu 1 (.pu 2 (.pu 3 (.pu 4 (.rd 5 (.pu 9 (.pu 10 (.pu 11 (.rd 12 (.ef 6 [5] (.pu 7 (.pu 8 (.ef 13 [0, 5] (.pu 14 (.pu 15 .fin)) .no))) .no))))))))))) (by kernel_rfl) (by kernel_rfl) ?_
            obtain ⟨x46, e47, H⟩ := H
            obtain ⟨x48, e49, H⟩ := H
            obtain ⟨x50, e51, H⟩ := H
            refine s_rd (d := some 49) (v := (.agg #[(.bool x46), (.int .i64 x48), (.int .i64 x50)])) rfl rfl rfl (fun dr => r_loadN Tryd.isAgg124 Tryd.sizeOf124 (vs := [(.bool x46), (.int .i64 x48), (.int .i64 x50)]) rfl rfl ⟨e47, e49, e51, trivial⟩) ?_
            refine s_pu (d := some 50) (v := (.int .i64 va19)) rfl rfl rfl (r_move rfl) ?_
            refine s_pu (d := some 51) (v := (.pointer n20)) rfl rfl rfl (r_move rfl) ?_
            obtain ⟨p52, e53, H⟩ := H
            refine s_pu (d := some 52) (v := (.pointer (some p52))) rfl rfl rfl (r_nilCheck rfl e53) ?_
            refine s_pu (d := some 53) (v := (.pointer (some (Addr.add p52 7)))) rfl rfl rfl (r_fieldAddr Tryd.underlying164 Tryd.sizeOf68 rfl rfl rfl) ?_
            obtain ⟨x54, e55, H⟩ := H
            refine s_rd (d := some 54) (v := (.pointer x54)) rfl rfl rfl (fun dr => r_load1 Tryd.isAgg68 rfl e55) ?_
            refine s_pu (d := some 58) (v := (.pointer n20)) rfl rfl rfl (r_move rfl) ?_
            obtain ⟨p56, e57, H⟩ := H
            refine s_pu (d := some 59) (v := (.pointer (some p56))) rfl rfl rfl (r_nilCheck rfl e57) ?_
            refine s_pu (d := some 60) (v := (.pointer (some (Addr.add p56 8)))) rfl rfl rfl (r_fieldAddr Tryd.underlying164 Tryd.sizeOf68 rfl rfl rfl) ?_
            obtain ⟨x58, e59, H⟩ := H
            refine s_rd (d := some 61) (v := (.pointer x58)) rfl rfl rfl (fun dr => r_load1 Tryd.isAgg68 rfl e59) ?_
            refine s_ef (d := some 55) rfl rfl rfl (fun dr => r_call Tryd.call118 rfl rfl H) ?_ trivial
            rintro _ h11 ⟨y60, rfl, H⟩
            obtain ⟨e61, H⟩ := H
            obtain ⟨e62, H⟩ := H
            obtain ⟨e63, H⟩ := H
            obtain ⟨e64, H⟩ := H
            refine ⟨⟨(.inl ⟨rfl, fun dr => r_load1 Tryd.isAgg68 rfl e61⟩), trivial, (.inl ⟨rfl, fun dr => r_loadN Tryd.isAgg124 Tryd.sizeOf124 (vs := [(.bool x46), (.int .i64 x48), (.int .i64 x50)]) rfl rfl ⟨e62, e63, e64, trivial⟩⟩), trivial⟩, ?_⟩
            refine s_pu (d := some 56) (v := (.int .i64 (w64 (va19 + y60)))) rfl rfl rfl (r_add rfl rfl) ?_
            refine s_pu (d := some 57) (v := (.int .i64 (w64 ((w64 (va19 + y60)) + 1)))) rfl rfl rfl (r_add rfl rfl) ?_
            obtain ⟨e66, H⟩ := H
            obtain ⟨h12, e65⟩ : ∃ hh : Heap, hh = hsets h11 p12 0 [(.bool x46), (.int .i64 x48), (.int .i64 x50)] := ⟨_, rfl⟩
            have H := H h12 e65
            obtain ⟨e67, H⟩ := H
            refine s_st (d := none) (h' := h12) rfl rfl rfl (fun dr => (r_store (v := (.agg #[(.bool x46), (.int .i64 x48), (.int .i64 x50)])) Tryd.sizeOf124 rfl rfl rfl (one_all rfl) e66).trans (by rw [e65]; rfl)) ⟨(.inl ⟨rfl, fun dr => r_load1 Tryd.isAgg68 rfl e67⟩), trivial, trivial, trivial⟩ ?_ trivial
            refine s_pu (d := some 6) (v := (.int .i64 (w64 ((w64 (va19 + y60)) + 1)))) rfl rfl rfl (r_assign rfl) ?_
            refine s_pu (d := some 8) (v := (.pointer x58)) rfl rfl rfl (r_assign rfl) ?_
            refine s_fin ?_
            show W _ _ _ _ _ _ _ _
            refine W_exit (inX_here ?_)
            exact WL_mk (l := [(1, p2), (5, (.pointer (some p6))), (6, (.int .i64 (w64 ((w64 (va19 + y60)) + 1)))), (7, (.pointer (some p12))), (8, (.pointer x58))]) H ⟨rfl, rfl, rfl, rfl, rfl, trivial⟩
          · have H := H.2 g73
            refine W_skip ?_
            show W _ _ _ _ _ _ _ _
            refine W_seq ?_
            refine W_region (.pu 0 (.pu 1 (.pu 2 (.pu 3 (.rl 4 (.ef 5 [] (.pu 6 (.pu 7 .fin)) .no)))))) rfl rfl ?_
            refine s_pu (d := some 62) (v := (.int .i64 va19)) rfl rfl rfl (r_move rfl) ?_
            refine s_pu (d := some 63) (v := (.pointer n20)) rfl rfl rfl (r_move rfl) ?_
            obtain ⟨p68, e69, H⟩ := H
            refine s_pu (d := some 64) (v := (.pointer (some p68))) rfl rfl rfl (r_nilCheck rfl e69) ?_
            refine s_pu (d := some 65) (v := (.pointer (some (Addr.add p68 7)))) rfl rfl rfl (r_fieldAddr Tryd.underlying164 Tryd.sizeOf68 rfl rfl rfl) ?_
            obtain ⟨x70, e71, H⟩ := H
            refine s_rl (d := some 66) (v := (.pointer x70)) rfl rfl rfl (fun dr => r_load1 Tryd.isAgg68 rfl e71) ?_
            refine s_ef (d := some 67) rfl rfl rfl (fun dr => r_call Tryd.call118 rfl rfl H) ?_ trivial
            rintro _ h13 ⟨y72, rfl, H⟩
            refine ⟨trivial, ?_⟩
            refine s_pu (d := some 68) (v := (.int .i64 (w64 (va19 + y72)))) rfl rfl rfl (r_add rfl rfl) ?_
            refine s_pu (d := some 4) (v := (.int .i64 (w64 (va19 + y72)))) rfl rfl rfl (r_assign rfl) ?_
            refine s_fin ?_
            show W _ _ _ _ _ _ _ _
            refine W_ret ?_
            exact ⟨[(.int .i64 (w64 (va19 + y72)))], ⟨_, _, rfl, rfl, rfl⟩, (w64 (va19 + y72)), rfl, H⟩)
        clear eN38
        refine W_draw [0, 1, 0, 0, 8, 0, 32, 96, 224, 504, 1023, 0, 4095] (.rd 0 (.pu 1 (.rd 2 (.rd 3 (.pu 4 (.pu 5 (.pu 6 (.pu 7 (.rd 8 (.ef 9 [3, 8] (.ef 10 [0, 2, 3, 8] (.ef 11 [] (.ef 12 [0, 2, 3, 8] .fin .no) .no) (.ef 11 [] (.ef 10 [0, 2, 3, 8] (.ef 12 [0, 2, 3, 8] .fin .no) .no) .no)) (.ef 11 [] (.ef 9 [3, 8] (.ef 10 [0, 2, 3, 8] (.ef 12 [0, 2, 3, 8] .fin .no) .no) .no) .no))))))))))) (by kernel_rfl) (by kernel_rfl) ?_
        refine s_rd (d := some 34) (v := (.agg #[])) rfl rfl rfl (fun dr => r_loadN Tryd.isAgg126 Tryd.sizeOf126 (vs := []) rfl rfl trivial) ?_
        refine s_pu (d := some 35) (v := ((.iface 126 (.agg #[])))) rfl rfl rfl (r_iface Tryd.underlying126 rfl rfl) ?_
        obtain ⟨x75, e76, H⟩ := H
        obtain ⟨x77, e78, H⟩ := H
        obtain ⟨x79, e80, H⟩ := H
        refine s_rd (d := some 36) (v := (.agg #[(.bool x75), (.int .i64 x77), (.int .i64 x79)])) rfl rfl rfl (fun dr => r_loadN Tryd.isAgg124 Tryd.sizeOf124 (vs := [(.bool x75), (.int .i64 x77), (.int .i64 x79)]) rfl rfl ⟨e76, e78, e80, trivial⟩) ?_
        refine s_rd (d := some 37) (v := (.agg #[])) rfl rfl rfl (fun dr => r_loadN Tryd.isAgg126 Tryd.sizeOf126 (vs := []) rfl rfl trivial) ?_
        refine s_pu (d := some 38) (v := ((.iface 126 (.agg #[])))) rfl rfl rfl (r_iface Tryd.underlying126 rfl rfl) ?_
        refine s_pu (d := some 39) (v := (.pointer n20)) rfl rfl rfl (r_move rfl) ?_
        obtain ⟨p81, e82, H⟩ := H
        refine s_pu (d := some 40) (v := (.pointer (some p81))) rfl rfl rfl (r_nilCheck rfl e82) ?_
        refine s_pu (d := some 41) (v := (.pointer (some (Addr.add p81 0)))) rfl rfl rfl (r_fieldAddr Tryd.underlying164 Tryd.sizeOf74 rfl rfl rfl) ?_
        obtain ⟨x83, e84, H⟩ := H
        obtain ⟨x85, e86, H⟩ := H
        obtain ⟨x87, e88, H⟩ := H
        refine s_rd (d := some 42) (v := (.agg #[(.int .i64 x83), (.int .i64 x85), (.int .i64 x87)])) rfl rfl rfl (fun dr => r_loadN Tryd.isAgg74 Tryd.sizeOf74 (vs := [(.int .i64 x83), (.int .i64 x85), (.int .i64 x87)]) rfl rfl ⟨e84, e86, e88, trivial⟩) ?_
        refine s_or ?_ ?_
        · have H := H.1
          refine s_ef (d := some 43) rfl rfl rfl (fun dr => r_invoke mth_ival_reaches_One rfl rfl H) ?_ trivial
          rintro _ h14 ⟨y89, y90, y91, rfl, H⟩
          obtain ⟨e92, H⟩ := H
          obtain ⟨e93, H⟩ := H
          obtain ⟨e94, H⟩ := H
          refine ⟨⟨trivial, trivial, (.inl ⟨rfl, fun dr => r_loadN Tryd.isAgg124 Tryd.sizeOf124 (vs := [(.bool x75), (.int .i64 x77), (.int .i64 x79)]) rfl rfl ⟨e92, e93, e94, trivial⟩⟩), (.inl ⟨rfl, fun dr => r_loadN Tryd.isAgg126 Tryd.sizeOf126 (vs := []) rfl rfl trivial⟩), trivial⟩, ?_⟩
          refine s_or ?_ ?_
          · have H := H.1
            refine s_ef (d := some 44) rfl rfl rfl (fun dr => r_invoke mth_ival_reaches_Join rfl rfl H) ?_ trivial
            rintro _ h15 ⟨y95, y96, y97, rfl, H⟩
            refine ⟨⟨trivial, trivial, trivial, trivial, trivial⟩, ?_⟩
            obtain ⟨p98, e99⟩ : ∃ p : Addr, p = ⟨h15.size, 0, none⟩ := ⟨_, rfl⟩
            obtain ⟨h16, e100⟩ : ∃ hh : Heap, hh = h15.push (.cells #[(.bool false), (.int .i64 0), (.int .i64 0)] 124) := ⟨_, rfl⟩
            have H := H p98 h16 e99 e100
            obtain ⟨e101, H⟩ := H
            obtain ⟨e102, H⟩ := H
            obtain ⟨e103, H⟩ := H
            obtain ⟨e104, H⟩ := H
            obtain ⟨e105, H⟩ := H
            obtain ⟨e106, H⟩ := H
            refine s_ef1 (d := some 10) (v := (.pointer (some p98))) (h' := h16) rfl rfl rfl (fun dr => (r_alloc Tryd.zeroValue124).trans (by rw [e99, e100]; rfl)) ⟨(.inl ⟨rfl, fun dr => r_loadN Tryd.isAgg74 Tryd.sizeOf74 (vs := [(.int .i64 x83), (.int .i64 x85), (.int .i64 x87)]) rfl rfl ⟨e101, e102, e103, trivial⟩⟩), (.inl ⟨rfl, fun dr => r_loadN Tryd.isAgg126 Tryd.sizeOf126 (vs := []) rfl rfl trivial⟩), (.inl ⟨rfl, fun dr => r_loadN Tryd.isAgg124 Tryd.sizeOf124 (vs := [(.bool x75), (.int .i64 x77), (.int .i64 x79)]) rfl rfl ⟨e104, e105, e106, trivial⟩⟩), (.inl ⟨rfl, fun dr => r_loadN Tryd.isAgg126 Tryd.sizeOf126 (vs := []) rfl rfl trivial⟩), trivial⟩ ?_ trivial
            obtain ⟨e108, H⟩ := H
            obtain ⟨h17, e107⟩ : ∃ hh : Heap, hh = hsets h16 p98 0 [(.bool y95), (.int .i64 y96), (.int .i64 y97)] := ⟨_, rfl⟩
            have H := H h17 e107
            refine s_st (d := none) (h' := h17) rfl rfl rfl (fun dr => (r_store (v := (.agg #[(.bool y95), (.int .i64 y96), (.int .i64 y97)])) Tryd.sizeOf124 rfl rfl rfl (one_all rfl) e108).trans (by rw [e107]; rfl)) ⟨trivial, trivial, trivial, trivial, trivial⟩ ?_ trivial
            refine s_fin ?_
            exact N_mk (l := [(1, p2), (5, (.pointer (some p6))), (6, (.int .i64 va19)), (7, (.pointer (some p12))), (8, (.pointer n20)), (10, (.pointer (some p98)))]) H ⟨rfl, rfl, rfl, rfl, rfl, rfl, trivial⟩
          · have H := H.2
            obtain ⟨p109, e110⟩ : ∃ p : Addr, p = ⟨h14.size, 0, none⟩ := ⟨_, rfl⟩
            obtain ⟨h18, e111⟩ : ∃ hh : Heap, hh = h14.push (.cells #[(.bool false), (.int .i64 0), (.int .i64 0)] 124) := ⟨_, rfl⟩
            have H := H p109 h18 e110 e111
            obtain ⟨e112, H⟩ := H
            obtain ⟨e113, H⟩ := H
            obtain ⟨e114, H⟩ := H
            obtain ⟨e115, H⟩ := H
            obtain ⟨e116, H⟩ := H
            obtain ⟨e117, H⟩ := H
            refine s_ef1 (d := some 10) (v := (.pointer (some p109))) (h' := h18) rfl rfl rfl (fun dr => (r_alloc Tryd.zeroValue124).trans (by rw [e110, e111]; rfl)) ⟨(.inl ⟨rfl, fun dr => r_loadN Tryd.isAgg74 Tryd.sizeOf74 (vs := [(.int .i64 x83), (.int .i64 x85), (.int .i64 x87)]) rfl rfl ⟨e112, e113, e114, trivial⟩⟩), (.inl ⟨rfl, fun dr => r_loadN Tryd.isAgg126 Tryd.sizeOf126 (vs := []) rfl rfl trivial⟩), (.inl ⟨rfl, fun dr => r_loadN Tryd.isAgg124 Tryd.sizeOf124 (vs := [(.bool x75), (.int .i64 x77), (.int .i64 x79)]) rfl rfl ⟨e115, e116, e117, trivial⟩⟩), (.inl ⟨rfl, fun dr => r_loadN Tryd.isAgg126 Tryd.sizeOf126 (vs := []) rfl rfl trivial⟩), trivial⟩ ?_ trivial
            refine s_ef (d := some 44) rfl rfl rfl (fun dr => r_invoke mth_ival_reaches_Join rfl rfl H) ?_ trivial
            rintro _ h19 ⟨y118, y119, y120, rfl, H⟩
            refine ⟨⟨trivial, trivial, trivial, trivial, trivial⟩, ?_⟩
            obtain ⟨e122, H⟩ := H
            obtain ⟨h20, e121⟩ : ∃ hh : Heap, hh = hsets h19 p109 0 [(.bool y118), (.int .i64 y119), (.int .i64 y120)] := ⟨_, rfl⟩
            have H := H h20 e121
            refine s_st (d := none) (h' := h20) rfl rfl rfl (fun dr => (r_store (v := (.agg #[(.bool y118), (.int .i64 y119), (.int .i64 y120)])) Tryd.sizeOf124 rfl rfl rfl (one_all rfl) e122).trans (by rw [e121]; rfl)) ⟨trivial, trivial, trivial, trivial, trivial⟩ ?_ trivial
            refine s_fin ?_
            exact N_mk (l := [(1, p2), (5, (.pointer (some p6))), (6, (.int .i64 va19)), (7, (.pointer (some p12))), (8, (.pointer n20)), (10, (.pointer (some p109)))]) H ⟨rfl, rfl, rfl, rfl, rfl, rfl, trivial⟩
        · have H := H.2
          obtain ⟨p123, e124⟩ : ∃ p : Addr, p = ⟨h8.size, 0, none⟩ := ⟨_, rfl⟩
          obtain ⟨h21, e125⟩ : ∃ hh : Heap, hh = h8.push (.cells #[(.bool false), (.int .i64 0), (.int .i64 0)] 124) := ⟨_, rfl⟩
          have H := H p123 h21 e124 e125
          obtain ⟨e126, H⟩ := H
          obtain ⟨e127, H⟩ := H
          obtain ⟨e128, H⟩ := H
          obtain ⟨e129, H⟩ := H
          obtain ⟨e130, H⟩ := H
          obtain ⟨e131, H⟩ := H
          refine s_ef1 (d := some 10) (v := (.pointer (some p123))) (h' := h21) rfl rfl rfl (fun dr => (r_alloc Tryd.zeroValue124).trans (by rw [e124, e125]; rfl)) ⟨(.inl ⟨rfl, fun dr => r_loadN Tryd.isAgg74 Tryd.sizeOf74 (vs := [(.int .i64 x83), (.int .i64 x85), (.int .i64 x87)]) rfl rfl ⟨e126, e127, e128, trivial⟩⟩), (.inl ⟨rfl, fun dr => r_loadN Tryd.isAgg126 Tryd.sizeOf126 (vs := []) rfl rfl trivial⟩), (.inl ⟨rfl, fun dr => r_loadN Tryd.isAgg124 Tryd.sizeOf124 (vs := [(.bool x75), (.int .i64 x77), (.int .i64 x79)]) rfl rfl ⟨e129, e130, e131, trivial⟩⟩), (.inl ⟨rfl, fun dr => r_loadN Tryd.isAgg126 Tryd.sizeOf126 (vs := []) rfl rfl trivial⟩), trivial⟩ ?_ trivial
          refine s_ef (d := some 43) rfl rfl rfl (fun dr => r_invoke mth_ival_reaches_One rfl rfl H) ?_ trivial
          rintro _ h22 ⟨y132, y133, y134, rfl, H⟩
          obtain ⟨e135, H⟩ := H
          obtain ⟨e136, H⟩ := H
          obtain ⟨e137, H⟩ := H
          refine ⟨⟨trivial, trivial, (.inl ⟨rfl, fun dr => r_loadN Tryd.isAgg124 Tryd.sizeOf124 (vs := [(.bool x75), (.int .i64 x77), (.int .i64 x79)]) rfl rfl ⟨e135, e136, e137, trivial⟩⟩), (.inl ⟨rfl, fun dr => r_loadN Tryd.isAgg126 Tryd.sizeOf126 (vs := []) rfl rfl trivial⟩), trivial⟩, ?_⟩
          refine s_ef (d := some 44) rfl rfl rfl (fun dr => r_invoke mth_ival_reaches_Join rfl rfl H) ?_ trivial
          rintro _ h23 ⟨y138, y139, y140, rfl, H⟩
          refine ⟨⟨trivial, trivial, trivial, trivial, trivial⟩, ?_⟩
          obtain ⟨e142, H⟩ := H
          obtain ⟨h24, e141⟩ : ∃ hh : Heap, hh = hsets h23 p123 0 [(.bool y138), (.int .i64 y139), (.int .i64 y140)] := ⟨_, rfl⟩
          have H := H h24 e141
          refine s_st (d := none) (h' := h24) rfl rfl rfl (fun dr => (r_store (v := (.agg #[(.bool y138), (.int .i64 y139), (.int .i64 y140)])) Tryd.sizeOf124 rfl rfl rfl (one_all rfl) e142).trans (by rw [e141]; rfl)) ⟨trivial, trivial, trivial, trivial, trivial⟩ ?_ trivial
          refine s_fin ?_
          exact N_mk (l := [(1, p2), (5, (.pointer (some p6))), (6, (.int .i64 va19)), (7, (.pointer (some p12))), (8, (.pointer n20)), (10, (.pointer (some p123)))]) H ⟨rfl, rfl, rfl, rfl, rfl, rfl, trivial⟩)
    clear eN24
    refine W_draw [0, 1, 0, 0, 8, 24, 56, 120, 255, 0, 1023] (.rd 0 (.pu 1 (.rd 2 (.pu 3 (.pu 4 (.pu 5 (.rd 6 (.ef 7 [6] (.ef 8 [0, 2, 6] (.ef 9 [] (.ef 10 [0, 2, 6] .fin .no) .no) (.ef 9 [] (.ef 8 [0, 2, 6] (.ef 10 [0, 2, 6] .fin .no) .no) .no)) (.ef 9 [] (.ef 7 [6] (.ef 8 [0, 2, 6] (.ef 10 [0, 2, 6] .fin .no) .no) .no) .no))))))))) (by kernel_rfl) (by kernel_rfl) ?_
    refine s_rd (d := some 18) (v := (.agg #[])) rfl rfl rfl (fun dr => r_loadN Tryd.isAgg126 Tryd.sizeOf126 (vs := []) rfl rfl trivial) ?_
    refine s_pu (d := some 19) (v := ((.iface 126 (.agg #[])))) rfl rfl rfl (r_iface Tryd.underlying126 rfl rfl) ?_
    obtain ⟨x145, e146, H⟩ := H
    obtain ⟨x147, e148, H⟩ := H
    obtain ⟨x149, e150, H⟩ := H
    refine s_rd (d := some 20) (v := (.agg #[(.bool x145), (.int .i64 x147), (.int .i64 x149)])) rfl rfl rfl (fun dr => r_loadN Tryd.isAgg124 Tryd.sizeOf124 (vs := [(.bool x145), (.int .i64 x147), (.int .i64 x149)]) rfl rfl ⟨e146, e148, e150, trivial⟩) ?_
    refine s_pu (d := some 21) (v := (.pointer n20)) rfl rfl rfl (r_move rfl) ?_
    obtain ⟨p151, e152, H⟩ := H
    refine s_pu (d := some 22) (v := (.pointer (some p151))) rfl rfl rfl (r_nilCheck rfl e152) ?_
    refine s_pu (d := some 23) (v := (.pointer (some (Addr.add p151 7)))) rfl rfl rfl (r_fieldAddr Tryd.underlying164 Tryd.sizeOf68 rfl rfl rfl) ?_
    obtain ⟨x153, e154, H⟩ := H
    refine s_rd (d := some 24) (v := (.pointer x153)) rfl rfl rfl (fun dr => r_load1 Tryd.isAgg68 rfl e154) ?_
    refine s_or ?_ ?_
    · have H := H.1
      refine s_ef (d := some 25) rfl rfl rfl (fun dr => r_call Tryd.call117 rfl rfl H) ?_ trivial
      rintro _ h25 ⟨y155, y156, y157, rfl, H⟩
      obtain ⟨e158, H⟩ := H
      obtain ⟨e159, H⟩ := H
      obtain ⟨e160, H⟩ := H
      refine ⟨⟨trivial, (.inl ⟨rfl, fun dr => r_loadN Tryd.isAgg124 Tryd.sizeOf124 (vs := [(.bool x145), (.int .i64 x147), (.int .i64 x149)]) rfl rfl ⟨e158, e159, e160, trivial⟩⟩), (.inl ⟨rfl, fun dr => r_loadN Tryd.isAgg126 Tryd.sizeOf126 (vs := []) rfl rfl trivial⟩), trivial⟩, ?_⟩
      refine s_or ?_ ?_
      · have H := H.1
        refine s_ef (d := some 26) rfl rfl rfl (fun dr => r_invoke mth_ival_reaches_Join rfl rfl H) ?_ trivial
        rintro _ h26 ⟨y161, y162, y163, rfl, H⟩
        refine ⟨⟨trivial, trivial, trivial, trivial⟩, ?_⟩
        obtain ⟨p164, e165⟩ : ∃ p : Addr, p = ⟨h26.size, 0, none⟩ := ⟨_, rfl⟩
        obtain ⟨h27, e166⟩ : ∃ hh : Heap, hh = h26.push (.cells #[(.bool false), (.int .i64 0), (.int .i64 0)] 124) := ⟨_, rfl⟩
        have H := H p164 h27 e165 e166
        obtain ⟨e167, H⟩ := H
        obtain ⟨e168, H⟩ := H
        obtain ⟨e169, H⟩ := H
        obtain ⟨e170, H⟩ := H
        refine s_ef1 (d := some 9) (v := (.pointer (some p164))) (h' := h27) rfl rfl rfl (fun dr => (r_alloc Tryd.zeroValue124).trans (by rw [e165, e166]; rfl)) ⟨(.inl ⟨rfl, fun dr => r_load1 Tryd.isAgg68 rfl e167⟩), (.inl ⟨rfl, fun dr => r_loadN Tryd.isAgg124 Tryd.sizeOf124 (vs := [(.bool x145), (.int .i64 x147), (.int .i64 x149)]) rfl rfl ⟨e168, e169, e170, trivial⟩⟩), (.inl ⟨rfl, fun dr => r_loadN Tryd.isAgg126 Tryd.sizeOf126 (vs := []) rfl rfl trivial⟩), trivial⟩ ?_ trivial
        obtain ⟨e172, H⟩ := H
        obtain ⟨h28, e171⟩ : ∃ hh : Heap, hh = hsets h27 p164 0 [(.bool y161), (.int .i64 y162), (.int .i64 y163)] := ⟨_, rfl⟩
        have H := H h28 e171
        refine s_st (d := none) (h' := h28) rfl rfl rfl (fun dr => (r_store (v := (.agg #[(.bool y161), (.int .i64 y162), (.int .i64 y163)])) Tryd.sizeOf124 rfl rfl rfl (one_all rfl) e172).trans (by rw [e171]; rfl)) ⟨trivial, trivial, trivial, trivial⟩ ?_ trivial
        refine s_fin ?_
        exact N_mk (l := [(1, p2), (5, (.pointer (some p6))), (6, (.int .i64 va19)), (7, (.pointer (some p12))), (8, (.pointer n20)), (9, (.pointer (some p164)))]) H ⟨rfl, rfl, rfl, rfl, rfl, rfl, trivial⟩
      · have H := H.2
        obtain ⟨p173, e174⟩ : ∃ p : Addr, p = ⟨h25.size, 0, none⟩ := ⟨_, rfl⟩
        obtain ⟨h29, e175⟩ : ∃ hh : Heap, hh = h25.push (.cells #[(.bool false), (.int .i64 0), (.int .i64 0)] 124) := ⟨_, rfl⟩
        have H := H p173 h29 e174 e175
        obtain ⟨e176, H⟩ := H
        obtain ⟨e177, H⟩ := H
        obtain ⟨e178, H⟩ := H
        obtain ⟨e179, H⟩ := H
        refine s_ef1 (d := some 9) (v := (.pointer (some p173))) (h' := h29) rfl rfl rfl (fun dr => (r_alloc Tryd.zeroValue124).trans (by rw [e174, e175]; rfl)) ⟨(.inl ⟨rfl, fun dr => r_load1 Tryd.isAgg68 rfl e176⟩), (.inl ⟨rfl, fun dr => r_loadN Tryd.isAgg124 Tryd.sizeOf124 (vs := [(.bool x145), (.int .i64 x147), (.int .i64 x149)]) rfl rfl ⟨e177, e178, e179, trivial⟩⟩), (.inl ⟨rfl, fun dr => r_loadN Tryd.isAgg126 Tryd.sizeOf126 (vs := []) rfl rfl trivial⟩), trivial⟩ ?_ trivial
        refine s_ef (d := some 26) rfl rfl rfl (fun dr => r_invoke mth_ival_reaches_Join rfl rfl H) ?_ trivial
        rintro _ h30 ⟨y180, y181, y182, rfl, H⟩
        refine ⟨⟨trivial, trivial, trivial, trivial⟩, ?_⟩
        obtain ⟨e184, H⟩ := H
        obtain ⟨h31, e183⟩ : ∃ hh : Heap, hh = hsets h30 p173 0 [(.bool y180), (.int .i64 y181), (.int .i64 y182)] := ⟨_, rfl⟩
        have H := H h31 e183
        refine s_st (d := none) (h' := h31) rfl rfl rfl (fun dr => (r_store (v := (.agg #[(.bool y180), (.int .i64 y181), (.int .i64 y182)])) Tryd.sizeOf124 rfl rfl rfl (one_all rfl) e184).trans (by rw [e183]; rfl)) ⟨trivial, trivial, trivial, trivial⟩ ?_ trivial
        refine s_fin ?_
        exact N_mk (l := [(1, p2), (5, (.pointer (some p6))), (6, (.int .i64 va19)), (7, (.pointer (some p12))), (8, (.pointer n20)), (9, (.pointer (some p173)))]) H ⟨rfl, rfl, rfl, rfl, rfl, rfl, trivial⟩
    · have H := H.2
      obtain ⟨p185, e186⟩ : ∃ p : Addr, p = ⟨h6.size, 0, none⟩ := ⟨_, rfl⟩
      obtain ⟨h32, e187⟩ : ∃ hh : Heap, hh = h6.push (.cells #[(.bool false), (.int .i64 0), (.int .i64 0)] 124) := ⟨_, rfl⟩
      have H := H p185 h32 e186 e187
      obtain ⟨e188, H⟩ := H
      obtain ⟨e189, H⟩ := H
      obtain ⟨e190, H⟩ := H
      obtain ⟨e191, H⟩ := H
      refine s_ef1 (d := some 9) (v := (.pointer (some p185))) (h' := h32) rfl rfl rfl (fun dr => (r_alloc Tryd.zeroValue124).trans (by rw [e186, e187]; rfl)) ⟨(.inl ⟨rfl, fun dr => r_load1 Tryd.isAgg68 rfl e188⟩), (.inl ⟨rfl, fun dr => r_loadN Tryd.isAgg124 Tryd.sizeOf124 (vs := [(.bool x145), (.int .i64 x147), (.int .i64 x149)]) rfl rfl ⟨e189, e190, e191, trivial⟩⟩), (.inl ⟨rfl, fun dr => r_loadN Tryd.isAgg126 Tryd.sizeOf126 (vs := []) rfl rfl trivial⟩), trivial⟩ ?_ trivial
      refine s_ef (d := some 25) rfl rfl rfl (fun dr => r_call Tryd.call117 rfl rfl H) ?_ trivial
      rintro _ h33 ⟨y192, y193, y194, rfl, H⟩
      obtain ⟨e195, H⟩ := H
      obtain ⟨e196, H⟩ := H
      obtain ⟨e197, H⟩ := H
      refine ⟨⟨trivial, (.inl ⟨rfl, fun dr => r_loadN Tryd.isAgg124 Tryd.sizeOf124 (vs := [(.bool x145), (.int .i64 x147), (.int .i64 x149)]) rfl rfl ⟨e195, e196, e197, trivial⟩⟩), (.inl ⟨rfl, fun dr => r_loadN Tryd.isAgg126 Tryd.sizeOf126 (vs := []) rfl rfl trivial⟩), trivial⟩, ?_⟩
      refine s_ef (d := some 26) rfl rfl rfl (fun dr => r_invoke mth_ival_reaches_Join rfl rfl H) ?_ trivial
      rintro _ h34 ⟨y198, y199, y200, rfl, H⟩
      refine ⟨⟨trivial, trivial, trivial, trivial⟩, ?_⟩
      obtain ⟨e202, H⟩ := H
      obtain ⟨h35, e201⟩ : ∃ hh : Heap, hh = hsets h34 p185 0 [(.bool y198), (.int .i64 y199), (.int .i64 y200)] := ⟨_, rfl⟩
      have H := H h35 e201
      refine s_st (d := none) (h' := h35) rfl rfl rfl (fun dr => (r_store (v := (.agg #[(.bool y198), (.int .i64 y199), (.int .i64 y200)])) Tryd.sizeOf124 rfl rfl rfl (one_all rfl) e202).trans (by rw [e201]; rfl)) ⟨trivial, trivial, trivial, trivial⟩ ?_ trivial
      refine s_fin ?_
      exact N_mk (l := [(1, p2), (5, (.pointer (some p6))), (6, (.int .i64 va19)), (7, (.pointer (some p12))), (8, (.pointer n20)), (9, (.pointer (some p185)))]) H ⟨rfl, rfl, rfl, rfl, rfl, rfl, trivial⟩
  · have H := H.2 g203
    refine W_exit (inX_here ?_)
    show W _ _ _ _ _ _ _ _
    refine W_seq ?_
    refine W_region (.pu 0 (.pu 1 .fin)) rfl rfl ?_
    refine s_pu (d := some 69) (v := (.int .i64 va19)) rfl rfl rfl (r_move rfl) ?_
    refine s_pu (d := some 4) (v := (.int .i64 va19)) rfl rfl rfl (r_assign rfl) ?_
    refine s_fin ?_
    show W _ _ _ _ _ _ _ _
    refine W_ret ?_
    exact ⟨[(.int .i64 va19)], ⟨_, _, rfl, rfl, rfl⟩, va19, rfl, H⟩

/-! ### finger_Many_api_Span_ival_reach_ival_reaches_All -/

def finger_Many_api_Span_ival_reach_ival_reaches_All_F (r : World) (t1 : Option Addr) (h : Heap) (R : Sl → Heap → Prop) : Prop :=
  New h (.cells #[(.pointer t1)] 70) fun p2 h1 =>
  New h1 (.cells #[(Sl.v Sl.nil)] 67) fun p5 h2 =>
  New h2 (.cells #[.nilFunc] 169) fun p8 h3 =>
  St h3 p8 1 [((.func (.func 121) #[] #[(.pointer (some p8)), (.pointer (some p5))]))] fun h4 =>
  LdV h4 p8 fun x13 =>
  LdP h4 (Addr.add p2 0) fun x15 =>
  CallV Tryd.prog r x13 [(.pointer x15)] h4 fun v19 h5 => v19 = (.tuple #[]) ∧
  LdS h5 p5 fun x17 =>
  R x17 h5

set_option maxRecDepth 100000 in
theorem finger_Many_api_Span_ival_reach_ival_reaches_All_of {r : World} {t1 : Option Addr} {h : Heap} {R : Sl → Heap → Prop} (H : finger_Many_api_Span_ival_reach_ival_reaches_All_F r t1 h R) : finger_Many_api_Span_ival_reach_ival_reaches_All r t1 h R := by
  unfold finger_Many_api_Span_ival_reach_ival_reaches_All_F at H
  refine calls_of 11 [.tmp 2] Tryd.func89 rfl rfl rfl rfl rfl ?_
  refine W_seq ?_
  refine W_region (.ef 0 [] (.pu 1 .fin) .no) rfl rfl ?_
  obtain ⟨p2, e3⟩ : ∃ p : Addr, p = ⟨h.size, 0, none⟩ := ⟨_, rfl⟩
  obtain ⟨h1, e4⟩ : ∃ hh : Heap, hh = h.push (.cells #[(.pointer t1)] 70) := ⟨_, rfl⟩
  have H := H p2 h1 e3 e4
  refine s_ef1 (d := some 1) (v := (.pointer (some p2))) (h' := h1) rfl rfl rfl (fun dr => (r_box (v := (.agg #[(.pointer t1)])) rfl).trans (by rw [e3, e4]; rfl)) trivial ?_ trivial
  refine s_pu (d := some 2) (v := (Sl.v Sl.nil)) rfl rfl rfl (r_assign rfl) ?_
  refine s_fin ?_
  show W _ _ _ _ _ _ _ _
  refine W_seq ?_
  refine W_region (.ef 0 [] .fin .no) rfl rfl ?_
  obtain ⟨p5, e6⟩ : ∃ p : Addr, p = ⟨h1.size, 0, none⟩ := ⟨_, rfl⟩
  obtain ⟨h2, e7⟩ : ∃ hh : Heap, hh = h1.push (.cells #[(Sl.v Sl.nil)] 67) := ⟨_, rfl⟩
  have H := H p5 h2 e6 e7
  refine s_ef1 (d := some 3) (v := (.pointer (some p5))) (h' := h2) rfl rfl rfl (fun dr => (r_alloc Tryd.zeroValue67).trans (by rw [e6, e7]; rfl)) trivial ?_ trivial
  refine s_fin ?_
  show W _ _ _ _ _ _ _ _
  refine W_seq ?_
  refine W_region (.ef 0 [] .fin .no) rfl rfl ?_
  obtain ⟨p8, e9⟩ : ∃ p : Addr, p = ⟨h2.size, 0, none⟩ := ⟨_, rfl⟩
  obtain ⟨h3, e10⟩ : ∃ hh : Heap, hh = h2.push (.cells #[.nilFunc] 169) := ⟨_, rfl⟩
  have H := H p8 h3 e9 e10
  refine s_ef1 (d := some 4) (v := (.pointer (some p8))) (h' := h3) rfl rfl rfl (fun dr => (r_alloc Tryd.zeroValue169).trans (by rw [e9, e10]; rfl)) trivial ?_ trivial
  refine s_fin ?_
  show W _ _ _ _ _ _ _ _
  refine W_seq ?_
  refine W_region (.pu 0 (.ef 1 [] .fin .no)) rfl rfl ?_
  refine s_pu (d := some 5) (v := ((.func (.func 121) #[] #[(.pointer (some p8)), (.pointer (some p5))]))) rfl rfl rfl (r_makeFunc rfl rfl) ?_
  obtain ⟨e12, H⟩ := H
  obtain ⟨h4, e11⟩ : ∃ hh : Heap, hh = hsets h3 p8 0 [((.func (.func 121) #[] #[(.pointer (some p8)), (.pointer (some p5))]))] := ⟨_, rfl⟩
  have H := H h4 e11
  refine s_st (d := none) (h' := h4) rfl rfl rfl (fun dr => (r_store (v := ((.func (.func 121) #[] #[(.pointer (some p8)), (.pointer (some p5))]))) Tryd.sizeOf169 rfl rfl rfl (one_all rfl) e12).trans (by rw [e11]; rfl)) trivial ?_ trivial
  refine s_fin ?_
  show W _ _ _ _ _ _ _ _
  refine W_seq ?_
  refine W_region (.rl 0 (.pu 1 (.rl 2 (.ef 3 [] .fin .no)))) rfl rfl ?_
  obtain ⟨x13, e14, H⟩ := H
  refine s_rl (d := some 6) (v := x13) rfl rfl rfl (fun dr => r_load1 Tryd.isAgg169 rfl e14) ?_
  refine s_pu (d := some 7) (v := (.pointer (some (Addr.add p2 0)))) rfl rfl rfl (r_fieldAddr Tryd.underlying70 Tryd.sizeOf68 rfl rfl rfl) ?_
  obtain ⟨x15, e16, H⟩ := H
  refine s_rl (d := some 8) (v := (.pointer x15)) rfl rfl rfl (fun dr => r_load1 Tryd.isAgg68 rfl e16) ?_
  refine s_ef (d := some 9) rfl rfl rfl (fun dr => r_callV rfl rfl H) ?_ trivial
  rintro _ h5 ⟨rfl, H⟩
  refine ⟨trivial, ?_⟩
  refine s_fin ?_
  show W _ _ _ _ _ _ _ _
  refine W_seq ?_
  refine W_region (.rl 0 (.pu 1 .fin)) rfl rfl ?_
  obtain ⟨x17, e18, H⟩ := H
  refine s_rl (d := some 10) (v := (Sl.v x17)) rfl rfl rfl (fun dr => r_load1 Tryd.isAgg67 rfl e18) ?_
  refine s_pu (d := some 2) (v := (Sl.v x17)) rfl rfl rfl (r_assign rfl) ?_
  refine s_fin ?_
  show W _ _ _ _ _ _ _ _
  refine W_ret ?_
  exact ⟨[(Sl.v x17)], ⟨_, _, rfl, rfl, rfl⟩, x17, rfl, H⟩

/-! ### finger_Many_api_Span_ival_reach_ival_reaches_All_1 -/

def finger_Many_api_Span_ival_reach_ival_reaches_All_1_F (r : World) (n1 : Option Addr) (c2 : Addr) (c3 : Addr) (h : Heap) (R : Heap → Prop) : Prop :=
  Br (!(Option.isNone n1)) (
    LdV h c2 fun x4 =>
    Ck n1 fun p6 =>
    LdP h (Addr.add p6 7) fun x8 =>
    CallV Tryd.prog r x4 [(.pointer x8)] h fun v34 h1 => v34 = (.tuple #[]) ∧
    LdS h1 c3 fun x10 =>
    Ck n1 fun p12 =>
    LdI h1 (Addr.add (Addr.add p12 0) 0) fun x14 =>
    LdI h1 (Addr.add (Addr.add p12 0) 1) fun x16 =>
    LdI h1 (Addr.add (Addr.add p12 0) 2) fun x18 =>
    New h1 (.cells #[(.int .i64 x14), (.int .i64 x16), (.int .i64 x18)] 74) fun p20 h2 =>
    (hcell h2 c3 = some (Sl.v x10)) ∧
    App 74 3 24 (.agg #[(.int .i64 0), (.int .i64 0), (.int .i64 0)]) x10 ((⟨some p20, 1, 1⟩ : Sl)) h2 fun s24 h3 =>
    St h3 c3 1 [(Sl.v s24)] fun h4 =>
    LdV h4 c2 fun x27 =>
    Ck n1 fun p29 =>
    LdP h4 (Addr.add p29 8) fun x31 =>
    CallV Tryd.prog r x27 [(.pointer x31)] h4 fun v33 h5 => v33 = (.tuple #[]) ∧
    R h5) (
    R h)

set_option maxRecDepth 100000 in
theorem finger_Many_api_Span_ival_reach_ival_reaches_All_1_of {r : World} {n1 : Option Addr} {c2 : Addr} {c3 : Addr} {h : Heap} {R : Heap → Prop} (H : finger_Many_api_Span_ival_reach_ival_reaches_All_1_F r n1 c2 c3 h R) : finger_Many_api_Span_ival_reach_ival_reaches_All_1 r n1 c2 c3 h R := by
  unfold finger_Many_api_Span_ival_reach_ival_reaches_All_1_F at H
  refine calls_of 25 [] Tryd.func121 rfl rfl rfl rfl rfl ?_
  refine W_seq ?_
  refine W_region (.pu 0 (.pu 1 .fin)) rfl rfl ?_
  refine s_pu (d := some 4) (v := (.pointer n1)) rfl rfl rfl (r_move rfl) ?_
  refine s_pu (d := some 5) (v := (.bool (!(Option.isNone n1)))) rfl rfl rfl (r_notNilP Tryd.underlying68 rfl rfl) ?_
  refine s_fin ?_
  show W _ _ _ _ _ _ _ _
  refine W_if (!(Option.isNone n1)) rfl (fun g35 => ?_) (fun g35 => ?_)
  · have H := H.1 g35
    refine W_seq ?_
    refine W_draw [0, 0, 2, 6, 14, 31] (.rd 0 (.pu 1 (.pu 2 (.pu 3 (.rd 4 (.ef 5 [0, 4] .fin .no)))))) (by kernel_rfl) (by kernel_rfl) ?_
    obtain ⟨x4, e5, H⟩ := H
    refine s_rd (d := some 6) (v := x4) rfl rfl rfl (fun dr => r_load1 Tryd.isAgg169 rfl e5) ?_
    refine s_pu (d := some 7) (v := (.pointer n1)) rfl rfl rfl (r_move rfl) ?_
    obtain ⟨p6, e7, H⟩ := H
    refine s_pu (d := some 8) (v := (.pointer (some p6))) rfl rfl rfl (r_nilCheck rfl e7) ?_
    refine s_pu (d := some 9) (v := (.pointer (some (Addr.add p6 7)))) rfl rfl rfl (r_fieldAddr Tryd.underlying164 Tryd.sizeOf68 rfl rfl rfl) ?_
    obtain ⟨x8, e9, H⟩ := H
    refine s_rd (d := some 10) (v := (.pointer x8)) rfl rfl rfl (fun dr => r_load1 Tryd.isAgg68 rfl e9) ?_
    refine s_ef (d := some 11) rfl rfl rfl (fun dr => r_callV rfl rfl H) ?_ trivial
    rintro _ h1 ⟨rfl, H⟩
    refine ⟨⟨trivial, trivial, trivial⟩, ?_⟩
    refine s_fin ?_
    show W _ _ _ _ _ _ _ _
    refine W_seq ?_
    refine W_draw [0, 0, 2, 6, 14, 30, 63, 127] (.rd 0 (.pu 1 (.pu 2 (.pu 3 (.rd 4 (.ef 5 [4] (.ef 6 [0, 4] (.ef 7 [0, 4] .fin .no) .no) .no)))))) (by kernel_rfl) (by kernel_rfl) ?_
    obtain ⟨x10, e11, H⟩ := H
    refine s_rd (d := some 12) (v := (Sl.v x10)) rfl rfl rfl (fun dr => r_load1 Tryd.isAgg67 rfl e11) ?_
    refine s_pu (d := some 13) (v := (.pointer n1)) rfl rfl rfl (r_move rfl) ?_
    obtain ⟨p12, e13, H⟩ := H
    refine s_pu (d := some 14) (v := (.pointer (some p12))) rfl rfl rfl (r_nilCheck rfl e13) ?_
    refine s_pu (d := some 15) (v := (.pointer (some (Addr.add p12 0)))) rfl rfl rfl (r_fieldAddr Tryd.underlying164 Tryd.sizeOf74 rfl rfl rfl) ?_
    obtain ⟨x14, e15, H⟩ := H
    obtain ⟨x16, e17, H⟩ := H
    obtain ⟨x18, e19, H⟩ := H
    refine s_rd (d := some 16) (v := (.agg #[(.int .i64 x14), (.int .i64 x16), (.int .i64 x18)])) rfl rfl rfl (fun dr => r_loadN Tryd.isAgg74 Tryd.sizeOf74 (vs := [(.int .i64 x14), (.int .i64 x16), (.int .i64 x18)]) rfl rfl ⟨e15, e17, e19, trivial⟩) ?_
    obtain ⟨p20, e21⟩ : ∃ p : Addr, p = ⟨h1.size, 0, none⟩ := ⟨_, rfl⟩
    obtain ⟨h2, e22⟩ : ∃ hh : Heap, hh = h1.push (.cells #[(.int .i64 x14), (.int .i64 x16), (.int .i64 x18)] 74) := ⟨_, rfl⟩
    have H := H p20 h2 e21 e22
    obtain ⟨e23, H⟩ := H
    refine s_ef1 (d := some 17) (v := (Sl.v ((⟨some p20, 1, 1⟩ : Sl)))) (h' := h2) rfl rfl rfl (fun dr => (slFDIMan_67.build (cells := #[(.int .i64 x14), (.int .i64 x16), (.int .i64 x18)]) (by decide) rfl (by kernel_rfl)).trans (by rw [e21, e22]; rfl)) ⟨trivial, (.inl ⟨rfl, fun dr => r_load1 Tryd.isAgg67 rfl e23⟩), trivial⟩ ?_ trivial
    refine s_ef (d := some 18) rfl rfl rfl (fun dr => slFDIMan_67.append rfl rfl H) ?_ trivial
    rintro _ h3 ⟨s24, rfl, H⟩
    refine ⟨⟨trivial, trivial, trivial⟩, ?_⟩
    obtain ⟨e26, H⟩ := H
    obtain ⟨h4, e25⟩ : ∃ hh : Heap, hh = hsets h3 c3 0 [(Sl.v s24)] := ⟨_, rfl⟩
    have H := H h4 e25
    refine s_st (d := none) (h' := h4) rfl rfl rfl (fun dr => (r_store (v := (Sl.v s24)) Tryd.sizeOf67 rfl rfl rfl (one_all rfl) e26).trans (by rw [e25]; rfl)) ⟨trivial, trivial, trivial⟩ ?_ trivial
    refine s_fin ?_
    show W _ _ _ _ _ _ _ _
    refine W_draw [0, 0, 2, 6, 14, 31] (.rd 0 (.pu 1 (.pu 2 (.pu 3 (.rd 4 (.ef 5 [0, 4] .fin .no)))))) (by kernel_rfl) (by kernel_rfl) ?_
    obtain ⟨x27, e28, H⟩ := H
    refine s_rd (d := some 19) (v := x27) rfl rfl rfl (fun dr => r_load1 Tryd.isAgg169 rfl e28) ?_
    refine s_pu (d := some 20) (v := (.pointer n1)) rfl rfl rfl (r_move rfl) ?_
    obtain ⟨p29, e30, H⟩ := H
    refine s_pu (d := some 21) (v := (.pointer (some p29))) rfl rfl rfl (r_nilCheck rfl e30) ?_
    refine s_pu (d := some 22) (v := (.pointer (some (Addr.add p29 8)))) rfl rfl rfl (r_fieldAddr Tryd.underlying164 Tryd.sizeOf68 rfl rfl rfl) ?_
    obtain ⟨x31, e32, H⟩ := H
    refine s_rd (d := some 23) (v := (.pointer x31)) rfl rfl rfl (fun dr => r_load1 Tryd.isAgg68 rfl e32) ?_
    refine s_ef (d := some 24) rfl rfl rfl (fun dr => r_callV rfl rfl H) ?_ trivial
    rintro _ h5 ⟨rfl, H⟩
    refine ⟨⟨trivial, trivial, trivial⟩, ?_⟩
    refine s_fin ?_
    exact ⟨[], rfl, rfl, H⟩
  · have H := H.2 g35
    refine W_skip ?_
    exact ⟨[], rfl, rfl, H⟩

end Go.Proofs.YtcafckgflpmfgaaDoor
