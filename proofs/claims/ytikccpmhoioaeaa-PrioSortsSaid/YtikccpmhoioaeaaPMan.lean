/- Typed words of functions, and that they hold: printed by gen.py (an own tool of this claim) off the model's own form of each function. -/
import Derived.Test.YtikccpmhoioaeaaProg
import Derived.Test.YtikccpmhoioaeaaTwInv
import Derived.Test.YtikccpmhoioaeaaTwGrow
namespace Go.Proofs.Ytikccpmhoioaeaa
open Go Go.RowKit Go.Tw
set_option linter.unusedVariables false

theorem slFPMan_35 : SlF Try.prog 35 43 2 16 (.agg #[(.int .i64 0), (.int .i64 0)]) := ⟨Try.underlying35, ⟨Try.t43, by kernel_rfl, rfl, rfl, rfl⟩, rfl, Try.sizeOf43, Try.zeroValue43⟩
theorem mth_prio_tops_None (args : Array Value) (w : World) : (callMethod (.iface 89 (.agg #[])) "None" args).run Try.prog w = .ok (.enter 123 (#[(.agg #[])] ++ args)) w := by kernel_rfl
theorem mth_prio_tops_Join (args : Array Value) (w : World) : (callMethod (.iface 89 (.agg #[])) "Join" args).run Try.prog w = .ok (.enter 122 (#[(.agg #[])] ++ args)) w := by kernel_rfl
theorem mth_prio_tops_One (args : Array Value) (w : World) : (callMethod (.iface 89 (.agg #[])) "One" args).run Try.prog w = .ok (.enter 124 (#[(.agg #[])] ++ args)) w := by kernel_rfl

/-! ### the calls -/

abbrev finger_node_api_Item_prio_top_size (r : World) (t1 : Option Addr) (h : Heap) (R : Int → Heap → Prop) : Prop :=
  CallsH Try.prog r 72 [(.pointer t1)] h fun v h' => ∃ (y2 : Int), v = (.int .i64 y2) ∧ R y2 h'

theorem finger_node_api_Item_prio_top_size.mono {r : World} {t1 : Option Addr} {h : Heap} {R R' : Int → Heap → Prop} (H : finger_node_api_Item_prio_top_size r t1 h R) (hr : ∀ y2 h, R y2 h → R' y2 h) : finger_node_api_Item_prio_top_size r t1 h R' :=
  CallsH.mono H fun _ _ hx => by
    obtain ⟨y2, hv, hR⟩ := hx
    exact ⟨y2, hv, hr _ _ hR⟩

abbrev finger_node_api_Item_prio_top_weight (r : World) (t1 : Option Addr) (h : Heap) (R : Int → Heap → Prop) : Prop :=
  CallsH Try.prog r 95 [(.pointer t1)] h fun v h' => ∃ (y2 : Int), v = (.int .i64 y2) ∧ R y2 h'

theorem finger_node_api_Item_prio_top_weight.mono {r : World} {t1 : Option Addr} {h : Heap} {R R' : Int → Heap → Prop} (H : finger_node_api_Item_prio_top_weight r t1 h R) (hr : ∀ y2 h, R y2 h → R' y2 h) : finger_node_api_Item_prio_top_weight r t1 h R' :=
  CallsH.mono H fun _ _ hx => by
    obtain ⟨y2, hv, hR⟩ := hx
    exact ⟨y2, hv, hr _ _ hR⟩

abbrev finger_heavy_api_Item_prio_top (r : World) (a1 : Option Addr) (vb2 : Option Addr) (h : Heap) (R : Bool → Heap → Prop) : Prop :=
  CallsH Try.prog r 85 [(.pointer a1), (.pointer vb2)] h fun v h' => ∃ (y3 : Bool), v = (.bool y3) ∧ R y3 h'

theorem finger_heavy_api_Item_prio_top.mono {r : World} {a1 : Option Addr} {vb2 : Option Addr} {h : Heap} {R R' : Bool → Heap → Prop} (H : finger_heavy_api_Item_prio_top r a1 vb2 h R) (hr : ∀ y3 h, R y3 h → R' y3 h) : finger_heavy_api_Item_prio_top r a1 vb2 h R' :=
  CallsH.mono H fun _ _ hx => by
    obtain ⟨y3, hv, hR⟩ := hx
    exact ⟨y3, hv, hr _ _ hR⟩

abbrev prio_tops_None (r : World)  (h : Heap) (R : Bool → Int → Heap → Prop) : Prop :=
  CallsH Try.prog r 123 [(.agg #[])] h fun v h' => ∃ (y1 : Bool) (y2 : Int), v = (.agg #[(.bool y1), (.int .i64 y2)]) ∧ R y1 y2 h'

theorem prio_tops_None.mono {r : World}  {h : Heap} {R R' : Bool → Int → Heap → Prop} (H : prio_tops_None r  h R) (hr : ∀ y1 y2 h, R y1 y2 h → R' y1 y2 h) : prio_tops_None r  h R' :=
  CallsH.mono H fun _ _ hx => by
    obtain ⟨y1, y2, hv, hR⟩ := hx
    exact ⟨y1, y2, hv, hr _ _ _ hR⟩

abbrev prio_tops_One (r : World) (it1 : Int) (it2 : Int) (h : Heap) (R : Bool → Int → Heap → Prop) : Prop :=
  CallsH Try.prog r 124 [(.agg #[]), (.agg #[(.int .i64 it1), (.int .i64 it2)])] h fun v h' => ∃ (y3 : Bool) (y4 : Int), v = (.agg #[(.bool y3), (.int .i64 y4)]) ∧ R y3 y4 h'

theorem prio_tops_One.mono {r : World} {it1 : Int} {it2 : Int} {h : Heap} {R R' : Bool → Int → Heap → Prop} (H : prio_tops_One r it1 it2 h R) (hr : ∀ y3 y4 h, R y3 y4 h → R' y3 y4 h) : prio_tops_One r it1 it2 h R' :=
  CallsH.mono H fun _ _ hx => by
    obtain ⟨y3, y4, hv, hR⟩ := hx
    exact ⟨y3, y4, hv, hr _ _ _ hR⟩

abbrev prio_tops_Join (r : World) (a1 : Bool) (a2 : Int) (vb3 : Bool) (vb4 : Int) (h : Heap) (R : Bool → Int → Heap → Prop) : Prop :=
  CallsH Try.prog r 122 [(.agg #[]), (.agg #[(.bool a1), (.int .i64 a2)]), (.agg #[(.bool vb3), (.int .i64 vb4)])] h fun v h' => ∃ (y5 : Bool) (y6 : Int), v = (.agg #[(.bool y5), (.int .i64 y6)]) ∧ R y5 y6 h'

theorem prio_tops_Join.mono {r : World} {a1 : Bool} {a2 : Int} {vb3 : Bool} {vb4 : Int} {h : Heap} {R R' : Bool → Int → Heap → Prop} (H : prio_tops_Join r a1 a2 vb3 vb4 h R) (hr : ∀ y5 y6 h, R y5 y6 h → R' y5 y6 h) : prio_tops_Join r a1 a2 vb3 vb4 h R' :=
  CallsH.mono H fun _ _ hx => by
    obtain ⟨y5, y6, hv, hR⟩ := hx
    exact ⟨y5, y6, hv, hr _ _ _ hR⟩

abbrev finger_total_api_Item_prio_top_prio_tops (r : World) (t1 : Option Addr) (h : Heap) (R : Bool → Int → Heap → Prop) : Prop :=
  CallsH Try.prog r 88 [(.pointer t1)] h fun v h' => ∃ (y2 : Bool) (y3 : Int), v = (.agg #[(.bool y2), (.int .i64 y3)]) ∧ R y2 y3 h'

theorem finger_total_api_Item_prio_top_prio_tops.mono {r : World} {t1 : Option Addr} {h : Heap} {R R' : Bool → Int → Heap → Prop} (H : finger_total_api_Item_prio_top_prio_tops r t1 h R) (hr : ∀ y2 y3 h, R y2 y3 h → R' y2 y3 h) : finger_total_api_Item_prio_top_prio_tops r t1 h R' :=
  CallsH.mono H fun _ _ hx => by
    obtain ⟨y2, y3, hv, hR⟩ := hx
    exact ⟨y2, y3, hv, hr _ _ _ hR⟩

abbrev finger_made_api_Item_prio_top_prio_tops (r : World) (l1 : Option Addr) (v2 : Int) (v3 : Int) (vr4 : Option Addr) (h : Heap) (R : Option Addr → Heap → Prop) : Prop :=
  CallsH Try.prog r 87 [(.pointer l1), (.agg #[(.int .i64 v2), (.int .i64 v3)]), (.pointer vr4)] h fun v h' => ∃ (y5 : Option Addr), v = (.pointer y5) ∧ R y5 h'

theorem finger_made_api_Item_prio_top_prio_tops.mono {r : World} {l1 : Option Addr} {v2 : Int} {v3 : Int} {vr4 : Option Addr} {h : Heap} {R R' : Option Addr → Heap → Prop} (H : finger_made_api_Item_prio_top_prio_tops r l1 v2 v3 vr4 h R) (hr : ∀ y5 h, R y5 h → R' y5 h) : finger_made_api_Item_prio_top_prio_tops r l1 v2 v3 vr4 h R' :=
  CallsH.mono H fun _ _ hx => by
    obtain ⟨y5, hv, hR⟩ := hx
    exact ⟨y5, hv, hr _ _ hR⟩

abbrev finger_even_api_Item_prio_top_prio_tops (r : World) (l1 : Option Addr) (v2 : Int) (v3 : Int) (vr4 : Option Addr) (h : Heap) (R : Option Addr → Heap → Prop) : Prop :=
  CallsH Try.prog r 86 [(.pointer l1), (.agg #[(.int .i64 v2), (.int .i64 v3)]), (.pointer vr4)] h fun v h' => ∃ (y5 : Option Addr), v = (.pointer y5) ∧ R y5 h'

theorem finger_even_api_Item_prio_top_prio_tops.mono {r : World} {l1 : Option Addr} {v2 : Int} {v3 : Int} {vr4 : Option Addr} {h : Heap} {R R' : Option Addr → Heap → Prop} (H : finger_even_api_Item_prio_top_prio_tops r l1 v2 v3 vr4 h R) (hr : ∀ y5 h, R y5 h → R' y5 h) : finger_even_api_Item_prio_top_prio_tops r l1 v2 v3 vr4 h R' :=
  CallsH.mono H fun _ _ hx => by
    obtain ⟨y5, hv, hR⟩ := hx
    exact ⟨y5, hv, hr _ _ hR⟩

abbrev finger_link_api_Item_prio_top_prio_tops (r : World) (l1 : Option Addr) (v2 : Int) (v3 : Int) (vr4 : Option Addr) (h : Heap) (R : Option Addr → Heap → Prop) : Prop :=
  CallsH Try.prog r 71 [(.pointer l1), (.agg #[(.int .i64 v2), (.int .i64 v3)]), (.pointer vr4)] h fun v h' => ∃ (y5 : Option Addr), v = (.pointer y5) ∧ R y5 h'

theorem finger_link_api_Item_prio_top_prio_tops.mono {r : World} {l1 : Option Addr} {v2 : Int} {v3 : Int} {vr4 : Option Addr} {h : Heap} {R R' : Option Addr → Heap → Prop} (H : finger_link_api_Item_prio_top_prio_tops r l1 v2 v3 vr4 h R) (hr : ∀ y5 h, R y5 h → R' y5 h) : finger_link_api_Item_prio_top_prio_tops r l1 v2 v3 vr4 h R' :=
  CallsH.mono H fun _ _ hx => by
    obtain ⟨y5, hv, hR⟩ := hx
    exact ⟨y5, hv, hr _ _ hR⟩

abbrev finger_split_api_Item_prio_top_prio_tops (r : World) (t1 : Option Addr) (i2 : Int) (h : Heap) (R : Option Addr → Option Addr → Heap → Prop) : Prop :=
  CallsH Try.prog r 70 [(.pointer t1), (.int .i64 i2)] h fun v h' => ∃ (y3 : Option Addr) (y4 : Option Addr), v = (.tuple #[(.pointer y3), (.pointer y4)]) ∧ R y3 y4 h'

theorem finger_split_api_Item_prio_top_prio_tops.mono {r : World} {t1 : Option Addr} {i2 : Int} {h : Heap} {R R' : Option Addr → Option Addr → Heap → Prop} (H : finger_split_api_Item_prio_top_prio_tops r t1 i2 h R) (hr : ∀ y3 y4 h, R y3 y4 h → R' y3 y4 h) : finger_split_api_Item_prio_top_prio_tops r t1 i2 h R' :=
  CallsH.mono H fun _ _ hx => by
    obtain ⟨y3, y4, hv, hR⟩ := hx
    exact ⟨y3, y4, hv, hr _ _ _ hR⟩

abbrev finger_Many_api_Item_prio_top_prio_tops_Len (r : World) (t1 : Option Addr) (h : Heap) (R : Int → Heap → Prop) : Prop :=
  CallsH Try.prog r 43 [(.agg #[(.pointer t1)])] h fun v h' => ∃ (y2 : Int), v = (.int .i64 y2) ∧ R y2 h'

theorem finger_Many_api_Item_prio_top_prio_tops_Len.mono {r : World} {t1 : Option Addr} {h : Heap} {R R' : Int → Heap → Prop} (H : finger_Many_api_Item_prio_top_prio_tops_Len r t1 h R) (hr : ∀ y2 h, R y2 h → R' y2 h) : finger_Many_api_Item_prio_top_prio_tops_Len r t1 h R' :=
  CallsH.mono H fun _ _ hx => by
    obtain ⟨y2, hv, hR⟩ := hx
    exact ⟨y2, hv, hr _ _ hR⟩

abbrev finger_Many_api_Item_prio_top_prio_tops_Sum (r : World) (t1 : Option Addr) (h : Heap) (R : Bool → Int → Heap → Prop) : Prop :=
  CallsH Try.prog r 73 [(.agg #[(.pointer t1)])] h fun v h' => ∃ (y2 : Bool) (y3 : Int), v = (.agg #[(.bool y2), (.int .i64 y3)]) ∧ R y2 y3 h'

theorem finger_Many_api_Item_prio_top_prio_tops_Sum.mono {r : World} {t1 : Option Addr} {h : Heap} {R R' : Bool → Int → Heap → Prop} (H : finger_Many_api_Item_prio_top_prio_tops_Sum r t1 h R) (hr : ∀ y2 y3 h, R y2 y3 h → R' y2 y3 h) : finger_Many_api_Item_prio_top_prio_tops_Sum r t1 h R' :=
  CallsH.mono H fun _ _ hx => by
    obtain ⟨y2, y3, hv, hR⟩ := hx
    exact ⟨y2, y3, hv, hr _ _ _ hR⟩

abbrev finger_Many_api_Item_prio_top_prio_tops_Split (r : World) (t1 : Option Addr) (i2 : Int) (h : Heap) (R : Option Addr → Option Addr → Heap → Prop) : Prop :=
  CallsH Try.prog r 77 [(.agg #[(.pointer t1)]), (.int .i64 i2)] h fun v h' => ∃ (y3 : Option Addr) (y4 : Option Addr), v = (.tuple #[(.agg #[(.pointer y3)]), (.agg #[(.pointer y4)])]) ∧ R y3 y4 h'

theorem finger_Many_api_Item_prio_top_prio_tops_Split.mono {r : World} {t1 : Option Addr} {i2 : Int} {h : Heap} {R R' : Option Addr → Option Addr → Heap → Prop} (H : finger_Many_api_Item_prio_top_prio_tops_Split r t1 i2 h R) (hr : ∀ y3 y4 h, R y3 y4 h → R' y3 y4 h) : finger_Many_api_Item_prio_top_prio_tops_Split r t1 i2 h R' :=
  CallsH.mono H fun _ _ hx => by
    obtain ⟨y3, y4, hv, hR⟩ := hx
    exact ⟨y3, y4, hv, hr _ _ _ hR⟩

abbrev finger_Many_api_Item_prio_top_prio_tops_Join (r : World) (t1 : Option Addr) (u2 : Option Addr) (h : Heap) (R : Option Addr → Heap → Prop) : Prop :=
  CallsH Try.prog r 46 [(.agg #[(.pointer t1)]), (.agg #[(.pointer u2)])] h fun v h' => ∃ (y3 : Option Addr), v = (.agg #[(.pointer y3)]) ∧ R y3 h'

theorem finger_Many_api_Item_prio_top_prio_tops_Join.mono {r : World} {t1 : Option Addr} {u2 : Option Addr} {h : Heap} {R R' : Option Addr → Heap → Prop} (H : finger_Many_api_Item_prio_top_prio_tops_Join r t1 u2 h R) (hr : ∀ y3 h, R y3 h → R' y3 h) : finger_Many_api_Item_prio_top_prio_tops_Join r t1 u2 h R' :=
  CallsH.mono H fun _ _ hx => by
    obtain ⟨y3, hv, hR⟩ := hx
    exact ⟨y3, hv, hr _ _ hR⟩

abbrev finger_Many_api_Item_prio_top_prio_tops_Insert (r : World) (t1 : Option Addr) (i2 : Int) (v3 : Int) (v4 : Int) (h : Heap) (R : Option Addr → Heap → Prop) : Prop :=
  CallsH Try.prog r 42 [(.agg #[(.pointer t1)]), (.int .i64 i2), (.agg #[(.int .i64 v3), (.int .i64 v4)])] h fun v h' => ∃ (y5 : Option Addr), v = (.agg #[(.pointer y5)]) ∧ R y5 h'

theorem finger_Many_api_Item_prio_top_prio_tops_Insert.mono {r : World} {t1 : Option Addr} {i2 : Int} {v3 : Int} {v4 : Int} {h : Heap} {R R' : Option Addr → Heap → Prop} (H : finger_Many_api_Item_prio_top_prio_tops_Insert r t1 i2 v3 v4 h R) (hr : ∀ y5 h, R y5 h → R' y5 h) : finger_Many_api_Item_prio_top_prio_tops_Insert r t1 i2 v3 v4 h R' :=
  CallsH.mono H fun _ _ hx => by
    obtain ⟨y5, hv, hR⟩ := hx
    exact ⟨y5, hv, hr _ _ hR⟩

abbrev finger_Many_api_Item_prio_top_prio_tops_Cut (r : World) (t1 : Option Addr) (i2 : Int) (j3 : Int) (h : Heap) (R : Option Addr → Heap → Prop) : Prop :=
  CallsH Try.prog r 48 [(.agg #[(.pointer t1)]), (.int .i64 i2), (.int .i64 j3)] h fun v h' => ∃ (y4 : Option Addr), v = (.agg #[(.pointer y4)]) ∧ R y4 h'

theorem finger_Many_api_Item_prio_top_prio_tops_Cut.mono {r : World} {t1 : Option Addr} {i2 : Int} {j3 : Int} {h : Heap} {R R' : Option Addr → Heap → Prop} (H : finger_Many_api_Item_prio_top_prio_tops_Cut r t1 i2 j3 h R) (hr : ∀ y4 h, R y4 h → R' y4 h) : finger_Many_api_Item_prio_top_prio_tops_Cut r t1 i2 j3 h R' :=
  CallsH.mono H fun _ _ hx => by
    obtain ⟨y4, hv, hR⟩ := hx
    exact ⟨y4, hv, hr _ _ hR⟩

abbrev finger_Many_api_Item_prio_top_prio_tops_At (r : World) (t1 : Option Addr) (i2 : Int) (h : Heap) (R : Int → Int → Heap → Prop) : Prop :=
  CallsH Try.prog r 44 [(.agg #[(.pointer t1)]), (.int .i64 i2)] h fun v h' => ∃ (y3 : Int) (y4 : Int), v = (.agg #[(.int .i64 y3), (.int .i64 y4)]) ∧ R y3 y4 h'

theorem finger_Many_api_Item_prio_top_prio_tops_At.mono {r : World} {t1 : Option Addr} {i2 : Int} {h : Heap} {R R' : Int → Int → Heap → Prop} (H : finger_Many_api_Item_prio_top_prio_tops_At r t1 i2 h R) (hr : ∀ y3 y4 h, R y3 y4 h → R' y3 y4 h) : finger_Many_api_Item_prio_top_prio_tops_At r t1 i2 h R' :=
  CallsH.mono H fun _ _ hx => by
    obtain ⟨y3, y4, hv, hR⟩ := hx
    exact ⟨y3, y4, hv, hr _ _ _ hR⟩

abbrev finger_Many_api_Item_prio_top_prio_tops_Find (r : World) (t1 : Option Addr) (p2 : Value) (h : Heap) (R : Int → Heap → Prop) : Prop :=
  CallsH Try.prog r 74 [(.agg #[(.pointer t1)]), p2] h fun v h' => ∃ (y3 : Int), v = (.int .i64 y3) ∧ R y3 h'

theorem finger_Many_api_Item_prio_top_prio_tops_Find.mono {r : World} {t1 : Option Addr} {p2 : Value} {h : Heap} {R R' : Int → Heap → Prop} (H : finger_Many_api_Item_prio_top_prio_tops_Find r t1 p2 h R) (hr : ∀ y3 h, R y3 h → R' y3 h) : finger_Many_api_Item_prio_top_prio_tops_Find r t1 p2 h R' :=
  CallsH.mono H fun _ _ hx => by
    obtain ⟨y3, hv, hR⟩ := hx
    exact ⟨y3, hv, hr _ _ hR⟩

abbrev finger_Many_api_Item_prio_top_prio_tops_All (r : World) (t1 : Option Addr) (h : Heap) (R : Sl → Heap → Prop) : Prop :=
  CallsH Try.prog r 47 [(.agg #[(.pointer t1)])] h fun v h' => ∃ (y2 : Sl), v = (Sl.v y2) ∧ R y2 h'

theorem finger_Many_api_Item_prio_top_prio_tops_All.mono {r : World} {t1 : Option Addr} {h : Heap} {R R' : Sl → Heap → Prop} (H : finger_Many_api_Item_prio_top_prio_tops_All r t1 h R) (hr : ∀ y2 h, R y2 h → R' y2 h) : finger_Many_api_Item_prio_top_prio_tops_All r t1 h R' :=
  CallsH.mono H fun _ _ hx => by
    obtain ⟨y2, hv, hR⟩ := hx
    exact ⟨y2, hv, hr _ _ hR⟩

abbrev finger_Many_api_Item_prio_top_prio_tops_All_1 (r : World) (n1 : Option Addr) (c2 : Addr) (c3 : Addr) (h : Heap) (R : Heap → Prop) : Prop :=
  CallsH Try.prog r 76 [(.pointer n1), (.pointer (some c2)), (.pointer (some c3))] h fun v h' => v = (.tuple #[]) ∧ R  h'

theorem finger_Many_api_Item_prio_top_prio_tops_All_1.mono {r : World} {n1 : Option Addr} {c2 : Addr} {c3 : Addr} {h : Heap} {R R' : Heap → Prop} (H : finger_Many_api_Item_prio_top_prio_tops_All_1 r n1 c2 c3 h R) (hr : ∀  h, R  h → R'  h) : finger_Many_api_Item_prio_top_prio_tops_All_1 r n1 c2 c3 h R' :=
  CallsH.mono H fun _ _ hx => by
    obtain ⟨hv, hR⟩ := hx
    exact ⟨hv, hr _ hR⟩

/-! ### finger_node_api_Item_prio_top_size -/

def finger_node_api_Item_prio_top_size_F (r : World) (t1 : Option Addr) (h : Heap) (R : Int → Heap → Prop) : Prop :=
  Br (Option.isNone t1) (
    R 0 h) (
    Ck t1 fun p2 =>
    LdI h (Addr.add p2 2) fun x4 =>
    R x4 h)

set_option maxRecDepth 100000 in
theorem finger_node_api_Item_prio_top_size_of {r : World} {t1 : Option Addr} {h : Heap} {R : Int → Heap → Prop} (H : finger_node_api_Item_prio_top_size_F r t1 h R) : finger_node_api_Item_prio_top_size r t1 h R := by
  unfold finger_node_api_Item_prio_top_size_F at H
  refine calls_of 9 [.tmp 2] Try.func72 rfl rfl rfl rfl rfl ?_
  refine W_seq ?_
  refine W_region (.pu 0 .fin) rfl rfl ?_
  refine s_pu (d := some 2) (v := (.int .i64 0)) rfl rfl rfl (r_assign rfl) ?_
  refine s_fin ?_
  show W _ _ _ _ _ _ _ _
  refine W_seq ?_
  refine W_seq ?_
  refine W_region (.pu 0 (.pu 1 .fin)) rfl rfl ?_
  refine s_pu (d := some 3) (v := (.pointer t1)) rfl rfl rfl (r_move rfl) ?_
  refine s_pu (d := some 4) (v := (.bool (Option.isNone t1))) rfl rfl rfl (r_nilP Try.underlying36 rfl rfl) ?_
  refine s_fin ?_
  show W _ _ _ _ _ _ _ _
  refine W_if (Option.isNone t1) rfl (fun g6 => ?_) (fun g6 => ?_)
  · have H := H.1 g6
    refine W_seq ?_
    refine W_region (.pu 0 .fin) rfl rfl ?_
    refine s_pu (d := some 2) (v := (.int .i64 0)) rfl rfl rfl (r_assign rfl) ?_
    refine s_fin ?_
    show W _ _ _ _ _ _ _ _
    refine W_ret ?_
    exact ⟨[(.int .i64 0)], ⟨_, _, rfl, rfl, rfl⟩, 0, rfl, H⟩
  · have H := H.2 g6
    refine W_skip ?_
    show W _ _ _ _ _ _ _ _
    refine W_seq ?_
    refine W_region (.pu 0 (.pu 1 (.pu 2 (.rl 3 (.pu 4 .fin))))) rfl rfl ?_
    refine s_pu (d := some 5) (v := (.pointer t1)) rfl rfl rfl (r_move rfl) ?_
    obtain ⟨p2, e3, H⟩ := H
    refine s_pu (d := some 6) (v := (.pointer (some p2))) rfl rfl rfl (r_nilCheck rfl e3) ?_
    refine s_pu (d := some 7) (v := (.pointer (some (Addr.add p2 2)))) rfl rfl rfl (r_fieldAddr Try.underlying119 Try.sizeOf3 rfl rfl rfl) ?_
    obtain ⟨x4, e5, H⟩ := H
    refine s_rl (d := some 8) (v := (.int .i64 x4)) rfl rfl rfl (fun dr => r_load1 Try.isAgg3 rfl e5) ?_
    refine s_pu (d := some 2) (v := (.int .i64 x4)) rfl rfl rfl (r_assign rfl) ?_
    refine s_fin ?_
    show W _ _ _ _ _ _ _ _
    refine W_ret ?_
    exact ⟨[(.int .i64 x4)], ⟨_, _, rfl, rfl, rfl⟩, x4, rfl, H⟩

/-! ### finger_node_api_Item_prio_top_weight -/

def finger_node_api_Item_prio_top_weight_F (r : World) (t1 : Option Addr) (h : Heap) (R : Int → Heap → Prop) : Prop :=
  finger_node_api_Item_prio_top_size r t1 h fun y2 h1 =>
  R (w64 (y2 + 1)) h1

set_option maxRecDepth 100000 in
theorem finger_node_api_Item_prio_top_weight_of {r : World} {t1 : Option Addr} {h : Heap} {R : Int → Heap → Prop} (H : finger_node_api_Item_prio_top_weight_F r t1 h R) : finger_node_api_Item_prio_top_weight r t1 h R := by
  unfold finger_node_api_Item_prio_top_weight_F at H
  refine calls_of 6 [.tmp 2] Try.func95 rfl rfl rfl rfl rfl ?_
  refine W_seq ?_
  refine W_region (.pu 0 .fin) rfl rfl ?_
  refine s_pu (d := some 2) (v := (.int .i64 0)) rfl rfl rfl (r_assign rfl) ?_
  refine s_fin ?_
  show W _ _ _ _ _ _ _ _
  refine W_seq ?_
  refine W_region (.pu 0 (.ef 1 [] (.pu 2 (.pu 3 .fin)) .no)) rfl rfl ?_
  refine s_pu (d := some 3) (v := (.pointer t1)) rfl rfl rfl (r_move rfl) ?_
  refine s_ef (d := some 4) rfl rfl rfl (fun dr => r_call Try.call72 rfl rfl H) ?_ trivial
  rintro _ h1 ⟨y2, rfl, H⟩
  refine ⟨trivial, ?_⟩
  refine s_pu (d := some 5) (v := (.int .i64 (w64 (y2 + 1)))) rfl rfl rfl (r_add rfl rfl) ?_
  refine s_pu (d := some 2) (v := (.int .i64 (w64 (y2 + 1)))) rfl rfl rfl (r_assign rfl) ?_
  refine s_fin ?_
  show W _ _ _ _ _ _ _ _
  refine W_ret ?_
  exact ⟨[(.int .i64 (w64 (y2 + 1)))], ⟨_, _, rfl, rfl, rfl⟩, (w64 (y2 + 1)), rfl, H⟩

/-! ### finger_heavy_api_Item_prio_top -/

def finger_heavy_api_Item_prio_top_F (r : World) (a1 : Option Addr) (vb2 : Option Addr) (h : Heap) (R : Bool → Heap → Prop) : Prop :=
  finger_node_api_Item_prio_top_weight r a1 h fun y3 h1 =>
  finger_node_api_Item_prio_top_weight r vb2 h1 fun y4 h2 =>
  R (decide ((w64 (3 * y4)) < y3)) h2

set_option maxRecDepth 100000 in
theorem finger_heavy_api_Item_prio_top_of {r : World} {a1 : Option Addr} {vb2 : Option Addr} {h : Heap} {R : Bool → Heap → Prop} (H : finger_heavy_api_Item_prio_top_F r a1 vb2 h R) : finger_heavy_api_Item_prio_top r a1 vb2 h R := by
  unfold finger_heavy_api_Item_prio_top_F at H
  refine calls_of 11 [.tmp 4] Try.func85 rfl rfl rfl rfl rfl ?_
  refine W_seq ?_
  refine W_region (.pu 0 .fin) rfl rfl ?_
  refine s_pu (d := some 4) (v := (.bool false)) rfl rfl rfl (r_assign rfl) ?_
  refine s_fin ?_
  show W _ _ _ _ _ _ _ _
  refine W_seq ?_
  refine W_region (.pu 0 (.ef 1 [] (.pu 2 (.ef 3 [] (.pu 4 (.pu 5 (.pu 6 .fin))) .no)) .no)) rfl rfl ?_
  refine s_pu (d := some 5) (v := (.pointer a1)) rfl rfl rfl (r_move rfl) ?_
  refine s_ef (d := some 6) rfl rfl rfl (fun dr => r_call Try.call95 rfl rfl H) ?_ trivial
  rintro _ h1 ⟨y3, rfl, H⟩
  refine ⟨trivial, ?_⟩
  refine s_pu (d := some 7) (v := (.pointer vb2)) rfl rfl rfl (r_move rfl) ?_
  refine s_ef (d := some 8) rfl rfl rfl (fun dr => r_call Try.call95 rfl rfl H) ?_ trivial
  rintro _ h2 ⟨y4, rfl, H⟩
  refine ⟨trivial, ?_⟩
  refine s_pu (d := some 9) (v := (.int .i64 (w64 (3 * y4)))) rfl rfl rfl (r_mul rfl rfl) ?_
  refine s_pu (d := some 10) (v := (.bool (decide ((w64 (3 * y4)) < y3)))) rfl rfl rfl (r_gtr rfl rfl) ?_
  refine s_pu (d := some 4) (v := (.bool (decide ((w64 (3 * y4)) < y3)))) rfl rfl rfl (r_assign rfl) ?_
  refine s_fin ?_
  show W _ _ _ _ _ _ _ _
  refine W_ret ?_
  exact ⟨[(.bool (decide ((w64 (3 * y4)) < y3)))], ⟨_, _, rfl, rfl, rfl⟩, (decide ((w64 (3 * y4)) < y3)), rfl, H⟩

/-! ### prio_tops_None -/

def prio_tops_None_F (r : World)  (h : Heap) (R : Bool → Int → Heap → Prop) : Prop :=
  New h (.cells #[] 89) fun p1 h1 =>
  New h1 (.cells #[(.bool false), (.int .i64 0)] 88) fun p4 h2 =>
  St h2 p4 2 [(.bool false), (.int .i64 0)] fun h3 =>
  LdB h3 (Addr.add p4 0) fun x9 =>
  LdI h3 (Addr.add p4 1) fun x11 =>
  R x9 x11 h3

set_option maxRecDepth 100000 in
theorem prio_tops_None_of {r : World}  {h : Heap} {R : Bool → Int → Heap → Prop} (H : prio_tops_None_F r  h R) : prio_tops_None r  h R := by
  unfold prio_tops_None_F at H
  refine calls_of 4 [.cell 2 88] Try.func123 rfl rfl rfl rfl rfl ?_
  refine W_seq ?_
  refine W_region (.ef 0 [] (.ef 1 [] .fin .no) .no) rfl rfl ?_
  obtain ⟨p1, e2⟩ : ∃ p : Addr, p = ⟨h.size, 0, none⟩ := ⟨_, rfl⟩
  obtain ⟨h1, e3⟩ : ∃ hh : Heap, hh = h.push (.cells #[] 89) := ⟨_, rfl⟩
  have H := H p1 h1 e2 e3
  refine s_ef1 (d := some 1) (v := (.pointer (some p1))) (h' := h1) rfl rfl rfl (fun dr => (r_box (v := (.agg #[])) rfl).trans (by rw [e2, e3]; rfl)) trivial ?_ trivial
  obtain ⟨p4, e5⟩ : ∃ p : Addr, p = ⟨h1.size, 0, none⟩ := ⟨_, rfl⟩
  obtain ⟨h2, e6⟩ : ∃ hh : Heap, hh = h1.push (.cells #[(.bool false), (.int .i64 0)] 88) := ⟨_, rfl⟩
  have H := H p4 h2 e5 e6
  refine s_ef1 (d := some 2) (v := (.pointer (some p4))) (h' := h2) rfl rfl rfl (fun dr => (r_alloc Try.zeroValue88).trans (by rw [e5, e6]; rfl)) trivial ?_ trivial
  refine s_fin ?_
  show W _ _ _ _ _ _ _ _
  refine W_seq ?_
  refine W_region (.pu 0 (.ef 1 [] .fin .no)) rfl rfl ?_
  refine s_pu (d := some 3) (v := (.agg #[(.bool false), (.int .i64 0)])) rfl rfl rfl (fun w => by kernel_rfl) ?_
  obtain ⟨e8, H⟩ := H
  obtain ⟨h3, e7⟩ : ∃ hh : Heap, hh = hsets h2 p4 0 [(.bool false), (.int .i64 0)] := ⟨_, rfl⟩
  have H := H h3 e7
  refine s_st (d := none) (h' := h3) rfl rfl rfl (fun dr => (r_store (v := (.agg #[(.bool false), (.int .i64 0)])) Try.sizeOf88 rfl rfl rfl (one_all rfl) e8).trans (by rw [e7]; rfl)) trivial ?_ trivial
  refine s_fin ?_
  show W _ _ _ _ _ _ _ _
  refine W_ret ?_
  obtain ⟨x9, e10, H⟩ := H
  obtain ⟨x11, e12, H⟩ := H
  exact ⟨[(.agg #[(.bool x9), (.int .i64 x11)])], ⟨_, _, _, rfl, rfl, fun dr => run_loadVarN Try.isAgg88 Try.sizeOf88 (vs := [(.bool x9), (.int .i64 x11)]) rfl ⟨e10, e12, trivial⟩, rfl⟩, x9, x11, rfl, H⟩

/-! ### prio_tops_One -/

def prio_tops_One_F (r : World) (it1 : Int) (it2 : Int) (h : Heap) (R : Bool → Int → Heap → Prop) : Prop :=
  New h (.cells #[] 89) fun p3 h1 =>
  New h1 (.cells #[(.int .i64 it1), (.int .i64 it2)] 43) fun p6 h2 =>
  New h2 (.cells #[(.bool false), (.int .i64 0)] 88) fun p9 h3 =>
  LdI h3 (Addr.add p6 0) fun x12 =>
  St h3 p9 2 [(.bool true), (.int .i64 x12)] fun h4 =>
  LdB h4 (Addr.add p9 0) fun x16 =>
  LdI h4 (Addr.add p9 1) fun x18 =>
  R x16 x18 h4

set_option maxRecDepth 100000 in
theorem prio_tops_One_of {r : World} {it1 : Int} {it2 : Int} {h : Heap} {R : Bool → Int → Heap → Prop} (H : prio_tops_One_F r it1 it2 h R) : prio_tops_One r it1 it2 h R := by
  unfold prio_tops_One_F at H
  refine calls_of 8 [.cell 4 88] Try.func124 rfl rfl rfl rfl rfl ?_
  refine W_seq ?_
  refine W_region (.ef 0 [] (.ef 1 [] (.ef 2 [] .fin .no) .no) .no) rfl rfl ?_
  obtain ⟨p3, e4⟩ : ∃ p : Addr, p = ⟨h.size, 0, none⟩ := ⟨_, rfl⟩
  obtain ⟨h1, e5⟩ : ∃ hh : Heap, hh = h.push (.cells #[] 89) := ⟨_, rfl⟩
  have H := H p3 h1 e4 e5
  refine s_ef1 (d := some 2) (v := (.pointer (some p3))) (h' := h1) rfl rfl rfl (fun dr => (r_box (v := (.agg #[])) rfl).trans (by rw [e4, e5]; rfl)) trivial ?_ trivial
  obtain ⟨p6, e7⟩ : ∃ p : Addr, p = ⟨h1.size, 0, none⟩ := ⟨_, rfl⟩
  obtain ⟨h2, e8⟩ : ∃ hh : Heap, hh = h1.push (.cells #[(.int .i64 it1), (.int .i64 it2)] 43) := ⟨_, rfl⟩
  have H := H p6 h2 e7 e8
  refine s_ef1 (d := some 3) (v := (.pointer (some p6))) (h' := h2) rfl rfl rfl (fun dr => (r_box (v := (.agg #[(.int .i64 it1), (.int .i64 it2)])) rfl).trans (by rw [e7, e8]; rfl)) trivial ?_ trivial
  obtain ⟨p9, e10⟩ : ∃ p : Addr, p = ⟨h2.size, 0, none⟩ := ⟨_, rfl⟩
  obtain ⟨h3, e11⟩ : ∃ hh : Heap, hh = h2.push (.cells #[(.bool false), (.int .i64 0)] 88) := ⟨_, rfl⟩
  have H := H p9 h3 e10 e11
  refine s_ef1 (d := some 4) (v := (.pointer (some p9))) (h' := h3) rfl rfl rfl (fun dr => (r_alloc Try.zeroValue88).trans (by rw [e10, e11]; rfl)) trivial ?_ trivial
  refine s_fin ?_
  show W _ _ _ _ _ _ _ _
  refine W_seq ?_
  refine W_region (.pu 0 (.rl 1 (.pu 2 (.ef 3 [] .fin .no)))) rfl rfl ?_
  refine s_pu (d := some 5) (v := (.pointer (some (Addr.add p6 0)))) rfl rfl rfl (r_fieldAddr Try.underlying43 Try.sizeOf3 rfl rfl rfl) ?_
  obtain ⟨x12, e13, H⟩ := H
  refine s_rl (d := some 6) (v := (.int .i64 x12)) rfl rfl rfl (fun dr => r_load1 Try.isAgg3 rfl e13) ?_
  refine s_pu (d := some 7) (v := (.agg #[(.bool true), (.int .i64 x12)])) rfl rfl rfl (fun w => by kernel_rfl) ?_
  obtain ⟨e15, H⟩ := H
  obtain ⟨h4, e14⟩ : ∃ hh : Heap, hh = hsets h3 p9 0 [(.bool true), (.int .i64 x12)] := ⟨_, rfl⟩
  have H := H h4 e14
  refine s_st (d := none) (h' := h4) rfl rfl rfl (fun dr => (r_store (v := (.agg #[(.bool true), (.int .i64 x12)])) Try.sizeOf88 rfl rfl rfl (one_all rfl) e15).trans (by rw [e14]; rfl)) trivial ?_ trivial
  refine s_fin ?_
  show W _ _ _ _ _ _ _ _
  refine W_ret ?_
  obtain ⟨x16, e17, H⟩ := H
  obtain ⟨x18, e19, H⟩ := H
  exact ⟨[(.agg #[(.bool x16), (.int .i64 x18)])], ⟨_, _, _, rfl, rfl, fun dr => run_loadVarN Try.isAgg88 Try.sizeOf88 (vs := [(.bool x16), (.int .i64 x18)]) rfl ⟨e17, e19, trivial⟩, rfl⟩, x16, x18, rfl, H⟩

/-! ### prio_tops_Join -/

def prio_tops_Join_F (r : World) (a1 : Bool) (a2 : Int) (vb3 : Bool) (vb4 : Int) (h : Heap) (R : Bool → Int → Heap → Prop) : Prop :=
  New h (.cells #[] 89) fun p5 h1 =>
  New h1 (.cells #[(.bool a1), (.int .i64 a2)] 88) fun p8 h2 =>
  New h2 (.cells #[(.bool vb3), (.int .i64 vb4)] 88) fun p11 h3 =>
  New h3 (.cells #[(.bool false), (.int .i64 0)] 88) fun p14 h4 =>
  ∀ J18 : Bool → Prop, (∀ (x17 : Bool),
    (Br x17 (
      LdB h4 (Addr.add p11 0) fun x20 =>
      LdI h4 (Addr.add p11 1) fun x22 =>
      St h4 p14 2 [(.bool x20), (.int .i64 x22)] fun h5 =>
      LdB h5 (Addr.add p14 0) fun x26 =>
      LdI h5 (Addr.add p14 1) fun x28 =>
      R x26 x28 h5) (
      LdB h4 (Addr.add p8 0) fun x30 =>
      LdI h4 (Addr.add p8 1) fun x32 =>
      St h4 p14 2 [(.bool x30), (.int .i64 x32)] fun h6 =>
      LdB h6 (Addr.add p14 0) fun x36 =>
      LdI h6 (Addr.add p14 1) fun x38 =>
      R x36 x38 h6)) →
    J18 x17) →
  LdB h4 (Addr.add p8 0) fun x41 =>
  Br (!x41) (
    J18 true) (
    LdB h4 (Addr.add p11 0) fun x44 =>
    Br x44 (
      LdI h4 (Addr.add p11 1) fun x47 =>
      LdI h4 (Addr.add p8 1) fun x49 =>
      J18 (decide (x49 < x47))) (
      J18 false))

set_option maxRecDepth 100000 in
theorem prio_tops_Join_of {r : World} {a1 : Bool} {a2 : Int} {vb3 : Bool} {vb4 : Int} {h : Heap} {R : Bool → Int → Heap → Prop} (H : prio_tops_Join_F r a1 a2 vb3 vb4 h R) : prio_tops_Join r a1 a2 vb3 vb4 h R := by
  unfold prio_tops_Join_F at H
  refine calls_of 23 [.cell 6 88] Try.func122 rfl rfl rfl rfl rfl ?_
  refine W_seq ?_
  refine W_region (.ef 0 [] (.ef 1 [] (.ef 2 [] (.ef 3 [] .fin .no) .no) .no) .no) rfl rfl ?_
  obtain ⟨p5, e6⟩ : ∃ p : Addr, p = ⟨h.size, 0, none⟩ := ⟨_, rfl⟩
  obtain ⟨h1, e7⟩ : ∃ hh : Heap, hh = h.push (.cells #[] 89) := ⟨_, rfl⟩
  have H := H p5 h1 e6 e7
  refine s_ef1 (d := some 3) (v := (.pointer (some p5))) (h' := h1) rfl rfl rfl (fun dr => (r_box (v := (.agg #[])) rfl).trans (by rw [e6, e7]; rfl)) trivial ?_ trivial
  obtain ⟨p8, e9⟩ : ∃ p : Addr, p = ⟨h1.size, 0, none⟩ := ⟨_, rfl⟩
  obtain ⟨h2, e10⟩ : ∃ hh : Heap, hh = h1.push (.cells #[(.bool a1), (.int .i64 a2)] 88) := ⟨_, rfl⟩
  have H := H p8 h2 e9 e10
  refine s_ef1 (d := some 4) (v := (.pointer (some p8))) (h' := h2) rfl rfl rfl (fun dr => (r_box (v := (.agg #[(.bool a1), (.int .i64 a2)])) rfl).trans (by rw [e9, e10]; rfl)) trivial ?_ trivial
  obtain ⟨p11, e12⟩ : ∃ p : Addr, p = ⟨h2.size, 0, none⟩ := ⟨_, rfl⟩
  obtain ⟨h3, e13⟩ : ∃ hh : Heap, hh = h2.push (.cells #[(.bool vb3), (.int .i64 vb4)] 88) := ⟨_, rfl⟩
  have H := H p11 h3 e12 e13
  refine s_ef1 (d := some 5) (v := (.pointer (some p11))) (h' := h3) rfl rfl rfl (fun dr => (r_box (v := (.agg #[(.bool vb3), (.int .i64 vb4)])) rfl).trans (by rw [e12, e13]; rfl)) trivial ?_ trivial
  obtain ⟨p14, e15⟩ : ∃ p : Addr, p = ⟨h3.size, 0, none⟩ := ⟨_, rfl⟩
  obtain ⟨h4, e16⟩ : ∃ hh : Heap, hh = h3.push (.cells #[(.bool false), (.int .i64 0)] 88) := ⟨_, rfl⟩
  have H := H p14 h4 e15 e16
  refine s_ef1 (d := some 6) (v := (.pointer (some p14))) (h' := h4) rfl rfl rfl (fun dr => (r_alloc Try.zeroValue88).trans (by rw [e15, e16]; rfl)) trivial ?_ trivial
  refine s_fin ?_
  show W _ _ _ _ _ _ _ _
  refine W_seq ?_
  refine W_seq ?_
  refine W_set ?_
  intro N19 eN19
  have H := H (fun (x17 : Bool) => ∀ b, N19 [] (mkE [(4, (.pointer (some p8))), (5, (.pointer (some p11))), (6, (.pointer (some p14))), (20, (.bool x17))] b) h4) (by
    intro x17 H b
    rw [eN19]
    show W _ _ _ _ _ _ _ _
    refine W_if x17 rfl (fun g40 => ?_) (fun g40 => ?_)
    · have H := H.1 g40
      refine W_seq ?_
      refine W_region (.rl 0 (.ef 1 [] .fin .no)) rfl rfl ?_
      obtain ⟨x20, e21, H⟩ := H
      obtain ⟨x22, e23, H⟩ := H
      refine s_rl (d := some 21) (v := (.agg #[(.bool x20), (.int .i64 x22)])) rfl rfl rfl (fun dr => r_loadN Try.isAgg88 Try.sizeOf88 (vs := [(.bool x20), (.int .i64 x22)]) rfl rfl ⟨e21, e23, trivial⟩) ?_
      obtain ⟨e25, H⟩ := H
      obtain ⟨h5, e24⟩ : ∃ hh : Heap, hh = hsets h4 p14 0 [(.bool x20), (.int .i64 x22)] := ⟨_, rfl⟩
      have H := H h5 e24
      refine s_st (d := none) (h' := h5) rfl rfl rfl (fun dr => (r_store (v := (.agg #[(.bool x20), (.int .i64 x22)])) Try.sizeOf88 rfl rfl rfl (one_all rfl) e25).trans (by rw [e24]; rfl)) trivial ?_ trivial
      refine s_fin ?_
      show W _ _ _ _ _ _ _ _
      refine W_ret ?_
      obtain ⟨x26, e27, H⟩ := H
      obtain ⟨x28, e29, H⟩ := H
      exact ⟨[(.agg #[(.bool x26), (.int .i64 x28)])], ⟨_, _, _, rfl, rfl, fun dr => run_loadVarN Try.isAgg88 Try.sizeOf88 (vs := [(.bool x26), (.int .i64 x28)]) rfl ⟨e27, e29, trivial⟩, rfl⟩, x26, x28, rfl, H⟩
    · have H := H.2 g40
      refine W_skip ?_
      show W _ _ _ _ _ _ _ _
      refine W_seq ?_
      refine W_region (.rl 0 (.ef 1 [] .fin .no)) rfl rfl ?_
      obtain ⟨x30, e31, H⟩ := H
      obtain ⟨x32, e33, H⟩ := H
      refine s_rl (d := some 22) (v := (.agg #[(.bool x30), (.int .i64 x32)])) rfl rfl rfl (fun dr => r_loadN Try.isAgg88 Try.sizeOf88 (vs := [(.bool x30), (.int .i64 x32)]) rfl rfl ⟨e31, e33, trivial⟩) ?_
      obtain ⟨e35, H⟩ := H
      obtain ⟨h6, e34⟩ : ∃ hh : Heap, hh = hsets h4 p14 0 [(.bool x30), (.int .i64 x32)] := ⟨_, rfl⟩
      have H := H h6 e34
      refine s_st (d := none) (h' := h6) rfl rfl rfl (fun dr => (r_store (v := (.agg #[(.bool x30), (.int .i64 x32)])) Try.sizeOf88 rfl rfl rfl (one_all rfl) e35).trans (by rw [e34]; rfl)) trivial ?_ trivial
      refine s_fin ?_
      show W _ _ _ _ _ _ _ _
      refine W_ret ?_
      obtain ⟨x36, e37, H⟩ := H
      obtain ⟨x38, e39, H⟩ := H
      exact ⟨[(.agg #[(.bool x36), (.int .i64 x38)])], ⟨_, _, _, rfl, rfl, fun dr => run_loadVarN Try.isAgg88 Try.sizeOf88 (vs := [(.bool x36), (.int .i64 x38)]) rfl ⟨e37, e39, trivial⟩, rfl⟩, x36, x38, rfl, H⟩)
  clear eN19
  refine W_region (.pu 0 (.rl 1 (.pu 2 (.pu 3 (.pu 4 (.rl 5 (.pu 6 (.pu 7 (.rl 8 (.pu 9 (.rl 10 (.pu 11 (.pu 12 (.pu 13 .fin)))))))))))))) rfl rfl ?_
  refine s_pu (d := some 7) (v := (.pointer (some (Addr.add p8 0)))) rfl rfl rfl (r_fieldAddr Try.underlying88 Try.sizeOf4 rfl rfl rfl) ?_
  obtain ⟨x41, e42, H⟩ := H
  refine s_rl (d := some 8) (v := (.bool x41)) rfl rfl rfl (fun dr => r_load1 Try.isAgg4 rfl e42) ?_
  refine s_pu (d := some 9) (v := (.bool (!x41))) rfl rfl rfl (r_not rfl) ?_
  refine s_pu (d := some 10) (v := (.bool (!x41))) rfl rfl rfl (r_move rfl) ?_
  rcases Bool.eq_false_or_eq_true (!x41) with g43 | g43
  · have H := H.1 g43
    refine s_sk (d := some 11) rfl rfl (wants_no rfl rfl rfl rfl g43) ?_
    refine s_skl (d := some 12) rfl rfl (wants_no rfl rfl rfl rfl g43) ?_
    refine s_sk (d := some 13) rfl rfl (wants_no rfl rfl rfl rfl g43) ?_
    refine s_sk (d := some 14) rfl rfl (wants_un rfl rfl rfl) ?_
    refine s_skl (d := some 15) rfl rfl (wants_un rfl rfl rfl) ?_
    refine s_sk (d := some 16) rfl rfl (wants_un rfl rfl rfl) ?_
    refine s_skl (d := some 17) rfl rfl (wants_un rfl rfl rfl) ?_
    refine s_sk (d := some 18) rfl rfl (wants_un rfl rfl rfl) ?_
    refine s_sk (d := some 19) rfl rfl (wants_no rfl rfl rfl rfl g43) ?_
    refine s_pu (d := some 20) (v := (.bool true)) rfl rfl rfl (r_pick1 rfl g43 rfl) ?_
    refine s_fin ?_
    exact N_mk (l := [(4, (.pointer (some p8))), (5, (.pointer (some p11))), (6, (.pointer (some p14))), (20, (.bool true))]) H ⟨rfl, rfl, rfl, rfl, trivial⟩
  · have H := H.2 g43
    refine s_pu (d := some 11) (v := (.pointer (some (Addr.add p11 0)))) rfl rfl (wants_yes rfl rfl rfl rfl g43) (r_fieldAddr Try.underlying88 Try.sizeOf4 rfl rfl rfl) ?_
    obtain ⟨x44, e45, H⟩ := H
    refine s_rl (d := some 12) (v := (.bool x44)) rfl rfl (wants_yes rfl rfl rfl rfl g43) (fun dr => r_load1 Try.isAgg4 rfl e45) ?_
    refine s_pu (d := some 13) (v := (.bool x44)) rfl rfl (wants_yes rfl rfl rfl rfl g43) (r_move rfl) ?_
    rcases Bool.eq_false_or_eq_true x44 with g46 | g46
    · have H := H.1 g46
      refine s_pu (d := some 14) (v := (.pointer (some (Addr.add p11 1)))) rfl rfl (wants_yes rfl rfl rfl rfl g46) (r_fieldAddr Try.underlying88 Try.sizeOf3 rfl rfl rfl) ?_
      obtain ⟨x47, e48, H⟩ := H
      refine s_rl (d := some 15) (v := (.int .i64 x47)) rfl rfl (wants_yes rfl rfl rfl rfl g46) (fun dr => r_load1 Try.isAgg3 rfl e48) ?_
      refine s_pu (d := some 16) (v := (.pointer (some (Addr.add p8 1)))) rfl rfl (wants_yes rfl rfl rfl rfl g46) (r_fieldAddr Try.underlying88 Try.sizeOf3 rfl rfl rfl) ?_
      obtain ⟨x49, e50, H⟩ := H
      refine s_rl (d := some 17) (v := (.int .i64 x49)) rfl rfl (wants_yes rfl rfl rfl rfl g46) (fun dr => r_load1 Try.isAgg3 rfl e50) ?_
      refine s_pu (d := some 18) (v := (.bool (decide (x49 < x47)))) rfl rfl (wants_yes rfl rfl rfl rfl g46) (r_gtr rfl rfl) ?_
      refine s_pu (d := some 19) (v := (.bool (decide (x49 < x47)))) rfl rfl (wants_yes rfl rfl rfl rfl g43) (r_pick1 rfl g46 rfl) ?_
      refine s_pu (d := some 20) (v := (.bool (decide (x49 < x47)))) rfl rfl rfl (r_pick0 rfl g43 rfl) ?_
      refine s_fin ?_
      exact N_mk (l := [(4, (.pointer (some p8))), (5, (.pointer (some p11))), (6, (.pointer (some p14))), (20, (.bool (decide (x49 < x47))))]) H ⟨rfl, rfl, rfl, rfl, trivial⟩
    · have H := H.2 g46
      refine s_sk (d := some 14) rfl rfl (wants_no rfl rfl rfl rfl g46) ?_
      refine s_skl (d := some 15) rfl rfl (wants_no rfl rfl rfl rfl g46) ?_
      refine s_sk (d := some 16) rfl rfl (wants_no rfl rfl rfl rfl g46) ?_
      refine s_skl (d := some 17) rfl rfl (wants_no rfl rfl rfl rfl g46) ?_
      refine s_sk (d := some 18) rfl rfl (wants_no rfl rfl rfl rfl g46) ?_
      refine s_pu (d := some 19) (v := (.bool false)) rfl rfl (wants_yes rfl rfl rfl rfl g43) (r_pick0 rfl g46 rfl) ?_
      refine s_pu (d := some 20) (v := (.bool false)) rfl rfl rfl (r_pick0 rfl g43 rfl) ?_
      refine s_fin ?_
      exact N_mk (l := [(4, (.pointer (some p8))), (5, (.pointer (some p11))), (6, (.pointer (some p14))), (20, (.bool false))]) H ⟨rfl, rfl, rfl, rfl, trivial⟩

/-! ### finger_total_api_Item_prio_top_prio_tops -/

def finger_total_api_Item_prio_top_prio_tops_F (r : World) (t1 : Option Addr) (h : Heap) (R : Bool → Int → Heap → Prop) : Prop :=
  New h (.cells #[(.bool false), (.int .i64 0)] 88) fun p2 h1 =>
  Br (Option.isNone t1) (
    New h1 (.cells #[] 89) fun p5 h2 =>
    prio_tops_None r h2 fun y8 y9 h3 =>
    St h3 p2 2 [(.bool y8), (.int .i64 y9)] fun h4 =>
    LdB h4 (Addr.add p2 0) fun x12 =>
    LdI h4 (Addr.add p2 1) fun x14 =>
    R x12 x14 h4) (
    Ck t1 fun p16 =>
    LdB h1 (Addr.add (Addr.add p16 3) 0) fun x18 =>
    LdI h1 (Addr.add (Addr.add p16 3) 1) fun x20 =>
    St h1 p2 2 [(.bool x18), (.int .i64 x20)] fun h5 =>
    LdB h5 (Addr.add p2 0) fun x24 =>
    LdI h5 (Addr.add p2 1) fun x26 =>
    R x24 x26 h5)

set_option maxRecDepth 100000 in
theorem finger_total_api_Item_prio_top_prio_tops_of {r : World} {t1 : Option Addr} {h : Heap} {R : Bool → Int → Heap → Prop} (H : finger_total_api_Item_prio_top_prio_tops_F r t1 h R) : finger_total_api_Item_prio_top_prio_tops r t1 h R := by
  unfold finger_total_api_Item_prio_top_prio_tops_F at H
  refine calls_of 13 [.cell 2 88] Try.func88 rfl rfl rfl rfl rfl ?_
  refine W_seq ?_
  refine W_region (.ef 0 [] .fin .no) rfl rfl ?_
  obtain ⟨p2, e3⟩ : ∃ p : Addr, p = ⟨h.size, 0, none⟩ := ⟨_, rfl⟩
  obtain ⟨h1, e4⟩ : ∃ hh : Heap, hh = h.push (.cells #[(.bool false), (.int .i64 0)] 88) := ⟨_, rfl⟩
  have H := H p2 h1 e3 e4
  refine s_ef1 (d := some 2) (v := (.pointer (some p2))) (h' := h1) rfl rfl rfl (fun dr => (r_alloc Try.zeroValue88).trans (by rw [e3, e4]; rfl)) trivial ?_ trivial
  refine s_fin ?_
  show W _ _ _ _ _ _ _ _
  refine W_seq ?_
  refine W_seq ?_
  refine W_region (.pu 0 (.pu 1 .fin)) rfl rfl ?_
  refine s_pu (d := some 4) (v := (.pointer t1)) rfl rfl rfl (r_move rfl) ?_
  refine s_pu (d := some 5) (v := (.bool (Option.isNone t1))) rfl rfl rfl (r_nilP Try.underlying36 rfl rfl) ?_
  refine s_fin ?_
  show W _ _ _ _ _ _ _ _
  refine W_if (Option.isNone t1) rfl (fun g28 => ?_) (fun g28 => ?_)
  · have H := H.1 g28
    refine W_seq ?_
    refine W_region (.ef 0 [] .fin .no) rfl rfl ?_
    obtain ⟨p5, e6⟩ : ∃ p : Addr, p = ⟨h1.size, 0, none⟩ := ⟨_, rfl⟩
    obtain ⟨h2, e7⟩ : ∃ hh : Heap, hh = h1.push (.cells #[] 89) := ⟨_, rfl⟩
    have H := H p5 h2 e6 e7
    refine s_ef1 (d := some 3) (v := (.pointer (some p5))) (h' := h2) rfl rfl rfl (fun dr => (r_alloc Try.zeroValue89).trans (by rw [e6, e7]; rfl)) trivial ?_ trivial
    refine s_fin ?_
    show W _ _ _ _ _ _ _ _
    refine W_seq ?_
    refine W_region (.rl 0 (.pu 1 (.ef 2 [] (.ef 3 [] .fin .no) .no))) rfl rfl ?_
    refine s_rl (d := some 6) (v := (.agg #[])) rfl rfl rfl (fun dr => r_loadN Try.isAgg89 Try.sizeOf89 (vs := []) rfl rfl trivial) ?_
    refine s_pu (d := some 7) (v := ((.iface 89 (.agg #[])))) rfl rfl rfl (r_iface Try.underlying89 rfl rfl) ?_
    refine s_ef (d := some 8) rfl rfl rfl (fun dr => r_invoke mth_prio_tops_None rfl rfl H) ?_ trivial
    rintro _ h3 ⟨y8, y9, rfl, H⟩
    refine ⟨trivial, ?_⟩
    obtain ⟨e11, H⟩ := H
    obtain ⟨h4, e10⟩ : ∃ hh : Heap, hh = hsets h3 p2 0 [(.bool y8), (.int .i64 y9)] := ⟨_, rfl⟩
    have H := H h4 e10
    refine s_st (d := none) (h' := h4) rfl rfl rfl (fun dr => (r_store (v := (.agg #[(.bool y8), (.int .i64 y9)])) Try.sizeOf88 rfl rfl rfl (one_all rfl) e11).trans (by rw [e10]; rfl)) trivial ?_ trivial
    refine s_fin ?_
    show W _ _ _ _ _ _ _ _
    refine W_ret ?_
    obtain ⟨x12, e13, H⟩ := H
    obtain ⟨x14, e15, H⟩ := H
    exact ⟨[(.agg #[(.bool x12), (.int .i64 x14)])], ⟨_, _, _, rfl, rfl, fun dr => run_loadVarN Try.isAgg88 Try.sizeOf88 (vs := [(.bool x12), (.int .i64 x14)]) rfl ⟨e13, e15, trivial⟩, rfl⟩, x12, x14, rfl, H⟩
  · have H := H.2 g28
    refine W_skip ?_
    show W _ _ _ _ _ _ _ _
    refine W_seq ?_
    refine W_region (.pu 0 (.pu 1 (.pu 2 (.rl 3 (.ef 4 [] .fin .no))))) rfl rfl ?_
    refine s_pu (d := some 9) (v := (.pointer t1)) rfl rfl rfl (r_move rfl) ?_
    obtain ⟨p16, e17, H⟩ := H
    refine s_pu (d := some 10) (v := (.pointer (some p16))) rfl rfl rfl (r_nilCheck rfl e17) ?_
    refine s_pu (d := some 11) (v := (.pointer (some (Addr.add p16 3)))) rfl rfl rfl (r_fieldAddr Try.underlying119 Try.sizeOf88 rfl rfl rfl) ?_
    obtain ⟨x18, e19, H⟩ := H
    obtain ⟨x20, e21, H⟩ := H
    refine s_rl (d := some 12) (v := (.agg #[(.bool x18), (.int .i64 x20)])) rfl rfl rfl (fun dr => r_loadN Try.isAgg88 Try.sizeOf88 (vs := [(.bool x18), (.int .i64 x20)]) rfl rfl ⟨e19, e21, trivial⟩) ?_
    obtain ⟨e23, H⟩ := H
    obtain ⟨h5, e22⟩ : ∃ hh : Heap, hh = hsets h1 p2 0 [(.bool x18), (.int .i64 x20)] := ⟨_, rfl⟩
    have H := H h5 e22
    refine s_st (d := none) (h' := h5) rfl rfl rfl (fun dr => (r_store (v := (.agg #[(.bool x18), (.int .i64 x20)])) Try.sizeOf88 rfl rfl rfl (one_all rfl) e23).trans (by rw [e22]; rfl)) trivial ?_ trivial
    refine s_fin ?_
    show W _ _ _ _ _ _ _ _
    refine W_ret ?_
    obtain ⟨x24, e25, H⟩ := H
    obtain ⟨x26, e27, H⟩ := H
    exact ⟨[(.agg #[(.bool x24), (.int .i64 x26)])], ⟨_, _, _, rfl, rfl, fun dr => run_loadVarN Try.isAgg88 Try.sizeOf88 (vs := [(.bool x24), (.int .i64 x26)]) rfl ⟨e25, e27, trivial⟩, rfl⟩, x24, x26, rfl, H⟩

/-! ### finger_made_api_Item_prio_top_prio_tops -/

def finger_made_api_Item_prio_top_prio_tops_F (r : World) (l1 : Option Addr) (v2 : Int) (v3 : Int) (vr4 : Option Addr) (h : Heap) (R : Option Addr → Heap → Prop) : Prop :=
  New h (.cells #[(.int .i64 v2), (.int .i64 v3)] 43) fun p5 h1 =>
  New h1 (.cells #[] 89) fun p8 h2 =>
  LdI h2 (Addr.add p5 0) fun x11 =>
  LdI h2 (Addr.add p5 1) fun x13 =>
  LdI h2 (Addr.add p5 0) fun x15 =>
  LdI h2 (Addr.add p5 1) fun x17 =>
  finger_node_api_Item_prio_top_size r l1 h2 fun y19 h3 =>
  (hcell h3 (Addr.add p5 0) = some (.int .i64 x15)) ∧
  (hcell h3 (Addr.add p5 1) = some (.int .i64 x17)) ∧
  (hcell h3 (Addr.add p5 0) = some (.int .i64 x11)) ∧
  (hcell h3 (Addr.add p5 1) = some (.int .i64 x13)) ∧
  finger_node_api_Item_prio_top_size r vr4 h3 fun y24 h4 =>
  (hcell h4 (Addr.add p5 0) = some (.int .i64 x15)) ∧
  (hcell h4 (Addr.add p5 1) = some (.int .i64 x17)) ∧
  (hcell h4 (Addr.add p5 0) = some (.int .i64 x11)) ∧
  (hcell h4 (Addr.add p5 1) = some (.int .i64 x13)) ∧
  finger_total_api_Item_prio_top_prio_tops r l1 h4 fun y29 y30 h5 =>
  (hcell h5 (Addr.add p5 0) = some (.int .i64 x15)) ∧
  (hcell h5 (Addr.add p5 1) = some (.int .i64 x17)) ∧
  (hcell h5 (Addr.add p5 0) = some (.int .i64 x11)) ∧
  (hcell h5 (Addr.add p5 1) = some (.int .i64 x13)) ∧
  prio_tops_One r x15 x17 h5 fun y35 y36 h6 =>
  (hcell h6 (Addr.add p5 0) = some (.int .i64 x11)) ∧
  (hcell h6 (Addr.add p5 1) = some (.int .i64 x13)) ∧
  prio_tops_Join r y29 y30 y35 y36 h6 fun y39 y40 h7 =>
  (hcell h7 (Addr.add p5 0) = some (.int .i64 x11)) ∧
  (hcell h7 (Addr.add p5 1) = some (.int .i64 x13)) ∧
  finger_total_api_Item_prio_top_prio_tops r vr4 h7 fun y43 y44 h8 =>
  (hcell h8 (Addr.add p5 0) = some (.int .i64 x11)) ∧
  (hcell h8 (Addr.add p5 1) = some (.int .i64 x13)) ∧
  prio_tops_Join r y39 y40 y43 y44 h8 fun y47 y48 h9 =>
  (hcell h9 (Addr.add p5 0) = some (.int .i64 x11)) ∧
  (hcell h9 (Addr.add p5 1) = some (.int .i64 x13)) ∧
  New h9 (.cells #[(.int .i64 x11), (.int .i64 x13), (.int .i64 (w64 ((w64 (1 + y19)) + y24))), (.bool y47), (.int .i64 y48), (.pointer l1), (.pointer vr4)] 119) fun p51 h10 =>
  R (some p51) h10

set_option maxRecDepth 100000 in
theorem finger_made_api_Item_prio_top_prio_tops_of {r : World} {l1 : Option Addr} {v2 : Int} {v3 : Int} {vr4 : Option Addr} {h : Heap} {R : Option Addr → Heap → Prop} (H : finger_made_api_Item_prio_top_prio_tops_F r l1 v2 v3 vr4 h R) : finger_made_api_Item_prio_top_prio_tops r l1 v2 v3 vr4 h R := by
  unfold finger_made_api_Item_prio_top_prio_tops_F at H
  refine calls_of 33 [.tmp 6] Try.func87 rfl rfl rfl rfl rfl ?_
  refine W_seq ?_
  refine W_region (.ef 0 [] (.pu 1 .fin) .no) rfl rfl ?_
  obtain ⟨p5, e6⟩ : ∃ p : Addr, p = ⟨h.size, 0, none⟩ := ⟨_, rfl⟩
  obtain ⟨h1, e7⟩ : ∃ hh : Heap, hh = h.push (.cells #[(.int .i64 v2), (.int .i64 v3)] 43) := ⟨_, rfl⟩
  have H := H p5 h1 e6 e7
  refine s_ef1 (d := some 4) (v := (.pointer (some p5))) (h' := h1) rfl rfl rfl (fun dr => (r_box (v := (.agg #[(.int .i64 v2), (.int .i64 v3)])) rfl).trans (by rw [e6, e7]; rfl)) trivial ?_ trivial
  refine s_pu (d := some 6) (v := (.pointer none)) rfl rfl rfl (r_assign rfl) ?_
  refine s_fin ?_
  show W _ _ _ _ _ _ _ _
  refine W_seq ?_
  refine W_region (.ef 0 [] .fin .no) rfl rfl ?_
  obtain ⟨p8, e9⟩ : ∃ p : Addr, p = ⟨h1.size, 0, none⟩ := ⟨_, rfl⟩
  obtain ⟨h2, e10⟩ : ∃ hh : Heap, hh = h1.push (.cells #[] 89) := ⟨_, rfl⟩
  have H := H p8 h2 e9 e10
  refine s_ef1 (d := some 7) (v := (.pointer (some p8))) (h' := h2) rfl rfl rfl (fun dr => (r_alloc Try.zeroValue89).trans (by rw [e9, e10]; rfl)) trivial ?_ trivial
  refine s_fin ?_
  show W _ _ _ _ _ _ _ _
  refine W_seq ?_
  refine W_draw [0, 0, 2, 6, 0, 22, 62, 0, 128, 0, 512, 0, 2102, 0, 8192, 0, 63542, 130614, 0, 523830, 1048502, 0, 0, 8388607, 16777215, 33554431] (.rd 0 (.pu 1 (.pu 4 (.rd 7 (.pu 8 (.rd 9 (.pu 10 (.pu 11 (.rd 13 (.pu 14 (.rd 15 (.pu 18 (.pu 21 (.pu 22 (.ef 2 [] (.pu 3 (.ef 5 [] (.pu 6 (.ef 12 [] (.ef 16 [13, 15] (.ef 17 [9, 13, 15] (.ef 19 [9, 13, 15] (.ef 20 [7, 9, 13, 15] (.pu 23 (.ef 24 [0, 7, 9, 13, 15] (.pu 25 .fin) .no)) .no) .no) .no) .no) .no)) .no)) .no))))))))))))))) (by kernel_rfl) (by kernel_rfl) ?_
  obtain ⟨x11, e12, H⟩ := H
  obtain ⟨x13, e14, H⟩ := H
  refine s_rd (d := some 8) (v := (.agg #[(.int .i64 x11), (.int .i64 x13)])) rfl rfl rfl (fun dr => r_loadN Try.isAgg43 Try.sizeOf43 (vs := [(.int .i64 x11), (.int .i64 x13)]) rfl rfl ⟨e12, e14, trivial⟩) ?_
  refine s_pu (d := some 9) (v := (.pointer l1)) rfl rfl rfl (r_move rfl) ?_
  refine s_pu (d := some 12) (v := (.pointer vr4)) rfl rfl rfl (r_move rfl) ?_
  refine s_rd (d := some 15) (v := (.agg #[])) rfl rfl rfl (fun dr => r_loadN Try.isAgg89 Try.sizeOf89 (vs := []) rfl rfl trivial) ?_
  refine s_pu (d := some 16) (v := ((.iface 89 (.agg #[])))) rfl rfl rfl (r_iface Try.underlying89 rfl rfl) ?_
  refine s_rd (d := some 17) (v := (.agg #[])) rfl rfl rfl (fun dr => r_loadN Try.isAgg89 Try.sizeOf89 (vs := []) rfl rfl trivial) ?_
  refine s_pu (d := some 18) (v := ((.iface 89 (.agg #[])))) rfl rfl rfl (r_iface Try.underlying89 rfl rfl) ?_
  refine s_pu (d := some 19) (v := (.pointer l1)) rfl rfl rfl (r_move rfl) ?_
  refine s_rd (d := some 21) (v := (.agg #[])) rfl rfl rfl (fun dr => r_loadN Try.isAgg89 Try.sizeOf89 (vs := []) rfl rfl trivial) ?_
  refine s_pu (d := some 22) (v := ((.iface 89 (.agg #[])))) rfl rfl rfl (r_iface Try.underlying89 rfl rfl) ?_
  obtain ⟨x15, e16, H⟩ := H
  obtain ⟨x17, e18, H⟩ := H
  refine s_rd (d := some 23) (v := (.agg #[(.int .i64 x15), (.int .i64 x17)])) rfl rfl rfl (fun dr => r_loadN Try.isAgg43 Try.sizeOf43 (vs := [(.int .i64 x15), (.int .i64 x17)]) rfl rfl ⟨e16, e18, trivial⟩) ?_
  refine s_pu (d := some 26) (v := (.pointer vr4)) rfl rfl rfl (r_move rfl) ?_
  refine s_pu (d := some 29) (v := (.pointer l1)) rfl rfl rfl (r_move rfl) ?_
  refine s_pu (d := some 30) (v := (.pointer vr4)) rfl rfl rfl (r_move rfl) ?_
  refine s_ef (d := some 10) rfl rfl rfl (fun dr => r_call Try.call72 rfl rfl H) ?_ trivial
  rintro _ h3 ⟨y19, rfl, H⟩
  obtain ⟨e20, H⟩ := H
  obtain ⟨e21, H⟩ := H
  obtain ⟨e22, H⟩ := H
  obtain ⟨e23, H⟩ := H
  refine ⟨⟨(.inl ⟨rfl, fun dr => r_loadN Try.isAgg43 Try.sizeOf43 (vs := [(.int .i64 x15), (.int .i64 x17)]) rfl rfl ⟨e20, e21, trivial⟩⟩), (.inl ⟨rfl, fun dr => r_loadN Try.isAgg89 Try.sizeOf89 (vs := []) rfl rfl trivial⟩), (.inl ⟨rfl, fun dr => r_loadN Try.isAgg89 Try.sizeOf89 (vs := []) rfl rfl trivial⟩), (.inl ⟨rfl, fun dr => r_loadN Try.isAgg89 Try.sizeOf89 (vs := []) rfl rfl trivial⟩), (.inl ⟨rfl, fun dr => r_loadN Try.isAgg43 Try.sizeOf43 (vs := [(.int .i64 x11), (.int .i64 x13)]) rfl rfl ⟨e22, e23, trivial⟩⟩), trivial⟩, ?_⟩
  refine s_pu (d := some 11) (v := (.int .i64 (w64 (1 + y19)))) rfl rfl rfl (r_add rfl rfl) ?_
  refine s_ef (d := some 13) rfl rfl rfl (fun dr => r_call Try.call72 rfl rfl H) ?_ trivial
  rintro _ h4 ⟨y24, rfl, H⟩
  obtain ⟨e25, H⟩ := H
  obtain ⟨e26, H⟩ := H
  obtain ⟨e27, H⟩ := H
  obtain ⟨e28, H⟩ := H
  refine ⟨⟨(.inl ⟨rfl, fun dr => r_loadN Try.isAgg43 Try.sizeOf43 (vs := [(.int .i64 x15), (.int .i64 x17)]) rfl rfl ⟨e25, e26, trivial⟩⟩), (.inl ⟨rfl, fun dr => r_loadN Try.isAgg89 Try.sizeOf89 (vs := []) rfl rfl trivial⟩), (.inl ⟨rfl, fun dr => r_loadN Try.isAgg89 Try.sizeOf89 (vs := []) rfl rfl trivial⟩), (.inl ⟨rfl, fun dr => r_loadN Try.isAgg89 Try.sizeOf89 (vs := []) rfl rfl trivial⟩), (.inl ⟨rfl, fun dr => r_loadN Try.isAgg43 Try.sizeOf43 (vs := [(.int .i64 x11), (.int .i64 x13)]) rfl rfl ⟨e27, e28, trivial⟩⟩), trivial⟩, ?_⟩
  refine s_pu (d := some 14) (v := (.int .i64 (w64 ((w64 (1 + y19)) + y24)))) rfl rfl rfl (r_add rfl rfl) ?_
  refine s_ef (d := some 20) rfl rfl rfl (fun dr => r_call Try.call88 rfl rfl H) ?_ trivial
  rintro _ h5 ⟨y29, y30, rfl, H⟩
  obtain ⟨e31, H⟩ := H
  obtain ⟨e32, H⟩ := H
  obtain ⟨e33, H⟩ := H
  obtain ⟨e34, H⟩ := H
  refine ⟨⟨(.inl ⟨rfl, fun dr => r_loadN Try.isAgg43 Try.sizeOf43 (vs := [(.int .i64 x15), (.int .i64 x17)]) rfl rfl ⟨e31, e32, trivial⟩⟩), (.inl ⟨rfl, fun dr => r_loadN Try.isAgg89 Try.sizeOf89 (vs := []) rfl rfl trivial⟩), (.inl ⟨rfl, fun dr => r_loadN Try.isAgg89 Try.sizeOf89 (vs := []) rfl rfl trivial⟩), (.inl ⟨rfl, fun dr => r_loadN Try.isAgg89 Try.sizeOf89 (vs := []) rfl rfl trivial⟩), (.inl ⟨rfl, fun dr => r_loadN Try.isAgg43 Try.sizeOf43 (vs := [(.int .i64 x11), (.int .i64 x13)]) rfl rfl ⟨e33, e34, trivial⟩⟩), trivial⟩, ?_⟩
  refine s_ef (d := some 24) rfl rfl rfl (fun dr => r_invoke mth_prio_tops_One rfl rfl H) ?_ trivial
  rintro _ h6 ⟨y35, y36, rfl, H⟩
  obtain ⟨e37, H⟩ := H
  obtain ⟨e38, H⟩ := H
  refine ⟨⟨trivial, trivial, (.inl ⟨rfl, fun dr => r_loadN Try.isAgg89 Try.sizeOf89 (vs := []) rfl rfl trivial⟩), (.inl ⟨rfl, fun dr => r_loadN Try.isAgg89 Try.sizeOf89 (vs := []) rfl rfl trivial⟩), (.inl ⟨rfl, fun dr => r_loadN Try.isAgg43 Try.sizeOf43 (vs := [(.int .i64 x11), (.int .i64 x13)]) rfl rfl ⟨e37, e38, trivial⟩⟩), trivial⟩, ?_⟩
  refine s_ef (d := some 25) rfl rfl rfl (fun dr => r_invoke mth_prio_tops_Join rfl rfl H) ?_ trivial
  rintro _ h7 ⟨y39, y40, rfl, H⟩
  obtain ⟨e41, H⟩ := H
  obtain ⟨e42, H⟩ := H
  refine ⟨⟨trivial, trivial, trivial, (.inl ⟨rfl, fun dr => r_loadN Try.isAgg89 Try.sizeOf89 (vs := []) rfl rfl trivial⟩), (.inl ⟨rfl, fun dr => r_loadN Try.isAgg43 Try.sizeOf43 (vs := [(.int .i64 x11), (.int .i64 x13)]) rfl rfl ⟨e41, e42, trivial⟩⟩), trivial⟩, ?_⟩
  refine s_ef (d := some 27) rfl rfl rfl (fun dr => r_call Try.call88 rfl rfl H) ?_ trivial
  rintro _ h8 ⟨y43, y44, rfl, H⟩
  obtain ⟨e45, H⟩ := H
  obtain ⟨e46, H⟩ := H
  refine ⟨⟨trivial, trivial, trivial, (.inl ⟨rfl, fun dr => r_loadN Try.isAgg89 Try.sizeOf89 (vs := []) rfl rfl trivial⟩), (.inl ⟨rfl, fun dr => r_loadN Try.isAgg43 Try.sizeOf43 (vs := [(.int .i64 x11), (.int .i64 x13)]) rfl rfl ⟨e45, e46, trivial⟩⟩), trivial⟩, ?_⟩
  refine s_ef (d := some 28) rfl rfl rfl (fun dr => r_invoke mth_prio_tops_Join rfl rfl H) ?_ trivial
  rintro _ h9 ⟨y47, y48, rfl, H⟩
  obtain ⟨e49, H⟩ := H
  obtain ⟨e50, H⟩ := H
  refine ⟨⟨trivial, trivial, trivial, trivial, (.inl ⟨rfl, fun dr => r_loadN Try.isAgg43 Try.sizeOf43 (vs := [(.int .i64 x11), (.int .i64 x13)]) rfl rfl ⟨e49, e50, trivial⟩⟩), trivial⟩, ?_⟩
  refine s_pu (d := some 31) (v := (.agg #[(.int .i64 x11), (.int .i64 x13), (.int .i64 (w64 ((w64 (1 + y19)) + y24))), (.bool y47), (.int .i64 y48), (.pointer l1), (.pointer vr4)])) rfl rfl rfl (fun w => by kernel_rfl) ?_
  obtain ⟨p51, e52⟩ : ∃ p : Addr, p = ⟨h9.size, 0, none⟩ := ⟨_, rfl⟩
  obtain ⟨h10, e53⟩ : ∃ hh : Heap, hh = h9.push (.cells #[(.int .i64 x11), (.int .i64 x13), (.int .i64 (w64 ((w64 (1 + y19)) + y24))), (.bool y47), (.int .i64 y48), (.pointer l1), (.pointer vr4)] 119) := ⟨_, rfl⟩
  have H := H p51 h10 e52 e53
  refine s_ef1 (d := some 32) (v := (.pointer (some p51))) (h' := h10) rfl rfl rfl (fun dr => (r_box (v := (.agg #[(.int .i64 x11), (.int .i64 x13), (.int .i64 (w64 ((w64 (1 + y19)) + y24))), (.bool y47), (.int .i64 y48), (.pointer l1), (.pointer vr4)])) rfl).trans (by rw [e52, e53]; rfl)) ⟨trivial, trivial, trivial, trivial, trivial, trivial⟩ ?_ trivial
  refine s_pu (d := some 6) (v := (.pointer (some p51))) rfl rfl rfl (r_assign rfl) ?_
  refine s_fin ?_
  show W _ _ _ _ _ _ _ _
  refine W_ret ?_
  exact ⟨[(.pointer (some p51))], ⟨_, _, rfl, rfl, rfl⟩, (some p51), rfl, H⟩

/-! ### finger_even_api_Item_prio_top_prio_tops -/

def finger_even_api_Item_prio_top_prio_tops_F (r : World) (l1 : Option Addr) (v2 : Int) (v3 : Int) (vr4 : Option Addr) (h : Heap) (R : Option Addr → Heap → Prop) : Prop :=
  New h (.cells #[(.int .i64 v2), (.int .i64 v3)] 43) fun p5 h1 =>
  ∀ J9 : Bool → Heap → Prop, (∀ (x8 : Bool) (h2 : Heap),
    (Br x8 (
      LdI h2 (Addr.add p5 0) fun x11 =>
      LdI h2 (Addr.add p5 1) fun x13 =>
      Ck vr4 fun p15 =>
      LdP h2 (Addr.add p15 5) fun x17 =>
      Ck vr4 fun p19 =>
      LdI h2 (Addr.add (Addr.add p19 0) 0) fun x21 =>
      LdI h2 (Addr.add (Addr.add p19 0) 1) fun x23 =>
      Ck vr4 fun p25 =>
      LdP h2 (Addr.add p25 6) fun x27 =>
      CallV Try.prog r ((.func (.func 87) #[] #[])) [(.pointer l1), (.agg #[(.int .i64 x11), (.int .i64 x13)]), (.pointer x17)] h2 fun v35 h3 => ∃ (y29 : Option Addr), v35 = (.pointer y29) ∧
      (hcell h3 (Addr.add p25 6) = some (.pointer x27)) ∧
      (hcell h3 (Addr.add (Addr.add p19 0) 0) = some (.int .i64 x21)) ∧
      (hcell h3 (Addr.add (Addr.add p19 0) 1) = some (.int .i64 x23)) ∧
      CallV Try.prog r ((.func (.func 87) #[] #[])) [(.pointer y29), (.agg #[(.int .i64 x21), (.int .i64 x23)]), (.pointer x27)] h3 fun v34 h4 => ∃ (y33 : Option Addr), v34 = (.pointer y33) ∧
      R y33 h4) (
      finger_heavy_api_Item_prio_top r vr4 l1 h2 fun y36 h5 =>
      Br y36 (
        Ck vr4 fun p37 =>
        LdP h5 (Addr.add p37 5) fun x39 =>
        LdI h5 (Addr.add p5 0) fun x41 =>
        LdI h5 (Addr.add p5 1) fun x43 =>
        Ck x39 fun p45 =>
        LdP h5 (Addr.add p45 5) fun x47 =>
        Ck x39 fun p49 =>
        LdI h5 (Addr.add (Addr.add p49 0) 0) fun x51 =>
        LdI h5 (Addr.add (Addr.add p49 0) 1) fun x53 =>
        Ck x39 fun p55 =>
        LdP h5 (Addr.add p55 6) fun x57 =>
        Ck vr4 fun p59 =>
        LdI h5 (Addr.add (Addr.add p59 0) 0) fun x61 =>
        LdI h5 (Addr.add (Addr.add p59 0) 1) fun x63 =>
        Ck vr4 fun p65 =>
        LdP h5 (Addr.add p65 6) fun x67 =>
        CallV Try.prog r ((.func (.func 87) #[] #[])) [(.pointer l1), (.agg #[(.int .i64 x41), (.int .i64 x43)]), (.pointer x47)] h5 fun v82 h6 => ∃ (y69 : Option Addr), v82 = (.pointer y69) ∧
        (hcell h6 (Addr.add p65 6) = some (.pointer x67)) ∧
        (hcell h6 (Addr.add (Addr.add p59 0) 0) = some (.int .i64 x61)) ∧
        (hcell h6 (Addr.add (Addr.add p59 0) 1) = some (.int .i64 x63)) ∧
        (hcell h6 (Addr.add p55 6) = some (.pointer x57)) ∧
        (hcell h6 (Addr.add (Addr.add p49 0) 0) = some (.int .i64 x51)) ∧
        (hcell h6 (Addr.add (Addr.add p49 0) 1) = some (.int .i64 x53)) ∧
        CallV Try.prog r ((.func (.func 87) #[] #[])) [(.pointer x57), (.agg #[(.int .i64 x61), (.int .i64 x63)]), (.pointer x67)] h6 fun v81 h7 => ∃ (y76 : Option Addr), v81 = (.pointer y76) ∧
        (hcell h7 (Addr.add (Addr.add p49 0) 0) = some (.int .i64 x51)) ∧
        (hcell h7 (Addr.add (Addr.add p49 0) 1) = some (.int .i64 x53)) ∧
        CallV Try.prog r ((.func (.func 87) #[] #[])) [(.pointer y69), (.agg #[(.int .i64 x51), (.int .i64 x53)]), (.pointer y76)] h7 fun v80 h8 => ∃ (y79 : Option Addr), v80 = (.pointer y79) ∧
        R y79 h8) (
        ∀ J84 : Bool → Heap → Prop, (∀ (x83 : Bool) (h9 : Heap),
          (Br x83 (
            Ck l1 fun p86 =>
            LdP h9 (Addr.add p86 5) fun x88 =>
            Ck l1 fun p90 =>
            LdI h9 (Addr.add (Addr.add p90 0) 0) fun x92 =>
            LdI h9 (Addr.add (Addr.add p90 0) 1) fun x94 =>
            Ck l1 fun p96 =>
            LdP h9 (Addr.add p96 6) fun x98 =>
            LdI h9 (Addr.add p5 0) fun x100 =>
            LdI h9 (Addr.add p5 1) fun x102 =>
            CallV Try.prog r ((.func (.func 87) #[] #[])) [(.pointer x98), (.agg #[(.int .i64 x100), (.int .i64 x102)]), (.pointer vr4)] h9 fun v110 h10 => ∃ (y104 : Option Addr), v110 = (.pointer y104) ∧
            (hcell h10 (Addr.add (Addr.add p90 0) 0) = some (.int .i64 x92)) ∧
            (hcell h10 (Addr.add (Addr.add p90 0) 1) = some (.int .i64 x94)) ∧
            (hcell h10 (Addr.add p86 5) = some (.pointer x88)) ∧
            CallV Try.prog r ((.func (.func 87) #[] #[])) [(.pointer x88), (.agg #[(.int .i64 x92), (.int .i64 x94)]), (.pointer y104)] h10 fun v109 h11 => ∃ (y108 : Option Addr), v109 = (.pointer y108) ∧
            R y108 h11) (
            finger_heavy_api_Item_prio_top r l1 vr4 h9 fun y111 h12 =>
            Br y111 (
              Ck l1 fun p112 =>
              LdP h12 (Addr.add p112 6) fun x114 =>
              Ck l1 fun p116 =>
              LdP h12 (Addr.add p116 5) fun x118 =>
              Ck l1 fun p120 =>
              LdI h12 (Addr.add (Addr.add p120 0) 0) fun x122 =>
              LdI h12 (Addr.add (Addr.add p120 0) 1) fun x124 =>
              Ck x114 fun p126 =>
              LdP h12 (Addr.add p126 5) fun x128 =>
              Ck x114 fun p130 =>
              LdI h12 (Addr.add (Addr.add p130 0) 0) fun x132 =>
              LdI h12 (Addr.add (Addr.add p130 0) 1) fun x134 =>
              Ck x114 fun p136 =>
              LdP h12 (Addr.add p136 6) fun x138 =>
              LdI h12 (Addr.add p5 0) fun x140 =>
              LdI h12 (Addr.add p5 1) fun x142 =>
              CallV Try.prog r ((.func (.func 87) #[] #[])) [(.pointer x118), (.agg #[(.int .i64 x122), (.int .i64 x124)]), (.pointer x128)] h12 fun v156 h13 => ∃ (y144 : Option Addr), v156 = (.pointer y144) ∧
              (hcell h13 (Addr.add p5 0) = some (.int .i64 x140)) ∧
              (hcell h13 (Addr.add p5 1) = some (.int .i64 x142)) ∧
              (hcell h13 (Addr.add p136 6) = some (.pointer x138)) ∧
              (hcell h13 (Addr.add (Addr.add p130 0) 0) = some (.int .i64 x132)) ∧
              (hcell h13 (Addr.add (Addr.add p130 0) 1) = some (.int .i64 x134)) ∧
              CallV Try.prog r ((.func (.func 87) #[] #[])) [(.pointer x138), (.agg #[(.int .i64 x140), (.int .i64 x142)]), (.pointer vr4)] h13 fun v155 h14 => ∃ (y150 : Option Addr), v155 = (.pointer y150) ∧
              (hcell h14 (Addr.add (Addr.add p130 0) 0) = some (.int .i64 x132)) ∧
              (hcell h14 (Addr.add (Addr.add p130 0) 1) = some (.int .i64 x134)) ∧
              CallV Try.prog r ((.func (.func 87) #[] #[])) [(.pointer y144), (.agg #[(.int .i64 x132), (.int .i64 x134)]), (.pointer y150)] h14 fun v154 h15 => ∃ (y153 : Option Addr), v154 = (.pointer y153) ∧
              R y153 h15) (
              LdI h12 (Addr.add p5 0) fun x157 =>
              LdI h12 (Addr.add p5 1) fun x159 =>
              CallV Try.prog r ((.func (.func 87) #[] #[])) [(.pointer l1), (.agg #[(.int .i64 x157), (.int .i64 x159)]), (.pointer vr4)] h12 fun v162 h16 => ∃ (y161 : Option Addr), v162 = (.pointer y161) ∧
              R y161 h16))) →
          J84 x83 h9) →
        finger_heavy_api_Item_prio_top r l1 vr4 h5 fun y165 h17 =>
        Br y165 (
          Ck l1 fun p167 =>
          LdP h17 (Addr.add p167 6) fun x169 =>
          Ck l1 fun p171 =>
          LdP h17 (Addr.add p171 5) fun x173 =>
          finger_node_api_Item_prio_top_weight r x169 h17 fun y175 h18 =>
          (hcell h18 (Addr.add p171 5) = some (.pointer x173)) ∧
          finger_node_api_Item_prio_top_weight r x173 h18 fun y177 h19 =>
          J84 (decide (y175 < (w64 (2 * y177)))) h19) (
          J84 false h17)))) →
    J9 x8 h2) →
  finger_heavy_api_Item_prio_top r vr4 l1 h1 fun y180 h20 =>
  Br y180 (
    Ck vr4 fun p182 =>
    LdP h20 (Addr.add p182 5) fun x184 =>
    Ck vr4 fun p186 =>
    LdP h20 (Addr.add p186 6) fun x188 =>
    finger_node_api_Item_prio_top_weight r x184 h20 fun y190 h21 =>
    (hcell h21 (Addr.add p186 6) = some (.pointer x188)) ∧
    finger_node_api_Item_prio_top_weight r x188 h21 fun y192 h22 =>
    J9 (decide (y190 < (w64 (2 * y192)))) h22) (
    J9 false h20)

set_option maxRecDepth 100000 in
theorem finger_even_api_Item_prio_top_prio_tops_of {r : World} {l1 : Option Addr} {v2 : Int} {v3 : Int} {vr4 : Option Addr} {h : Heap} {R : Option Addr → Heap → Prop} (H : finger_even_api_Item_prio_top_prio_tops_F r l1 v2 v3 vr4 h R) : finger_even_api_Item_prio_top_prio_tops r l1 v2 v3 vr4 h R := by
  unfold finger_even_api_Item_prio_top_prio_tops_F at H
  refine calls_of 159 [.tmp 6] Try.func86 rfl rfl rfl rfl rfl ?_
  refine W_seq ?_
  refine W_region (.ef 0 [] (.pu 1 .fin) .no) rfl rfl ?_
  obtain ⟨p5, e6⟩ : ∃ p : Addr, p = ⟨h.size, 0, none⟩ := ⟨_, rfl⟩
  obtain ⟨h1, e7⟩ : ∃ hh : Heap, hh = h.push (.cells #[(.int .i64 v2), (.int .i64 v3)] 43) := ⟨_, rfl⟩
  have H := H p5 h1 e6 e7
  refine s_ef1 (d := some 4) (v := (.pointer (some p5))) (h' := h1) rfl rfl rfl (fun dr => (r_box (v := (.agg #[(.int .i64 v2), (.int .i64 v3)])) rfl).trans (by rw [e6, e7]; rfl)) trivial ?_ trivial
  refine s_pu (d := some 6) (v := (.pointer none)) rfl rfl rfl (r_assign rfl) ?_
  refine s_fin ?_
  show W _ _ _ _ _ _ _ _
  refine W_seq ?_
  refine W_region (.pu 0 .fin) rfl rfl ?_
  refine s_pu (d := some 7) (v := ((.func (.func 87) #[] #[]))) rfl rfl rfl (r_assign rfl) ?_
  refine s_fin ?_
  show W _ _ _ _ _ _ _ _
  refine W_seq ?_
  refine W_block ?_
  refine W_seq ?_
  refine W_set ?_
  intro N10 eN10
  have H := H (fun (x8 : Bool) (h2 : Heap) => ∀ b, N10 [] (mkE [(0, (.pointer l1)), (2, (.pointer vr4)), (4, (.pointer (some p5))), (7, ((.func (.func 87) #[] #[]))), (10, (.bool x8))] b) h2) (by
    intro x8 h2 H b
    rw [eN10]
    show W _ _ _ _ _ _ _ _
    refine W_if x8 rfl (fun g179 => ?_) (fun g179 => ?_)
    · have H := H.1 g179
      refine W_seq ?_
      refine W_draw [0, 0, 0, 0, 0, 16, 48, 112, 254, 0, 512, 1536, 3584, 0, 8192, 24576, 57344, 131071, 262143] (.pu 0 (.pu 1 (.pu 2 (.rd 3 (.pu 4 (.pu 5 (.pu 6 (.rd 7 (.pu 9 (.pu 10 (.pu 11 (.rd 12 (.pu 13 (.pu 14 (.pu 15 (.rd 16 (.ef 8 [3, 7] (.ef 17 [3, 7, 12, 16] (.pu 18 .fin) .no) .no))))))))))))))))) (by kernel_rfl) (by kernel_rfl) ?_
      refine s_pu (d := some 28) (v := ((.func (.func 87) #[] #[]))) rfl rfl rfl (r_move rfl) ?_
      refine s_pu (d := some 29) (v := ((.func (.func 87) #[] #[]))) rfl rfl rfl (r_move rfl) ?_
      refine s_pu (d := some 30) (v := (.pointer l1)) rfl rfl rfl (r_move rfl) ?_
      obtain ⟨x11, e12, H⟩ := H
      obtain ⟨x13, e14, H⟩ := H
      refine s_rd (d := some 31) (v := (.agg #[(.int .i64 x11), (.int .i64 x13)])) rfl rfl rfl (fun dr => r_loadN Try.isAgg43 Try.sizeOf43 (vs := [(.int .i64 x11), (.int .i64 x13)]) rfl rfl ⟨e12, e14, trivial⟩) ?_
      refine s_pu (d := some 32) (v := (.pointer vr4)) rfl rfl rfl (r_move rfl) ?_
      obtain ⟨p15, e16, H⟩ := H
      refine s_pu (d := some 33) (v := (.pointer (some p15))) rfl rfl rfl (r_nilCheck rfl e16) ?_
      refine s_pu (d := some 34) (v := (.pointer (some (Addr.add p15 5)))) rfl rfl rfl (r_fieldAddr Try.underlying119 Try.sizeOf36 rfl rfl rfl) ?_
      obtain ⟨x17, e18, H⟩ := H
      refine s_rd (d := some 35) (v := (.pointer x17)) rfl rfl rfl (fun dr => r_load1 Try.isAgg36 rfl e18) ?_
      refine s_pu (d := some 37) (v := (.pointer vr4)) rfl rfl rfl (r_move rfl) ?_
      obtain ⟨p19, e20, H⟩ := H
      refine s_pu (d := some 38) (v := (.pointer (some p19))) rfl rfl rfl (r_nilCheck rfl e20) ?_
      refine s_pu (d := some 39) (v := (.pointer (some (Addr.add p19 0)))) rfl rfl rfl (r_fieldAddr Try.underlying119 Try.sizeOf43 rfl rfl rfl) ?_
      obtain ⟨x21, e22, H⟩ := H
      obtain ⟨x23, e24, H⟩ := H
      refine s_rd (d := some 40) (v := (.agg #[(.int .i64 x21), (.int .i64 x23)])) rfl rfl rfl (fun dr => r_loadN Try.isAgg43 Try.sizeOf43 (vs := [(.int .i64 x21), (.int .i64 x23)]) rfl rfl ⟨e22, e24, trivial⟩) ?_
      refine s_pu (d := some 41) (v := (.pointer vr4)) rfl rfl rfl (r_move rfl) ?_
      obtain ⟨p25, e26, H⟩ := H
      refine s_pu (d := some 42) (v := (.pointer (some p25))) rfl rfl rfl (r_nilCheck rfl e26) ?_
      refine s_pu (d := some 43) (v := (.pointer (some (Addr.add p25 6)))) rfl rfl rfl (r_fieldAddr Try.underlying119 Try.sizeOf36 rfl rfl rfl) ?_
      obtain ⟨x27, e28, H⟩ := H
      refine s_rd (d := some 44) (v := (.pointer x27)) rfl rfl rfl (fun dr => r_load1 Try.isAgg36 rfl e28) ?_
      refine s_ef (d := some 36) rfl rfl rfl (fun dr => r_callV rfl rfl H) ?_ trivial
      rintro _ h3 ⟨y29, rfl, H⟩
      obtain ⟨e30, H⟩ := H
      obtain ⟨e31, H⟩ := H
      obtain ⟨e32, H⟩ := H
      refine ⟨⟨(.inl ⟨rfl, fun dr => r_load1 Try.isAgg36 rfl e30⟩), (.inl ⟨rfl, fun dr => r_loadN Try.isAgg43 Try.sizeOf43 (vs := [(.int .i64 x21), (.int .i64 x23)]) rfl rfl ⟨e31, e32, trivial⟩⟩), trivial, trivial, trivial⟩, ?_⟩
      refine s_ef (d := some 45) rfl rfl rfl (fun dr => r_callV rfl rfl H) ?_ trivial
      rintro _ h4 ⟨y33, rfl, H⟩
      refine ⟨⟨trivial, trivial, trivial, trivial, trivial⟩, ?_⟩
      refine s_pu (d := some 6) (v := (.pointer y33)) rfl rfl rfl (r_assign rfl) ?_
      refine s_fin ?_
      show W _ _ _ _ _ _ _ _
      refine W_ret ?_
      exact ⟨[(.pointer y33)], ⟨_, _, rfl, rfl, rfl⟩, y33, rfl, H⟩
    · have H := H.2 g179
      refine W_seq ?_
      refine W_region (.pu 0 (.pu 1 (.ef 2 [] (.pu 3 .fin) .no))) rfl rfl ?_
      refine s_pu (d := some 47) (v := (.pointer vr4)) rfl rfl rfl (r_move rfl) ?_
      refine s_pu (d := some 48) (v := (.pointer l1)) rfl rfl rfl (r_move rfl) ?_
      refine s_ef (d := some 49) rfl rfl rfl (fun dr => r_call Try.call85 rfl rfl H) ?_ trivial
      rintro _ h5 ⟨y36, rfl, H⟩
      refine ⟨trivial, ?_⟩
      refine s_pu (d := some 46) (v := (.bool y36)) rfl rfl rfl (r_assign rfl) ?_
      refine s_fin ?_
      show W _ _ _ _ _ _ _ _
      refine W_if y36 rfl (fun g178 => ?_) (fun g178 => ?_)
      · have H := H.1 g178
        refine W_seq ?_
        refine W_region (.pu 0 (.pu 1 (.pu 2 (.rl 3 (.pu 4 .fin))))) rfl rfl ?_
        refine s_pu (d := some 50) (v := (.pointer vr4)) rfl rfl rfl (r_move rfl) ?_
        obtain ⟨p37, e38, H⟩ := H
        refine s_pu (d := some 51) (v := (.pointer (some p37))) rfl rfl rfl (r_nilCheck rfl e38) ?_
        refine s_pu (d := some 52) (v := (.pointer (some (Addr.add p37 5)))) rfl rfl rfl (r_fieldAddr Try.underlying119 Try.sizeOf36 rfl rfl rfl) ?_
        obtain ⟨x39, e40, H⟩ := H
        refine s_rl (d := some 53) (v := (.pointer x39)) rfl rfl rfl (fun dr => r_load1 Try.isAgg36 rfl e40) ?_
        refine s_pu (d := some 8) (v := (.pointer x39)) rfl rfl rfl (r_assign rfl) ?_
        refine s_fin ?_
        show W _ _ _ _ _ _ _ _
        refine W_seq ?_
        refine W_draw [0, 0, 0, 0, 0, 16, 48, 112, 254, 0, 512, 1536, 3584, 0, 0, 16384, 49152, 114688, 0, 262144, 786432, 1835008, 0, 4194304, 12582912, 29360128, 67101182, 134217727, 268435455] (.pu 0 (.pu 1 (.pu 2 (.rd 3 (.pu 4 (.pu 5 (.pu 6 (.rd 7 (.pu 9 (.pu 10 (.pu 11 (.rd 12 (.pu 13 (.pu 14 (.pu 15 (.pu 16 (.rd 17 (.pu 18 (.pu 19 (.pu 20 (.rd 21 (.pu 22 (.pu 23 (.pu 24 (.rd 25 (.ef 8 [3, 7] (.ef 26 [3, 7, 17, 21, 25] (.ef 27 [3, 7, 12, 17, 21, 25] (.pu 28 .fin) .no) .no) .no)))))))))))))))))))))))))) (by kernel_rfl) (by kernel_rfl) ?_
        refine s_pu (d := some 54) (v := ((.func (.func 87) #[] #[]))) rfl rfl rfl (r_move rfl) ?_
        refine s_pu (d := some 55) (v := ((.func (.func 87) #[] #[]))) rfl rfl rfl (r_move rfl) ?_
        refine s_pu (d := some 56) (v := (.pointer l1)) rfl rfl rfl (r_move rfl) ?_
        obtain ⟨x41, e42, H⟩ := H
        obtain ⟨x43, e44, H⟩ := H
        refine s_rd (d := some 57) (v := (.agg #[(.int .i64 x41), (.int .i64 x43)])) rfl rfl rfl (fun dr => r_loadN Try.isAgg43 Try.sizeOf43 (vs := [(.int .i64 x41), (.int .i64 x43)]) rfl rfl ⟨e42, e44, trivial⟩) ?_
        refine s_pu (d := some 58) (v := (.pointer x39)) rfl rfl rfl (r_move rfl) ?_
        obtain ⟨p45, e46, H⟩ := H
        refine s_pu (d := some 59) (v := (.pointer (some p45))) rfl rfl rfl (r_nilCheck rfl e46) ?_
        refine s_pu (d := some 60) (v := (.pointer (some (Addr.add p45 5)))) rfl rfl rfl (r_fieldAddr Try.underlying119 Try.sizeOf36 rfl rfl rfl) ?_
        obtain ⟨x47, e48, H⟩ := H
        refine s_rd (d := some 61) (v := (.pointer x47)) rfl rfl rfl (fun dr => r_load1 Try.isAgg36 rfl e48) ?_
        refine s_pu (d := some 63) (v := (.pointer x39)) rfl rfl rfl (r_move rfl) ?_
        obtain ⟨p49, e50, H⟩ := H
        refine s_pu (d := some 64) (v := (.pointer (some p49))) rfl rfl rfl (r_nilCheck rfl e50) ?_
        refine s_pu (d := some 65) (v := (.pointer (some (Addr.add p49 0)))) rfl rfl rfl (r_fieldAddr Try.underlying119 Try.sizeOf43 rfl rfl rfl) ?_
        obtain ⟨x51, e52, H⟩ := H
        obtain ⟨x53, e54, H⟩ := H
        refine s_rd (d := some 66) (v := (.agg #[(.int .i64 x51), (.int .i64 x53)])) rfl rfl rfl (fun dr => r_loadN Try.isAgg43 Try.sizeOf43 (vs := [(.int .i64 x51), (.int .i64 x53)]) rfl rfl ⟨e52, e54, trivial⟩) ?_
        refine s_pu (d := some 67) (v := ((.func (.func 87) #[] #[]))) rfl rfl rfl (r_move rfl) ?_
        refine s_pu (d := some 68) (v := (.pointer x39)) rfl rfl rfl (r_move rfl) ?_
        obtain ⟨p55, e56, H⟩ := H
        refine s_pu (d := some 69) (v := (.pointer (some p55))) rfl rfl rfl (r_nilCheck rfl e56) ?_
        refine s_pu (d := some 70) (v := (.pointer (some (Addr.add p55 6)))) rfl rfl rfl (r_fieldAddr Try.underlying119 Try.sizeOf36 rfl rfl rfl) ?_
        obtain ⟨x57, e58, H⟩ := H
        refine s_rd (d := some 71) (v := (.pointer x57)) rfl rfl rfl (fun dr => r_load1 Try.isAgg36 rfl e58) ?_
        refine s_pu (d := some 72) (v := (.pointer vr4)) rfl rfl rfl (r_move rfl) ?_
        obtain ⟨p59, e60, H⟩ := H
        refine s_pu (d := some 73) (v := (.pointer (some p59))) rfl rfl rfl (r_nilCheck rfl e60) ?_
        refine s_pu (d := some 74) (v := (.pointer (some (Addr.add p59 0)))) rfl rfl rfl (r_fieldAddr Try.underlying119 Try.sizeOf43 rfl rfl rfl) ?_
        obtain ⟨x61, e62, H⟩ := H
        obtain ⟨x63, e64, H⟩ := H
        refine s_rd (d := some 75) (v := (.agg #[(.int .i64 x61), (.int .i64 x63)])) rfl rfl rfl (fun dr => r_loadN Try.isAgg43 Try.sizeOf43 (vs := [(.int .i64 x61), (.int .i64 x63)]) rfl rfl ⟨e62, e64, trivial⟩) ?_
        refine s_pu (d := some 76) (v := (.pointer vr4)) rfl rfl rfl (r_move rfl) ?_
        obtain ⟨p65, e66, H⟩ := H
        refine s_pu (d := some 77) (v := (.pointer (some p65))) rfl rfl rfl (r_nilCheck rfl e66) ?_
        refine s_pu (d := some 78) (v := (.pointer (some (Addr.add p65 6)))) rfl rfl rfl (r_fieldAddr Try.underlying119 Try.sizeOf36 rfl rfl rfl) ?_
        obtain ⟨x67, e68, H⟩ := H
        refine s_rd (d := some 79) (v := (.pointer x67)) rfl rfl rfl (fun dr => r_load1 Try.isAgg36 rfl e68) ?_
        refine s_ef (d := some 62) rfl rfl rfl (fun dr => r_callV rfl rfl H) ?_ trivial
        rintro _ h6 ⟨y69, rfl, H⟩
        obtain ⟨e70, H⟩ := H
        obtain ⟨e71, H⟩ := H
        obtain ⟨e72, H⟩ := H
        obtain ⟨e73, H⟩ := H
        obtain ⟨e74, H⟩ := H
        obtain ⟨e75, H⟩ := H
        refine ⟨⟨(.inl ⟨rfl, fun dr => r_load1 Try.isAgg36 rfl e70⟩), (.inl ⟨rfl, fun dr => r_loadN Try.isAgg43 Try.sizeOf43 (vs := [(.int .i64 x61), (.int .i64 x63)]) rfl rfl ⟨e71, e72, trivial⟩⟩), (.inl ⟨rfl, fun dr => r_load1 Try.isAgg36 rfl e73⟩), (.inl ⟨rfl, fun dr => r_loadN Try.isAgg43 Try.sizeOf43 (vs := [(.int .i64 x51), (.int .i64 x53)]) rfl rfl ⟨e74, e75, trivial⟩⟩), trivial, trivial, trivial⟩, ?_⟩
        refine s_ef (d := some 80) rfl rfl rfl (fun dr => r_callV rfl rfl H) ?_ trivial
        rintro _ h7 ⟨y76, rfl, H⟩
        obtain ⟨e77, H⟩ := H
        obtain ⟨e78, H⟩ := H
        refine ⟨⟨trivial, trivial, trivial, (.inl ⟨rfl, fun dr => r_loadN Try.isAgg43 Try.sizeOf43 (vs := [(.int .i64 x51), (.int .i64 x53)]) rfl rfl ⟨e77, e78, trivial⟩⟩), trivial, trivial, trivial⟩, ?_⟩
        refine s_ef (d := some 81) rfl rfl rfl (fun dr => r_callV rfl rfl H) ?_ trivial
        rintro _ h8 ⟨y79, rfl, H⟩
        refine ⟨⟨trivial, trivial, trivial, trivial, trivial, trivial, trivial⟩, ?_⟩
        refine s_pu (d := some 6) (v := (.pointer y79)) rfl rfl rfl (r_assign rfl) ?_
        refine s_fin ?_
        show W _ _ _ _ _ _ _ _
        refine W_ret ?_
        exact ⟨[(.pointer y79)], ⟨_, _, rfl, rfl, rfl⟩, y79, rfl, H⟩
      · have H := H.2 g178
        refine W_seq ?_
        refine W_set ?_
        intro N85 eN85
        have H := H (fun (x83 : Bool) (h9 : Heap) => ∀ b, N85 [] (mkE [(0, (.pointer l1)), (2, (.pointer vr4)), (4, (.pointer (some p5))), (7, ((.func (.func 87) #[] #[]))), (82, (.bool x83))] b) h9) (by
          intro x83 h9 H b
          rw [eN85]
          show W _ _ _ _ _ _ _ _
          refine W_if x83 rfl (fun g164 => ?_) (fun g164 => ?_)
          · have H := H.1 g164
            refine W_seq ?_
            refine W_draw [0, 0, 2, 6, 14, 0, 32, 96, 224, 0, 0, 1024, 3072, 7168, 0, 0, 65024, 131071, 262143] (.pu 0 (.pu 1 (.pu 2 (.pu 3 (.rd 4 (.pu 5 (.pu 6 (.pu 7 (.rd 8 (.pu 9 (.pu 10 (.pu 11 (.pu 12 (.rd 13 (.rd 14 (.pu 15 (.ef 16 [13, 14] (.ef 17 [4, 8, 13, 14] (.pu 18 .fin) .no) .no))))))))))))))))) (by kernel_rfl) (by kernel_rfl) ?_
            refine s_pu (d := some 100) (v := ((.func (.func 87) #[] #[]))) rfl rfl rfl (r_move rfl) ?_
            refine s_pu (d := some 101) (v := (.pointer l1)) rfl rfl rfl (r_move rfl) ?_
            obtain ⟨p86, e87, H⟩ := H
            refine s_pu (d := some 102) (v := (.pointer (some p86))) rfl rfl rfl (r_nilCheck rfl e87) ?_
            refine s_pu (d := some 103) (v := (.pointer (some (Addr.add p86 5)))) rfl rfl rfl (r_fieldAddr Try.underlying119 Try.sizeOf36 rfl rfl rfl) ?_
            obtain ⟨x88, e89, H⟩ := H
            refine s_rd (d := some 104) (v := (.pointer x88)) rfl rfl rfl (fun dr => r_load1 Try.isAgg36 rfl e89) ?_
            refine s_pu (d := some 105) (v := (.pointer l1)) rfl rfl rfl (r_move rfl) ?_
            obtain ⟨p90, e91, H⟩ := H
            refine s_pu (d := some 106) (v := (.pointer (some p90))) rfl rfl rfl (r_nilCheck rfl e91) ?_
            refine s_pu (d := some 107) (v := (.pointer (some (Addr.add p90 0)))) rfl rfl rfl (r_fieldAddr Try.underlying119 Try.sizeOf43 rfl rfl rfl) ?_
            obtain ⟨x92, e93, H⟩ := H
            obtain ⟨x94, e95, H⟩ := H
            refine s_rd (d := some 108) (v := (.agg #[(.int .i64 x92), (.int .i64 x94)])) rfl rfl rfl (fun dr => r_loadN Try.isAgg43 Try.sizeOf43 (vs := [(.int .i64 x92), (.int .i64 x94)]) rfl rfl ⟨e93, e95, trivial⟩) ?_
            refine s_pu (d := some 109) (v := ((.func (.func 87) #[] #[]))) rfl rfl rfl (r_move rfl) ?_
            refine s_pu (d := some 110) (v := (.pointer l1)) rfl rfl rfl (r_move rfl) ?_
            obtain ⟨p96, e97, H⟩ := H
            refine s_pu (d := some 111) (v := (.pointer (some p96))) rfl rfl rfl (r_nilCheck rfl e97) ?_
            refine s_pu (d := some 112) (v := (.pointer (some (Addr.add p96 6)))) rfl rfl rfl (r_fieldAddr Try.underlying119 Try.sizeOf36 rfl rfl rfl) ?_
            obtain ⟨x98, e99, H⟩ := H
            refine s_rd (d := some 113) (v := (.pointer x98)) rfl rfl rfl (fun dr => r_load1 Try.isAgg36 rfl e99) ?_
            obtain ⟨x100, e101, H⟩ := H
            obtain ⟨x102, e103, H⟩ := H
            refine s_rd (d := some 114) (v := (.agg #[(.int .i64 x100), (.int .i64 x102)])) rfl rfl rfl (fun dr => r_loadN Try.isAgg43 Try.sizeOf43 (vs := [(.int .i64 x100), (.int .i64 x102)]) rfl rfl ⟨e101, e103, trivial⟩) ?_
            refine s_pu (d := some 115) (v := (.pointer vr4)) rfl rfl rfl (r_move rfl) ?_
            refine s_ef (d := some 116) rfl rfl rfl (fun dr => r_callV rfl rfl H) ?_ trivial
            rintro _ h10 ⟨y104, rfl, H⟩
            obtain ⟨e105, H⟩ := H
            obtain ⟨e106, H⟩ := H
            obtain ⟨e107, H⟩ := H
            refine ⟨⟨trivial, trivial, (.inl ⟨rfl, fun dr => r_loadN Try.isAgg43 Try.sizeOf43 (vs := [(.int .i64 x92), (.int .i64 x94)]) rfl rfl ⟨e105, e106, trivial⟩⟩), (.inl ⟨rfl, fun dr => r_load1 Try.isAgg36 rfl e107⟩), trivial⟩, ?_⟩
            refine s_ef (d := some 117) rfl rfl rfl (fun dr => r_callV rfl rfl H) ?_ trivial
            rintro _ h11 ⟨y108, rfl, H⟩
            refine ⟨⟨trivial, trivial, trivial, trivial, trivial⟩, ?_⟩
            refine s_pu (d := some 6) (v := (.pointer y108)) rfl rfl rfl (r_assign rfl) ?_
            refine s_fin ?_
            show W _ _ _ _ _ _ _ _
            refine W_ret ?_
            exact ⟨[(.pointer y108)], ⟨_, _, rfl, rfl, rfl⟩, y108, rfl, H⟩
          · have H := H.2 g164
            refine W_seq ?_
            refine W_region (.pu 0 (.pu 1 (.ef 2 [] (.pu 3 .fin) .no))) rfl rfl ?_
            refine s_pu (d := some 119) (v := (.pointer l1)) rfl rfl rfl (r_move rfl) ?_
            refine s_pu (d := some 120) (v := (.pointer vr4)) rfl rfl rfl (r_move rfl) ?_
            refine s_ef (d := some 121) rfl rfl rfl (fun dr => r_call Try.call85 rfl rfl H) ?_ trivial
            rintro _ h12 ⟨y111, rfl, H⟩
            refine ⟨trivial, ?_⟩
            refine s_pu (d := some 118) (v := (.bool y111)) rfl rfl rfl (r_assign rfl) ?_
            refine s_fin ?_
            show W _ _ _ _ _ _ _ _
            refine W_if y111 rfl (fun g163 => ?_) (fun g163 => ?_)
            · have H := H.1 g163
              refine W_seq ?_
              refine W_region (.pu 0 (.pu 1 (.pu 2 (.rl 3 (.pu 4 .fin))))) rfl rfl ?_
              refine s_pu (d := some 122) (v := (.pointer l1)) rfl rfl rfl (r_move rfl) ?_
              obtain ⟨p112, e113, H⟩ := H
              refine s_pu (d := some 123) (v := (.pointer (some p112))) rfl rfl rfl (r_nilCheck rfl e113) ?_
              refine s_pu (d := some 124) (v := (.pointer (some (Addr.add p112 6)))) rfl rfl rfl (r_fieldAddr Try.underlying119 Try.sizeOf36 rfl rfl rfl) ?_
              obtain ⟨x114, e115, H⟩ := H
              refine s_rl (d := some 125) (v := (.pointer x114)) rfl rfl rfl (fun dr => r_load1 Try.isAgg36 rfl e115) ?_
              refine s_pu (d := some 9) (v := (.pointer x114)) rfl rfl rfl (r_assign rfl) ?_
              refine s_fin ?_
              show W _ _ _ _ _ _ _ _
              refine W_seq ?_
              refine W_draw [0, 0, 0, 4, 12, 28, 0, 64, 192, 448, 0, 1024, 3072, 7168, 16382, 0, 32768, 98304, 229376, 0, 0, 1048576, 3145728, 7340032, 0, 0, 66617342, 134217727, 268435455] (.pu 0 (.pu 1 (.pu 2 (.pu 3 (.pu 4 (.rd 5 (.pu 6 (.pu 7 (.pu 8 (.rd 9 (.pu 10 (.pu 11 (.pu 12 (.rd 13 (.pu 15 (.pu 16 (.pu 17 (.rd 18 (.pu 19 (.pu 20 (.pu 21 (.pu 22 (.rd 23 (.rd 24 (.pu 25 (.ef 14 [5, 9, 13] (.ef 26 [5, 9, 13, 23, 24] (.ef 27 [5, 9, 13, 18, 23, 24] (.pu 28 .fin) .no) .no) .no)))))))))))))))))))))))))) (by kernel_rfl) (by kernel_rfl) ?_
              refine s_pu (d := some 126) (v := ((.func (.func 87) #[] #[]))) rfl rfl rfl (r_move rfl) ?_
              refine s_pu (d := some 127) (v := ((.func (.func 87) #[] #[]))) rfl rfl rfl (r_move rfl) ?_
              refine s_pu (d := some 128) (v := (.pointer l1)) rfl rfl rfl (r_move rfl) ?_
              obtain ⟨p116, e117, H⟩ := H
              refine s_pu (d := some 129) (v := (.pointer (some p116))) rfl rfl rfl (r_nilCheck rfl e117) ?_
              refine s_pu (d := some 130) (v := (.pointer (some (Addr.add p116 5)))) rfl rfl rfl (r_fieldAddr Try.underlying119 Try.sizeOf36 rfl rfl rfl) ?_
              obtain ⟨x118, e119, H⟩ := H
              refine s_rd (d := some 131) (v := (.pointer x118)) rfl rfl rfl (fun dr => r_load1 Try.isAgg36 rfl e119) ?_
              refine s_pu (d := some 132) (v := (.pointer l1)) rfl rfl rfl (r_move rfl) ?_
              obtain ⟨p120, e121, H⟩ := H
              refine s_pu (d := some 133) (v := (.pointer (some p120))) rfl rfl rfl (r_nilCheck rfl e121) ?_
              refine s_pu (d := some 134) (v := (.pointer (some (Addr.add p120 0)))) rfl rfl rfl (r_fieldAddr Try.underlying119 Try.sizeOf43 rfl rfl rfl) ?_
              obtain ⟨x122, e123, H⟩ := H
              obtain ⟨x124, e125, H⟩ := H
              refine s_rd (d := some 135) (v := (.agg #[(.int .i64 x122), (.int .i64 x124)])) rfl rfl rfl (fun dr => r_loadN Try.isAgg43 Try.sizeOf43 (vs := [(.int .i64 x122), (.int .i64 x124)]) rfl rfl ⟨e123, e125, trivial⟩) ?_
              refine s_pu (d := some 136) (v := (.pointer x114)) rfl rfl rfl (r_move rfl) ?_
              obtain ⟨p126, e127, H⟩ := H
              refine s_pu (d := some 137) (v := (.pointer (some p126))) rfl rfl rfl (r_nilCheck rfl e127) ?_
              refine s_pu (d := some 138) (v := (.pointer (some (Addr.add p126 5)))) rfl rfl rfl (r_fieldAddr Try.underlying119 Try.sizeOf36 rfl rfl rfl) ?_
              obtain ⟨x128, e129, H⟩ := H
              refine s_rd (d := some 139) (v := (.pointer x128)) rfl rfl rfl (fun dr => r_load1 Try.isAgg36 rfl e129) ?_
              refine s_pu (d := some 141) (v := (.pointer x114)) rfl rfl rfl (r_move rfl) ?_
              obtain ⟨p130, e131, H⟩ := H
              refine s_pu (d := some 142) (v := (.pointer (some p130))) rfl rfl rfl (r_nilCheck rfl e131) ?_
              refine s_pu (d := some 143) (v := (.pointer (some (Addr.add p130 0)))) rfl rfl rfl (r_fieldAddr Try.underlying119 Try.sizeOf43 rfl rfl rfl) ?_
              obtain ⟨x132, e133, H⟩ := H
              obtain ⟨x134, e135, H⟩ := H
              refine s_rd (d := some 144) (v := (.agg #[(.int .i64 x132), (.int .i64 x134)])) rfl rfl rfl (fun dr => r_loadN Try.isAgg43 Try.sizeOf43 (vs := [(.int .i64 x132), (.int .i64 x134)]) rfl rfl ⟨e133, e135, trivial⟩) ?_
              refine s_pu (d := some 145) (v := ((.func (.func 87) #[] #[]))) rfl rfl rfl (r_move rfl) ?_
              refine s_pu (d := some 146) (v := (.pointer x114)) rfl rfl rfl (r_move rfl) ?_
              obtain ⟨p136, e137, H⟩ := H
              refine s_pu (d := some 147) (v := (.pointer (some p136))) rfl rfl rfl (r_nilCheck rfl e137) ?_
              refine s_pu (d := some 148) (v := (.pointer (some (Addr.add p136 6)))) rfl rfl rfl (r_fieldAddr Try.underlying119 Try.sizeOf36 rfl rfl rfl) ?_
              obtain ⟨x138, e139, H⟩ := H
              refine s_rd (d := some 149) (v := (.pointer x138)) rfl rfl rfl (fun dr => r_load1 Try.isAgg36 rfl e139) ?_
              obtain ⟨x140, e141, H⟩ := H
              obtain ⟨x142, e143, H⟩ := H
              refine s_rd (d := some 150) (v := (.agg #[(.int .i64 x140), (.int .i64 x142)])) rfl rfl rfl (fun dr => r_loadN Try.isAgg43 Try.sizeOf43 (vs := [(.int .i64 x140), (.int .i64 x142)]) rfl rfl ⟨e141, e143, trivial⟩) ?_
              refine s_pu (d := some 151) (v := (.pointer vr4)) rfl rfl rfl (r_move rfl) ?_
              refine s_ef (d := some 140) rfl rfl rfl (fun dr => r_callV rfl rfl H) ?_ trivial
              rintro _ h13 ⟨y144, rfl, H⟩
              obtain ⟨e145, H⟩ := H
              obtain ⟨e146, H⟩ := H
              obtain ⟨e147, H⟩ := H
              obtain ⟨e148, H⟩ := H
              obtain ⟨e149, H⟩ := H
              refine ⟨⟨(.inl ⟨rfl, fun dr => r_loadN Try.isAgg43 Try.sizeOf43 (vs := [(.int .i64 x140), (.int .i64 x142)]) rfl rfl ⟨e145, e146, trivial⟩⟩), (.inl ⟨rfl, fun dr => r_load1 Try.isAgg36 rfl e147⟩), (.inl ⟨rfl, fun dr => r_loadN Try.isAgg43 Try.sizeOf43 (vs := [(.int .i64 x132), (.int .i64 x134)]) rfl rfl ⟨e148, e149, trivial⟩⟩), trivial, trivial, trivial, trivial⟩, ?_⟩
              refine s_ef (d := some 152) rfl rfl rfl (fun dr => r_callV rfl rfl H) ?_ trivial
              rintro _ h14 ⟨y150, rfl, H⟩
              obtain ⟨e151, H⟩ := H
              obtain ⟨e152, H⟩ := H
              refine ⟨⟨trivial, trivial, (.inl ⟨rfl, fun dr => r_loadN Try.isAgg43 Try.sizeOf43 (vs := [(.int .i64 x132), (.int .i64 x134)]) rfl rfl ⟨e151, e152, trivial⟩⟩), trivial, trivial, trivial, trivial⟩, ?_⟩
              refine s_ef (d := some 153) rfl rfl rfl (fun dr => r_callV rfl rfl H) ?_ trivial
              rintro _ h15 ⟨y153, rfl, H⟩
              refine ⟨⟨trivial, trivial, trivial, trivial, trivial, trivial, trivial⟩, ?_⟩
              refine s_pu (d := some 6) (v := (.pointer y153)) rfl rfl rfl (r_assign rfl) ?_
              refine s_fin ?_
              show W _ _ _ _ _ _ _ _
              refine W_ret ?_
              exact ⟨[(.pointer y153)], ⟨_, _, rfl, rfl, rfl⟩, y153, rfl, H⟩
            · have H := H.2 g163
              refine W_skip ?_
              show W _ _ _ _ _ _ _ _
              refine W_seq ?_
              refine W_region (.pu 0 (.pu 1 (.rl 2 (.pu 3 (.ef 4 [] (.pu 5 .fin) .no))))) rfl rfl ?_
              refine s_pu (d := some 154) (v := ((.func (.func 87) #[] #[]))) rfl rfl rfl (r_move rfl) ?_
              refine s_pu (d := some 155) (v := (.pointer l1)) rfl rfl rfl (r_move rfl) ?_
              obtain ⟨x157, e158, H⟩ := H
              obtain ⟨x159, e160, H⟩ := H
              refine s_rl (d := some 156) (v := (.agg #[(.int .i64 x157), (.int .i64 x159)])) rfl rfl rfl (fun dr => r_loadN Try.isAgg43 Try.sizeOf43 (vs := [(.int .i64 x157), (.int .i64 x159)]) rfl rfl ⟨e158, e160, trivial⟩) ?_
              refine s_pu (d := some 157) (v := (.pointer vr4)) rfl rfl rfl (r_move rfl) ?_
              refine s_ef (d := some 158) rfl rfl rfl (fun dr => r_callV rfl rfl H) ?_ trivial
              rintro _ h16 ⟨y161, rfl, H⟩
              refine ⟨trivial, ?_⟩
              refine s_pu (d := some 6) (v := (.pointer y161)) rfl rfl rfl (r_assign rfl) ?_
              refine s_fin ?_
              show W _ _ _ _ _ _ _ _
              refine W_ret ?_
              exact ⟨[(.pointer y161)], ⟨_, _, rfl, rfl, rfl⟩, y161, rfl, H⟩)
        clear eN85
        refine W_draw [0, 0, 3, 7, 15, 31, 63, 127, 255, 15, 527, 1551, 3599, 8191, 16383, 32767, 65535, 131071] (.pu 0 (.pu 1 (.ef 2 [] (.pu 3 (.pu 4 (.pu 5 (.pu 6 (.rd 7 (.pu 9 (.pu 10 (.pu 11 (.rd 12 (.ef 8 [7] (.ef 13 [7, 12] (.pu 14 (.pu 15 (.pu 16 (.pu 17 .fin)))) .no) .no)))))))))) .no))) (by kernel_rfl) (by kernel_rfl) ?_
        refine s_pu (d := some 83) (v := (.pointer l1)) rfl rfl rfl (r_move rfl) ?_
        refine s_pu (d := some 84) (v := (.pointer vr4)) rfl rfl rfl (r_move rfl) ?_
        refine s_ef (d := some 85) rfl rfl rfl (fun dr => r_call Try.call85 rfl rfl H) ?_ trivial
        rintro _ h17 ⟨y165, rfl, H⟩
        refine ⟨trivial, ?_⟩
        refine s_pu (d := some 86) (v := (.bool y165)) rfl rfl rfl (r_move rfl) ?_
        rcases Bool.eq_false_or_eq_true y165 with g166 | g166
        · have H := H.1 g166
          refine s_pu (d := some 87) (v := (.pointer l1)) rfl rfl (wants_yes rfl rfl rfl rfl g166) (r_move rfl) ?_
          obtain ⟨p167, e168, H⟩ := H
          refine s_pu (d := some 88) (v := (.pointer (some p167))) rfl rfl (wants_yes rfl rfl rfl rfl g166) (r_nilCheck rfl e168) ?_
          refine s_pu (d := some 89) (v := (.pointer (some (Addr.add p167 6)))) rfl rfl (wants_yes rfl rfl rfl rfl g166) (r_fieldAddr Try.underlying119 Try.sizeOf36 rfl rfl rfl) ?_
          obtain ⟨x169, e170, H⟩ := H
          refine s_rd (d := some 90) (v := (.pointer x169)) rfl rfl (wants_yes rfl rfl rfl rfl g166) (fun dr => r_load1 Try.isAgg36 rfl e170) ?_
          refine s_pu (d := some 92) (v := (.pointer l1)) rfl rfl (wants_yes rfl rfl rfl rfl g166) (r_move rfl) ?_
          obtain ⟨p171, e172, H⟩ := H
          refine s_pu (d := some 93) (v := (.pointer (some p171))) rfl rfl (wants_yes rfl rfl rfl rfl g166) (r_nilCheck rfl e172) ?_
          refine s_pu (d := some 94) (v := (.pointer (some (Addr.add p171 5)))) rfl rfl (wants_yes rfl rfl rfl rfl g166) (r_fieldAddr Try.underlying119 Try.sizeOf36 rfl rfl rfl) ?_
          obtain ⟨x173, e174, H⟩ := H
          refine s_rd (d := some 95) (v := (.pointer x173)) rfl rfl (wants_yes rfl rfl rfl rfl g166) (fun dr => r_load1 Try.isAgg36 rfl e174) ?_
          refine s_ef (d := some 91) rfl rfl (wants_yes rfl rfl rfl rfl g166) (fun dr => r_call Try.call95 rfl rfl H) ?_ trivial
          rintro _ h18 ⟨y175, rfl, H⟩
          obtain ⟨e176, H⟩ := H
          refine ⟨⟨(.inl ⟨(wants_yes rfl rfl rfl rfl g166), fun dr => r_load1 Try.isAgg36 rfl e176⟩), trivial, trivial⟩, ?_⟩
          refine s_ef (d := some 96) rfl rfl (wants_yes rfl rfl rfl rfl g166) (fun dr => r_call Try.call95 rfl rfl H) ?_ trivial
          rintro _ h19 ⟨y177, rfl, H⟩
          refine ⟨⟨trivial, trivial, trivial⟩, ?_⟩
          refine s_pu (d := some 97) (v := (.int .i64 (w64 (2 * y177)))) rfl rfl (wants_yes rfl rfl rfl rfl g166) (r_mul rfl rfl) ?_
          refine s_pu (d := some 98) (v := (.bool (decide (y175 < (w64 (2 * y177)))))) rfl rfl (wants_yes rfl rfl rfl rfl g166) (r_lss rfl rfl) ?_
          refine s_pu (d := some 99) (v := (.bool (decide (y175 < (w64 (2 * y177)))))) rfl rfl rfl (r_pick1 rfl g166 rfl) ?_
          refine s_pu (d := some 82) (v := (.bool (decide (y175 < (w64 (2 * y177)))))) rfl rfl rfl (r_assign rfl) ?_
          refine s_fin ?_
          exact N_mk (l := [(0, (.pointer l1)), (2, (.pointer vr4)), (4, (.pointer (some p5))), (7, ((.func (.func 87) #[] #[]))), (82, (.bool (decide (y175 < (w64 (2 * y177))))))]) H ⟨rfl, rfl, rfl, rfl, rfl, trivial⟩
        · have H := H.2 g166
          refine s_sk (d := some 87) rfl rfl (wants_no rfl rfl rfl rfl g166) ?_
          refine s_sk (d := some 88) rfl rfl (wants_no rfl rfl rfl rfl g166) ?_
          refine s_sk (d := some 89) rfl rfl (wants_no rfl rfl rfl rfl g166) ?_
          refine s_skd (d := some 90) rfl rfl (wants_no rfl rfl rfl rfl g166) ?_
          refine s_sk (d := some 92) rfl rfl (wants_no rfl rfl rfl rfl g166) ?_
          refine s_sk (d := some 93) rfl rfl (wants_no rfl rfl rfl rfl g166) ?_
          refine s_sk (d := some 94) rfl rfl (wants_no rfl rfl rfl rfl g166) ?_
          refine s_skd (d := some 95) rfl rfl (wants_no rfl rfl rfl rfl g166) ?_
          refine s_skf (d := some 91) rfl rfl (wants_no rfl rfl rfl rfl g166) ⟨(.inr ⟨wants_no rfl rfl rfl rfl g166, rfl⟩), trivial, trivial⟩ ?_ trivial
          refine s_skf (d := some 96) rfl rfl (wants_no rfl rfl rfl rfl g166) ⟨trivial, trivial, trivial⟩ ?_ trivial
          refine s_sk (d := some 97) rfl rfl (wants_no rfl rfl rfl rfl g166) ?_
          refine s_sk (d := some 98) rfl rfl (wants_no rfl rfl rfl rfl g166) ?_
          refine s_pu (d := some 99) (v := (.bool false)) rfl rfl rfl (r_pick0 rfl g166 rfl) ?_
          refine s_pu (d := some 82) (v := (.bool false)) rfl rfl rfl (r_assign rfl) ?_
          refine s_fin ?_
          exact N_mk (l := [(0, (.pointer l1)), (2, (.pointer vr4)), (4, (.pointer (some p5))), (7, ((.func (.func 87) #[] #[]))), (82, (.bool false))]) H ⟨rfl, rfl, rfl, rfl, rfl, trivial⟩)
  clear eN10
  refine W_draw [0, 0, 3, 7, 15, 31, 63, 127, 255, 15, 527, 1551, 3599, 8191, 16383, 32767, 65535, 131071] (.pu 0 (.pu 1 (.ef 2 [] (.pu 3 (.pu 4 (.pu 5 (.pu 6 (.rd 7 (.pu 9 (.pu 10 (.pu 11 (.rd 12 (.ef 8 [7] (.ef 13 [7, 12] (.pu 14 (.pu 15 (.pu 16 (.pu 17 .fin)))) .no) .no)))))))))) .no))) (by kernel_rfl) (by kernel_rfl) ?_
  refine s_pu (d := some 11) (v := (.pointer vr4)) rfl rfl rfl (r_move rfl) ?_
  refine s_pu (d := some 12) (v := (.pointer l1)) rfl rfl rfl (r_move rfl) ?_
  refine s_ef (d := some 13) rfl rfl rfl (fun dr => r_call Try.call85 rfl rfl H) ?_ trivial
  rintro _ h20 ⟨y180, rfl, H⟩
  refine ⟨trivial, ?_⟩
  refine s_pu (d := some 14) (v := (.bool y180)) rfl rfl rfl (r_move rfl) ?_
  rcases Bool.eq_false_or_eq_true y180 with g181 | g181
  · have H := H.1 g181
    refine s_pu (d := some 15) (v := (.pointer vr4)) rfl rfl (wants_yes rfl rfl rfl rfl g181) (r_move rfl) ?_
    obtain ⟨p182, e183, H⟩ := H
    refine s_pu (d := some 16) (v := (.pointer (some p182))) rfl rfl (wants_yes rfl rfl rfl rfl g181) (r_nilCheck rfl e183) ?_
    refine s_pu (d := some 17) (v := (.pointer (some (Addr.add p182 5)))) rfl rfl (wants_yes rfl rfl rfl rfl g181) (r_fieldAddr Try.underlying119 Try.sizeOf36 rfl rfl rfl) ?_
    obtain ⟨x184, e185, H⟩ := H
    refine s_rd (d := some 18) (v := (.pointer x184)) rfl rfl (wants_yes rfl rfl rfl rfl g181) (fun dr => r_load1 Try.isAgg36 rfl e185) ?_
    refine s_pu (d := some 20) (v := (.pointer vr4)) rfl rfl (wants_yes rfl rfl rfl rfl g181) (r_move rfl) ?_
    obtain ⟨p186, e187, H⟩ := H
    refine s_pu (d := some 21) (v := (.pointer (some p186))) rfl rfl (wants_yes rfl rfl rfl rfl g181) (r_nilCheck rfl e187) ?_
    refine s_pu (d := some 22) (v := (.pointer (some (Addr.add p186 6)))) rfl rfl (wants_yes rfl rfl rfl rfl g181) (r_fieldAddr Try.underlying119 Try.sizeOf36 rfl rfl rfl) ?_
    obtain ⟨x188, e189, H⟩ := H
    refine s_rd (d := some 23) (v := (.pointer x188)) rfl rfl (wants_yes rfl rfl rfl rfl g181) (fun dr => r_load1 Try.isAgg36 rfl e189) ?_
    refine s_ef (d := some 19) rfl rfl (wants_yes rfl rfl rfl rfl g181) (fun dr => r_call Try.call95 rfl rfl H) ?_ trivial
    rintro _ h21 ⟨y190, rfl, H⟩
    obtain ⟨e191, H⟩ := H
    refine ⟨⟨(.inl ⟨(wants_yes rfl rfl rfl rfl g181), fun dr => r_load1 Try.isAgg36 rfl e191⟩), trivial, trivial⟩, ?_⟩
    refine s_ef (d := some 24) rfl rfl (wants_yes rfl rfl rfl rfl g181) (fun dr => r_call Try.call95 rfl rfl H) ?_ trivial
    rintro _ h22 ⟨y192, rfl, H⟩
    refine ⟨⟨trivial, trivial, trivial⟩, ?_⟩
    refine s_pu (d := some 25) (v := (.int .i64 (w64 (2 * y192)))) rfl rfl (wants_yes rfl rfl rfl rfl g181) (r_mul rfl rfl) ?_
    refine s_pu (d := some 26) (v := (.bool (decide (y190 < (w64 (2 * y192)))))) rfl rfl (wants_yes rfl rfl rfl rfl g181) (r_lss rfl rfl) ?_
    refine s_pu (d := some 27) (v := (.bool (decide (y190 < (w64 (2 * y192)))))) rfl rfl rfl (r_pick1 rfl g181 rfl) ?_
    refine s_pu (d := some 10) (v := (.bool (decide (y190 < (w64 (2 * y192)))))) rfl rfl rfl (r_assign rfl) ?_
    refine s_fin ?_
    exact N_mk (l := [(0, (.pointer l1)), (2, (.pointer vr4)), (4, (.pointer (some p5))), (7, ((.func (.func 87) #[] #[]))), (10, (.bool (decide (y190 < (w64 (2 * y192))))))]) H ⟨rfl, rfl, rfl, rfl, rfl, trivial⟩
  · have H := H.2 g181
    refine s_sk (d := some 15) rfl rfl (wants_no rfl rfl rfl rfl g181) ?_
    refine s_sk (d := some 16) rfl rfl (wants_no rfl rfl rfl rfl g181) ?_
    refine s_sk (d := some 17) rfl rfl (wants_no rfl rfl rfl rfl g181) ?_
    refine s_skd (d := some 18) rfl rfl (wants_no rfl rfl rfl rfl g181) ?_
    refine s_sk (d := some 20) rfl rfl (wants_no rfl rfl rfl rfl g181) ?_
    refine s_sk (d := some 21) rfl rfl (wants_no rfl rfl rfl rfl g181) ?_
    refine s_sk (d := some 22) rfl rfl (wants_no rfl rfl rfl rfl g181) ?_
    refine s_skd (d := some 23) rfl rfl (wants_no rfl rfl rfl rfl g181) ?_
    refine s_skf (d := some 19) rfl rfl (wants_no rfl rfl rfl rfl g181) ⟨(.inr ⟨wants_no rfl rfl rfl rfl g181, rfl⟩), trivial, trivial⟩ ?_ trivial
    refine s_skf (d := some 24) rfl rfl (wants_no rfl rfl rfl rfl g181) ⟨trivial, trivial, trivial⟩ ?_ trivial
    refine s_sk (d := some 25) rfl rfl (wants_no rfl rfl rfl rfl g181) ?_
    refine s_sk (d := some 26) rfl rfl (wants_no rfl rfl rfl rfl g181) ?_
    refine s_pu (d := some 27) (v := (.bool false)) rfl rfl rfl (r_pick0 rfl g181 rfl) ?_
    refine s_pu (d := some 10) (v := (.bool false)) rfl rfl rfl (r_assign rfl) ?_
    refine s_fin ?_
    exact N_mk (l := [(0, (.pointer l1)), (2, (.pointer vr4)), (4, (.pointer (some p5))), (7, ((.func (.func 87) #[] #[]))), (10, (.bool false))]) H ⟨rfl, rfl, rfl, rfl, rfl, trivial⟩

/-! ### finger_link_api_Item_prio_top_prio_tops -/

def finger_link_api_Item_prio_top_prio_tops_F (r : World) (l1 : Option Addr) (v2 : Int) (v3 : Int) (vr4 : Option Addr) (h : Heap) (R : Option Addr → Heap → Prop) : Prop :=
  New h (.cells #[(.int .i64 v2), (.int .i64 v3)] 43) fun p5 h1 =>
  finger_heavy_api_Item_prio_top r vr4 l1 h1 fun y8 h2 =>
  Br y8 (
    LdI h2 (Addr.add p5 0) fun x9 =>
    LdI h2 (Addr.add p5 1) fun x11 =>
    Ck vr4 fun p13 =>
    LdP h2 (Addr.add p13 5) fun x15 =>
    Ck vr4 fun p17 =>
    LdI h2 (Addr.add (Addr.add p17 0) 0) fun x19 =>
    LdI h2 (Addr.add (Addr.add p17 0) 1) fun x21 =>
    Ck vr4 fun p23 =>
    LdP h2 (Addr.add p23 6) fun x25 =>
    finger_link_api_Item_prio_top_prio_tops r l1 x9 x11 x15 h2 fun y27 h3 =>
    (hcell h3 (Addr.add p23 6) = some (.pointer x25)) ∧
    (hcell h3 (Addr.add (Addr.add p17 0) 0) = some (.int .i64 x19)) ∧
    (hcell h3 (Addr.add (Addr.add p17 0) 1) = some (.int .i64 x21)) ∧
    finger_even_api_Item_prio_top_prio_tops r y27 x19 x21 x25 h3 fun y31 h4 =>
    R y31 h4) (
    finger_heavy_api_Item_prio_top r l1 vr4 h2 fun y32 h5 =>
    Br y32 (
      Ck l1 fun p33 =>
      LdP h5 (Addr.add p33 5) fun x35 =>
      Ck l1 fun p37 =>
      LdI h5 (Addr.add (Addr.add p37 0) 0) fun x39 =>
      LdI h5 (Addr.add (Addr.add p37 0) 1) fun x41 =>
      Ck l1 fun p43 =>
      LdP h5 (Addr.add p43 6) fun x45 =>
      LdI h5 (Addr.add p5 0) fun x47 =>
      LdI h5 (Addr.add p5 1) fun x49 =>
      finger_link_api_Item_prio_top_prio_tops r x45 x47 x49 vr4 h5 fun y51 h6 =>
      (hcell h6 (Addr.add (Addr.add p37 0) 0) = some (.int .i64 x39)) ∧
      (hcell h6 (Addr.add (Addr.add p37 0) 1) = some (.int .i64 x41)) ∧
      (hcell h6 (Addr.add p33 5) = some (.pointer x35)) ∧
      finger_even_api_Item_prio_top_prio_tops r x35 x39 x41 y51 h6 fun y55 h7 =>
      R y55 h7) (
      LdI h5 (Addr.add p5 0) fun x56 =>
      LdI h5 (Addr.add p5 1) fun x58 =>
      finger_made_api_Item_prio_top_prio_tops r l1 x56 x58 vr4 h5 fun y60 h8 =>
      R y60 h8))

set_option maxRecDepth 100000 in
theorem finger_link_api_Item_prio_top_prio_tops_of {r : World} {l1 : Option Addr} {v2 : Int} {v3 : Int} {vr4 : Option Addr} {h : Heap} {R : Option Addr → Heap → Prop} (H : finger_link_api_Item_prio_top_prio_tops_F r l1 v2 v3 vr4 h R) : finger_link_api_Item_prio_top_prio_tops r l1 v2 v3 vr4 h R := by
  unfold finger_link_api_Item_prio_top_prio_tops_F at H
  refine calls_of 51 [.tmp 6] Try.func71 rfl rfl rfl rfl rfl ?_
  refine W_seq ?_
  refine W_region (.ef 0 [] (.pu 1 .fin) .no) rfl rfl ?_
  obtain ⟨p5, e6⟩ : ∃ p : Addr, p = ⟨h.size, 0, none⟩ := ⟨_, rfl⟩
  obtain ⟨h1, e7⟩ : ∃ hh : Heap, hh = h.push (.cells #[(.int .i64 v2), (.int .i64 v3)] 43) := ⟨_, rfl⟩
  have H := H p5 h1 e6 e7
  refine s_ef1 (d := some 4) (v := (.pointer (some p5))) (h' := h1) rfl rfl rfl (fun dr => (r_box (v := (.agg #[(.int .i64 v2), (.int .i64 v3)])) rfl).trans (by rw [e6, e7]; rfl)) trivial ?_ trivial
  refine s_pu (d := some 6) (v := (.pointer none)) rfl rfl rfl (r_assign rfl) ?_
  refine s_fin ?_
  show W _ _ _ _ _ _ _ _
  refine W_seq ?_
  refine W_block ?_
  refine W_seq ?_
  refine W_region (.pu 0 (.pu 1 (.ef 2 [] (.pu 3 .fin) .no))) rfl rfl ?_
  refine s_pu (d := some 8) (v := (.pointer vr4)) rfl rfl rfl (r_move rfl) ?_
  refine s_pu (d := some 9) (v := (.pointer l1)) rfl rfl rfl (r_move rfl) ?_
  refine s_ef (d := some 10) rfl rfl rfl (fun dr => r_call Try.call85 rfl rfl H) ?_ trivial
  rintro _ h2 ⟨y8, rfl, H⟩
  refine ⟨trivial, ?_⟩
  refine s_pu (d := some 7) (v := (.bool y8)) rfl rfl rfl (r_assign rfl) ?_
  refine s_fin ?_
  show W _ _ _ _ _ _ _ _
  refine W_if y8 rfl (fun g62 => ?_) (fun g62 => ?_)
  · have H := H.1 g62
    refine W_seq ?_
    refine W_draw [0, 0, 0, 4, 12, 28, 63, 0, 128, 384, 896, 0, 2048, 6144, 14336, 32767, 65535] (.pu 0 (.rd 1 (.pu 2 (.pu 3 (.pu 4 (.rd 5 (.pu 7 (.pu 8 (.pu 9 (.rd 10 (.pu 11 (.pu 12 (.pu 13 (.rd 14 (.ef 6 [1, 5] (.ef 15 [1, 5, 10, 14] (.pu 16 .fin) .no) .no))))))))))))))) (by kernel_rfl) (by kernel_rfl) ?_
    refine s_pu (d := some 11) (v := (.pointer l1)) rfl rfl rfl (r_move rfl) ?_
    obtain ⟨x9, e10, H⟩ := H
    obtain ⟨x11, e12, H⟩ := H
    refine s_rd (d := some 12) (v := (.agg #[(.int .i64 x9), (.int .i64 x11)])) rfl rfl rfl (fun dr => r_loadN Try.isAgg43 Try.sizeOf43 (vs := [(.int .i64 x9), (.int .i64 x11)]) rfl rfl ⟨e10, e12, trivial⟩) ?_
    refine s_pu (d := some 13) (v := (.pointer vr4)) rfl rfl rfl (r_move rfl) ?_
    obtain ⟨p13, e14, H⟩ := H
    refine s_pu (d := some 14) (v := (.pointer (some p13))) rfl rfl rfl (r_nilCheck rfl e14) ?_
    refine s_pu (d := some 15) (v := (.pointer (some (Addr.add p13 5)))) rfl rfl rfl (r_fieldAddr Try.underlying119 Try.sizeOf36 rfl rfl rfl) ?_
    obtain ⟨x15, e16, H⟩ := H
    refine s_rd (d := some 16) (v := (.pointer x15)) rfl rfl rfl (fun dr => r_load1 Try.isAgg36 rfl e16) ?_
    refine s_pu (d := some 18) (v := (.pointer vr4)) rfl rfl rfl (r_move rfl) ?_
    obtain ⟨p17, e18, H⟩ := H
    refine s_pu (d := some 19) (v := (.pointer (some p17))) rfl rfl rfl (r_nilCheck rfl e18) ?_
    refine s_pu (d := some 20) (v := (.pointer (some (Addr.add p17 0)))) rfl rfl rfl (r_fieldAddr Try.underlying119 Try.sizeOf43 rfl rfl rfl) ?_
    obtain ⟨x19, e20, H⟩ := H
    obtain ⟨x21, e22, H⟩ := H
    refine s_rd (d := some 21) (v := (.agg #[(.int .i64 x19), (.int .i64 x21)])) rfl rfl rfl (fun dr => r_loadN Try.isAgg43 Try.sizeOf43 (vs := [(.int .i64 x19), (.int .i64 x21)]) rfl rfl ⟨e20, e22, trivial⟩) ?_
    refine s_pu (d := some 22) (v := (.pointer vr4)) rfl rfl rfl (r_move rfl) ?_
    obtain ⟨p23, e24, H⟩ := H
    refine s_pu (d := some 23) (v := (.pointer (some p23))) rfl rfl rfl (r_nilCheck rfl e24) ?_
    refine s_pu (d := some 24) (v := (.pointer (some (Addr.add p23 6)))) rfl rfl rfl (r_fieldAddr Try.underlying119 Try.sizeOf36 rfl rfl rfl) ?_
    obtain ⟨x25, e26, H⟩ := H
    refine s_rd (d := some 25) (v := (.pointer x25)) rfl rfl rfl (fun dr => r_load1 Try.isAgg36 rfl e26) ?_
    refine s_ef (d := some 17) rfl rfl rfl (fun dr => r_call Try.call71 rfl rfl H) ?_ trivial
    rintro _ h3 ⟨y27, rfl, H⟩
    obtain ⟨e28, H⟩ := H
    obtain ⟨e29, H⟩ := H
    obtain ⟨e30, H⟩ := H
    refine ⟨⟨(.inl ⟨rfl, fun dr => r_load1 Try.isAgg36 rfl e28⟩), (.inl ⟨rfl, fun dr => r_loadN Try.isAgg43 Try.sizeOf43 (vs := [(.int .i64 x19), (.int .i64 x21)]) rfl rfl ⟨e29, e30, trivial⟩⟩), trivial, trivial, trivial⟩, ?_⟩
    refine s_ef (d := some 26) rfl rfl rfl (fun dr => r_call Try.call86 rfl rfl H) ?_ trivial
    rintro _ h4 ⟨y31, rfl, H⟩
    refine ⟨⟨trivial, trivial, trivial, trivial, trivial⟩, ?_⟩
    refine s_pu (d := some 6) (v := (.pointer y31)) rfl rfl rfl (r_assign rfl) ?_
    refine s_fin ?_
    show W _ _ _ _ _ _ _ _
    refine W_ret ?_
    exact ⟨[(.pointer y31)], ⟨_, _, rfl, rfl, rfl⟩, y31, rfl, H⟩
  · have H := H.2 g62
    refine W_seq ?_
    refine W_region (.pu 0 (.pu 1 (.ef 2 [] (.pu 3 .fin) .no))) rfl rfl ?_
    refine s_pu (d := some 28) (v := (.pointer l1)) rfl rfl rfl (r_move rfl) ?_
    refine s_pu (d := some 29) (v := (.pointer vr4)) rfl rfl rfl (r_move rfl) ?_
    refine s_ef (d := some 30) rfl rfl rfl (fun dr => r_call Try.call85 rfl rfl H) ?_ trivial
    rintro _ h5 ⟨y32, rfl, H⟩
    refine ⟨trivial, ?_⟩
    refine s_pu (d := some 27) (v := (.bool y32)) rfl rfl rfl (r_assign rfl) ?_
    refine s_fin ?_
    show W _ _ _ _ _ _ _ _
    refine W_if y32 rfl (fun g61 => ?_) (fun g61 => ?_)
    · have H := H.1 g61
      refine W_seq ?_
      refine W_draw [0, 1, 3, 7, 0, 16, 48, 112, 0, 256, 768, 1792, 0, 0, 16128, 32767, 65535] (.pu 0 (.pu 1 (.pu 2 (.rd 3 (.pu 4 (.pu 5 (.pu 6 (.rd 7 (.pu 8 (.pu 9 (.pu 10 (.rd 11 (.rd 12 (.pu 13 (.ef 14 [11, 12] (.ef 15 [3, 7, 11, 12] (.pu 16 .fin) .no) .no))))))))))))))) (by kernel_rfl) (by kernel_rfl) ?_
      refine s_pu (d := some 31) (v := (.pointer l1)) rfl rfl rfl (r_move rfl) ?_
      obtain ⟨p33, e34, H⟩ := H
      refine s_pu (d := some 32) (v := (.pointer (some p33))) rfl rfl rfl (r_nilCheck rfl e34) ?_
      refine s_pu (d := some 33) (v := (.pointer (some (Addr.add p33 5)))) rfl rfl rfl (r_fieldAddr Try.underlying119 Try.sizeOf36 rfl rfl rfl) ?_
      obtain ⟨x35, e36, H⟩ := H
      refine s_rd (d := some 34) (v := (.pointer x35)) rfl rfl rfl (fun dr => r_load1 Try.isAgg36 rfl e36) ?_
      refine s_pu (d := some 35) (v := (.pointer l1)) rfl rfl rfl (r_move rfl) ?_
      obtain ⟨p37, e38, H⟩ := H
      refine s_pu (d := some 36) (v := (.pointer (some p37))) rfl rfl rfl (r_nilCheck rfl e38) ?_
      refine s_pu (d := some 37) (v := (.pointer (some (Addr.add p37 0)))) rfl rfl rfl (r_fieldAddr Try.underlying119 Try.sizeOf43 rfl rfl rfl) ?_
      obtain ⟨x39, e40, H⟩ := H
      obtain ⟨x41, e42, H⟩ := H
      refine s_rd (d := some 38) (v := (.agg #[(.int .i64 x39), (.int .i64 x41)])) rfl rfl rfl (fun dr => r_loadN Try.isAgg43 Try.sizeOf43 (vs := [(.int .i64 x39), (.int .i64 x41)]) rfl rfl ⟨e40, e42, trivial⟩) ?_
      refine s_pu (d := some 39) (v := (.pointer l1)) rfl rfl rfl (r_move rfl) ?_
      obtain ⟨p43, e44, H⟩ := H
      refine s_pu (d := some 40) (v := (.pointer (some p43))) rfl rfl rfl (r_nilCheck rfl e44) ?_
      refine s_pu (d := some 41) (v := (.pointer (some (Addr.add p43 6)))) rfl rfl rfl (r_fieldAddr Try.underlying119 Try.sizeOf36 rfl rfl rfl) ?_
      obtain ⟨x45, e46, H⟩ := H
      refine s_rd (d := some 42) (v := (.pointer x45)) rfl rfl rfl (fun dr => r_load1 Try.isAgg36 rfl e46) ?_
      obtain ⟨x47, e48, H⟩ := H
      obtain ⟨x49, e50, H⟩ := H
      refine s_rd (d := some 43) (v := (.agg #[(.int .i64 x47), (.int .i64 x49)])) rfl rfl rfl (fun dr => r_loadN Try.isAgg43 Try.sizeOf43 (vs := [(.int .i64 x47), (.int .i64 x49)]) rfl rfl ⟨e48, e50, trivial⟩) ?_
      refine s_pu (d := some 44) (v := (.pointer vr4)) rfl rfl rfl (r_move rfl) ?_
      refine s_ef (d := some 45) rfl rfl rfl (fun dr => r_call Try.call71 rfl rfl H) ?_ trivial
      rintro _ h6 ⟨y51, rfl, H⟩
      obtain ⟨e52, H⟩ := H
      obtain ⟨e53, H⟩ := H
      obtain ⟨e54, H⟩ := H
      refine ⟨⟨trivial, trivial, (.inl ⟨rfl, fun dr => r_loadN Try.isAgg43 Try.sizeOf43 (vs := [(.int .i64 x39), (.int .i64 x41)]) rfl rfl ⟨e52, e53, trivial⟩⟩), (.inl ⟨rfl, fun dr => r_load1 Try.isAgg36 rfl e54⟩), trivial⟩, ?_⟩
      refine s_ef (d := some 46) rfl rfl rfl (fun dr => r_call Try.call86 rfl rfl H) ?_ trivial
      rintro _ h7 ⟨y55, rfl, H⟩
      refine ⟨⟨trivial, trivial, trivial, trivial, trivial⟩, ?_⟩
      refine s_pu (d := some 6) (v := (.pointer y55)) rfl rfl rfl (r_assign rfl) ?_
      refine s_fin ?_
      show W _ _ _ _ _ _ _ _
      refine W_ret ?_
      exact ⟨[(.pointer y55)], ⟨_, _, rfl, rfl, rfl⟩, y55, rfl, H⟩
    · have H := H.2 g61
      refine W_skip ?_
      show W _ _ _ _ _ _ _ _
      refine W_seq ?_
      refine W_region (.pu 0 (.rl 1 (.pu 2 (.ef 3 [] (.pu 4 .fin) .no)))) rfl rfl ?_
      refine s_pu (d := some 47) (v := (.pointer l1)) rfl rfl rfl (r_move rfl) ?_
      obtain ⟨x56, e57, H⟩ := H
      obtain ⟨x58, e59, H⟩ := H
      refine s_rl (d := some 48) (v := (.agg #[(.int .i64 x56), (.int .i64 x58)])) rfl rfl rfl (fun dr => r_loadN Try.isAgg43 Try.sizeOf43 (vs := [(.int .i64 x56), (.int .i64 x58)]) rfl rfl ⟨e57, e59, trivial⟩) ?_
      refine s_pu (d := some 49) (v := (.pointer vr4)) rfl rfl rfl (r_move rfl) ?_
      refine s_ef (d := some 50) rfl rfl rfl (fun dr => r_call Try.call87 rfl rfl H) ?_ trivial
      rintro _ h8 ⟨y60, rfl, H⟩
      refine ⟨trivial, ?_⟩
      refine s_pu (d := some 6) (v := (.pointer y60)) rfl rfl rfl (r_assign rfl) ?_
      refine s_fin ?_
      show W _ _ _ _ _ _ _ _
      refine W_ret ?_
      exact ⟨[(.pointer y60)], ⟨_, _, rfl, rfl, rfl⟩, y60, rfl, H⟩

/-! ### finger_split_api_Item_prio_top_prio_tops -/

def finger_split_api_Item_prio_top_prio_tops_F (r : World) (t1 : Option Addr) (i2 : Int) (h : Heap) (R : Option Addr → Option Addr → Heap → Prop) : Prop :=
  Br (Option.isNone t1) (
    R none none h) (
    Ck t1 fun p3 =>
    LdP h (Addr.add p3 5) fun x5 =>
    finger_node_api_Item_prio_top_size r x5 h fun y7 h1 =>
    Br (decide (y7 < i2)) (
      Ck t1 fun p8 =>
      LdP h1 (Addr.add p8 6) fun x10 =>
      finger_split_api_Item_prio_top_prio_tops r x10 (w64 ((w64 (i2 - y7)) - 1)) h1 fun y12 y13 h2 =>
      Ck t1 fun p14 =>
      LdP h2 (Addr.add p14 5) fun x16 =>
      Ck t1 fun p18 =>
      LdI h2 (Addr.add (Addr.add p18 0) 0) fun x20 =>
      LdI h2 (Addr.add (Addr.add p18 0) 1) fun x22 =>
      finger_link_api_Item_prio_top_prio_tops r x16 x20 x22 y12 h2 fun y24 h3 =>
      R y24 y13 h3) (
      Ck t1 fun p25 =>
      LdP h1 (Addr.add p25 5) fun x27 =>
      finger_split_api_Item_prio_top_prio_tops r x27 i2 h1 fun y29 y30 h4 =>
      Ck t1 fun p31 =>
      LdI h4 (Addr.add (Addr.add p31 0) 0) fun x33 =>
      LdI h4 (Addr.add (Addr.add p31 0) 1) fun x35 =>
      Ck t1 fun p37 =>
      LdP h4 (Addr.add p37 6) fun x39 =>
      finger_link_api_Item_prio_top_prio_tops r y30 x33 x35 x39 h4 fun y41 h5 =>
      R y29 y41 h5))

set_option maxRecDepth 100000 in
theorem finger_split_api_Item_prio_top_prio_tops_of {r : World} {t1 : Option Addr} {i2 : Int} {h : Heap} {R : Option Addr → Option Addr → Heap → Prop} (H : finger_split_api_Item_prio_top_prio_tops_F r t1 i2 h R) : finger_split_api_Item_prio_top_prio_tops r t1 i2 h R := by
  unfold finger_split_api_Item_prio_top_prio_tops_F at H
  refine calls_of 64 [.tmp 4, .tmp 5] Try.func70 rfl rfl rfl rfl rfl ?_
  refine W_seq ?_
  refine W_region (.pu 0 (.pu 1 .fin)) rfl rfl ?_
  refine s_pu (d := some 4) (v := (.pointer none)) rfl rfl rfl (r_assign rfl) ?_
  refine s_pu (d := some 5) (v := (.pointer none)) rfl rfl rfl (r_assign rfl) ?_
  refine s_fin ?_
  show W _ _ _ _ _ _ _ _
  refine W_seq ?_
  refine W_seq ?_
  refine W_region (.pu 0 (.pu 1 .fin)) rfl rfl ?_
  refine s_pu (d := some 11) (v := (.pointer t1)) rfl rfl rfl (r_move rfl) ?_
  refine s_pu (d := some 12) (v := (.bool (Option.isNone t1))) rfl rfl rfl (r_nilP Try.underlying36 rfl rfl) ?_
  refine s_fin ?_
  show W _ _ _ _ _ _ _ _
  refine W_if (Option.isNone t1) rfl (fun g43 => ?_) (fun g43 => ?_)
  · have H := H.1 g43
    refine W_seq ?_
    refine W_region (.pu 0 (.pu 1 .fin)) rfl rfl ?_
    refine s_pu (d := some 4) (v := (.pointer none)) rfl rfl rfl (r_assign rfl) ?_
    refine s_pu (d := some 5) (v := (.pointer none)) rfl rfl rfl (r_assign rfl) ?_
    refine s_fin ?_
    show W _ _ _ _ _ _ _ _
    refine W_ret ?_
    exact ⟨[(.pointer none), (.pointer none)], ⟨_, _, rfl, rfl, ⟨_, _, rfl, rfl, rfl⟩⟩, none, none, rfl, H⟩
  · have H := H.2 g43
    refine W_skip ?_
    show W _ _ _ _ _ _ _ _
    refine W_seq ?_
    refine W_seq ?_
    refine W_region (.pu 0 (.pu 1 (.pu 2 (.rl 3 (.ef 4 [] (.pu 5 .fin) .no))))) rfl rfl ?_
    refine s_pu (d := some 13) (v := (.pointer t1)) rfl rfl rfl (r_move rfl) ?_
    obtain ⟨p3, e4, H⟩ := H
    refine s_pu (d := some 14) (v := (.pointer (some p3))) rfl rfl rfl (r_nilCheck rfl e4) ?_
    refine s_pu (d := some 15) (v := (.pointer (some (Addr.add p3 5)))) rfl rfl rfl (r_fieldAddr Try.underlying119 Try.sizeOf36 rfl rfl rfl) ?_
    obtain ⟨x5, e6, H⟩ := H
    refine s_rl (d := some 16) (v := (.pointer x5)) rfl rfl rfl (fun dr => r_load1 Try.isAgg36 rfl e6) ?_
    refine s_ef (d := some 17) rfl rfl rfl (fun dr => r_call Try.call72 rfl rfl H) ?_ trivial
    rintro _ h1 ⟨y7, rfl, H⟩
    refine ⟨trivial, ?_⟩
    refine s_pu (d := some 6) (v := (.int .i64 y7)) rfl rfl rfl (r_assign rfl) ?_
    refine s_fin ?_
    show W _ _ _ _ _ _ _ _
    refine W_seq ?_
    refine W_region (.pu 0 (.pu 1 (.pu 2 .fin))) rfl rfl ?_
    refine s_pu (d := some 18) (v := (.int .i64 i2)) rfl rfl rfl (r_move rfl) ?_
    refine s_pu (d := some 19) (v := (.int .i64 y7)) rfl rfl rfl (r_move rfl) ?_
    refine s_pu (d := some 20) (v := (.bool (decide (y7 < i2)))) rfl rfl rfl (r_gtr rfl rfl) ?_
    refine s_fin ?_
    show W _ _ _ _ _ _ _ _
    refine W_if (decide (y7 < i2)) rfl (fun g42 => ?_) (fun g42 => ?_)
    · have H := H.1 g42
      refine W_seq ?_
      refine W_region (.pu 0 (.pu 1 (.pu 2 (.rl 3 (.pu 4 (.pu 5 (.pu 6 (.pu 7 (.ef 8 [] (.pu 9 (.pu 10 (.pu 11 (.pu 12 (.pu 13 .fin))))) .no))))))))) rfl rfl ?_
      refine s_pu (d := some 22) (v := (.pointer t1)) rfl rfl rfl (r_move rfl) ?_
      obtain ⟨p8, e9, H⟩ := H
      refine s_pu (d := some 23) (v := (.pointer (some p8))) rfl rfl rfl (r_nilCheck rfl e9) ?_
      refine s_pu (d := some 24) (v := (.pointer (some (Addr.add p8 6)))) rfl rfl rfl (r_fieldAddr Try.underlying119 Try.sizeOf36 rfl rfl rfl) ?_
      obtain ⟨x10, e11, H⟩ := H
      refine s_rl (d := some 25) (v := (.pointer x10)) rfl rfl rfl (fun dr => r_load1 Try.isAgg36 rfl e11) ?_
      refine s_pu (d := some 26) (v := (.int .i64 i2)) rfl rfl rfl (r_move rfl) ?_
      refine s_pu (d := some 27) (v := (.int .i64 y7)) rfl rfl rfl (r_move rfl) ?_
      refine s_pu (d := some 28) (v := (.int .i64 (w64 (i2 - y7)))) rfl rfl rfl (r_sub rfl rfl) ?_
      refine s_pu (d := some 29) (v := (.int .i64 (w64 ((w64 (i2 - y7)) - 1)))) rfl rfl rfl (r_sub rfl rfl) ?_
      refine s_ef (d := some 30) rfl rfl rfl (fun dr => r_call Try.call70 rfl rfl H) ?_ trivial
      rintro _ h2 ⟨y12, y13, rfl, H⟩
      refine ⟨trivial, ?_⟩
      refine s_pu (d := some 21) (v := (.tuple #[(.pointer y12), (.pointer y13)])) rfl rfl rfl (r_move rfl) ?_
      refine s_pu (d := some 31) (v := (.pointer y12)) rfl rfl rfl (r_extract rfl rfl) ?_
      refine s_pu (d := some 32) (v := (.pointer y13)) rfl rfl rfl (r_extract rfl rfl) ?_
      refine s_pu (d := some 7) (v := (.pointer y12)) rfl rfl rfl (r_assign rfl) ?_
      refine s_pu (d := some 8) (v := (.pointer y13)) rfl rfl rfl (r_assign rfl) ?_
      refine s_fin ?_
      show W _ _ _ _ _ _ _ _
      refine W_seq ?_
      refine W_draw [0, 1, 3, 7, 0, 16, 48, 112, 0, 511, 0, 1023, 4095] (.pu 0 (.pu 1 (.pu 2 (.rd 3 (.pu 4 (.pu 5 (.pu 6 (.rd 7 (.pu 8 (.pu 10 (.ef 9 [3, 7] (.pu 11 (.pu 12 .fin)) .no))))))))))) (by kernel_rfl) (by kernel_rfl) ?_
      refine s_pu (d := some 33) (v := (.pointer t1)) rfl rfl rfl (r_move rfl) ?_
      obtain ⟨p14, e15, H⟩ := H
      refine s_pu (d := some 34) (v := (.pointer (some p14))) rfl rfl rfl (r_nilCheck rfl e15) ?_
      refine s_pu (d := some 35) (v := (.pointer (some (Addr.add p14 5)))) rfl rfl rfl (r_fieldAddr Try.underlying119 Try.sizeOf36 rfl rfl rfl) ?_
      obtain ⟨x16, e17, H⟩ := H
      refine s_rd (d := some 36) (v := (.pointer x16)) rfl rfl rfl (fun dr => r_load1 Try.isAgg36 rfl e17) ?_
      refine s_pu (d := some 37) (v := (.pointer t1)) rfl rfl rfl (r_move rfl) ?_
      obtain ⟨p18, e19, H⟩ := H
      refine s_pu (d := some 38) (v := (.pointer (some p18))) rfl rfl rfl (r_nilCheck rfl e19) ?_
      refine s_pu (d := some 39) (v := (.pointer (some (Addr.add p18 0)))) rfl rfl rfl (r_fieldAddr Try.underlying119 Try.sizeOf43 rfl rfl rfl) ?_
      obtain ⟨x20, e21, H⟩ := H
      obtain ⟨x22, e23, H⟩ := H
      refine s_rd (d := some 40) (v := (.agg #[(.int .i64 x20), (.int .i64 x22)])) rfl rfl rfl (fun dr => r_loadN Try.isAgg43 Try.sizeOf43 (vs := [(.int .i64 x20), (.int .i64 x22)]) rfl rfl ⟨e21, e23, trivial⟩) ?_
      refine s_pu (d := some 41) (v := (.pointer y12)) rfl rfl rfl (r_move rfl) ?_
      refine s_pu (d := some 43) (v := (.pointer y13)) rfl rfl rfl (r_move rfl) ?_
      refine s_ef (d := some 42) rfl rfl rfl (fun dr => r_call Try.call71 rfl rfl H) ?_ trivial
      rintro _ h3 ⟨y24, rfl, H⟩
      refine ⟨⟨trivial, trivial, trivial⟩, ?_⟩
      refine s_pu (d := some 4) (v := (.pointer y24)) rfl rfl rfl (r_assign rfl) ?_
      refine s_pu (d := some 5) (v := (.pointer y13)) rfl rfl rfl (r_assign rfl) ?_
      refine s_fin ?_
      show W _ _ _ _ _ _ _ _
      refine W_ret ?_
      exact ⟨[(.pointer y24), (.pointer y13)], ⟨_, _, rfl, rfl, ⟨_, _, rfl, rfl, rfl⟩⟩, y24, y13, rfl, H⟩
    · have H := H.2 g42
      refine W_skip ?_
      show W _ _ _ _ _ _ _ _
      refine W_seq ?_
      refine W_region (.pu 0 (.pu 1 (.pu 2 (.rl 3 (.pu 4 (.ef 5 [] (.pu 6 (.pu 7 (.pu 8 (.pu 9 (.pu 10 .fin))))) .no)))))) rfl rfl ?_
      refine s_pu (d := some 45) (v := (.pointer t1)) rfl rfl rfl (r_move rfl) ?_
      obtain ⟨p25, e26, H⟩ := H
      refine s_pu (d := some 46) (v := (.pointer (some p25))) rfl rfl rfl (r_nilCheck rfl e26) ?_
      refine s_pu (d := some 47) (v := (.pointer (some (Addr.add p25 5)))) rfl rfl rfl (r_fieldAddr Try.underlying119 Try.sizeOf36 rfl rfl rfl) ?_
      obtain ⟨x27, e28, H⟩ := H
      refine s_rl (d := some 48) (v := (.pointer x27)) rfl rfl rfl (fun dr => r_load1 Try.isAgg36 rfl e28) ?_
      refine s_pu (d := some 49) (v := (.int .i64 i2)) rfl rfl rfl (r_move rfl) ?_
      refine s_ef (d := some 50) rfl rfl rfl (fun dr => r_call Try.call70 rfl rfl H) ?_ trivial
      rintro _ h4 ⟨y29, y30, rfl, H⟩
      refine ⟨trivial, ?_⟩
      refine s_pu (d := some 44) (v := (.tuple #[(.pointer y29), (.pointer y30)])) rfl rfl rfl (r_move rfl) ?_
      refine s_pu (d := some 51) (v := (.pointer y29)) rfl rfl rfl (r_extract rfl rfl) ?_
      refine s_pu (d := some 52) (v := (.pointer y30)) rfl rfl rfl (r_extract rfl rfl) ?_
      refine s_pu (d := some 9) (v := (.pointer y29)) rfl rfl rfl (r_assign rfl) ?_
      refine s_pu (d := some 10) (v := (.pointer y30)) rfl rfl rfl (r_assign rfl) ?_
      refine s_fin ?_
      show W _ _ _ _ _ _ _ _
      refine W_seq ?_
      refine W_draw [0, 0, 0, 4, 12, 28, 0, 64, 192, 448, 1022, 2047, 4095] (.pu 0 (.pu 1 (.pu 2 (.pu 3 (.pu 4 (.rd 5 (.pu 6 (.pu 7 (.pu 8 (.rd 9 (.ef 10 [5, 9] (.pu 11 (.pu 12 .fin)) .no))))))))))) (by kernel_rfl) (by kernel_rfl) ?_
      refine s_pu (d := some 53) (v := (.pointer y29)) rfl rfl rfl (r_move rfl) ?_
      refine s_pu (d := some 54) (v := (.pointer y30)) rfl rfl rfl (r_move rfl) ?_
      refine s_pu (d := some 55) (v := (.pointer t1)) rfl rfl rfl (r_move rfl) ?_
      obtain ⟨p31, e32, H⟩ := H
      refine s_pu (d := some 56) (v := (.pointer (some p31))) rfl rfl rfl (r_nilCheck rfl e32) ?_
      refine s_pu (d := some 57) (v := (.pointer (some (Addr.add p31 0)))) rfl rfl rfl (r_fieldAddr Try.underlying119 Try.sizeOf43 rfl rfl rfl) ?_
      obtain ⟨x33, e34, H⟩ := H
      obtain ⟨x35, e36, H⟩ := H
      refine s_rd (d := some 58) (v := (.agg #[(.int .i64 x33), (.int .i64 x35)])) rfl rfl rfl (fun dr => r_loadN Try.isAgg43 Try.sizeOf43 (vs := [(.int .i64 x33), (.int .i64 x35)]) rfl rfl ⟨e34, e36, trivial⟩) ?_
      refine s_pu (d := some 59) (v := (.pointer t1)) rfl rfl rfl (r_move rfl) ?_
      obtain ⟨p37, e38, H⟩ := H
      refine s_pu (d := some 60) (v := (.pointer (some p37))) rfl rfl rfl (r_nilCheck rfl e38) ?_
      refine s_pu (d := some 61) (v := (.pointer (some (Addr.add p37 6)))) rfl rfl rfl (r_fieldAddr Try.underlying119 Try.sizeOf36 rfl rfl rfl) ?_
      obtain ⟨x39, e40, H⟩ := H
      refine s_rd (d := some 62) (v := (.pointer x39)) rfl rfl rfl (fun dr => r_load1 Try.isAgg36 rfl e40) ?_
      refine s_ef (d := some 63) rfl rfl rfl (fun dr => r_call Try.call71 rfl rfl H) ?_ trivial
      rintro _ h5 ⟨y41, rfl, H⟩
      refine ⟨⟨trivial, trivial, trivial⟩, ?_⟩
      refine s_pu (d := some 4) (v := (.pointer y29)) rfl rfl rfl (r_assign rfl) ?_
      refine s_pu (d := some 5) (v := (.pointer y41)) rfl rfl rfl (r_assign rfl) ?_
      refine s_fin ?_
      show W _ _ _ _ _ _ _ _
      refine W_ret ?_
      exact ⟨[(.pointer y29), (.pointer y41)], ⟨_, _, rfl, rfl, ⟨_, _, rfl, rfl, rfl⟩⟩, y29, y41, rfl, H⟩

/-! ### finger_Many_api_Item_prio_top_prio_tops_Len -/

def finger_Many_api_Item_prio_top_prio_tops_Len_F (r : World) (t1 : Option Addr) (h : Heap) (R : Int → Heap → Prop) : Prop :=
  New h (.cells #[(.pointer t1)] 38) fun p2 h1 =>
  LdP h1 (Addr.add p2 0) fun x5 =>
  finger_node_api_Item_prio_top_size r x5 h1 fun y7 h2 =>
  R y7 h2

set_option maxRecDepth 100000 in
theorem finger_Many_api_Item_prio_top_prio_tops_Len_of {r : World} {t1 : Option Addr} {h : Heap} {R : Int → Heap → Prop} (H : finger_Many_api_Item_prio_top_prio_tops_Len_F r t1 h R) : finger_Many_api_Item_prio_top_prio_tops_Len r t1 h R := by
  unfold finger_Many_api_Item_prio_top_prio_tops_Len_F at H
  refine calls_of 6 [.tmp 2] Try.func43 rfl rfl rfl rfl rfl ?_
  refine W_seq ?_
  refine W_region (.ef 0 [] (.pu 1 .fin) .no) rfl rfl ?_
  obtain ⟨p2, e3⟩ : ∃ p : Addr, p = ⟨h.size, 0, none⟩ := ⟨_, rfl⟩
  obtain ⟨h1, e4⟩ : ∃ hh : Heap, hh = h.push (.cells #[(.pointer t1)] 38) := ⟨_, rfl⟩
  have H := H p2 h1 e3 e4
  refine s_ef1 (d := some 1) (v := (.pointer (some p2))) (h' := h1) rfl rfl rfl (fun dr => (r_box (v := (.agg #[(.pointer t1)])) rfl).trans (by rw [e3, e4]; rfl)) trivial ?_ trivial
  refine s_pu (d := some 2) (v := (.int .i64 0)) rfl rfl rfl (r_assign rfl) ?_
  refine s_fin ?_
  show W _ _ _ _ _ _ _ _
  refine W_seq ?_
  refine W_region (.pu 0 (.rl 1 (.ef 2 [] (.pu 3 .fin) .no))) rfl rfl ?_
  refine s_pu (d := some 3) (v := (.pointer (some (Addr.add p2 0)))) rfl rfl rfl (r_fieldAddr Try.underlying38 Try.sizeOf36 rfl rfl rfl) ?_
  obtain ⟨x5, e6, H⟩ := H
  refine s_rl (d := some 4) (v := (.pointer x5)) rfl rfl rfl (fun dr => r_load1 Try.isAgg36 rfl e6) ?_
  refine s_ef (d := some 5) rfl rfl rfl (fun dr => r_call Try.call72 rfl rfl H) ?_ trivial
  rintro _ h2 ⟨y7, rfl, H⟩
  refine ⟨trivial, ?_⟩
  refine s_pu (d := some 2) (v := (.int .i64 y7)) rfl rfl rfl (r_assign rfl) ?_
  refine s_fin ?_
  show W _ _ _ _ _ _ _ _
  refine W_ret ?_
  exact ⟨[(.int .i64 y7)], ⟨_, _, rfl, rfl, rfl⟩, y7, rfl, H⟩

/-! ### finger_Many_api_Item_prio_top_prio_tops_Sum -/

def finger_Many_api_Item_prio_top_prio_tops_Sum_F (r : World) (t1 : Option Addr) (h : Heap) (R : Bool → Int → Heap → Prop) : Prop :=
  New h (.cells #[(.pointer t1)] 38) fun p2 h1 =>
  New h1 (.cells #[(.bool false), (.int .i64 0)] 88) fun p5 h2 =>
  LdP h2 (Addr.add p2 0) fun x8 =>
  finger_total_api_Item_prio_top_prio_tops r x8 h2 fun y10 y11 h3 =>
  St h3 p5 2 [(.bool y10), (.int .i64 y11)] fun h4 =>
  LdB h4 (Addr.add p5 0) fun x14 =>
  LdI h4 (Addr.add p5 1) fun x16 =>
  R x14 x16 h4

set_option maxRecDepth 100000 in
theorem finger_Many_api_Item_prio_top_prio_tops_Sum_of {r : World} {t1 : Option Addr} {h : Heap} {R : Bool → Int → Heap → Prop} (H : finger_Many_api_Item_prio_top_prio_tops_Sum_F r t1 h R) : finger_Many_api_Item_prio_top_prio_tops_Sum r t1 h R := by
  unfold finger_Many_api_Item_prio_top_prio_tops_Sum_F at H
  refine calls_of 6 [.cell 2 88] Try.func73 rfl rfl rfl rfl rfl ?_
  refine W_seq ?_
  refine W_region (.ef 0 [] (.ef 1 [] .fin .no) .no) rfl rfl ?_
  obtain ⟨p2, e3⟩ : ∃ p : Addr, p = ⟨h.size, 0, none⟩ := ⟨_, rfl⟩
  obtain ⟨h1, e4⟩ : ∃ hh : Heap, hh = h.push (.cells #[(.pointer t1)] 38) := ⟨_, rfl⟩
  have H := H p2 h1 e3 e4
  refine s_ef1 (d := some 1) (v := (.pointer (some p2))) (h' := h1) rfl rfl rfl (fun dr => (r_box (v := (.agg #[(.pointer t1)])) rfl).trans (by rw [e3, e4]; rfl)) trivial ?_ trivial
  obtain ⟨p5, e6⟩ : ∃ p : Addr, p = ⟨h1.size, 0, none⟩ := ⟨_, rfl⟩
  obtain ⟨h2, e7⟩ : ∃ hh : Heap, hh = h1.push (.cells #[(.bool false), (.int .i64 0)] 88) := ⟨_, rfl⟩
  have H := H p5 h2 e6 e7
  refine s_ef1 (d := some 2) (v := (.pointer (some p5))) (h' := h2) rfl rfl rfl (fun dr => (r_alloc Try.zeroValue88).trans (by rw [e6, e7]; rfl)) trivial ?_ trivial
  refine s_fin ?_
  show W _ _ _ _ _ _ _ _
  refine W_seq ?_
  refine W_region (.pu 0 (.rl 1 (.ef 2 [] (.ef 3 [] .fin .no) .no))) rfl rfl ?_
  refine s_pu (d := some 3) (v := (.pointer (some (Addr.add p2 0)))) rfl rfl rfl (r_fieldAddr Try.underlying38 Try.sizeOf36 rfl rfl rfl) ?_
  obtain ⟨x8, e9, H⟩ := H
  refine s_rl (d := some 4) (v := (.pointer x8)) rfl rfl rfl (fun dr => r_load1 Try.isAgg36 rfl e9) ?_
  refine s_ef (d := some 5) rfl rfl rfl (fun dr => r_call Try.call88 rfl rfl H) ?_ trivial
  rintro _ h3 ⟨y10, y11, rfl, H⟩
  refine ⟨trivial, ?_⟩
  obtain ⟨e13, H⟩ := H
  obtain ⟨h4, e12⟩ : ∃ hh : Heap, hh = hsets h3 p5 0 [(.bool y10), (.int .i64 y11)] := ⟨_, rfl⟩
  have H := H h4 e12
  refine s_st (d := none) (h' := h4) rfl rfl rfl (fun dr => (r_store (v := (.agg #[(.bool y10), (.int .i64 y11)])) Try.sizeOf88 rfl rfl rfl (one_all rfl) e13).trans (by rw [e12]; rfl)) trivial ?_ trivial
  refine s_fin ?_
  show W _ _ _ _ _ _ _ _
  refine W_ret ?_
  obtain ⟨x14, e15, H⟩ := H
  obtain ⟨x16, e17, H⟩ := H
  exact ⟨[(.agg #[(.bool x14), (.int .i64 x16)])], ⟨_, _, _, rfl, rfl, fun dr => run_loadVarN Try.isAgg88 Try.sizeOf88 (vs := [(.bool x14), (.int .i64 x16)]) rfl ⟨e15, e17, trivial⟩, rfl⟩, x14, x16, rfl, H⟩

/-! ### finger_Many_api_Item_prio_top_prio_tops_Split -/

def finger_Many_api_Item_prio_top_prio_tops_Split_F (r : World) (t1 : Option Addr) (i2 : Int) (h : Heap) (R : Option Addr → Option Addr → Heap → Prop) : Prop :=
  New h (.cells #[(.pointer t1)] 38) fun p3 h1 =>
  New h1 (.cells #[(.pointer none)] 38) fun p6 h2 =>
  New h2 (.cells #[(.pointer none)] 38) fun p9 h3 =>
  LdP h3 (Addr.add p3 0) fun x12 =>
  finger_split_api_Item_prio_top_prio_tops r x12 i2 h3 fun y14 y15 h4 =>
  St h4 p6 1 [(.pointer y14)] fun h5 =>
  St h5 p9 1 [(.pointer y15)] fun h6 =>
  LdP h6 (Addr.add p6 0) fun x20 =>
  LdP h6 (Addr.add p9 0) fun x22 =>
  R x20 x22 h6

set_option maxRecDepth 100000 in
theorem finger_Many_api_Item_prio_top_prio_tops_Split_of {r : World} {t1 : Option Addr} {i2 : Int} {h : Heap} {R : Option Addr → Option Addr → Heap → Prop} (H : finger_Many_api_Item_prio_top_prio_tops_Split_F r t1 i2 h R) : finger_Many_api_Item_prio_top_prio_tops_Split r t1 i2 h R := by
  unfold finger_Many_api_Item_prio_top_prio_tops_Split_F at H
  refine calls_of 19 [.cell 4 38, .cell 5 38] Try.func77 rfl rfl rfl rfl rfl ?_
  refine W_seq ?_
  refine W_region (.ef 0 [] (.ef 1 [] (.ef 2 [] .fin .no) .no) .no) rfl rfl ?_
  obtain ⟨p3, e4⟩ : ∃ p : Addr, p = ⟨h.size, 0, none⟩ := ⟨_, rfl⟩
  obtain ⟨h1, e5⟩ : ∃ hh : Heap, hh = h.push (.cells #[(.pointer t1)] 38) := ⟨_, rfl⟩
  have H := H p3 h1 e4 e5
  refine s_ef1 (d := some 2) (v := (.pointer (some p3))) (h' := h1) rfl rfl rfl (fun dr => (r_box (v := (.agg #[(.pointer t1)])) rfl).trans (by rw [e4, e5]; rfl)) trivial ?_ trivial
  obtain ⟨p6, e7⟩ : ∃ p : Addr, p = ⟨h1.size, 0, none⟩ := ⟨_, rfl⟩
  obtain ⟨h2, e8⟩ : ∃ hh : Heap, hh = h1.push (.cells #[(.pointer none)] 38) := ⟨_, rfl⟩
  have H := H p6 h2 e7 e8
  refine s_ef1 (d := some 4) (v := (.pointer (some p6))) (h' := h2) rfl rfl rfl (fun dr => (r_alloc Try.zeroValue38).trans (by rw [e7, e8]; rfl)) trivial ?_ trivial
  obtain ⟨p9, e10⟩ : ∃ p : Addr, p = ⟨h2.size, 0, none⟩ := ⟨_, rfl⟩
  obtain ⟨h3, e11⟩ : ∃ hh : Heap, hh = h2.push (.cells #[(.pointer none)] 38) := ⟨_, rfl⟩
  have H := H p9 h3 e10 e11
  refine s_ef1 (d := some 5) (v := (.pointer (some p9))) (h' := h3) rfl rfl rfl (fun dr => (r_alloc Try.zeroValue38).trans (by rw [e10, e11]; rfl)) trivial ?_ trivial
  refine s_fin ?_
  show W _ _ _ _ _ _ _ _
  refine W_seq ?_
  refine W_region (.pu 0 (.rl 1 (.pu 2 (.ef 3 [] (.pu 4 (.pu 5 (.pu 6 (.pu 7 (.pu 8 .fin))))) .no)))) rfl rfl ?_
  refine s_pu (d := some 9) (v := (.pointer (some (Addr.add p3 0)))) rfl rfl rfl (r_fieldAddr Try.underlying38 Try.sizeOf36 rfl rfl rfl) ?_
  obtain ⟨x12, e13, H⟩ := H
  refine s_rl (d := some 10) (v := (.pointer x12)) rfl rfl rfl (fun dr => r_load1 Try.isAgg36 rfl e13) ?_
  refine s_pu (d := some 11) (v := (.int .i64 i2)) rfl rfl rfl (r_move rfl) ?_
  refine s_ef (d := some 12) rfl rfl rfl (fun dr => r_call Try.call70 rfl rfl H) ?_ trivial
  rintro _ h4 ⟨y14, y15, rfl, H⟩
  refine ⟨trivial, ?_⟩
  refine s_pu (d := some 8) (v := (.tuple #[(.pointer y14), (.pointer y15)])) rfl rfl rfl (r_move rfl) ?_
  refine s_pu (d := some 13) (v := (.pointer y14)) rfl rfl rfl (r_extract rfl rfl) ?_
  refine s_pu (d := some 14) (v := (.pointer y15)) rfl rfl rfl (r_extract rfl rfl) ?_
  refine s_pu (d := some 6) (v := (.pointer y14)) rfl rfl rfl (r_assign rfl) ?_
  refine s_pu (d := some 7) (v := (.pointer y15)) rfl rfl rfl (r_assign rfl) ?_
  refine s_fin ?_
  show W _ _ _ _ _ _ _ _
  refine W_seq ?_
  refine W_region (.pu 0 (.pu 1 (.pu 2 (.pu 3 (.ef 4 [] (.ef 5 [] .fin .no) .no))))) rfl rfl ?_
  refine s_pu (d := some 15) (v := (.pointer y14)) rfl rfl rfl (r_move rfl) ?_
  refine s_pu (d := some 16) (v := (.agg #[(.pointer y14)])) rfl rfl rfl (fun w => by kernel_rfl) ?_
  refine s_pu (d := some 17) (v := (.pointer y15)) rfl rfl rfl (r_move rfl) ?_
  refine s_pu (d := some 18) (v := (.agg #[(.pointer y15)])) rfl rfl rfl (fun w => by kernel_rfl) ?_
  obtain ⟨e17, H⟩ := H
  obtain ⟨h5, e16⟩ : ∃ hh : Heap, hh = hsets h4 p6 0 [(.pointer y14)] := ⟨_, rfl⟩
  have H := H h5 e16
  refine s_st (d := none) (h' := h5) rfl rfl rfl (fun dr => (r_store (v := (.agg #[(.pointer y14)])) Try.sizeOf38 rfl rfl rfl (one_all rfl) e17).trans (by rw [e16]; rfl)) trivial ?_ trivial
  obtain ⟨e19, H⟩ := H
  obtain ⟨h6, e18⟩ : ∃ hh : Heap, hh = hsets h5 p9 0 [(.pointer y15)] := ⟨_, rfl⟩
  have H := H h6 e18
  refine s_st (d := none) (h' := h6) rfl rfl rfl (fun dr => (r_store (v := (.agg #[(.pointer y15)])) Try.sizeOf38 rfl rfl rfl (one_all rfl) e19).trans (by rw [e18]; rfl)) trivial ?_ trivial
  refine s_fin ?_
  show W _ _ _ _ _ _ _ _
  refine W_ret ?_
  obtain ⟨x20, e21, H⟩ := H
  obtain ⟨x22, e23, H⟩ := H
  exact ⟨[(.agg #[(.pointer x20)]), (.agg #[(.pointer x22)])], ⟨_, _, _, rfl, rfl, fun dr => run_loadVarN Try.isAgg38 Try.sizeOf38 (vs := [(.pointer x20)]) rfl ⟨e21, trivial⟩, ⟨_, _, _, rfl, rfl, fun dr => run_loadVarN Try.isAgg38 Try.sizeOf38 (vs := [(.pointer x22)]) rfl ⟨e23, trivial⟩, rfl⟩⟩, x20, x22, rfl, H⟩

/-! ### finger_Many_api_Item_prio_top_prio_tops_Join -/

def finger_Many_api_Item_prio_top_prio_tops_Join_F (r : World) (t1 : Option Addr) (u2 : Option Addr) (h : Heap) (R : Option Addr → Heap → Prop) : Prop :=
  New h (.cells #[(.pointer t1)] 38) fun p3 h1 =>
  New h1 (.cells #[(.pointer u2)] 38) fun p6 h2 =>
  New h2 (.cells #[(.pointer none)] 38) fun p9 h3 =>
  LdP h3 (Addr.add p6 0) fun x12 =>
  Br (Option.isNone x12) (
    LdP h3 (Addr.add p3 0) fun x14 =>
    St h3 p9 1 [(.pointer x14)] fun h4 =>
    LdP h4 (Addr.add p9 0) fun x18 =>
    R x18 h4) (
    LdP h3 (Addr.add p6 0) fun x20 =>
    finger_split_api_Item_prio_top_prio_tops r x20 1 h3 fun y22 y23 h5 =>
    LdP h5 (Addr.add p3 0) fun x24 =>
    Ck y22 fun p26 =>
    LdI h5 (Addr.add (Addr.add p26 0) 0) fun x28 =>
    LdI h5 (Addr.add (Addr.add p26 0) 1) fun x30 =>
    finger_link_api_Item_prio_top_prio_tops r x24 x28 x30 y23 h5 fun y32 h6 =>
    St h6 p9 1 [(.pointer y32)] fun h7 =>
    LdP h7 (Addr.add p9 0) fun x35 =>
    R x35 h7)

set_option maxRecDepth 100000 in
theorem finger_Many_api_Item_prio_top_prio_tops_Join_of {r : World} {t1 : Option Addr} {u2 : Option Addr} {h : Heap} {R : Option Addr → Heap → Prop} (H : finger_Many_api_Item_prio_top_prio_tops_Join_F r t1 u2 h R) : finger_Many_api_Item_prio_top_prio_tops_Join r t1 u2 h R := by
  unfold finger_Many_api_Item_prio_top_prio_tops_Join_F at H
  refine calls_of 26 [.cell 4 38] Try.func46 rfl rfl rfl rfl rfl ?_
  refine W_seq ?_
  refine W_region (.ef 0 [] (.ef 1 [] (.ef 2 [] .fin .no) .no) .no) rfl rfl ?_
  obtain ⟨p3, e4⟩ : ∃ p : Addr, p = ⟨h.size, 0, none⟩ := ⟨_, rfl⟩
  obtain ⟨h1, e5⟩ : ∃ hh : Heap, hh = h.push (.cells #[(.pointer t1)] 38) := ⟨_, rfl⟩
  have H := H p3 h1 e4 e5
  refine s_ef1 (d := some 2) (v := (.pointer (some p3))) (h' := h1) rfl rfl rfl (fun dr => (r_box (v := (.agg #[(.pointer t1)])) rfl).trans (by rw [e4, e5]; rfl)) trivial ?_ trivial
  obtain ⟨p6, e7⟩ : ∃ p : Addr, p = ⟨h1.size, 0, none⟩ := ⟨_, rfl⟩
  obtain ⟨h2, e8⟩ : ∃ hh : Heap, hh = h1.push (.cells #[(.pointer u2)] 38) := ⟨_, rfl⟩
  have H := H p6 h2 e7 e8
  refine s_ef1 (d := some 3) (v := (.pointer (some p6))) (h' := h2) rfl rfl rfl (fun dr => (r_box (v := (.agg #[(.pointer u2)])) rfl).trans (by rw [e7, e8]; rfl)) trivial ?_ trivial
  obtain ⟨p9, e10⟩ : ∃ p : Addr, p = ⟨h2.size, 0, none⟩ := ⟨_, rfl⟩
  obtain ⟨h3, e11⟩ : ∃ hh : Heap, hh = h2.push (.cells #[(.pointer none)] 38) := ⟨_, rfl⟩
  have H := H p9 h3 e10 e11
  refine s_ef1 (d := some 4) (v := (.pointer (some p9))) (h' := h3) rfl rfl rfl (fun dr => (r_alloc Try.zeroValue38).trans (by rw [e10, e11]; rfl)) trivial ?_ trivial
  refine s_fin ?_
  show W _ _ _ _ _ _ _ _
  refine W_seq ?_
  refine W_seq ?_
  refine W_region (.pu 0 (.rl 1 (.pu 2 .fin))) rfl rfl ?_
  refine s_pu (d := some 7) (v := (.pointer (some (Addr.add p6 0)))) rfl rfl rfl (r_fieldAddr Try.underlying38 Try.sizeOf36 rfl rfl rfl) ?_
  obtain ⟨x12, e13, H⟩ := H
  refine s_rl (d := some 8) (v := (.pointer x12)) rfl rfl rfl (fun dr => r_load1 Try.isAgg36 rfl e13) ?_
  refine s_pu (d := some 9) (v := (.bool (Option.isNone x12))) rfl rfl rfl (r_nilP Try.underlying36 rfl rfl) ?_
  refine s_fin ?_
  show W _ _ _ _ _ _ _ _
  refine W_if (Option.isNone x12) rfl (fun g37 => ?_) (fun g37 => ?_)
  · have H := H.1 g37
    refine W_seq ?_
    refine W_region (.rl 0 (.ef 1 [] .fin .no)) rfl rfl ?_
    obtain ⟨x14, e15, H⟩ := H
    refine s_rl (d := some 10) (v := (.agg #[(.pointer x14)])) rfl rfl rfl (fun dr => r_loadN Try.isAgg38 Try.sizeOf38 (vs := [(.pointer x14)]) rfl rfl ⟨e15, trivial⟩) ?_
    obtain ⟨e17, H⟩ := H
    obtain ⟨h4, e16⟩ : ∃ hh : Heap, hh = hsets h3 p9 0 [(.pointer x14)] := ⟨_, rfl⟩
    have H := H h4 e16
    refine s_st (d := none) (h' := h4) rfl rfl rfl (fun dr => (r_store (v := (.agg #[(.pointer x14)])) Try.sizeOf38 rfl rfl rfl (one_all rfl) e17).trans (by rw [e16]; rfl)) trivial ?_ trivial
    refine s_fin ?_
    show W _ _ _ _ _ _ _ _
    refine W_ret ?_
    obtain ⟨x18, e19, H⟩ := H
    exact ⟨[(.agg #[(.pointer x18)])], ⟨_, _, _, rfl, rfl, fun dr => run_loadVarN Try.isAgg38 Try.sizeOf38 (vs := [(.pointer x18)]) rfl ⟨e19, trivial⟩, rfl⟩, x18, rfl, H⟩
  · have H := H.2 g37
    refine W_skip ?_
    show W _ _ _ _ _ _ _ _
    refine W_seq ?_
    refine W_region (.pu 0 (.rl 1 (.ef 2 [] (.pu 3 (.pu 4 (.pu 5 (.pu 6 (.pu 7 .fin))))) .no))) rfl rfl ?_
    refine s_pu (d := some 12) (v := (.pointer (some (Addr.add p6 0)))) rfl rfl rfl (r_fieldAddr Try.underlying38 Try.sizeOf36 rfl rfl rfl) ?_
    obtain ⟨x20, e21, H⟩ := H
    refine s_rl (d := some 13) (v := (.pointer x20)) rfl rfl rfl (fun dr => r_load1 Try.isAgg36 rfl e21) ?_
    refine s_ef (d := some 14) rfl rfl rfl (fun dr => r_call Try.call70 rfl rfl H) ?_ trivial
    rintro _ h5 ⟨y22, y23, rfl, H⟩
    refine ⟨trivial, ?_⟩
    refine s_pu (d := some 11) (v := (.tuple #[(.pointer y22), (.pointer y23)])) rfl rfl rfl (r_move rfl) ?_
    refine s_pu (d := some 15) (v := (.pointer y22)) rfl rfl rfl (r_extract rfl rfl) ?_
    refine s_pu (d := some 16) (v := (.pointer y23)) rfl rfl rfl (r_extract rfl rfl) ?_
    refine s_pu (d := some 5) (v := (.pointer y22)) rfl rfl rfl (r_assign rfl) ?_
    refine s_pu (d := some 6) (v := (.pointer y23)) rfl rfl rfl (r_assign rfl) ?_
    refine s_fin ?_
    show W _ _ _ _ _ _ _ _
    refine W_seq ?_
    refine W_draw [0, 1, 0, 4, 12, 28, 0, 127, 255, 511] (.pu 0 (.rd 1 (.pu 2 (.pu 3 (.pu 4 (.rd 5 (.pu 6 (.ef 7 [1, 5] (.pu 8 (.ef 9 [1, 5] .fin .no)) .no)))))))) (by kernel_rfl) (by kernel_rfl) ?_
    refine s_pu (d := some 17) (v := (.pointer (some (Addr.add p3 0)))) rfl rfl rfl (r_fieldAddr Try.underlying38 Try.sizeOf36 rfl rfl rfl) ?_
    obtain ⟨x24, e25, H⟩ := H
    refine s_rd (d := some 18) (v := (.pointer x24)) rfl rfl rfl (fun dr => r_load1 Try.isAgg36 rfl e25) ?_
    refine s_pu (d := some 19) (v := (.pointer y22)) rfl rfl rfl (r_move rfl) ?_
    obtain ⟨p26, e27, H⟩ := H
    refine s_pu (d := some 20) (v := (.pointer (some p26))) rfl rfl rfl (r_nilCheck rfl e27) ?_
    refine s_pu (d := some 21) (v := (.pointer (some (Addr.add p26 0)))) rfl rfl rfl (r_fieldAddr Try.underlying119 Try.sizeOf43 rfl rfl rfl) ?_
    obtain ⟨x28, e29, H⟩ := H
    obtain ⟨x30, e31, H⟩ := H
    refine s_rd (d := some 22) (v := (.agg #[(.int .i64 x28), (.int .i64 x30)])) rfl rfl rfl (fun dr => r_loadN Try.isAgg43 Try.sizeOf43 (vs := [(.int .i64 x28), (.int .i64 x30)]) rfl rfl ⟨e29, e31, trivial⟩) ?_
    refine s_pu (d := some 23) (v := (.pointer y23)) rfl rfl rfl (r_move rfl) ?_
    refine s_ef (d := some 24) rfl rfl rfl (fun dr => r_call Try.call71 rfl rfl H) ?_ trivial
    rintro _ h6 ⟨y32, rfl, H⟩
    refine ⟨⟨trivial, trivial, trivial⟩, ?_⟩
    refine s_pu (d := some 25) (v := (.agg #[(.pointer y32)])) rfl rfl rfl (fun w => by kernel_rfl) ?_
    obtain ⟨e34, H⟩ := H
    obtain ⟨h7, e33⟩ : ∃ hh : Heap, hh = hsets h6 p9 0 [(.pointer y32)] := ⟨_, rfl⟩
    have H := H h7 e33
    refine s_st (d := none) (h' := h7) rfl rfl rfl (fun dr => (r_store (v := (.agg #[(.pointer y32)])) Try.sizeOf38 rfl rfl rfl (one_all rfl) e34).trans (by rw [e33]; rfl)) ⟨trivial, trivial, trivial⟩ ?_ trivial
    refine s_fin ?_
    show W _ _ _ _ _ _ _ _
    refine W_ret ?_
    obtain ⟨x35, e36, H⟩ := H
    exact ⟨[(.agg #[(.pointer x35)])], ⟨_, _, _, rfl, rfl, fun dr => run_loadVarN Try.isAgg38 Try.sizeOf38 (vs := [(.pointer x35)]) rfl ⟨e36, trivial⟩, rfl⟩, x35, rfl, H⟩

/-! ### finger_Many_api_Item_prio_top_prio_tops_Insert -/

def finger_Many_api_Item_prio_top_prio_tops_Insert_F (r : World) (t1 : Option Addr) (i2 : Int) (v3 : Int) (v4 : Int) (h : Heap) (R : Option Addr → Heap → Prop) : Prop :=
  New h (.cells #[(.pointer t1)] 38) fun p5 h1 =>
  New h1 (.cells #[(.int .i64 v3), (.int .i64 v4)] 43) fun p8 h2 =>
  New h2 (.cells #[(.pointer none)] 38) fun p11 h3 =>
  LdP h3 (Addr.add p5 0) fun x14 =>
  finger_split_api_Item_prio_top_prio_tops r x14 i2 h3 fun y16 y17 h4 =>
  LdI h4 (Addr.add p8 0) fun x18 =>
  LdI h4 (Addr.add p8 1) fun x20 =>
  finger_link_api_Item_prio_top_prio_tops r y16 x18 x20 y17 h4 fun y22 h5 =>
  St h5 p11 1 [(.pointer y22)] fun h6 =>
  LdP h6 (Addr.add p11 0) fun x25 =>
  R x25 h6

set_option maxRecDepth 100000 in
theorem finger_Many_api_Item_prio_top_prio_tops_Insert_of {r : World} {t1 : Option Addr} {i2 : Int} {v3 : Int} {v4 : Int} {h : Heap} {R : Option Addr → Heap → Prop} (H : finger_Many_api_Item_prio_top_prio_tops_Insert_F r t1 i2 v3 v4 h R) : finger_Many_api_Item_prio_top_prio_tops_Insert r t1 i2 v3 v4 h R := by
  unfold finger_Many_api_Item_prio_top_prio_tops_Insert_F at H
  refine calls_of 21 [.cell 6 38] Try.func42 rfl rfl rfl rfl rfl ?_
  refine W_seq ?_
  refine W_region (.ef 0 [] (.ef 1 [] (.ef 2 [] .fin .no) .no) .no) rfl rfl ?_
  obtain ⟨p5, e6⟩ : ∃ p : Addr, p = ⟨h.size, 0, none⟩ := ⟨_, rfl⟩
  obtain ⟨h1, e7⟩ : ∃ hh : Heap, hh = h.push (.cells #[(.pointer t1)] 38) := ⟨_, rfl⟩
  have H := H p5 h1 e6 e7
  refine s_ef1 (d := some 3) (v := (.pointer (some p5))) (h' := h1) rfl rfl rfl (fun dr => (r_box (v := (.agg #[(.pointer t1)])) rfl).trans (by rw [e6, e7]; rfl)) trivial ?_ trivial
  obtain ⟨p8, e9⟩ : ∃ p : Addr, p = ⟨h1.size, 0, none⟩ := ⟨_, rfl⟩
  obtain ⟨h2, e10⟩ : ∃ hh : Heap, hh = h1.push (.cells #[(.int .i64 v3), (.int .i64 v4)] 43) := ⟨_, rfl⟩
  have H := H p8 h2 e9 e10
  refine s_ef1 (d := some 5) (v := (.pointer (some p8))) (h' := h2) rfl rfl rfl (fun dr => (r_box (v := (.agg #[(.int .i64 v3), (.int .i64 v4)])) rfl).trans (by rw [e9, e10]; rfl)) trivial ?_ trivial
  obtain ⟨p11, e12⟩ : ∃ p : Addr, p = ⟨h2.size, 0, none⟩ := ⟨_, rfl⟩
  obtain ⟨h3, e13⟩ : ∃ hh : Heap, hh = h2.push (.cells #[(.pointer none)] 38) := ⟨_, rfl⟩
  have H := H p11 h3 e12 e13
  refine s_ef1 (d := some 6) (v := (.pointer (some p11))) (h' := h3) rfl rfl rfl (fun dr => (r_alloc Try.zeroValue38).trans (by rw [e12, e13]; rfl)) trivial ?_ trivial
  refine s_fin ?_
  show W _ _ _ _ _ _ _ _
  refine W_seq ?_
  refine W_region (.pu 0 (.rl 1 (.pu 2 (.ef 3 [] (.pu 4 (.pu 5 (.pu 6 (.pu 7 (.pu 8 .fin))))) .no)))) rfl rfl ?_
  refine s_pu (d := some 10) (v := (.pointer (some (Addr.add p5 0)))) rfl rfl rfl (r_fieldAddr Try.underlying38 Try.sizeOf36 rfl rfl rfl) ?_
  obtain ⟨x14, e15, H⟩ := H
  refine s_rl (d := some 11) (v := (.pointer x14)) rfl rfl rfl (fun dr => r_load1 Try.isAgg36 rfl e15) ?_
  refine s_pu (d := some 12) (v := (.int .i64 i2)) rfl rfl rfl (r_move rfl) ?_
  refine s_ef (d := some 13) rfl rfl rfl (fun dr => r_call Try.call70 rfl rfl H) ?_ trivial
  rintro _ h4 ⟨y16, y17, rfl, H⟩
  refine ⟨trivial, ?_⟩
  refine s_pu (d := some 9) (v := (.tuple #[(.pointer y16), (.pointer y17)])) rfl rfl rfl (r_move rfl) ?_
  refine s_pu (d := some 14) (v := (.pointer y16)) rfl rfl rfl (r_extract rfl rfl) ?_
  refine s_pu (d := some 15) (v := (.pointer y17)) rfl rfl rfl (r_extract rfl rfl) ?_
  refine s_pu (d := some 7) (v := (.pointer y16)) rfl rfl rfl (r_assign rfl) ?_
  refine s_pu (d := some 8) (v := (.pointer y17)) rfl rfl rfl (r_assign rfl) ?_
  refine s_fin ?_
  show W _ _ _ _ _ _ _ _
  refine W_seq ?_
  refine W_region (.pu 0 (.rl 1 (.pu 2 (.ef 3 [] (.pu 4 (.ef 5 [] .fin .no)) .no)))) rfl rfl ?_
  refine s_pu (d := some 16) (v := (.pointer y16)) rfl rfl rfl (r_move rfl) ?_
  obtain ⟨x18, e19, H⟩ := H
  obtain ⟨x20, e21, H⟩ := H
  refine s_rl (d := some 17) (v := (.agg #[(.int .i64 x18), (.int .i64 x20)])) rfl rfl rfl (fun dr => r_loadN Try.isAgg43 Try.sizeOf43 (vs := [(.int .i64 x18), (.int .i64 x20)]) rfl rfl ⟨e19, e21, trivial⟩) ?_
  refine s_pu (d := some 18) (v := (.pointer y17)) rfl rfl rfl (r_move rfl) ?_
  refine s_ef (d := some 19) rfl rfl rfl (fun dr => r_call Try.call71 rfl rfl H) ?_ trivial
  rintro _ h5 ⟨y22, rfl, H⟩
  refine ⟨trivial, ?_⟩
  refine s_pu (d := some 20) (v := (.agg #[(.pointer y22)])) rfl rfl rfl (fun w => by kernel_rfl) ?_
  obtain ⟨e24, H⟩ := H
  obtain ⟨h6, e23⟩ : ∃ hh : Heap, hh = hsets h5 p11 0 [(.pointer y22)] := ⟨_, rfl⟩
  have H := H h6 e23
  refine s_st (d := none) (h' := h6) rfl rfl rfl (fun dr => (r_store (v := (.agg #[(.pointer y22)])) Try.sizeOf38 rfl rfl rfl (one_all rfl) e24).trans (by rw [e23]; rfl)) trivial ?_ trivial
  refine s_fin ?_
  show W _ _ _ _ _ _ _ _
  refine W_ret ?_
  obtain ⟨x25, e26, H⟩ := H
  exact ⟨[(.agg #[(.pointer x25)])], ⟨_, _, _, rfl, rfl, fun dr => run_loadVarN Try.isAgg38 Try.sizeOf38 (vs := [(.pointer x25)]) rfl ⟨e26, trivial⟩, rfl⟩, x25, rfl, H⟩

/-! ### finger_Many_api_Item_prio_top_prio_tops_Cut -/

def finger_Many_api_Item_prio_top_prio_tops_Cut_F (r : World) (t1 : Option Addr) (i2 : Int) (j3 : Int) (h : Heap) (R : Option Addr → Heap → Prop) : Prop :=
  New h (.cells #[(.pointer t1)] 38) fun p4 h1 =>
  New h1 (.cells #[(.pointer none)] 38) fun p7 h2 =>
  LdP h2 (Addr.add p4 0) fun x10 =>
  finger_Many_api_Item_prio_top_prio_tops_Split r x10 i2 h2 fun y12 y13 h3 =>
  New h3 (.cells #[(.pointer none)] 38) fun p14 h4 =>
  New h4 (.cells #[(.pointer none)] 38) fun p17 h5 =>
  St h5 p14 1 [(.pointer y12)] fun h6 =>
  St h6 p17 1 [(.pointer y13)] fun h7 =>
  LdP h7 (Addr.add p4 0) fun x24 =>
  finger_Many_api_Item_prio_top_prio_tops_Split r x24 j3 h7 fun y26 y27 h8 =>
  New h8 (.cells #[(.pointer none)] 38) fun p28 h9 =>
  New h9 (.cells #[(.pointer none)] 38) fun p31 h10 =>
  St h10 p28 1 [(.pointer y26)] fun h11 =>
  St h11 p31 1 [(.pointer y27)] fun h12 =>
  LdP h12 (Addr.add p14 0) fun x38 =>
  LdP h12 (Addr.add p31 0) fun x40 =>
  finger_Many_api_Item_prio_top_prio_tops_Join r x38 x40 h12 fun y42 h13 =>
  St h13 p7 1 [(.pointer y42)] fun h14 =>
  LdP h14 (Addr.add p7 0) fun x45 =>
  R x45 h14

set_option maxRecDepth 100000 in
theorem finger_Many_api_Item_prio_top_prio_tops_Cut_of {r : World} {t1 : Option Addr} {i2 : Int} {j3 : Int} {h : Heap} {R : Option Addr → Heap → Prop} (H : finger_Many_api_Item_prio_top_prio_tops_Cut_F r t1 i2 j3 h R) : finger_Many_api_Item_prio_top_prio_tops_Cut r t1 i2 j3 h R := by
  unfold finger_Many_api_Item_prio_top_prio_tops_Cut_F at H
  refine calls_of 26 [.cell 6 38] Try.func48 rfl rfl rfl rfl rfl ?_
  refine W_seq ?_
  refine W_region (.ef 0 [] (.ef 1 [] .fin .no) .no) rfl rfl ?_
  obtain ⟨p4, e5⟩ : ∃ p : Addr, p = ⟨h.size, 0, none⟩ := ⟨_, rfl⟩
  obtain ⟨h1, e6⟩ : ∃ hh : Heap, hh = h.push (.cells #[(.pointer t1)] 38) := ⟨_, rfl⟩
  have H := H p4 h1 e5 e6
  refine s_ef1 (d := some 3) (v := (.pointer (some p4))) (h' := h1) rfl rfl rfl (fun dr => (r_box (v := (.agg #[(.pointer t1)])) rfl).trans (by rw [e5, e6]; rfl)) trivial ?_ trivial
  obtain ⟨p7, e8⟩ : ∃ p : Addr, p = ⟨h1.size, 0, none⟩ := ⟨_, rfl⟩
  obtain ⟨h2, e9⟩ : ∃ hh : Heap, hh = h1.push (.cells #[(.pointer none)] 38) := ⟨_, rfl⟩
  have H := H p7 h2 e8 e9
  refine s_ef1 (d := some 6) (v := (.pointer (some p7))) (h' := h2) rfl rfl rfl (fun dr => (r_alloc Try.zeroValue38).trans (by rw [e8, e9]; rfl)) trivial ?_ trivial
  refine s_fin ?_
  show W _ _ _ _ _ _ _ _
  refine W_seq ?_
  refine W_region (.rl 0 (.pu 1 (.ef 2 [] (.pu 3 (.pu 4 (.pu 5 (.ef 6 [] (.ef 7 [] (.ef 8 [] (.ef 9 [] .fin .no) .no) .no) .no)))) .no))) rfl rfl ?_
  obtain ⟨x10, e11, H⟩ := H
  refine s_rl (d := some 12) (v := (.agg #[(.pointer x10)])) rfl rfl rfl (fun dr => r_loadN Try.isAgg38 Try.sizeOf38 (vs := [(.pointer x10)]) rfl rfl ⟨e11, trivial⟩) ?_
  refine s_pu (d := some 13) (v := (.int .i64 i2)) rfl rfl rfl (r_move rfl) ?_
  refine s_ef (d := some 14) rfl rfl rfl (fun dr => r_call Try.call77 rfl rfl H) ?_ trivial
  rintro _ h3 ⟨y12, y13, rfl, H⟩
  refine ⟨trivial, ?_⟩
  refine s_pu (d := some 11) (v := (.tuple #[(.agg #[(.pointer y12)]), (.agg #[(.pointer y13)])])) rfl rfl rfl (r_move rfl) ?_
  refine s_pu (d := some 15) (v := (.agg #[(.pointer y12)])) rfl rfl rfl (r_extract rfl rfl) ?_
  refine s_pu (d := some 16) (v := (.agg #[(.pointer y13)])) rfl rfl rfl (r_extract rfl rfl) ?_
  obtain ⟨p14, e15⟩ : ∃ p : Addr, p = ⟨h3.size, 0, none⟩ := ⟨_, rfl⟩
  obtain ⟨h4, e16⟩ : ∃ hh : Heap, hh = h3.push (.cells #[(.pointer none)] 38) := ⟨_, rfl⟩
  have H := H p14 h4 e15 e16
  refine s_ef1 (d := some 7) (v := (.pointer (some p14))) (h' := h4) rfl rfl rfl (fun dr => (r_alloc Try.zeroValue38).trans (by rw [e15, e16]; rfl)) trivial ?_ trivial
  obtain ⟨p17, e18⟩ : ∃ p : Addr, p = ⟨h4.size, 0, none⟩ := ⟨_, rfl⟩
  obtain ⟨h5, e19⟩ : ∃ hh : Heap, hh = h4.push (.cells #[(.pointer none)] 38) := ⟨_, rfl⟩
  have H := H p17 h5 e18 e19
  refine s_ef1 (d := some 8) (v := (.pointer (some p17))) (h' := h5) rfl rfl rfl (fun dr => (r_alloc Try.zeroValue38).trans (by rw [e18, e19]; rfl)) trivial ?_ trivial
  obtain ⟨e21, H⟩ := H
  obtain ⟨h6, e20⟩ : ∃ hh : Heap, hh = hsets h5 p14 0 [(.pointer y12)] := ⟨_, rfl⟩
  have H := H h6 e20
  refine s_st (d := none) (h' := h6) rfl rfl rfl (fun dr => (r_store (v := (.agg #[(.pointer y12)])) Try.sizeOf38 rfl rfl rfl (one_all rfl) e21).trans (by rw [e20]; rfl)) trivial ?_ trivial
  obtain ⟨e23, H⟩ := H
  obtain ⟨h7, e22⟩ : ∃ hh : Heap, hh = hsets h6 p17 0 [(.pointer y13)] := ⟨_, rfl⟩
  have H := H h7 e22
  refine s_st (d := none) (h' := h7) rfl rfl rfl (fun dr => (r_store (v := (.agg #[(.pointer y13)])) Try.sizeOf38 rfl rfl rfl (one_all rfl) e23).trans (by rw [e22]; rfl)) trivial ?_ trivial
  refine s_fin ?_
  show W _ _ _ _ _ _ _ _
  refine W_seq ?_
  refine W_region (.rl 0 (.pu 1 (.ef 2 [] (.pu 3 (.pu 4 (.pu 5 (.ef 6 [] (.ef 7 [] (.ef 8 [] (.ef 9 [] .fin .no) .no) .no) .no)))) .no))) rfl rfl ?_
  obtain ⟨x24, e25, H⟩ := H
  refine s_rl (d := some 18) (v := (.agg #[(.pointer x24)])) rfl rfl rfl (fun dr => r_loadN Try.isAgg38 Try.sizeOf38 (vs := [(.pointer x24)]) rfl rfl ⟨e25, trivial⟩) ?_
  refine s_pu (d := some 19) (v := (.int .i64 j3)) rfl rfl rfl (r_move rfl) ?_
  refine s_ef (d := some 20) rfl rfl rfl (fun dr => r_call Try.call77 rfl rfl H) ?_ trivial
  rintro _ h8 ⟨y26, y27, rfl, H⟩
  refine ⟨trivial, ?_⟩
  refine s_pu (d := some 17) (v := (.tuple #[(.agg #[(.pointer y26)]), (.agg #[(.pointer y27)])])) rfl rfl rfl (r_move rfl) ?_
  refine s_pu (d := some 21) (v := (.agg #[(.pointer y26)])) rfl rfl rfl (r_extract rfl rfl) ?_
  refine s_pu (d := some 22) (v := (.agg #[(.pointer y27)])) rfl rfl rfl (r_extract rfl rfl) ?_
  obtain ⟨p28, e29⟩ : ∃ p : Addr, p = ⟨h8.size, 0, none⟩ := ⟨_, rfl⟩
  obtain ⟨h9, e30⟩ : ∃ hh : Heap, hh = h8.push (.cells #[(.pointer none)] 38) := ⟨_, rfl⟩
  have H := H p28 h9 e29 e30
  refine s_ef1 (d := some 9) (v := (.pointer (some p28))) (h' := h9) rfl rfl rfl (fun dr => (r_alloc Try.zeroValue38).trans (by rw [e29, e30]; rfl)) trivial ?_ trivial
  obtain ⟨p31, e32⟩ : ∃ p : Addr, p = ⟨h9.size, 0, none⟩ := ⟨_, rfl⟩
  obtain ⟨h10, e33⟩ : ∃ hh : Heap, hh = h9.push (.cells #[(.pointer none)] 38) := ⟨_, rfl⟩
  have H := H p31 h10 e32 e33
  refine s_ef1 (d := some 10) (v := (.pointer (some p31))) (h' := h10) rfl rfl rfl (fun dr => (r_alloc Try.zeroValue38).trans (by rw [e32, e33]; rfl)) trivial ?_ trivial
  obtain ⟨e35, H⟩ := H
  obtain ⟨h11, e34⟩ : ∃ hh : Heap, hh = hsets h10 p28 0 [(.pointer y26)] := ⟨_, rfl⟩
  have H := H h11 e34
  refine s_st (d := none) (h' := h11) rfl rfl rfl (fun dr => (r_store (v := (.agg #[(.pointer y26)])) Try.sizeOf38 rfl rfl rfl (one_all rfl) e35).trans (by rw [e34]; rfl)) trivial ?_ trivial
  obtain ⟨e37, H⟩ := H
  obtain ⟨h12, e36⟩ : ∃ hh : Heap, hh = hsets h11 p31 0 [(.pointer y27)] := ⟨_, rfl⟩
  have H := H h12 e36
  refine s_st (d := none) (h' := h12) rfl rfl rfl (fun dr => (r_store (v := (.agg #[(.pointer y27)])) Try.sizeOf38 rfl rfl rfl (one_all rfl) e37).trans (by rw [e36]; rfl)) trivial ?_ trivial
  refine s_fin ?_
  show W _ _ _ _ _ _ _ _
  refine W_seq ?_
  refine W_region (.rl 0 (.rl 1 (.ef 2 [] (.ef 3 [] .fin .no) .no))) rfl rfl ?_
  obtain ⟨x38, e39, H⟩ := H
  refine s_rl (d := some 23) (v := (.agg #[(.pointer x38)])) rfl rfl rfl (fun dr => r_loadN Try.isAgg38 Try.sizeOf38 (vs := [(.pointer x38)]) rfl rfl ⟨e39, trivial⟩) ?_
  obtain ⟨x40, e41, H⟩ := H
  refine s_rl (d := some 24) (v := (.agg #[(.pointer x40)])) rfl rfl rfl (fun dr => r_loadN Try.isAgg38 Try.sizeOf38 (vs := [(.pointer x40)]) rfl rfl ⟨e41, trivial⟩) ?_
  refine s_ef (d := some 25) rfl rfl rfl (fun dr => r_call Try.call46 rfl rfl H) ?_ trivial
  rintro _ h13 ⟨y42, rfl, H⟩
  refine ⟨trivial, ?_⟩
  obtain ⟨e44, H⟩ := H
  obtain ⟨h14, e43⟩ : ∃ hh : Heap, hh = hsets h13 p7 0 [(.pointer y42)] := ⟨_, rfl⟩
  have H := H h14 e43
  refine s_st (d := none) (h' := h14) rfl rfl rfl (fun dr => (r_store (v := (.agg #[(.pointer y42)])) Try.sizeOf38 rfl rfl rfl (one_all rfl) e44).trans (by rw [e43]; rfl)) trivial ?_ trivial
  refine s_fin ?_
  show W _ _ _ _ _ _ _ _
  refine W_ret ?_
  obtain ⟨x45, e46, H⟩ := H
  exact ⟨[(.agg #[(.pointer x45)])], ⟨_, _, _, rfl, rfl, fun dr => run_loadVarN Try.isAgg38 Try.sizeOf38 (vs := [(.pointer x45)]) rfl ⟨e46, trivial⟩, rfl⟩, x45, rfl, H⟩

/-! ### finger_Many_api_Item_prio_top_prio_tops_At -/

def finger_Many_api_Item_prio_top_prio_tops_At_F (r : World) (t1 : Option Addr) (i2 : Int) (h : Heap) (R : Int → Int → Heap → Prop) : Prop :=
  New h (.cells #[(.pointer t1)] 38) fun p3 h1 =>
  New h1 (.cells #[(.int .i64 0), (.int .i64 0)] 43) fun p6 h2 =>
  LdP h2 (Addr.add p3 0) fun x9 =>
  ∀ X13 : Int → Option Addr → Heap → Prop, (∀ (i11 : Int) (n12 : Option Addr) (h3 : Heap),
    (Ck n12 fun p14 =>
    LdP h3 (Addr.add p14 5) fun x16 =>
    finger_node_api_Item_prio_top_size r x16 h3 fun y18 h4 =>
    Br (decide (i11 < y18)) (
      Ck n12 fun p19 =>
      LdP h4 (Addr.add p19 5) fun x21 =>
      X13 i11 x21 h4) (
      Br (decide (y18 < i11)) (
        Ck n12 fun p23 =>
        LdP h4 (Addr.add p23 6) fun x25 =>
        X13 (w64 ((w64 (i11 - y18)) - 1)) x25 h4) (
        Ck n12 fun p27 =>
        LdI h4 (Addr.add (Addr.add p27 0) 0) fun x29 =>
        LdI h4 (Addr.add (Addr.add p27 0) 1) fun x31 =>
        St h4 p6 2 [(.int .i64 x29), (.int .i64 x31)] fun h5 =>
        LdI h5 (Addr.add p6 0) fun x35 =>
        LdI h5 (Addr.add p6 1) fun x37 =>
        R x35 x37 h5))) →
    X13 i11 n12 h3) →
  X13 i2 x9 h2

set_option maxRecDepth 100000 in
theorem finger_Many_api_Item_prio_top_prio_tops_At_of {r : World} {t1 : Option Addr} {i2 : Int} {h : Heap} {R : Int → Int → Heap → Prop} (H : finger_Many_api_Item_prio_top_prio_tops_At_F r t1 i2 h R) : finger_Many_api_Item_prio_top_prio_tops_At r t1 i2 h R := by
  unfold finger_Many_api_Item_prio_top_prio_tops_At_F at H
  refine calls_of 38 [.cell 4 43] Try.func44 rfl rfl rfl rfl rfl ?_
  refine W_seq ?_
  refine W_region (.ef 0 [] (.ef 1 [] .fin .no) .no) rfl rfl ?_
  obtain ⟨p3, e4⟩ : ∃ p : Addr, p = ⟨h.size, 0, none⟩ := ⟨_, rfl⟩
  obtain ⟨h1, e5⟩ : ∃ hh : Heap, hh = h.push (.cells #[(.pointer t1)] 38) := ⟨_, rfl⟩
  have H := H p3 h1 e4 e5
  refine s_ef1 (d := some 2) (v := (.pointer (some p3))) (h' := h1) rfl rfl rfl (fun dr => (r_box (v := (.agg #[(.pointer t1)])) rfl).trans (by rw [e4, e5]; rfl)) trivial ?_ trivial
  obtain ⟨p6, e7⟩ : ∃ p : Addr, p = ⟨h1.size, 0, none⟩ := ⟨_, rfl⟩
  obtain ⟨h2, e8⟩ : ∃ hh : Heap, hh = h1.push (.cells #[(.int .i64 0), (.int .i64 0)] 43) := ⟨_, rfl⟩
  have H := H p6 h2 e7 e8
  refine s_ef1 (d := some 4) (v := (.pointer (some p6))) (h' := h2) rfl rfl rfl (fun dr => (r_alloc Try.zeroValue43).trans (by rw [e7, e8]; rfl)) trivial ?_ trivial
  refine s_fin ?_
  show W _ _ _ _ _ _ _ _
  refine W_seq ?_
  refine W_region (.pu 0 (.rl 1 (.pu 2 .fin))) rfl rfl ?_
  refine s_pu (d := some 7) (v := (.pointer (some (Addr.add p3 0)))) rfl rfl rfl (r_fieldAddr Try.underlying38 Try.sizeOf36 rfl rfl rfl) ?_
  obtain ⟨x9, e10, H⟩ := H
  refine s_rl (d := some 8) (v := (.pointer x9)) rfl rfl rfl (fun dr => r_load1 Try.isAgg36 rfl e10) ?_
  refine s_pu (d := some 5) (v := (.pointer x9)) rfl rfl rfl (r_assign rfl) ?_
  refine s_fin ?_
  show W _ _ _ _ _ _ _ _
  refine W_block ?_
  refine W_loop (WL_mk (l := [(1, (.int .i64 i2)), (4, (.pointer (some p6))), (5, (.pointer x9))]) ?_ ⟨rfl, rfl, rfl, trivial⟩)
  refine H (fun (i11 : Int) (n12 : Option Addr) (h3 : Heap) => ∀ b, WL _ _ _ _ _ _ (mkE [(1, (.int .i64 i11)), (4, (.pointer (some p6))), (5, (.pointer n12))] b) h3) ?_
  intro i11 n12 h3 H b
  refine WL_round ?_
  refine W_block ?_
  refine W_seq ?_
  refine W_region (.pu 0 (.pu 1 (.pu 2 (.rl 3 (.ef 4 [] (.pu 5 .fin) .no))))) rfl rfl ?_
  refine s_pu (d := some 9) (v := (.pointer n12)) rfl rfl rfl (r_move rfl) ?_
  obtain ⟨p14, e15, H⟩ := H
  refine s_pu (d := some 10) (v := (.pointer (some p14))) rfl rfl rfl (r_nilCheck rfl e15) ?_
  refine s_pu (d := some 11) (v := (.pointer (some (Addr.add p14 5)))) rfl rfl rfl (r_fieldAddr Try.underlying119 Try.sizeOf36 rfl rfl rfl) ?_
  obtain ⟨x16, e17, H⟩ := H
  refine s_rl (d := some 12) (v := (.pointer x16)) rfl rfl rfl (fun dr => r_load1 Try.isAgg36 rfl e17) ?_
  refine s_ef (d := some 13) rfl rfl rfl (fun dr => r_call Try.call72 rfl rfl H) ?_ trivial
  rintro _ h4 ⟨y18, rfl, H⟩
  refine ⟨trivial, ?_⟩
  refine s_pu (d := some 6) (v := (.int .i64 y18)) rfl rfl rfl (r_assign rfl) ?_
  refine s_fin ?_
  show W _ _ _ _ _ _ _ _
  refine W_block ?_
  refine W_seq ?_
  refine W_region (.pu 0 (.pu 1 (.pu 2 (.pu 3 .fin)))) rfl rfl ?_
  refine s_pu (d := some 19) (v := (.int .i64 i11)) rfl rfl rfl (r_move rfl) ?_
  refine s_pu (d := some 20) (v := (.int .i64 y18)) rfl rfl rfl (r_move rfl) ?_
  refine s_pu (d := some 21) (v := (.bool (decide (i11 < y18)))) rfl rfl rfl (r_lss rfl rfl) ?_
  refine s_pu (d := some 18) (v := (.bool (decide (i11 < y18)))) rfl rfl rfl (r_assign rfl) ?_
  refine s_fin ?_
  show W _ _ _ _ _ _ _ _
  refine W_if (decide (i11 < y18)) rfl (fun g40 => ?_) (fun g40 => ?_)
  · have H := H.1 g40
    refine W_region (.pu 0 (.pu 1 (.pu 2 (.rl 3 (.pu 4 .fin))))) rfl rfl ?_
    refine s_pu (d := some 22) (v := (.pointer n12)) rfl rfl rfl (r_move rfl) ?_
    obtain ⟨p19, e20, H⟩ := H
    refine s_pu (d := some 23) (v := (.pointer (some p19))) rfl rfl rfl (r_nilCheck rfl e20) ?_
    refine s_pu (d := some 24) (v := (.pointer (some (Addr.add p19 5)))) rfl rfl rfl (r_fieldAddr Try.underlying119 Try.sizeOf36 rfl rfl rfl) ?_
    obtain ⟨x21, e22, H⟩ := H
    refine s_rl (d := some 25) (v := (.pointer x21)) rfl rfl rfl (fun dr => r_load1 Try.isAgg36 rfl e22) ?_
    refine s_pu (d := some 5) (v := (.pointer x21)) rfl rfl rfl (r_assign rfl) ?_
    refine s_fin ?_
    exact WL_mk (l := [(1, (.int .i64 i11)), (4, (.pointer (some p6))), (5, (.pointer x21))]) H ⟨rfl, rfl, rfl, trivial⟩
  · have H := H.2 g40
    refine W_seq ?_
    refine W_region (.pu 0 (.pu 1 (.pu 2 (.pu 3 .fin)))) rfl rfl ?_
    refine s_pu (d := some 27) (v := (.int .i64 i11)) rfl rfl rfl (r_move rfl) ?_
    refine s_pu (d := some 28) (v := (.int .i64 y18)) rfl rfl rfl (r_move rfl) ?_
    refine s_pu (d := some 29) (v := (.bool (decide (y18 < i11)))) rfl rfl rfl (r_gtr rfl rfl) ?_
    refine s_pu (d := some 26) (v := (.bool (decide (y18 < i11)))) rfl rfl rfl (r_assign rfl) ?_
    refine s_fin ?_
    show W _ _ _ _ _ _ _ _
    refine W_if (decide (y18 < i11)) rfl (fun g39 => ?_) (fun g39 => ?_)
    · have H := H.1 g39
      refine W_region (.pu 0 (.pu 1 (.pu 2 (.rl 3 (.pu 4 (.pu 5 (.pu 6 (.pu 7 (.pu 8 (.pu 9 .fin)))))))))) rfl rfl ?_
      refine s_pu (d := some 30) (v := (.pointer n12)) rfl rfl rfl (r_move rfl) ?_
      obtain ⟨p23, e24, H⟩ := H
      refine s_pu (d := some 31) (v := (.pointer (some p23))) rfl rfl rfl (r_nilCheck rfl e24) ?_
      refine s_pu (d := some 32) (v := (.pointer (some (Addr.add p23 6)))) rfl rfl rfl (r_fieldAddr Try.underlying119 Try.sizeOf36 rfl rfl rfl) ?_
      obtain ⟨x25, e26, H⟩ := H
      refine s_rl (d := some 33) (v := (.pointer x25)) rfl rfl rfl (fun dr => r_load1 Try.isAgg36 rfl e26) ?_
      refine s_pu (d := some 34) (v := (.int .i64 i11)) rfl rfl rfl (r_move rfl) ?_
      refine s_pu (d := some 35) (v := (.int .i64 y18)) rfl rfl rfl (r_move rfl) ?_
      refine s_pu (d := some 36) (v := (.int .i64 (w64 (i11 - y18)))) rfl rfl rfl (r_sub rfl rfl) ?_
      refine s_pu (d := some 37) (v := (.int .i64 (w64 ((w64 (i11 - y18)) - 1)))) rfl rfl rfl (r_sub rfl rfl) ?_
      refine s_pu (d := some 5) (v := (.pointer x25)) rfl rfl rfl (r_assign rfl) ?_
      refine s_pu (d := some 1) (v := (.int .i64 (w64 ((w64 (i11 - y18)) - 1)))) rfl rfl rfl (r_assign rfl) ?_
      refine s_fin ?_
      exact WL_mk (l := [(1, (.int .i64 (w64 ((w64 (i11 - y18)) - 1)))), (4, (.pointer (some p6))), (5, (.pointer x25))]) H ⟨rfl, rfl, rfl, trivial⟩
    · have H := H.2 g39
      refine W_seq ?_
      refine W_region (.pu 0 (.pu 1 (.pu 2 (.rl 3 (.ef 4 [] .fin .no))))) rfl rfl ?_
      refine s_pu (d := some 14) (v := (.pointer n12)) rfl rfl rfl (r_move rfl) ?_
      obtain ⟨p27, e28, H⟩ := H
      refine s_pu (d := some 15) (v := (.pointer (some p27))) rfl rfl rfl (r_nilCheck rfl e28) ?_
      refine s_pu (d := some 16) (v := (.pointer (some (Addr.add p27 0)))) rfl rfl rfl (r_fieldAddr Try.underlying119 Try.sizeOf43 rfl rfl rfl) ?_
      obtain ⟨x29, e30, H⟩ := H
      obtain ⟨x31, e32, H⟩ := H
      refine s_rl (d := some 17) (v := (.agg #[(.int .i64 x29), (.int .i64 x31)])) rfl rfl rfl (fun dr => r_loadN Try.isAgg43 Try.sizeOf43 (vs := [(.int .i64 x29), (.int .i64 x31)]) rfl rfl ⟨e30, e32, trivial⟩) ?_
      obtain ⟨e34, H⟩ := H
      obtain ⟨h5, e33⟩ : ∃ hh : Heap, hh = hsets h4 p6 0 [(.int .i64 x29), (.int .i64 x31)] := ⟨_, rfl⟩
      have H := H h5 e33
      refine s_st (d := none) (h' := h5) rfl rfl rfl (fun dr => (r_store (v := (.agg #[(.int .i64 x29), (.int .i64 x31)])) Try.sizeOf43 rfl rfl rfl (one_all rfl) e34).trans (by rw [e33]; rfl)) trivial ?_ trivial
      refine s_fin ?_
      show W _ _ _ _ _ _ _ _
      refine W_ret ?_
      obtain ⟨x35, e36, H⟩ := H
      obtain ⟨x37, e38, H⟩ := H
      exact ⟨[(.agg #[(.int .i64 x35), (.int .i64 x37)])], ⟨_, _, _, rfl, rfl, fun dr => run_loadVarN Try.isAgg43 Try.sizeOf43 (vs := [(.int .i64 x35), (.int .i64 x37)]) rfl ⟨e36, e38, trivial⟩, rfl⟩, x35, x37, rfl, H⟩

/-! ### finger_Many_api_Item_prio_top_prio_tops_Find -/

def finger_Many_api_Item_prio_top_prio_tops_Find_F (r : World) (t1 : Option Addr) (p2 : Value) (h : Heap) (R : Int → Heap → Prop) : Prop :=
  New h (.cells #[(.pointer t1)] 38) fun p3 h1 =>
  New h1 (.cells #[] 89) fun p6 h2 =>
  prio_tops_None r h2 fun y9 y10 h3 =>
  New h3 (.cells #[(.bool false), (.int .i64 0)] 88) fun p11 h4 =>
  St h4 p11 2 [(.bool y9), (.int .i64 y10)] fun h5 =>
  LdP h5 (Addr.add p3 0) fun x16 =>
  ∀ X20 : Int → Option Addr → Heap → Prop, (∀ (va18 : Int) (n19 : Option Addr) (h6 : Heap),
    (Br (!(Option.isNone n19)) (
      ∀ J22 : Addr → Heap → Prop, (∀ (p21 : Addr) (h7 : Heap),
        (LdB h7 (Addr.add p21 0) fun x24 =>
        LdI h7 (Addr.add p21 1) fun x26 =>
        CallV Try.prog r p2 [(.agg #[(.bool x24), (.int .i64 x26)])] h7 fun v119 h8 => ∃ (y28 : Bool), v119 = (.bool y28) ∧
        Br y28 (
          Ck n19 fun p29 =>
          LdP h8 (Addr.add p29 5) fun x31 =>
          X20 va18 x31 h8) (
          ∀ J34 : Addr → Heap → Prop, (∀ (p33 : Addr) (h9 : Heap),
            (LdB h9 (Addr.add p33 0) fun x36 =>
            LdI h9 (Addr.add p33 1) fun x38 =>
            CallV Try.prog r p2 [(.agg #[(.bool x36), (.int .i64 x38)])] h9 fun v66 h10 => ∃ (y40 : Bool), v66 = (.bool y40) ∧
            Br (!y40) (
              LdB h10 (Addr.add p33 0) fun x41 =>
              LdI h10 (Addr.add p33 1) fun x43 =>
              Ck n19 fun p45 =>
              LdP h10 (Addr.add p45 5) fun x47 =>
              Ck n19 fun p49 =>
              LdP h10 (Addr.add p49 6) fun x51 =>
              finger_node_api_Item_prio_top_size r x47 h10 fun y53 h11 =>
              (hcell h11 (Addr.add p49 6) = some (.pointer x51)) ∧
              (hcell h11 (Addr.add p33 0) = some (.bool x41)) ∧
              (hcell h11 (Addr.add p33 1) = some (.int .i64 x43)) ∧
              St h11 p11 2 [(.bool x41), (.int .i64 x43)] fun h12 =>
              (hcell h12 (Addr.add p49 6) = some (.pointer x51)) ∧
              X20 (w64 ((w64 (va18 + y53)) + 1)) x51 h12) (
              Ck n19 fun p60 =>
              LdP h10 (Addr.add p60 5) fun x62 =>
              finger_node_api_Item_prio_top_size r x62 h10 fun y64 h13 =>
              R (w64 (va18 + y64)) h13)) →
            J34 p33 h9) →
          LdB h8 (Addr.add p21 0) fun x67 =>
          LdI h8 (Addr.add p21 1) fun x69 =>
          Ck n19 fun p71 =>
          LdI h8 (Addr.add (Addr.add p71 0) 0) fun x73 =>
          LdI h8 (Addr.add (Addr.add p71 0) 1) fun x75 =>
          (prio_tops_One r x73 x75 h8 fun y77 y78 h14 =>
          (hcell h14 (Addr.add p21 0) = some (.bool x67)) ∧
          (hcell h14 (Addr.add p21 1) = some (.int .i64 x69)) ∧
          (prio_tops_Join r x67 x69 y77 y78 h14 fun y81 y82 h15 =>
          New h15 (.cells #[(.bool false), (.int .i64 0)] 88) fun p83 h16 =>
          (hcell h16 (Addr.add (Addr.add p71 0) 0) = some (.int .i64 x73)) ∧
          (hcell h16 (Addr.add (Addr.add p71 0) 1) = some (.int .i64 x75)) ∧
          (hcell h16 (Addr.add p21 0) = some (.bool x67)) ∧
          (hcell h16 (Addr.add p21 1) = some (.int .i64 x69)) ∧
          St h16 p83 2 [(.bool y81), (.int .i64 y82)] fun h17 =>
          J34 p83 h17) ∧
          (New h14 (.cells #[(.bool false), (.int .i64 0)] 88) fun p92 h18 =>
          (hcell h18 (Addr.add (Addr.add p71 0) 0) = some (.int .i64 x73)) ∧
          (hcell h18 (Addr.add (Addr.add p71 0) 1) = some (.int .i64 x75)) ∧
          (hcell h18 (Addr.add p21 0) = some (.bool x67)) ∧
          (hcell h18 (Addr.add p21 1) = some (.int .i64 x69)) ∧
          prio_tops_Join r x67 x69 y77 y78 h18 fun y99 y100 h19 =>
          St h19 p92 2 [(.bool y99), (.int .i64 y100)] fun h20 =>
          J34 p92 h20)) ∧
          (New h8 (.cells #[(.bool false), (.int .i64 0)] 88) fun p103 h21 =>
          (hcell h21 (Addr.add (Addr.add p71 0) 0) = some (.int .i64 x73)) ∧
          (hcell h21 (Addr.add (Addr.add p71 0) 1) = some (.int .i64 x75)) ∧
          (hcell h21 (Addr.add p21 0) = some (.bool x67)) ∧
          (hcell h21 (Addr.add p21 1) = some (.int .i64 x69)) ∧
          prio_tops_One r x73 x75 h21 fun y110 y111 h22 =>
          (hcell h22 (Addr.add p21 0) = some (.bool x67)) ∧
          (hcell h22 (Addr.add p21 1) = some (.int .i64 x69)) ∧
          prio_tops_Join r x67 x69 y110 y111 h22 fun y114 y115 h23 =>
          St h23 p103 2 [(.bool y114), (.int .i64 y115)] fun h24 =>
          J34 p103 h24))) →
        J22 p21 h7) →
      LdB h6 (Addr.add p11 0) fun x120 =>
      LdI h6 (Addr.add p11 1) fun x122 =>
      Ck n19 fun p124 =>
      LdP h6 (Addr.add p124 5) fun x126 =>
      (finger_total_api_Item_prio_top_prio_tops r x126 h6 fun y128 y129 h25 =>
      (hcell h25 (Addr.add p11 0) = some (.bool x120)) ∧
      (hcell h25 (Addr.add p11 1) = some (.int .i64 x122)) ∧
      (prio_tops_Join r x120 x122 y128 y129 h25 fun y132 y133 h26 =>
      New h26 (.cells #[(.bool false), (.int .i64 0)] 88) fun p134 h27 =>
      (hcell h27 (Addr.add p124 5) = some (.pointer x126)) ∧
      (hcell h27 (Addr.add p11 0) = some (.bool x120)) ∧
      (hcell h27 (Addr.add p11 1) = some (.int .i64 x122)) ∧
      St h27 p134 2 [(.bool y132), (.int .i64 y133)] fun h28 =>
      J22 p134 h28) ∧
      (New h25 (.cells #[(.bool false), (.int .i64 0)] 88) fun p142 h29 =>
      (hcell h29 (Addr.add p124 5) = some (.pointer x126)) ∧
      (hcell h29 (Addr.add p11 0) = some (.bool x120)) ∧
      (hcell h29 (Addr.add p11 1) = some (.int .i64 x122)) ∧
      prio_tops_Join r x120 x122 y128 y129 h29 fun y148 y149 h30 =>
      St h30 p142 2 [(.bool y148), (.int .i64 y149)] fun h31 =>
      J22 p142 h31)) ∧
      (New h6 (.cells #[(.bool false), (.int .i64 0)] 88) fun p152 h32 =>
      (hcell h32 (Addr.add p124 5) = some (.pointer x126)) ∧
      (hcell h32 (Addr.add p11 0) = some (.bool x120)) ∧
      (hcell h32 (Addr.add p11 1) = some (.int .i64 x122)) ∧
      finger_total_api_Item_prio_top_prio_tops r x126 h32 fun y158 y159 h33 =>
      (hcell h33 (Addr.add p11 0) = some (.bool x120)) ∧
      (hcell h33 (Addr.add p11 1) = some (.int .i64 x122)) ∧
      prio_tops_Join r x120 x122 y158 y159 h33 fun y162 y163 h34 =>
      St h34 p152 2 [(.bool y162), (.int .i64 y163)] fun h35 =>
      J22 p152 h35)) (
      R va18 h6)) →
    X20 va18 n19 h6) →
  X20 0 x16 h5

set_option maxRecDepth 100000 in
theorem finger_Many_api_Item_prio_top_prio_tops_Find_of {r : World} {t1 : Option Addr} {p2 : Value} {h : Heap} {R : Int → Heap → Prop} (H : finger_Many_api_Item_prio_top_prio_tops_Find_F r t1 p2 h R) : finger_Many_api_Item_prio_top_prio_tops_Find r t1 p2 h R := by
  unfold finger_Many_api_Item_prio_top_prio_tops_Find_F at H
  refine calls_of 70 [.tmp 4] Try.func74 rfl rfl rfl rfl rfl ?_
  refine W_seq ?_
  refine W_region (.ef 0 [] (.pu 1 .fin) .no) rfl rfl ?_
  obtain ⟨p3, e4⟩ : ∃ p : Addr, p = ⟨h.size, 0, none⟩ := ⟨_, rfl⟩
  obtain ⟨h1, e5⟩ : ∃ hh : Heap, hh = h.push (.cells #[(.pointer t1)] 38) := ⟨_, rfl⟩
  have H := H p3 h1 e4 e5
  refine s_ef1 (d := some 2) (v := (.pointer (some p3))) (h' := h1) rfl rfl rfl (fun dr => (r_box (v := (.agg #[(.pointer t1)])) rfl).trans (by rw [e4, e5]; rfl)) trivial ?_ trivial
  refine s_pu (d := some 4) (v := (.int .i64 0)) rfl rfl rfl (r_assign rfl) ?_
  refine s_fin ?_
  show W _ _ _ _ _ _ _ _
  refine W_seq ?_
  refine W_region (.ef 0 [] .fin .no) rfl rfl ?_
  obtain ⟨p6, e7⟩ : ∃ p : Addr, p = ⟨h1.size, 0, none⟩ := ⟨_, rfl⟩
  obtain ⟨h2, e8⟩ : ∃ hh : Heap, hh = h1.push (.cells #[] 89) := ⟨_, rfl⟩
  have H := H p6 h2 e7 e8
  refine s_ef1 (d := some 5) (v := (.pointer (some p6))) (h' := h2) rfl rfl rfl (fun dr => (r_alloc Try.zeroValue89).trans (by rw [e7, e8]; rfl)) trivial ?_ trivial
  refine s_fin ?_
  show W _ _ _ _ _ _ _ _
  refine W_seq ?_
  refine W_region (.pu 0 .fin) rfl rfl ?_
  refine s_pu (d := some 6) (v := (.int .i64 0)) rfl rfl rfl (r_assign rfl) ?_
  refine s_fin ?_
  show W _ _ _ _ _ _ _ _
  refine W_seq ?_
  refine W_region (.rl 0 (.pu 1 (.ef 2 [] (.ef 3 [] (.ef 4 [] .fin .no) .no) .no))) rfl rfl ?_
  refine s_rl (d := some 11) (v := (.agg #[])) rfl rfl rfl (fun dr => r_loadN Try.isAgg89 Try.sizeOf89 (vs := []) rfl rfl trivial) ?_
  refine s_pu (d := some 12) (v := ((.iface 89 (.agg #[])))) rfl rfl rfl (r_iface Try.underlying89 rfl rfl) ?_
  refine s_ef (d := some 13) rfl rfl rfl (fun dr => r_invoke mth_prio_tops_None rfl rfl H) ?_ trivial
  rintro _ h3 ⟨y9, y10, rfl, H⟩
  refine ⟨trivial, ?_⟩
  obtain ⟨p11, e12⟩ : ∃ p : Addr, p = ⟨h3.size, 0, none⟩ := ⟨_, rfl⟩
  obtain ⟨h4, e13⟩ : ∃ hh : Heap, hh = h3.push (.cells #[(.bool false), (.int .i64 0)] 88) := ⟨_, rfl⟩
  have H := H p11 h4 e12 e13
  refine s_ef1 (d := some 7) (v := (.pointer (some p11))) (h' := h4) rfl rfl rfl (fun dr => (r_alloc Try.zeroValue88).trans (by rw [e12, e13]; rfl)) trivial ?_ trivial
  obtain ⟨e15, H⟩ := H
  obtain ⟨h5, e14⟩ : ∃ hh : Heap, hh = hsets h4 p11 0 [(.bool y9), (.int .i64 y10)] := ⟨_, rfl⟩
  have H := H h5 e14
  refine s_st (d := none) (h' := h5) rfl rfl rfl (fun dr => (r_store (v := (.agg #[(.bool y9), (.int .i64 y10)])) Try.sizeOf88 rfl rfl rfl (one_all rfl) e15).trans (by rw [e14]; rfl)) trivial ?_ trivial
  refine s_fin ?_
  show W _ _ _ _ _ _ _ _
  refine W_seq ?_
  refine W_seq ?_
  refine W_region (.pu 0 (.rl 1 (.pu 2 .fin))) rfl rfl ?_
  refine s_pu (d := some 14) (v := (.pointer (some (Addr.add p3 0)))) rfl rfl rfl (r_fieldAddr Try.underlying38 Try.sizeOf36 rfl rfl rfl) ?_
  obtain ⟨x16, e17, H⟩ := H
  refine s_rl (d := some 15) (v := (.pointer x16)) rfl rfl rfl (fun dr => r_load1 Try.isAgg36 rfl e17) ?_
  refine s_pu (d := some 8) (v := (.pointer x16)) rfl rfl rfl (r_assign rfl) ?_
  refine s_fin ?_
  show W _ _ _ _ _ _ _ _
  refine W_block ?_
  refine W_loop (WL_mk (l := [(1, p2), (5, (.pointer (some p6))), (6, (.int .i64 0)), (7, (.pointer (some p11))), (8, (.pointer x16))]) ?_ ⟨rfl, rfl, rfl, rfl, rfl, trivial⟩)
  refine H (fun (va18 : Int) (n19 : Option Addr) (h6 : Heap) => ∀ b, WL _ _ _ _ _ _ (mkE [(1, p2), (5, (.pointer (some p6))), (6, (.int .i64 va18)), (7, (.pointer (some p11))), (8, (.pointer n19))] b) h6) ?_
  intro va18 n19 h6 H b
  refine WL_round ?_
  refine W_seq ?_
  refine W_seq ?_
  refine W_region (.pu 0 (.pu 1 .fin)) rfl rfl ?_
  refine s_pu (d := some 16) (v := (.pointer n19)) rfl rfl rfl (r_move rfl) ?_
  refine s_pu (d := some 17) (v := (.bool (!(Option.isNone n19)))) rfl rfl rfl (r_notNilP Try.underlying36 rfl rfl) ?_
  refine s_fin ?_
  show W _ _ _ _ _ _ _ _
  refine W_if (!(Option.isNone n19)) rfl (fun g166 => ?_) (fun g166 => ?_)
  · have H := H.1 g166
    refine W_skip ?_
    show W _ _ _ _ _ _ _ _
    refine W_block ?_
    refine W_seq ?_
    refine W_seq ?_
    refine W_set ?_
    intro N23 eN23
    have H := H (fun (p21 : Addr) (h7 : Heap) => ∀ b, N23 [] (mkE [(1, p2), (5, (.pointer (some p6))), (6, (.int .i64 va18)), (7, (.pointer (some p11))), (8, (.pointer n19)), (9, (.pointer (some p21)))] b) h7) (by
      intro p21 h7 H b
      rw [eN23]
      show W _ _ _ _ _ _ _ _
      refine W_seq ?_
      refine W_region (.pu 0 (.rl 1 (.ef 2 [] .fin .no))) rfl rfl ?_
      refine s_pu (d := some 27) (v := p2) rfl rfl rfl (r_move rfl) ?_
      obtain ⟨x24, e25, H⟩ := H
      obtain ⟨x26, e27, H⟩ := H
      refine s_rl (d := some 28) (v := (.agg #[(.bool x24), (.int .i64 x26)])) rfl rfl rfl (fun dr => r_loadN Try.isAgg88 Try.sizeOf88 (vs := [(.bool x24), (.int .i64 x26)]) rfl rfl ⟨e25, e27, trivial⟩) ?_
      refine s_ef (d := some 29) rfl rfl rfl (fun dr => r_callV rfl rfl H) ?_ trivial
      rintro _ h8 ⟨y28, rfl, H⟩
      refine ⟨trivial, ?_⟩
      refine s_fin ?_
      show W _ _ _ _ _ _ _ _
      refine W_if y28 rfl (fun g118 => ?_) (fun g118 => ?_)
      · have H := H.1 g118
        refine W_seq ?_
        refine W_region (.pu 0 (.pu 1 (.pu 2 (.rl 3 (.pu 4 .fin))))) rfl rfl ?_
        refine s_pu (d := some 30) (v := (.pointer n19)) rfl rfl rfl (r_move rfl) ?_
        obtain ⟨p29, e30, H⟩ := H
        refine s_pu (d := some 31) (v := (.pointer (some p29))) rfl rfl rfl (r_nilCheck rfl e30) ?_
        refine s_pu (d := some 32) (v := (.pointer (some (Addr.add p29 5)))) rfl rfl rfl (r_fieldAddr Try.underlying119 Try.sizeOf36 rfl rfl rfl) ?_
        obtain ⟨x31, e32, H⟩ := H
        refine s_rl (d := some 33) (v := (.pointer x31)) rfl rfl rfl (fun dr => r_load1 Try.isAgg36 rfl e32) ?_
        refine s_pu (d := some 8) (v := (.pointer x31)) rfl rfl rfl (r_assign rfl) ?_
        refine s_fin ?_
        show W _ _ _ _ _ _ _ _
        refine W_exit (inX_here ?_)
        exact WL_mk (l := [(1, p2), (5, (.pointer (some p6))), (6, (.int .i64 va18)), (7, (.pointer (some p11))), (8, (.pointer x31))]) H ⟨rfl, rfl, rfl, rfl, rfl, trivial⟩
      · have H := H.2 g118
        refine W_seq ?_
        refine W_set ?_
        intro N35 eN35
        have H := H (fun (p33 : Addr) (h9 : Heap) => ∀ b, N35 [] (mkE [(1, p2), (5, (.pointer (some p6))), (6, (.int .i64 va18)), (7, (.pointer (some p11))), (8, (.pointer n19)), (10, (.pointer (some p33)))] b) h9) (by
          intro p33 h9 H b
          rw [eN35]
          show W _ _ _ _ _ _ _ _
          refine W_seq ?_
          refine W_region (.pu 0 (.rl 1 (.ef 2 [] (.pu 3 .fin) .no))) rfl rfl ?_
          refine s_pu (d := some 45) (v := p2) rfl rfl rfl (r_move rfl) ?_
          obtain ⟨x36, e37, H⟩ := H
          obtain ⟨x38, e39, H⟩ := H
          refine s_rl (d := some 46) (v := (.agg #[(.bool x36), (.int .i64 x38)])) rfl rfl rfl (fun dr => r_loadN Try.isAgg88 Try.sizeOf88 (vs := [(.bool x36), (.int .i64 x38)]) rfl rfl ⟨e37, e39, trivial⟩) ?_
          refine s_ef (d := some 47) rfl rfl rfl (fun dr => r_callV rfl rfl H) ?_ trivial
          rintro _ h10 ⟨y40, rfl, H⟩
          refine ⟨trivial, ?_⟩
          refine s_pu (d := some 48) (v := (.bool (!y40))) rfl rfl rfl (r_not rfl) ?_
          refine s_fin ?_
          show W _ _ _ _ _ _ _ _
          refine W_if (!y40) rfl (fun g65 => ?_) (fun g65 => ?_)
          · have H := H.1 g65
            refine W_seq ?_
            refine W_draw [0, 0, 0, 4, 12, 28, 60, 126, 254, 0, 512, 1536, 3584, 125, 8703, 32767] (.rd 0 (.pu 1 (.pu 2 (.pu 3 (.pu 4 (.rd 5 (.pu 9 (.pu 10 (.pu 11 (.rd 12 (.ef 6 [5] (.pu 7 (.pu 8 (.ef 13 [0, 5] (.pu 14 (.pu 15 .fin)) .no))) .no))))))))))) (by kernel_rfl) (by kernel_rfl) ?_
            obtain ⟨x41, e42, H⟩ := H
            obtain ⟨x43, e44, H⟩ := H
            refine s_rd (d := some 49) (v := (.agg #[(.bool x41), (.int .i64 x43)])) rfl rfl rfl (fun dr => r_loadN Try.isAgg88 Try.sizeOf88 (vs := [(.bool x41), (.int .i64 x43)]) rfl rfl ⟨e42, e44, trivial⟩) ?_
            refine s_pu (d := some 50) (v := (.int .i64 va18)) rfl rfl rfl (r_move rfl) ?_
            refine s_pu (d := some 51) (v := (.pointer n19)) rfl rfl rfl (r_move rfl) ?_
            obtain ⟨p45, e46, H⟩ := H
            refine s_pu (d := some 52) (v := (.pointer (some p45))) rfl rfl rfl (r_nilCheck rfl e46) ?_
            refine s_pu (d := some 53) (v := (.pointer (some (Addr.add p45 5)))) rfl rfl rfl (r_fieldAddr Try.underlying119 Try.sizeOf36 rfl rfl rfl) ?_
            obtain ⟨x47, e48, H⟩ := H
            refine s_rd (d := some 54) (v := (.pointer x47)) rfl rfl rfl (fun dr => r_load1 Try.isAgg36 rfl e48) ?_
            refine s_pu (d := some 58) (v := (.pointer n19)) rfl rfl rfl (r_move rfl) ?_
            obtain ⟨p49, e50, H⟩ := H
            refine s_pu (d := some 59) (v := (.pointer (some p49))) rfl rfl rfl (r_nilCheck rfl e50) ?_
            refine s_pu (d := some 60) (v := (.pointer (some (Addr.add p49 6)))) rfl rfl rfl (r_fieldAddr Try.underlying119 Try.sizeOf36 rfl rfl rfl) ?_
            obtain ⟨x51, e52, H⟩ := H
            refine s_rd (d := some 61) (v := (.pointer x51)) rfl rfl rfl (fun dr => r_load1 Try.isAgg36 rfl e52) ?_
            refine s_ef (d := some 55) rfl rfl rfl (fun dr => r_call Try.call72 rfl rfl H) ?_ trivial
            rintro _ h11 ⟨y53, rfl, H⟩
            obtain ⟨e54, H⟩ := H
            obtain ⟨e55, H⟩ := H
            obtain ⟨e56, H⟩ := H
            refine ⟨⟨(.inl ⟨rfl, fun dr => r_load1 Try.isAgg36 rfl e54⟩), trivial, (.inl ⟨rfl, fun dr => r_loadN Try.isAgg88 Try.sizeOf88 (vs := [(.bool x41), (.int .i64 x43)]) rfl rfl ⟨e55, e56, trivial⟩⟩), trivial⟩, ?_⟩
            refine s_pu (d := some 56) (v := (.int .i64 (w64 (va18 + y53)))) rfl rfl rfl (r_add rfl rfl) ?_
            refine s_pu (d := some 57) (v := (.int .i64 (w64 ((w64 (va18 + y53)) + 1)))) rfl rfl rfl (r_add rfl rfl) ?_
            obtain ⟨e58, H⟩ := H
            obtain ⟨h12, e57⟩ : ∃ hh : Heap, hh = hsets h11 p11 0 [(.bool x41), (.int .i64 x43)] := ⟨_, rfl⟩
            have H := H h12 e57
            obtain ⟨e59, H⟩ := H
            refine s_st (d := none) (h' := h12) rfl rfl rfl (fun dr => (r_store (v := (.agg #[(.bool x41), (.int .i64 x43)])) Try.sizeOf88 rfl rfl rfl (one_all rfl) e58).trans (by rw [e57]; rfl)) ⟨(.inl ⟨rfl, fun dr => r_load1 Try.isAgg36 rfl e59⟩), trivial, trivial, trivial⟩ ?_ trivial
            refine s_pu (d := some 6) (v := (.int .i64 (w64 ((w64 (va18 + y53)) + 1)))) rfl rfl rfl (r_assign rfl) ?_
            refine s_pu (d := some 8) (v := (.pointer x51)) rfl rfl rfl (r_assign rfl) ?_
            refine s_fin ?_
            show W _ _ _ _ _ _ _ _
            refine W_exit (inX_here ?_)
            exact WL_mk (l := [(1, p2), (5, (.pointer (some p6))), (6, (.int .i64 (w64 ((w64 (va18 + y53)) + 1)))), (7, (.pointer (some p11))), (8, (.pointer x51))]) H ⟨rfl, rfl, rfl, rfl, rfl, trivial⟩
          · have H := H.2 g65
            refine W_skip ?_
            show W _ _ _ _ _ _ _ _
            refine W_seq ?_
            refine W_region (.pu 0 (.pu 1 (.pu 2 (.pu 3 (.rl 4 (.ef 5 [] (.pu 6 (.pu 7 .fin)) .no)))))) rfl rfl ?_
            refine s_pu (d := some 62) (v := (.int .i64 va18)) rfl rfl rfl (r_move rfl) ?_
            refine s_pu (d := some 63) (v := (.pointer n19)) rfl rfl rfl (r_move rfl) ?_
            obtain ⟨p60, e61, H⟩ := H
            refine s_pu (d := some 64) (v := (.pointer (some p60))) rfl rfl rfl (r_nilCheck rfl e61) ?_
            refine s_pu (d := some 65) (v := (.pointer (some (Addr.add p60 5)))) rfl rfl rfl (r_fieldAddr Try.underlying119 Try.sizeOf36 rfl rfl rfl) ?_
            obtain ⟨x62, e63, H⟩ := H
            refine s_rl (d := some 66) (v := (.pointer x62)) rfl rfl rfl (fun dr => r_load1 Try.isAgg36 rfl e63) ?_
            refine s_ef (d := some 67) rfl rfl rfl (fun dr => r_call Try.call72 rfl rfl H) ?_ trivial
            rintro _ h13 ⟨y64, rfl, H⟩
            refine ⟨trivial, ?_⟩
            refine s_pu (d := some 68) (v := (.int .i64 (w64 (va18 + y64)))) rfl rfl rfl (r_add rfl rfl) ?_
            refine s_pu (d := some 4) (v := (.int .i64 (w64 (va18 + y64)))) rfl rfl rfl (r_assign rfl) ?_
            refine s_fin ?_
            show W _ _ _ _ _ _ _ _
            refine W_ret ?_
            exact ⟨[(.int .i64 (w64 (va18 + y64)))], ⟨_, _, rfl, rfl, rfl⟩, (w64 (va18 + y64)), rfl, H⟩)
        clear eN35
        refine W_draw [0, 1, 0, 0, 8, 0, 32, 96, 224, 504, 1023, 0, 4095] (.rd 0 (.pu 1 (.rd 2 (.rd 3 (.pu 4 (.pu 5 (.pu 6 (.pu 7 (.rd 8 (.ef 9 [3, 8] (.ef 10 [0, 2, 3, 8] (.ef 11 [] (.ef 12 [0, 2, 3, 8] .fin .no) .no) (.ef 11 [] (.ef 10 [0, 2, 3, 8] (.ef 12 [0, 2, 3, 8] .fin .no) .no) .no)) (.ef 11 [] (.ef 9 [3, 8] (.ef 10 [0, 2, 3, 8] (.ef 12 [0, 2, 3, 8] .fin .no) .no) .no) .no))))))))))) (by kernel_rfl) (by kernel_rfl) ?_
        refine s_rd (d := some 34) (v := (.agg #[])) rfl rfl rfl (fun dr => r_loadN Try.isAgg89 Try.sizeOf89 (vs := []) rfl rfl trivial) ?_
        refine s_pu (d := some 35) (v := ((.iface 89 (.agg #[])))) rfl rfl rfl (r_iface Try.underlying89 rfl rfl) ?_
        obtain ⟨x67, e68, H⟩ := H
        obtain ⟨x69, e70, H⟩ := H
        refine s_rd (d := some 36) (v := (.agg #[(.bool x67), (.int .i64 x69)])) rfl rfl rfl (fun dr => r_loadN Try.isAgg88 Try.sizeOf88 (vs := [(.bool x67), (.int .i64 x69)]) rfl rfl ⟨e68, e70, trivial⟩) ?_
        refine s_rd (d := some 37) (v := (.agg #[])) rfl rfl rfl (fun dr => r_loadN Try.isAgg89 Try.sizeOf89 (vs := []) rfl rfl trivial) ?_
        refine s_pu (d := some 38) (v := ((.iface 89 (.agg #[])))) rfl rfl rfl (r_iface Try.underlying89 rfl rfl) ?_
        refine s_pu (d := some 39) (v := (.pointer n19)) rfl rfl rfl (r_move rfl) ?_
        obtain ⟨p71, e72, H⟩ := H
        refine s_pu (d := some 40) (v := (.pointer (some p71))) rfl rfl rfl (r_nilCheck rfl e72) ?_
        refine s_pu (d := some 41) (v := (.pointer (some (Addr.add p71 0)))) rfl rfl rfl (r_fieldAddr Try.underlying119 Try.sizeOf43 rfl rfl rfl) ?_
        obtain ⟨x73, e74, H⟩ := H
        obtain ⟨x75, e76, H⟩ := H
        refine s_rd (d := some 42) (v := (.agg #[(.int .i64 x73), (.int .i64 x75)])) rfl rfl rfl (fun dr => r_loadN Try.isAgg43 Try.sizeOf43 (vs := [(.int .i64 x73), (.int .i64 x75)]) rfl rfl ⟨e74, e76, trivial⟩) ?_
        refine s_or ?_ ?_
        · have H := H.1
          refine s_ef (d := some 43) rfl rfl rfl (fun dr => r_invoke mth_prio_tops_One rfl rfl H) ?_ trivial
          rintro _ h14 ⟨y77, y78, rfl, H⟩
          obtain ⟨e79, H⟩ := H
          obtain ⟨e80, H⟩ := H
          refine ⟨⟨trivial, trivial, (.inl ⟨rfl, fun dr => r_loadN Try.isAgg88 Try.sizeOf88 (vs := [(.bool x67), (.int .i64 x69)]) rfl rfl ⟨e79, e80, trivial⟩⟩), (.inl ⟨rfl, fun dr => r_loadN Try.isAgg89 Try.sizeOf89 (vs := []) rfl rfl trivial⟩), trivial⟩, ?_⟩
          refine s_or ?_ ?_
          · have H := H.1
            refine s_ef (d := some 44) rfl rfl rfl (fun dr => r_invoke mth_prio_tops_Join rfl rfl H) ?_ trivial
            rintro _ h15 ⟨y81, y82, rfl, H⟩
            refine ⟨⟨trivial, trivial, trivial, trivial, trivial⟩, ?_⟩
            obtain ⟨p83, e84⟩ : ∃ p : Addr, p = ⟨h15.size, 0, none⟩ := ⟨_, rfl⟩
            obtain ⟨h16, e85⟩ : ∃ hh : Heap, hh = h15.push (.cells #[(.bool false), (.int .i64 0)] 88) := ⟨_, rfl⟩
            have H := H p83 h16 e84 e85
            obtain ⟨e86, H⟩ := H
            obtain ⟨e87, H⟩ := H
            obtain ⟨e88, H⟩ := H
            obtain ⟨e89, H⟩ := H
            refine s_ef1 (d := some 10) (v := (.pointer (some p83))) (h' := h16) rfl rfl rfl (fun dr => (r_alloc Try.zeroValue88).trans (by rw [e84, e85]; rfl)) ⟨(.inl ⟨rfl, fun dr => r_loadN Try.isAgg43 Try.sizeOf43 (vs := [(.int .i64 x73), (.int .i64 x75)]) rfl rfl ⟨e86, e87, trivial⟩⟩), (.inl ⟨rfl, fun dr => r_loadN Try.isAgg89 Try.sizeOf89 (vs := []) rfl rfl trivial⟩), (.inl ⟨rfl, fun dr => r_loadN Try.isAgg88 Try.sizeOf88 (vs := [(.bool x67), (.int .i64 x69)]) rfl rfl ⟨e88, e89, trivial⟩⟩), (.inl ⟨rfl, fun dr => r_loadN Try.isAgg89 Try.sizeOf89 (vs := []) rfl rfl trivial⟩), trivial⟩ ?_ trivial
            obtain ⟨e91, H⟩ := H
            obtain ⟨h17, e90⟩ : ∃ hh : Heap, hh = hsets h16 p83 0 [(.bool y81), (.int .i64 y82)] := ⟨_, rfl⟩
            have H := H h17 e90
            refine s_st (d := none) (h' := h17) rfl rfl rfl (fun dr => (r_store (v := (.agg #[(.bool y81), (.int .i64 y82)])) Try.sizeOf88 rfl rfl rfl (one_all rfl) e91).trans (by rw [e90]; rfl)) ⟨trivial, trivial, trivial, trivial, trivial⟩ ?_ trivial
            refine s_fin ?_
            exact N_mk (l := [(1, p2), (5, (.pointer (some p6))), (6, (.int .i64 va18)), (7, (.pointer (some p11))), (8, (.pointer n19)), (10, (.pointer (some p83)))]) H ⟨rfl, rfl, rfl, rfl, rfl, rfl, trivial⟩
          · have H := H.2
            obtain ⟨p92, e93⟩ : ∃ p : Addr, p = ⟨h14.size, 0, none⟩ := ⟨_, rfl⟩
            obtain ⟨h18, e94⟩ : ∃ hh : Heap, hh = h14.push (.cells #[(.bool false), (.int .i64 0)] 88) := ⟨_, rfl⟩
            have H := H p92 h18 e93 e94
            obtain ⟨e95, H⟩ := H
            obtain ⟨e96, H⟩ := H
            obtain ⟨e97, H⟩ := H
            obtain ⟨e98, H⟩ := H
            refine s_ef1 (d := some 10) (v := (.pointer (some p92))) (h' := h18) rfl rfl rfl (fun dr => (r_alloc Try.zeroValue88).trans (by rw [e93, e94]; rfl)) ⟨(.inl ⟨rfl, fun dr => r_loadN Try.isAgg43 Try.sizeOf43 (vs := [(.int .i64 x73), (.int .i64 x75)]) rfl rfl ⟨e95, e96, trivial⟩⟩), (.inl ⟨rfl, fun dr => r_loadN Try.isAgg89 Try.sizeOf89 (vs := []) rfl rfl trivial⟩), (.inl ⟨rfl, fun dr => r_loadN Try.isAgg88 Try.sizeOf88 (vs := [(.bool x67), (.int .i64 x69)]) rfl rfl ⟨e97, e98, trivial⟩⟩), (.inl ⟨rfl, fun dr => r_loadN Try.isAgg89 Try.sizeOf89 (vs := []) rfl rfl trivial⟩), trivial⟩ ?_ trivial
            refine s_ef (d := some 44) rfl rfl rfl (fun dr => r_invoke mth_prio_tops_Join rfl rfl H) ?_ trivial
            rintro _ h19 ⟨y99, y100, rfl, H⟩
            refine ⟨⟨trivial, trivial, trivial, trivial, trivial⟩, ?_⟩
            obtain ⟨e102, H⟩ := H
            obtain ⟨h20, e101⟩ : ∃ hh : Heap, hh = hsets h19 p92 0 [(.bool y99), (.int .i64 y100)] := ⟨_, rfl⟩
            have H := H h20 e101
            refine s_st (d := none) (h' := h20) rfl rfl rfl (fun dr => (r_store (v := (.agg #[(.bool y99), (.int .i64 y100)])) Try.sizeOf88 rfl rfl rfl (one_all rfl) e102).trans (by rw [e101]; rfl)) ⟨trivial, trivial, trivial, trivial, trivial⟩ ?_ trivial
            refine s_fin ?_
            exact N_mk (l := [(1, p2), (5, (.pointer (some p6))), (6, (.int .i64 va18)), (7, (.pointer (some p11))), (8, (.pointer n19)), (10, (.pointer (some p92)))]) H ⟨rfl, rfl, rfl, rfl, rfl, rfl, trivial⟩
        · have H := H.2
          obtain ⟨p103, e104⟩ : ∃ p : Addr, p = ⟨h8.size, 0, none⟩ := ⟨_, rfl⟩
          obtain ⟨h21, e105⟩ : ∃ hh : Heap, hh = h8.push (.cells #[(.bool false), (.int .i64 0)] 88) := ⟨_, rfl⟩
          have H := H p103 h21 e104 e105
          obtain ⟨e106, H⟩ := H
          obtain ⟨e107, H⟩ := H
          obtain ⟨e108, H⟩ := H
          obtain ⟨e109, H⟩ := H
          refine s_ef1 (d := some 10) (v := (.pointer (some p103))) (h' := h21) rfl rfl rfl (fun dr => (r_alloc Try.zeroValue88).trans (by rw [e104, e105]; rfl)) ⟨(.inl ⟨rfl, fun dr => r_loadN Try.isAgg43 Try.sizeOf43 (vs := [(.int .i64 x73), (.int .i64 x75)]) rfl rfl ⟨e106, e107, trivial⟩⟩), (.inl ⟨rfl, fun dr => r_loadN Try.isAgg89 Try.sizeOf89 (vs := []) rfl rfl trivial⟩), (.inl ⟨rfl, fun dr => r_loadN Try.isAgg88 Try.sizeOf88 (vs := [(.bool x67), (.int .i64 x69)]) rfl rfl ⟨e108, e109, trivial⟩⟩), (.inl ⟨rfl, fun dr => r_loadN Try.isAgg89 Try.sizeOf89 (vs := []) rfl rfl trivial⟩), trivial⟩ ?_ trivial
          refine s_ef (d := some 43) rfl rfl rfl (fun dr => r_invoke mth_prio_tops_One rfl rfl H) ?_ trivial
          rintro _ h22 ⟨y110, y111, rfl, H⟩
          obtain ⟨e112, H⟩ := H
          obtain ⟨e113, H⟩ := H
          refine ⟨⟨trivial, trivial, (.inl ⟨rfl, fun dr => r_loadN Try.isAgg88 Try.sizeOf88 (vs := [(.bool x67), (.int .i64 x69)]) rfl rfl ⟨e112, e113, trivial⟩⟩), (.inl ⟨rfl, fun dr => r_loadN Try.isAgg89 Try.sizeOf89 (vs := []) rfl rfl trivial⟩), trivial⟩, ?_⟩
          refine s_ef (d := some 44) rfl rfl rfl (fun dr => r_invoke mth_prio_tops_Join rfl rfl H) ?_ trivial
          rintro _ h23 ⟨y114, y115, rfl, H⟩
          refine ⟨⟨trivial, trivial, trivial, trivial, trivial⟩, ?_⟩
          obtain ⟨e117, H⟩ := H
          obtain ⟨h24, e116⟩ : ∃ hh : Heap, hh = hsets h23 p103 0 [(.bool y114), (.int .i64 y115)] := ⟨_, rfl⟩
          have H := H h24 e116
          refine s_st (d := none) (h' := h24) rfl rfl rfl (fun dr => (r_store (v := (.agg #[(.bool y114), (.int .i64 y115)])) Try.sizeOf88 rfl rfl rfl (one_all rfl) e117).trans (by rw [e116]; rfl)) ⟨trivial, trivial, trivial, trivial, trivial⟩ ?_ trivial
          refine s_fin ?_
          exact N_mk (l := [(1, p2), (5, (.pointer (some p6))), (6, (.int .i64 va18)), (7, (.pointer (some p11))), (8, (.pointer n19)), (10, (.pointer (some p103)))]) H ⟨rfl, rfl, rfl, rfl, rfl, rfl, trivial⟩)
    clear eN23
    refine W_draw [0, 1, 0, 0, 8, 24, 56, 120, 255, 0, 1023] (.rd 0 (.pu 1 (.rd 2 (.pu 3 (.pu 4 (.pu 5 (.rd 6 (.ef 7 [6] (.ef 8 [0, 2, 6] (.ef 9 [] (.ef 10 [0, 2, 6] .fin .no) .no) (.ef 9 [] (.ef 8 [0, 2, 6] (.ef 10 [0, 2, 6] .fin .no) .no) .no)) (.ef 9 [] (.ef 7 [6] (.ef 8 [0, 2, 6] (.ef 10 [0, 2, 6] .fin .no) .no) .no) .no))))))))) (by kernel_rfl) (by kernel_rfl) ?_
    refine s_rd (d := some 18) (v := (.agg #[])) rfl rfl rfl (fun dr => r_loadN Try.isAgg89 Try.sizeOf89 (vs := []) rfl rfl trivial) ?_
    refine s_pu (d := some 19) (v := ((.iface 89 (.agg #[])))) rfl rfl rfl (r_iface Try.underlying89 rfl rfl) ?_
    obtain ⟨x120, e121, H⟩ := H
    obtain ⟨x122, e123, H⟩ := H
    refine s_rd (d := some 20) (v := (.agg #[(.bool x120), (.int .i64 x122)])) rfl rfl rfl (fun dr => r_loadN Try.isAgg88 Try.sizeOf88 (vs := [(.bool x120), (.int .i64 x122)]) rfl rfl ⟨e121, e123, trivial⟩) ?_
    refine s_pu (d := some 21) (v := (.pointer n19)) rfl rfl rfl (r_move rfl) ?_
    obtain ⟨p124, e125, H⟩ := H
    refine s_pu (d := some 22) (v := (.pointer (some p124))) rfl rfl rfl (r_nilCheck rfl e125) ?_
    refine s_pu (d := some 23) (v := (.pointer (some (Addr.add p124 5)))) rfl rfl rfl (r_fieldAddr Try.underlying119 Try.sizeOf36 rfl rfl rfl) ?_
    obtain ⟨x126, e127, H⟩ := H
    refine s_rd (d := some 24) (v := (.pointer x126)) rfl rfl rfl (fun dr => r_load1 Try.isAgg36 rfl e127) ?_
    refine s_or ?_ ?_
    · have H := H.1
      refine s_ef (d := some 25) rfl rfl rfl (fun dr => r_call Try.call88 rfl rfl H) ?_ trivial
      rintro _ h25 ⟨y128, y129, rfl, H⟩
      obtain ⟨e130, H⟩ := H
      obtain ⟨e131, H⟩ := H
      refine ⟨⟨trivial, (.inl ⟨rfl, fun dr => r_loadN Try.isAgg88 Try.sizeOf88 (vs := [(.bool x120), (.int .i64 x122)]) rfl rfl ⟨e130, e131, trivial⟩⟩), (.inl ⟨rfl, fun dr => r_loadN Try.isAgg89 Try.sizeOf89 (vs := []) rfl rfl trivial⟩), trivial⟩, ?_⟩
      refine s_or ?_ ?_
      · have H := H.1
        refine s_ef (d := some 26) rfl rfl rfl (fun dr => r_invoke mth_prio_tops_Join rfl rfl H) ?_ trivial
        rintro _ h26 ⟨y132, y133, rfl, H⟩
        refine ⟨⟨trivial, trivial, trivial, trivial⟩, ?_⟩
        obtain ⟨p134, e135⟩ : ∃ p : Addr, p = ⟨h26.size, 0, none⟩ := ⟨_, rfl⟩
        obtain ⟨h27, e136⟩ : ∃ hh : Heap, hh = h26.push (.cells #[(.bool false), (.int .i64 0)] 88) := ⟨_, rfl⟩
        have H := H p134 h27 e135 e136
        obtain ⟨e137, H⟩ := H
        obtain ⟨e138, H⟩ := H
        obtain ⟨e139, H⟩ := H
        refine s_ef1 (d := some 9) (v := (.pointer (some p134))) (h' := h27) rfl rfl rfl (fun dr => (r_alloc Try.zeroValue88).trans (by rw [e135, e136]; rfl)) ⟨(.inl ⟨rfl, fun dr => r_load1 Try.isAgg36 rfl e137⟩), (.inl ⟨rfl, fun dr => r_loadN Try.isAgg88 Try.sizeOf88 (vs := [(.bool x120), (.int .i64 x122)]) rfl rfl ⟨e138, e139, trivial⟩⟩), (.inl ⟨rfl, fun dr => r_loadN Try.isAgg89 Try.sizeOf89 (vs := []) rfl rfl trivial⟩), trivial⟩ ?_ trivial
        obtain ⟨e141, H⟩ := H
        obtain ⟨h28, e140⟩ : ∃ hh : Heap, hh = hsets h27 p134 0 [(.bool y132), (.int .i64 y133)] := ⟨_, rfl⟩
        have H := H h28 e140
        refine s_st (d := none) (h' := h28) rfl rfl rfl (fun dr => (r_store (v := (.agg #[(.bool y132), (.int .i64 y133)])) Try.sizeOf88 rfl rfl rfl (one_all rfl) e141).trans (by rw [e140]; rfl)) ⟨trivial, trivial, trivial, trivial⟩ ?_ trivial
        refine s_fin ?_
        exact N_mk (l := [(1, p2), (5, (.pointer (some p6))), (6, (.int .i64 va18)), (7, (.pointer (some p11))), (8, (.pointer n19)), (9, (.pointer (some p134)))]) H ⟨rfl, rfl, rfl, rfl, rfl, rfl, trivial⟩
      · have H := H.2
        obtain ⟨p142, e143⟩ : ∃ p : Addr, p = ⟨h25.size, 0, none⟩ := ⟨_, rfl⟩
        obtain ⟨h29, e144⟩ : ∃ hh : Heap, hh = h25.push (.cells #[(.bool false), (.int .i64 0)] 88) := ⟨_, rfl⟩
        have H := H p142 h29 e143 e144
        obtain ⟨e145, H⟩ := H
        obtain ⟨e146, H⟩ := H
        obtain ⟨e147, H⟩ := H
        refine s_ef1 (d := some 9) (v := (.pointer (some p142))) (h' := h29) rfl rfl rfl (fun dr => (r_alloc Try.zeroValue88).trans (by rw [e143, e144]; rfl)) ⟨(.inl ⟨rfl, fun dr => r_load1 Try.isAgg36 rfl e145⟩), (.inl ⟨rfl, fun dr => r_loadN Try.isAgg88 Try.sizeOf88 (vs := [(.bool x120), (.int .i64 x122)]) rfl rfl ⟨e146, e147, trivial⟩⟩), (.inl ⟨rfl, fun dr => r_loadN Try.isAgg89 Try.sizeOf89 (vs := []) rfl rfl trivial⟩), trivial⟩ ?_ trivial
        refine s_ef (d := some 26) rfl rfl rfl (fun dr => r_invoke mth_prio_tops_Join rfl rfl H) ?_ trivial
        rintro _ h30 ⟨y148, y149, rfl, H⟩
        refine ⟨⟨trivial, trivial, trivial, trivial⟩, ?_⟩
        obtain ⟨e151, H⟩ := H
        obtain ⟨h31, e150⟩ : ∃ hh : Heap, hh = hsets h30 p142 0 [(.bool y148), (.int .i64 y149)] := ⟨_, rfl⟩
        have H := H h31 e150
        refine s_st (d := none) (h' := h31) rfl rfl rfl (fun dr => (r_store (v := (.agg #[(.bool y148), (.int .i64 y149)])) Try.sizeOf88 rfl rfl rfl (one_all rfl) e151).trans (by rw [e150]; rfl)) ⟨trivial, trivial, trivial, trivial⟩ ?_ trivial
        refine s_fin ?_
        exact N_mk (l := [(1, p2), (5, (.pointer (some p6))), (6, (.int .i64 va18)), (7, (.pointer (some p11))), (8, (.pointer n19)), (9, (.pointer (some p142)))]) H ⟨rfl, rfl, rfl, rfl, rfl, rfl, trivial⟩
    · have H := H.2
      obtain ⟨p152, e153⟩ : ∃ p : Addr, p = ⟨h6.size, 0, none⟩ := ⟨_, rfl⟩
      obtain ⟨h32, e154⟩ : ∃ hh : Heap, hh = h6.push (.cells #[(.bool false), (.int .i64 0)] 88) := ⟨_, rfl⟩
      have H := H p152 h32 e153 e154
      obtain ⟨e155, H⟩ := H
      obtain ⟨e156, H⟩ := H
      obtain ⟨e157, H⟩ := H
      refine s_ef1 (d := some 9) (v := (.pointer (some p152))) (h' := h32) rfl rfl rfl (fun dr => (r_alloc Try.zeroValue88).trans (by rw [e153, e154]; rfl)) ⟨(.inl ⟨rfl, fun dr => r_load1 Try.isAgg36 rfl e155⟩), (.inl ⟨rfl, fun dr => r_loadN Try.isAgg88 Try.sizeOf88 (vs := [(.bool x120), (.int .i64 x122)]) rfl rfl ⟨e156, e157, trivial⟩⟩), (.inl ⟨rfl, fun dr => r_loadN Try.isAgg89 Try.sizeOf89 (vs := []) rfl rfl trivial⟩), trivial⟩ ?_ trivial
      refine s_ef (d := some 25) rfl rfl rfl (fun dr => r_call Try.call88 rfl rfl H) ?_ trivial
      rintro _ h33 ⟨y158, y159, rfl, H⟩
      obtain ⟨e160, H⟩ := H
      obtain ⟨e161, H⟩ := H
      refine ⟨⟨trivial, (.inl ⟨rfl, fun dr => r_loadN Try.isAgg88 Try.sizeOf88 (vs := [(.bool x120), (.int .i64 x122)]) rfl rfl ⟨e160, e161, trivial⟩⟩), (.inl ⟨rfl, fun dr => r_loadN Try.isAgg89 Try.sizeOf89 (vs := []) rfl rfl trivial⟩), trivial⟩, ?_⟩
      refine s_ef (d := some 26) rfl rfl rfl (fun dr => r_invoke mth_prio_tops_Join rfl rfl H) ?_ trivial
      rintro _ h34 ⟨y162, y163, rfl, H⟩
      refine ⟨⟨trivial, trivial, trivial, trivial⟩, ?_⟩
      obtain ⟨e165, H⟩ := H
      obtain ⟨h35, e164⟩ : ∃ hh : Heap, hh = hsets h34 p152 0 [(.bool y162), (.int .i64 y163)] := ⟨_, rfl⟩
      have H := H h35 e164
      refine s_st (d := none) (h' := h35) rfl rfl rfl (fun dr => (r_store (v := (.agg #[(.bool y162), (.int .i64 y163)])) Try.sizeOf88 rfl rfl rfl (one_all rfl) e165).trans (by rw [e164]; rfl)) ⟨trivial, trivial, trivial, trivial⟩ ?_ trivial
      refine s_fin ?_
      exact N_mk (l := [(1, p2), (5, (.pointer (some p6))), (6, (.int .i64 va18)), (7, (.pointer (some p11))), (8, (.pointer n19)), (9, (.pointer (some p152)))]) H ⟨rfl, rfl, rfl, rfl, rfl, rfl, trivial⟩
  · have H := H.2 g166
    refine W_exit (inX_here ?_)
    show W _ _ _ _ _ _ _ _
    refine W_seq ?_
    refine W_region (.pu 0 (.pu 1 .fin)) rfl rfl ?_
    refine s_pu (d := some 69) (v := (.int .i64 va18)) rfl rfl rfl (r_move rfl) ?_
    refine s_pu (d := some 4) (v := (.int .i64 va18)) rfl rfl rfl (r_assign rfl) ?_
    refine s_fin ?_
    show W _ _ _ _ _ _ _ _
    refine W_ret ?_
    exact ⟨[(.int .i64 va18)], ⟨_, _, rfl, rfl, rfl⟩, va18, rfl, H⟩

/-! ### finger_Many_api_Item_prio_top_prio_tops_All -/

def finger_Many_api_Item_prio_top_prio_tops_All_F (r : World) (t1 : Option Addr) (h : Heap) (R : Sl → Heap → Prop) : Prop :=
  New h (.cells #[(.pointer t1)] 38) fun p2 h1 =>
  New h1 (.cells #[(Sl.v Sl.nil)] 35) fun p5 h2 =>
  New h2 (.cells #[.nilFunc] 123) fun p8 h3 =>
  St h3 p8 1 [((.func (.func 76) #[] #[(.pointer (some p8)), (.pointer (some p5))]))] fun h4 =>
  LdV h4 p8 fun x13 =>
  LdP h4 (Addr.add p2 0) fun x15 =>
  CallV Try.prog r x13 [(.pointer x15)] h4 fun v19 h5 => v19 = (.tuple #[]) ∧
  LdS h5 p5 fun x17 =>
  R x17 h5

set_option maxRecDepth 100000 in
theorem finger_Many_api_Item_prio_top_prio_tops_All_of {r : World} {t1 : Option Addr} {h : Heap} {R : Sl → Heap → Prop} (H : finger_Many_api_Item_prio_top_prio_tops_All_F r t1 h R) : finger_Many_api_Item_prio_top_prio_tops_All r t1 h R := by
  unfold finger_Many_api_Item_prio_top_prio_tops_All_F at H
  refine calls_of 11 [.tmp 2] Try.func47 rfl rfl rfl rfl rfl ?_
  refine W_seq ?_
  refine W_region (.ef 0 [] (.pu 1 .fin) .no) rfl rfl ?_
  obtain ⟨p2, e3⟩ : ∃ p : Addr, p = ⟨h.size, 0, none⟩ := ⟨_, rfl⟩
  obtain ⟨h1, e4⟩ : ∃ hh : Heap, hh = h.push (.cells #[(.pointer t1)] 38) := ⟨_, rfl⟩
  have H := H p2 h1 e3 e4
  refine s_ef1 (d := some 1) (v := (.pointer (some p2))) (h' := h1) rfl rfl rfl (fun dr => (r_box (v := (.agg #[(.pointer t1)])) rfl).trans (by rw [e3, e4]; rfl)) trivial ?_ trivial
  refine s_pu (d := some 2) (v := (Sl.v Sl.nil)) rfl rfl rfl (r_assign rfl) ?_
  refine s_fin ?_
  show W _ _ _ _ _ _ _ _
  refine W_seq ?_
  refine W_region (.ef 0 [] .fin .no) rfl rfl ?_
  obtain ⟨p5, e6⟩ : ∃ p : Addr, p = ⟨h1.size, 0, none⟩ := ⟨_, rfl⟩
  obtain ⟨h2, e7⟩ : ∃ hh : Heap, hh = h1.push (.cells #[(Sl.v Sl.nil)] 35) := ⟨_, rfl⟩
  have H := H p5 h2 e6 e7
  refine s_ef1 (d := some 3) (v := (.pointer (some p5))) (h' := h2) rfl rfl rfl (fun dr => (r_alloc Try.zeroValue35).trans (by rw [e6, e7]; rfl)) trivial ?_ trivial
  refine s_fin ?_
  show W _ _ _ _ _ _ _ _
  refine W_seq ?_
  refine W_region (.ef 0 [] .fin .no) rfl rfl ?_
  obtain ⟨p8, e9⟩ : ∃ p : Addr, p = ⟨h2.size, 0, none⟩ := ⟨_, rfl⟩
  obtain ⟨h3, e10⟩ : ∃ hh : Heap, hh = h2.push (.cells #[.nilFunc] 123) := ⟨_, rfl⟩
  have H := H p8 h3 e9 e10
  refine s_ef1 (d := some 4) (v := (.pointer (some p8))) (h' := h3) rfl rfl rfl (fun dr => (r_alloc Try.zeroValue123).trans (by rw [e9, e10]; rfl)) trivial ?_ trivial
  refine s_fin ?_
  show W _ _ _ _ _ _ _ _
  refine W_seq ?_
  refine W_region (.pu 0 (.ef 1 [] .fin .no)) rfl rfl ?_
  refine s_pu (d := some 5) (v := ((.func (.func 76) #[] #[(.pointer (some p8)), (.pointer (some p5))]))) rfl rfl rfl (r_makeFunc rfl rfl) ?_
  obtain ⟨e12, H⟩ := H
  obtain ⟨h4, e11⟩ : ∃ hh : Heap, hh = hsets h3 p8 0 [((.func (.func 76) #[] #[(.pointer (some p8)), (.pointer (some p5))]))] := ⟨_, rfl⟩
  have H := H h4 e11
  refine s_st (d := none) (h' := h4) rfl rfl rfl (fun dr => (r_store (v := ((.func (.func 76) #[] #[(.pointer (some p8)), (.pointer (some p5))]))) Try.sizeOf123 rfl rfl rfl (one_all rfl) e12).trans (by rw [e11]; rfl)) trivial ?_ trivial
  refine s_fin ?_
  show W _ _ _ _ _ _ _ _
  refine W_seq ?_
  refine W_region (.rl 0 (.pu 1 (.rl 2 (.ef 3 [] .fin .no)))) rfl rfl ?_
  obtain ⟨x13, e14, H⟩ := H
  refine s_rl (d := some 6) (v := x13) rfl rfl rfl (fun dr => r_load1 Try.isAgg123 rfl e14) ?_
  refine s_pu (d := some 7) (v := (.pointer (some (Addr.add p2 0)))) rfl rfl rfl (r_fieldAddr Try.underlying38 Try.sizeOf36 rfl rfl rfl) ?_
  obtain ⟨x15, e16, H⟩ := H
  refine s_rl (d := some 8) (v := (.pointer x15)) rfl rfl rfl (fun dr => r_load1 Try.isAgg36 rfl e16) ?_
  refine s_ef (d := some 9) rfl rfl rfl (fun dr => r_callV rfl rfl H) ?_ trivial
  rintro _ h5 ⟨rfl, H⟩
  refine ⟨trivial, ?_⟩
  refine s_fin ?_
  show W _ _ _ _ _ _ _ _
  refine W_seq ?_
  refine W_region (.rl 0 (.pu 1 .fin)) rfl rfl ?_
  obtain ⟨x17, e18, H⟩ := H
  refine s_rl (d := some 10) (v := (Sl.v x17)) rfl rfl rfl (fun dr => r_load1 Try.isAgg35 rfl e18) ?_
  refine s_pu (d := some 2) (v := (Sl.v x17)) rfl rfl rfl (r_assign rfl) ?_
  refine s_fin ?_
  show W _ _ _ _ _ _ _ _
  refine W_ret ?_
  exact ⟨[(Sl.v x17)], ⟨_, _, rfl, rfl, rfl⟩, x17, rfl, H⟩

/-! ### finger_Many_api_Item_prio_top_prio_tops_All_1 -/

def finger_Many_api_Item_prio_top_prio_tops_All_1_F (r : World) (n1 : Option Addr) (c2 : Addr) (c3 : Addr) (h : Heap) (R : Heap → Prop) : Prop :=
  Br (!(Option.isNone n1)) (
    LdV h c2 fun x4 =>
    Ck n1 fun p6 =>
    LdP h (Addr.add p6 5) fun x8 =>
    CallV Try.prog r x4 [(.pointer x8)] h fun v32 h1 => v32 = (.tuple #[]) ∧
    LdS h1 c3 fun x10 =>
    Ck n1 fun p12 =>
    LdI h1 (Addr.add (Addr.add p12 0) 0) fun x14 =>
    LdI h1 (Addr.add (Addr.add p12 0) 1) fun x16 =>
    New h1 (.cells #[(.int .i64 x14), (.int .i64 x16)] 43) fun p18 h2 =>
    (hcell h2 c3 = some (Sl.v x10)) ∧
    App 43 2 16 (.agg #[(.int .i64 0), (.int .i64 0)]) x10 ((⟨some p18, 1, 1⟩ : Sl)) h2 fun s22 h3 =>
    St h3 c3 1 [(Sl.v s22)] fun h4 =>
    LdV h4 c2 fun x25 =>
    Ck n1 fun p27 =>
    LdP h4 (Addr.add p27 6) fun x29 =>
    CallV Try.prog r x25 [(.pointer x29)] h4 fun v31 h5 => v31 = (.tuple #[]) ∧
    R h5) (
    R h)

set_option maxRecDepth 100000 in
theorem finger_Many_api_Item_prio_top_prio_tops_All_1_of {r : World} {n1 : Option Addr} {c2 : Addr} {c3 : Addr} {h : Heap} {R : Heap → Prop} (H : finger_Many_api_Item_prio_top_prio_tops_All_1_F r n1 c2 c3 h R) : finger_Many_api_Item_prio_top_prio_tops_All_1 r n1 c2 c3 h R := by
  unfold finger_Many_api_Item_prio_top_prio_tops_All_1_F at H
  refine calls_of 25 [] Try.func76 rfl rfl rfl rfl rfl ?_
  refine W_seq ?_
  refine W_region (.pu 0 (.pu 1 .fin)) rfl rfl ?_
  refine s_pu (d := some 4) (v := (.pointer n1)) rfl rfl rfl (r_move rfl) ?_
  refine s_pu (d := some 5) (v := (.bool (!(Option.isNone n1)))) rfl rfl rfl (r_notNilP Try.underlying36 rfl rfl) ?_
  refine s_fin ?_
  show W _ _ _ _ _ _ _ _
  refine W_if (!(Option.isNone n1)) rfl (fun g33 => ?_) (fun g33 => ?_)
  · have H := H.1 g33
    refine W_seq ?_
    refine W_draw [0, 0, 2, 6, 14, 31] (.rd 0 (.pu 1 (.pu 2 (.pu 3 (.rd 4 (.ef 5 [0, 4] .fin .no)))))) (by kernel_rfl) (by kernel_rfl) ?_
    obtain ⟨x4, e5, H⟩ := H
    refine s_rd (d := some 6) (v := x4) rfl rfl rfl (fun dr => r_load1 Try.isAgg123 rfl e5) ?_
    refine s_pu (d := some 7) (v := (.pointer n1)) rfl rfl rfl (r_move rfl) ?_
    obtain ⟨p6, e7, H⟩ := H
    refine s_pu (d := some 8) (v := (.pointer (some p6))) rfl rfl rfl (r_nilCheck rfl e7) ?_
    refine s_pu (d := some 9) (v := (.pointer (some (Addr.add p6 5)))) rfl rfl rfl (r_fieldAddr Try.underlying119 Try.sizeOf36 rfl rfl rfl) ?_
    obtain ⟨x8, e9, H⟩ := H
    refine s_rd (d := some 10) (v := (.pointer x8)) rfl rfl rfl (fun dr => r_load1 Try.isAgg36 rfl e9) ?_
    refine s_ef (d := some 11) rfl rfl rfl (fun dr => r_callV rfl rfl H) ?_ trivial
    rintro _ h1 ⟨rfl, H⟩
    refine ⟨⟨trivial, trivial, trivial⟩, ?_⟩
    refine s_fin ?_
    show W _ _ _ _ _ _ _ _
    refine W_seq ?_
    refine W_draw [0, 0, 2, 6, 14, 30, 63, 127] (.rd 0 (.pu 1 (.pu 2 (.pu 3 (.rd 4 (.ef 5 [4] (.ef 6 [0, 4] (.ef 7 [0, 4] .fin .no) .no) .no)))))) (by kernel_rfl) (by kernel_rfl) ?_
    obtain ⟨x10, e11, H⟩ := H
    refine s_rd (d := some 12) (v := (Sl.v x10)) rfl rfl rfl (fun dr => r_load1 Try.isAgg35 rfl e11) ?_
    refine s_pu (d := some 13) (v := (.pointer n1)) rfl rfl rfl (r_move rfl) ?_
    obtain ⟨p12, e13, H⟩ := H
    refine s_pu (d := some 14) (v := (.pointer (some p12))) rfl rfl rfl (r_nilCheck rfl e13) ?_
    refine s_pu (d := some 15) (v := (.pointer (some (Addr.add p12 0)))) rfl rfl rfl (r_fieldAddr Try.underlying119 Try.sizeOf43 rfl rfl rfl) ?_
    obtain ⟨x14, e15, H⟩ := H
    obtain ⟨x16, e17, H⟩ := H
    refine s_rd (d := some 16) (v := (.agg #[(.int .i64 x14), (.int .i64 x16)])) rfl rfl rfl (fun dr => r_loadN Try.isAgg43 Try.sizeOf43 (vs := [(.int .i64 x14), (.int .i64 x16)]) rfl rfl ⟨e15, e17, trivial⟩) ?_
    obtain ⟨p18, e19⟩ : ∃ p : Addr, p = ⟨h1.size, 0, none⟩ := ⟨_, rfl⟩
    obtain ⟨h2, e20⟩ : ∃ hh : Heap, hh = h1.push (.cells #[(.int .i64 x14), (.int .i64 x16)] 43) := ⟨_, rfl⟩
    have H := H p18 h2 e19 e20
    obtain ⟨e21, H⟩ := H
    refine s_ef1 (d := some 17) (v := (Sl.v ((⟨some p18, 1, 1⟩ : Sl)))) (h' := h2) rfl rfl rfl (fun dr => (slFPMan_35.build (cells := #[(.int .i64 x14), (.int .i64 x16)]) (by decide) rfl (by kernel_rfl)).trans (by rw [e19, e20]; rfl)) ⟨trivial, (.inl ⟨rfl, fun dr => r_load1 Try.isAgg35 rfl e21⟩), trivial⟩ ?_ trivial
    refine s_ef (d := some 18) rfl rfl rfl (fun dr => slFPMan_35.append rfl rfl H) ?_ trivial
    rintro _ h3 ⟨s22, rfl, H⟩
    refine ⟨⟨trivial, trivial, trivial⟩, ?_⟩
    obtain ⟨e24, H⟩ := H
    obtain ⟨h4, e23⟩ : ∃ hh : Heap, hh = hsets h3 c3 0 [(Sl.v s22)] := ⟨_, rfl⟩
    have H := H h4 e23
    refine s_st (d := none) (h' := h4) rfl rfl rfl (fun dr => (r_store (v := (Sl.v s22)) Try.sizeOf35 rfl rfl rfl (one_all rfl) e24).trans (by rw [e23]; rfl)) ⟨trivial, trivial, trivial⟩ ?_ trivial
    refine s_fin ?_
    show W _ _ _ _ _ _ _ _
    refine W_draw [0, 0, 2, 6, 14, 31] (.rd 0 (.pu 1 (.pu 2 (.pu 3 (.rd 4 (.ef 5 [0, 4] .fin .no)))))) (by kernel_rfl) (by kernel_rfl) ?_
    obtain ⟨x25, e26, H⟩ := H
    refine s_rd (d := some 19) (v := x25) rfl rfl rfl (fun dr => r_load1 Try.isAgg123 rfl e26) ?_
    refine s_pu (d := some 20) (v := (.pointer n1)) rfl rfl rfl (r_move rfl) ?_
    obtain ⟨p27, e28, H⟩ := H
    refine s_pu (d := some 21) (v := (.pointer (some p27))) rfl rfl rfl (r_nilCheck rfl e28) ?_
    refine s_pu (d := some 22) (v := (.pointer (some (Addr.add p27 6)))) rfl rfl rfl (r_fieldAddr Try.underlying119 Try.sizeOf36 rfl rfl rfl) ?_
    obtain ⟨x29, e30, H⟩ := H
    refine s_rd (d := some 23) (v := (.pointer x29)) rfl rfl rfl (fun dr => r_load1 Try.isAgg36 rfl e30) ?_
    refine s_ef (d := some 24) rfl rfl rfl (fun dr => r_callV rfl rfl H) ?_ trivial
    rintro _ h5 ⟨rfl, H⟩
    refine ⟨⟨trivial, trivial, trivial⟩, ?_⟩
    refine s_fin ?_
    exact ⟨[], rfl, rfl, H⟩
  · have H := H.2 g33
    refine W_skip ?_
    exact ⟨[], rfl, rfl, H⟩

end Go.Proofs.Ytikccpmhoioaeaa
