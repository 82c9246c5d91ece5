/- Typed words of functions, and that they hold: printed by gen.py (an own tool of this claim) off the model's own form of each function. -/
import Derived.Test.YthkimbiknhebeaaGreatDoorProg
import Derived.Test.YthkimbiknhebeaaGreatDoorTwB
namespace Go.Proofs.YthkimbiknhebeaaGreatDoor
open Go Go.RowKit Go.Tw
set_option linter.unusedVariables false
set_option maxRecDepth 100000
theorem slFGWbt_26 : SlF Tryz.prog 26 3 1 8 (.int .i64 0) := ⟨Tryz.underlying26, ⟨Tryz.t3, by kernel_rfl, rfl, rfl, rfl⟩, rfl, Tryz.sizeOf3, Tryz.zeroValue3⟩
abbrev wbt_node_size (r : World) (t1 : Option Addr) (h : Heap) (R : Int → Heap → Prop) : Prop :=
 CallsH Tryz.prog r 74 [(.pointer t1)] h fun v h' => ∃ (y2 : Int), v = (.int .i64 y2) ∧ R y2 h'
abbrev wbt_node_weight (r : World) (t1 : Option Addr) (h : Heap) (R : Int → Heap → Prop) : Prop :=
 CallsH Tryz.prog r 55 [(.pointer t1)] h fun v h' => ∃ (y2 : Int), v = (.int .i64 y2) ∧ R y2 h'
abbrev wbt_made (r : World) (l1 : Option Addr) (x2 : Int) (vr3 : Option Addr) (h : Heap) (R : Option Addr → Heap → Prop) : Prop :=
 CallsH Tryz.prog r 77 [(.pointer l1), (.int .i64 x2), (.pointer vr3)] h fun v h' => ∃ (y4 : Option Addr), v = (.pointer y4) ∧ R y4 h'
abbrev wbt_heavy (r : World) (a1 : Option Addr) (vb2 : Option Addr) (h : Heap) (R : Bool → Heap → Prop) : Prop :=
 CallsH Tryz.prog r 75 [(.pointer a1), (.pointer vb2)] h fun v h' => ∃ (y3 : Bool), v = (.bool y3) ∧ R y3 h'
abbrev wbt_turnLeft (r : World) (l1 : Option Addr) (x2 : Int) (vr3 : Option Addr) (h : Heap) (R : Option Addr → Heap → Prop) : Prop :=
 CallsH Tryz.prog r 110 [(.pointer l1), (.int .i64 x2), (.pointer vr3)] h fun v h' => ∃ (y4 : Option Addr), v = (.pointer y4) ∧ R y4 h'
abbrev wbt_turnRight (r : World) (l1 : Option Addr) (x2 : Int) (vr3 : Option Addr) (h : Heap) (R : Option Addr → Heap → Prop) : Prop :=
 CallsH Tryz.prog r 111 [(.pointer l1), (.int .i64 x2), (.pointer vr3)] h fun v h' => ∃ (y4 : Option Addr), v = (.pointer y4) ∧ R y4 h'
abbrev wbt_even (r : World) (l1 : Option Addr) (x2 : Int) (vr3 : Option Addr) (h : Heap) (R : Option Addr → Heap → Prop) : Prop :=
 CallsH Tryz.prog r 76 [(.pointer l1), (.int .i64 x2), (.pointer vr3)] h fun v h' => ∃ (y4 : Option Addr), v = (.pointer y4) ∧ R y4 h'
abbrev wbt_link (r : World) (l1 : Option Addr) (x2 : Int) (vr3 : Option Addr) (h : Heap) (R : Option Addr → Heap → Prop) : Prop :=
 CallsH Tryz.prog r 53 [(.pointer l1), (.int .i64 x2), (.pointer vr3)] h fun v h' => ∃ (y4 : Option Addr), v = (.pointer y4) ∧ R y4 h'
abbrev wbt_node_first (r : World) (t1 : Option Addr) (h : Heap) (R : Int → Option Addr → Heap → Prop) : Prop :=
 CallsH Tryz.prog r 78 [(.pointer t1)] h fun v h' => ∃ (y2 : Int) (y3 : Option Addr), v = (.tuple #[(.int .i64 y2), (.pointer y3)]) ∧ R y2 y3 h'
abbrev wbt_joined (r : World) (l1 : Option Addr) (vr2 : Option Addr) (h : Heap) (R : Option Addr → Heap → Prop) : Prop :=
 CallsH Tryz.prog r 54 [(.pointer l1), (.pointer vr2)] h fun v h' => ∃ (y3 : Option Addr), v = (.pointer y3) ∧ R y3 h'
abbrev wbt_node_split (r : World) (t1 : Option Addr) (x2 : Int) (h : Heap) (R : Option Addr → Bool → Option Addr → Heap → Prop) : Prop :=
 CallsH Tryz.prog r 52 [(.pointer t1), (.int .i64 x2)] h fun v h' => ∃ (y3 : Option Addr) (y4 : Bool) (y5 : Option Addr), v = (.tuple #[(.pointer y3), (.bool y4), (.pointer y5)]) ∧ R y3 y4 y5 h'
abbrev wbt_Set_Len (r : World) (s1 : Option Addr) (h : Heap) (R : Int → Heap → Prop) : Prop :=
 CallsH Tryz.prog r 51 [(.agg #[(.pointer s1)])] h fun v h' => ∃ (y2 : Int), v = (.int .i64 y2) ∧ R y2 h'
abbrev wbt_Set_Put (r : World) (s1 : Option Addr) (x2 : Int) (h : Heap) (R : Option Addr → Heap → Prop) : Prop :=
 CallsH Tryz.prog r 29 [(.agg #[(.pointer s1)]), (.int .i64 x2)] h fun v h' => ∃ (y3 : Option Addr), v = (.agg #[(.pointer y3)]) ∧ R y3 h'
abbrev wbt_Set_Drop (r : World) (s1 : Option Addr) (x2 : Int) (h : Heap) (R : Option Addr → Heap → Prop) : Prop :=
 CallsH Tryz.prog r 30 [(.agg #[(.pointer s1)]), (.int .i64 x2)] h fun v h' => ∃ (y3 : Option Addr), v = (.agg #[(.pointer y3)]) ∧ R y3 h'
abbrev wbt_Set_Rank (r : World) (s1 : Option Addr) (x2 : Int) (h : Heap) (R : Int → Heap → Prop) : Prop :=
 CallsH Tryz.prog r 31 [(.agg #[(.pointer s1)]), (.int .i64 x2)] h fun v h' => ∃ (y3 : Int), v = (.int .i64 y3) ∧ R y3 h'
abbrev wbt_Set_At (r : World) (s1 : Option Addr) (i2 : Int) (h : Heap) (R : Int → Bool → Heap → Prop) : Prop :=
 CallsH Tryz.prog r 58 [(.agg #[(.pointer s1)]), (.int .i64 i2)] h fun v h' => ∃ (y3 : Int) (y4 : Bool), v = (.tuple #[(.int .i64 y3), (.bool y4)]) ∧ R y3 y4 h'
abbrev wbt_Set_Ints (r : World) (s1 : Option Addr) (h : Heap) (R : Sl → Heap → Prop) : Prop :=
 CallsH Tryz.prog r 34 [(.agg #[(.pointer s1)])] h fun v h' => ∃ (y2 : Sl), v = (Sl.v y2) ∧ R y2 h'
def wbt_node_size_F (r : World) (t1 : Option Addr) (h : Heap) (R : Int → Heap → Prop) : Prop :=
 Br (Option.isNone t1) (
  R 0 h) (
  Ck t1 fun p2 =>
  LdI h (Addr.add p2 1) fun x4 =>
  R x4 h)
theorem wbt_node_size_of {r : World} {t1 : Option Addr} {h : Heap} {R : Int → Heap → Prop} (H : wbt_node_size_F r t1 h R) : wbt_node_size r t1 h R := by
 unfold wbt_node_size_F at H
 refine calls_of 9 [.tmp 2] Tryz.func74 rfl rfl rfl rfl rfl ?_
 refine W_seq ?_
 refine W_region (.pu 0 .fin) rfl rfl ?_
 refine sp 2 (.int .i64 0) rfl rfl (r_assign rfl) ?_
 refine s_fin ?_
 refine W_seq ?_
 refine W_seq ?_
 refine W_region (.pu 0 (.pu 1 .fin)) rfl rfl ?_
 refine sp 3 (.pointer t1) rfl rfl (r_move rfl) ?_
 refine sp 4 (.bool (Option.isNone t1)) rfl rfl (r_nilP Tryz.underlying42 rfl rfl) ?_
 refine s_fin ?_
 refine W_if (Option.isNone t1) rfl (fun g6 => ?_) (fun g6 => ?_)
 ·have H := H.1 g6
  refine W_seq ?_
  refine W_region (.pu 0 .fin) rfl rfl ?_
  refine sp 2 (.int .i64 0) rfl rfl (r_assign rfl) ?_
  refine s_fin ?_
  refine W_ret ?_
  exact ⟨[(.int .i64 0)], ⟨_, _, rfl, rfl, rfl⟩, 0, rfl, H⟩
 ·have H := H.2 g6
  refine W_skip ?_
  show W _ _ _ _ _ _ _ _
  refine W_seq ?_
  refine W_region (.pu 0 (.pu 1 (.pu 2 (.rl 3 (.pu 4 .fin))))) rfl rfl ?_
  refine sp 5 (.pointer t1) rfl rfl (r_move rfl) ?_
  obtain ⟨p2, e3, H⟩ := H
  refine sp 6 (.pointer (some p2)) rfl rfl (r_nilCheck rfl e3) ?_
  refine sp 7 (.pointer (some (Addr.add p2 1))) rfl rfl (r_fieldAddr Tryz.underlying98 Tryz.sizeOf3 rfl rfl rfl) ?_
  obtain ⟨x4, e5, H⟩ := H
  refine sl 8 (.int .i64 x4) rfl rfl (fun dr => r_load1 Tryz.isAgg3 rfl e5) ?_
  refine sp 2 (.int .i64 x4) rfl rfl (r_assign rfl) ?_
  refine s_fin ?_
  refine W_ret ?_
  exact ⟨[(.int .i64 x4)], ⟨_, _, rfl, rfl, rfl⟩, x4, rfl, H⟩
def wbt_node_weight_F (r : World) (t1 : Option Addr) (h : Heap) (R : Int → Heap → Prop) : Prop :=
 wbt_node_size r t1 h fun y2 h1 =>
 R (w64 (y2 + 1)) h1
theorem wbt_node_weight_of {r : World} {t1 : Option Addr} {h : Heap} {R : Int → Heap → Prop} (H : wbt_node_weight_F r t1 h R) : wbt_node_weight r t1 h R := by
 unfold wbt_node_weight_F at H
 refine calls_of 6 [.tmp 2] Tryz.func55 rfl rfl rfl rfl rfl ?_
 refine W_seq ?_
 refine W_region (.pu 0 .fin) rfl rfl ?_
 refine sp 2 (.int .i64 0) rfl rfl (r_assign rfl) ?_
 refine s_fin ?_
 refine W_seq ?_
 refine W_region (.pu 0 (.ef 1 [] (.pu 2 (.pu 3 .fin)) .no)) rfl rfl ?_
 refine sp 3 (.pointer t1) rfl rfl (r_move rfl) ?_
 refine sc 4 rfl rfl (fun dr => r_call Tryz.call74 rfl rfl H) ?_
 rintro _ h1 ⟨y2, rfl, H⟩
 refine sp 5 (.int .i64 (w64 (y2 + 1))) rfl rfl (r_add rfl rfl) ?_
 refine sp 2 (.int .i64 (w64 (y2 + 1))) rfl rfl (r_assign rfl) ?_
 refine s_fin ?_
 refine W_ret ?_
 exact ⟨[(.int .i64 (w64 (y2 + 1)))], ⟨_, _, rfl, rfl, rfl⟩, (w64 (y2 + 1)), rfl, H⟩
def wbt_made_F (r : World) (l1 : Option Addr) (x2 : Int) (vr3 : Option Addr) (h : Heap) (R : Option Addr → Heap → Prop) : Prop :=
 wbt_node_size r l1 h fun y4 h1 =>
 wbt_node_size r vr3 h1 fun y5 h2 =>
 New h2 (.cells #[(.int .i64 x2), (.int .i64 (w64 ((w64 (1 + y4)) + y5))), (.pointer l1), (.pointer vr3)] 98) fun p6 h3 =>
 R (some p6) h3
theorem wbt_made_of {r : World} {l1 : Option Addr} {x2 : Int} {vr3 : Option Addr} {h : Heap} {R : Option Addr → Heap → Prop} (H : wbt_made_F r l1 x2 vr3 h R) : wbt_made r l1 x2 vr3 h R := by
 unfold wbt_made_F at H
 refine calls_of 18 [.tmp 6] Tryz.func77 rfl rfl rfl rfl rfl ?_
 refine W_seq ?_
 refine W_region (.pu 0 .fin) rfl rfl ?_
 refine sp 6 (.pointer none) rfl rfl (r_assign rfl) ?_
 refine s_fin ?_
 refine W_seq ?_
 refine W_region (.pu 0 (.pu 1 (.ef 2 [] (.pu 3 (.pu 4 (.ef 5 [] (.pu 6 (.pu 7 (.pu 8 (.pu 9 (.ef 10 [] (.pu 11 .fin) .no))))) .no))) .no))) rfl rfl ?_
 refine sp 7 (.int .i64 x2) rfl rfl (r_move rfl) ?_
 refine sp 8 (.pointer l1) rfl rfl (r_move rfl) ?_
 refine sc 9 rfl rfl (fun dr => r_call Tryz.call74 rfl rfl H) ?_
 rintro _ h1 ⟨y4, rfl, H⟩
 refine sp 10 (.int .i64 (w64 (1 + y4))) rfl rfl (r_add rfl rfl) ?_
 refine sp 11 (.pointer vr3) rfl rfl (r_move rfl) ?_
 refine sc 12 rfl rfl (fun dr => r_call Tryz.call74 rfl rfl H) ?_
 rintro _ h2 ⟨y5, rfl, H⟩
 refine sp 13 (.int .i64 (w64 ((w64 (1 + y4)) + y5))) rfl rfl (r_add rfl rfl) ?_
 refine sp 14 (.pointer l1) rfl rfl (r_move rfl) ?_
 refine sp 15 (.pointer vr3) rfl rfl (r_move rfl) ?_
 refine sp 16 (.agg #[(.int .i64 x2), (.int .i64 (w64 ((w64 (1 + y4)) + y5))), (.pointer l1), (.pointer vr3)]) rfl rfl (fun w => by kernel_rfl) ?_
 obtain ⟨p6, e7⟩ : ∃ p : Addr, p = ⟨h2.size, 0, none⟩ := ⟨_, rfl⟩
 obtain ⟨h3, e8⟩ : ∃ hh : Heap, hh = h2.push (.cells #[(.int .i64 x2), (.int .i64 (w64 ((w64 (1 + y4)) + y5))), (.pointer l1), (.pointer vr3)] 98) := ⟨_, rfl⟩
 have H := H p6 h3 e7 e8
 refine s_ef1 (d := some 17) (v := (.pointer (some p6))) (h' := h3) rfl rfl rfl (fun dr => (r_box (v := (.agg #[(.int .i64 x2), (.int .i64 (w64 ((w64 (1 + y4)) + y5))), (.pointer l1), (.pointer vr3)])) rfl).trans (by rw [e7, e8]; rfl)) trivial ?_ trivial
 refine sp 6 (.pointer (some p6)) rfl rfl (r_assign rfl) ?_
 refine s_fin ?_
 refine W_ret ?_
 exact ⟨[(.pointer (some p6))], ⟨_, _, rfl, rfl, rfl⟩, (some p6), rfl, H⟩
def wbt_heavy_F (r : World) (a1 : Option Addr) (vb2 : Option Addr) (h : Heap) (R : Bool → Heap → Prop) : Prop :=
 wbt_node_weight r a1 h fun y3 h1 =>
 wbt_node_weight r vb2 h1 fun y4 h2 =>
 R (decide ((w64 (3 * y4)) < y3)) h2
theorem wbt_heavy_of {r : World} {a1 : Option Addr} {vb2 : Option Addr} {h : Heap} {R : Bool → Heap → Prop} (H : wbt_heavy_F r a1 vb2 h R) : wbt_heavy r a1 vb2 h R := by
 unfold wbt_heavy_F at H
 refine calls_of 11 [.tmp 4] Tryz.func75 rfl rfl rfl rfl rfl ?_
 refine W_seq ?_
 refine W_region (.pu 0 .fin) rfl rfl ?_
 refine sp 4 (.bool false) rfl rfl (r_assign rfl) ?_
 refine s_fin ?_
 refine W_seq ?_
 refine W_region (.pu 0 (.ef 1 [] (.pu 2 (.ef 3 [] (.pu 4 (.pu 5 (.pu 6 .fin))) .no)) .no)) rfl rfl ?_
 refine sp 5 (.pointer a1) rfl rfl (r_move rfl) ?_
 refine sc 6 rfl rfl (fun dr => r_call Tryz.call55 rfl rfl H) ?_
 rintro _ h1 ⟨y3, rfl, H⟩
 refine sp 7 (.pointer vb2) rfl rfl (r_move rfl) ?_
 refine sc 8 rfl rfl (fun dr => r_call Tryz.call55 rfl rfl H) ?_
 rintro _ h2 ⟨y4, rfl, H⟩
 refine sp 9 (.int .i64 (w64 (3 * y4))) rfl rfl (r_mul rfl rfl) ?_
 refine sp 10 (.bool (decide ((w64 (3 * y4)) < y3))) rfl rfl (r_gtr rfl rfl) ?_
 refine sp 4 (.bool (decide ((w64 (3 * y4)) < y3))) rfl rfl (r_assign rfl) ?_
 refine s_fin ?_
 refine W_ret ?_
 exact ⟨[(.bool (decide ((w64 (3 * y4)) < y3)))], ⟨_, _, rfl, rfl, rfl⟩, (decide ((w64 (3 * y4)) < y3)), rfl, H⟩
def wbt_turnLeft_F (r : World) (l1 : Option Addr) (x2 : Int) (vr3 : Option Addr) (h : Heap) (R : Option Addr → Heap → Prop) : Prop :=
 Ck vr3 fun p4 =>
 LdP h (Addr.add p4 2) fun x6 =>
 Ck vr3 fun p8 =>
 LdP h (Addr.add p8 3) fun x10 =>
 wbt_node_weight r x6 h fun y12 h1 =>
 (hcell h1 (Addr.add p8 3) = some (.pointer x10)) ∧
 wbt_node_weight r x10 h1 fun y14 h2 =>
 Br (decide (y12 < (w64 (2 * y14)))) (
  Ck vr3 fun p15 =>
  LdP h2 (Addr.add p15 2) fun x17 =>
  Ck vr3 fun p19 =>
  LdI h2 (Addr.add p19 0) fun x21 =>
  Ck vr3 fun p23 =>
  LdP h2 (Addr.add p23 3) fun x25 =>
  wbt_made r l1 x2 x17 h2 fun y27 h3 =>
  (hcell h3 (Addr.add p23 3) = some (.pointer x25)) ∧
  (hcell h3 (Addr.add p19 0) = some (.int .i64 x21)) ∧
  wbt_made r y27 x21 x25 h3 fun y30 h4 =>
  R y30 h4) (
  Ck vr3 fun p31 =>
  LdP h2 (Addr.add p31 2) fun x33 =>
  Ck x33 fun p35 =>
  LdP h2 (Addr.add p35 2) fun x37 =>
  Ck x33 fun p39 =>
  LdI h2 (Addr.add p39 0) fun x41 =>
  Ck x33 fun p43 =>
  LdP h2 (Addr.add p43 3) fun x45 =>
  Ck vr3 fun p47 =>
  LdI h2 (Addr.add p47 0) fun x49 =>
  Ck vr3 fun p51 =>
  LdP h2 (Addr.add p51 3) fun x53 =>
  wbt_made r l1 x2 x37 h2 fun y55 h5 =>
  (hcell h5 (Addr.add p51 3) = some (.pointer x53)) ∧
  (hcell h5 (Addr.add p47 0) = some (.int .i64 x49)) ∧
  (hcell h5 (Addr.add p43 3) = some (.pointer x45)) ∧
  (hcell h5 (Addr.add p39 0) = some (.int .i64 x41)) ∧
  wbt_made r x45 x49 x53 h5 fun y60 h6 =>
  (hcell h6 (Addr.add p39 0) = some (.int .i64 x41)) ∧
  wbt_made r y55 x41 y60 h6 fun y62 h7 =>
  R y62 h7)
theorem wbt_turnLeft_of {r : World} {l1 : Option Addr} {x2 : Int} {vr3 : Option Addr} {h : Heap} {R : Option Addr → Heap → Prop} (H : wbt_turnLeft_F r l1 x2 vr3 h R) : wbt_turnLeft r l1 x2 vr3 h R := by
 unfold wbt_turnLeft_F at H
 refine calls_of 65 [.tmp 6] Tryz.func110 rfl rfl rfl rfl rfl ?_
 refine W_seq ?_
 refine W_region (.pu 0 .fin) rfl rfl ?_
 refine sp 6 (.pointer none) rfl rfl (r_assign rfl) ?_
 refine s_fin ?_
 refine W_seq ?_
 refine W_seq ?_
 refine W_draw [0, 1, 3, 7, 15, 0, 32, 96, 224, 511, 1023, 2047] (.pu 0 (.pu 1 (.pu 2 (.rd 3 (.pu 5 (.pu 6 (.pu 7 (.rd 8 (.ef 4 [3] (.ef 9 [3, 8] (.pu 10 (.pu 11 .fin)) .no) .no))))))))) (by kernel_rfl) (by kernel_rfl) ?_
 refine sp 8 (.pointer vr3) rfl rfl (r_move rfl) ?_
 obtain ⟨p4, e5, H⟩ := H
 refine sp 9 (.pointer (some p4)) rfl rfl (r_nilCheck rfl e5) ?_
 refine sp 10 (.pointer (some (Addr.add p4 2))) rfl rfl (r_fieldAddr Tryz.underlying98 Tryz.sizeOf42 rfl rfl rfl) ?_
 obtain ⟨x6, e7, H⟩ := H
 refine s_rd (d := some 11) (v := (.pointer x6)) rfl rfl rfl (fun dr => r_load1 Tryz.isAgg42 rfl e7) ?_
 refine sp 13 (.pointer vr3) rfl rfl (r_move rfl) ?_
 obtain ⟨p8, e9, H⟩ := H
 refine sp 14 (.pointer (some p8)) rfl rfl (r_nilCheck rfl e9) ?_
 refine sp 15 (.pointer (some (Addr.add p8 3))) rfl rfl (r_fieldAddr Tryz.underlying98 Tryz.sizeOf42 rfl rfl rfl) ?_
 obtain ⟨x10, e11, H⟩ := H
 refine s_rd (d := some 16) (v := (.pointer x10)) rfl rfl rfl (fun dr => r_load1 Tryz.isAgg42 rfl e11) ?_
 refine s_ef (d := some 12) rfl rfl rfl (fun dr => r_call Tryz.call55 rfl rfl H) ?_ trivial
 rintro _ h1 ⟨y12, rfl, H⟩
 obtain ⟨e13, H⟩ := H
 refine ⟨⟨(.inl ⟨rfl, fun dr => r_load1 Tryz.isAgg42 rfl e13⟩), trivial, trivial⟩, ?_⟩
 refine s_ef (d := some 17) rfl rfl rfl (fun dr => r_call Tryz.call55 rfl rfl H) ?_ trivial
 rintro _ h2 ⟨y14, rfl, H⟩
 refine ⟨⟨trivial, trivial, trivial⟩, ?_⟩
 refine sp 18 (.int .i64 (w64 (2 * y14))) rfl rfl (r_mul rfl rfl) ?_
 refine sp 19 (.bool (decide (y12 < (w64 (2 * y14))))) rfl rfl (r_lss rfl rfl) ?_
 refine s_fin ?_
 refine W_if (decide (y12 < (w64 (2 * y14)))) rfl (fun g63 => ?_) (fun g63 => ?_)
 ·have H := H.1 g63
  refine W_seq ?_
  refine W_draw [0, 0, 0, 4, 12, 28, 63, 0, 128, 384, 896, 0, 2048, 6144, 14336, 32767, 65535] (.pu 0 (.pu 1 (.pu 2 (.pu 3 (.pu 4 (.rd 5 (.pu 7 (.pu 8 (.pu 9 (.rd 10 (.pu 11 (.pu 12 (.pu 13 (.rd 14 (.ef 6 [5] (.ef 15 [5, 10, 14] (.pu 16 .fin) .no) .no))))))))))))))) (by kernel_rfl) (by kernel_rfl) ?_
  refine sp 20 (.pointer l1) rfl rfl (r_move rfl) ?_
  refine sp 21 (.int .i64 x2) rfl rfl (r_move rfl) ?_
  refine sp 22 (.pointer vr3) rfl rfl (r_move rfl) ?_
  obtain ⟨p15, e16, H⟩ := H
  refine sp 23 (.pointer (some p15)) rfl rfl (r_nilCheck rfl e16) ?_
  refine sp 24 (.pointer (some (Addr.add p15 2))) rfl rfl (r_fieldAddr Tryz.underlying98 Tryz.sizeOf42 rfl rfl rfl) ?_
  obtain ⟨x17, e18, H⟩ := H
  refine s_rd (d := some 25) (v := (.pointer x17)) rfl rfl rfl (fun dr => r_load1 Tryz.isAgg42 rfl e18) ?_
  refine sp 27 (.pointer vr3) rfl rfl (r_move rfl) ?_
  obtain ⟨p19, e20, H⟩ := H
  refine sp 28 (.pointer (some p19)) rfl rfl (r_nilCheck rfl e20) ?_
  refine sp 29 (.pointer (some (Addr.add p19 0))) rfl rfl (r_fieldAddr Tryz.underlying98 Tryz.sizeOf3 rfl rfl rfl) ?_
  obtain ⟨x21, e22, H⟩ := H
  refine s_rd (d := some 30) (v := (.int .i64 x21)) rfl rfl rfl (fun dr => r_load1 Tryz.isAgg3 rfl e22) ?_
  refine sp 31 (.pointer vr3) rfl rfl (r_move rfl) ?_
  obtain ⟨p23, e24, H⟩ := H
  refine sp 32 (.pointer (some p23)) rfl rfl (r_nilCheck rfl e24) ?_
  refine sp 33 (.pointer (some (Addr.add p23 3))) rfl rfl (r_fieldAddr Tryz.underlying98 Tryz.sizeOf42 rfl rfl rfl) ?_
  obtain ⟨x25, e26, H⟩ := H
  refine s_rd (d := some 34) (v := (.pointer x25)) rfl rfl rfl (fun dr => r_load1 Tryz.isAgg42 rfl e26) ?_
  refine s_ef (d := some 26) rfl rfl rfl (fun dr => r_call Tryz.call77 rfl rfl H) ?_ trivial
  rintro _ h3 ⟨y27, rfl, H⟩
  obtain ⟨e28, H⟩ := H
  obtain ⟨e29, H⟩ := H
  refine ⟨⟨(.inl ⟨rfl, fun dr => r_load1 Tryz.isAgg42 rfl e28⟩), (.inl ⟨rfl, fun dr => r_load1 Tryz.isAgg3 rfl e29⟩), trivial, trivial⟩, ?_⟩
  refine s_ef (d := some 35) rfl rfl rfl (fun dr => r_call Tryz.call77 rfl rfl H) ?_ trivial
  rintro _ h4 ⟨y30, rfl, H⟩
  refine ⟨⟨trivial, trivial, trivial, trivial⟩, ?_⟩
  refine sp 6 (.pointer y30) rfl rfl (r_assign rfl) ?_
  refine s_fin ?_
  refine W_ret ?_
  exact ⟨[(.pointer y30)], ⟨_, _, rfl, rfl, rfl⟩, y30, rfl, H⟩
 ·have H := H.2 g63
  refine W_skip ?_
  show W _ _ _ _ _ _ _ _
  refine W_seq ?_
  refine W_region (.pu 0 (.pu 1 (.pu 2 (.rl 3 (.pu 4 .fin))))) rfl rfl ?_
  refine sp 36 (.pointer vr3) rfl rfl (r_move rfl) ?_
  obtain ⟨p31, e32, H⟩ := H
  refine sp 37 (.pointer (some p31)) rfl rfl (r_nilCheck rfl e32) ?_
  refine sp 38 (.pointer (some (Addr.add p31 2))) rfl rfl (r_fieldAddr Tryz.underlying98 Tryz.sizeOf42 rfl rfl rfl) ?_
  obtain ⟨x33, e34, H⟩ := H
  refine sl 39 (.pointer x33) rfl rfl (fun dr => r_load1 Tryz.isAgg42 rfl e34) ?_
  refine sp 7 (.pointer x33) rfl rfl (r_assign rfl) ?_
  refine s_fin ?_
  refine W_seq ?_
  refine W_draw [0, 0, 0, 4, 12, 28, 63, 0, 128, 384, 896, 0, 2048, 6144, 14336, 0, 32768, 98304, 229376, 0, 524288, 1572864, 3670016, 8386687, 16777215, 33554431] (.pu 0 (.pu 1 (.pu 2 (.pu 3 (.pu 4 (.rd 5 (.pu 7 (.pu 8 (.pu 9 (.rd 10 (.pu 11 (.pu 12 (.pu 13 (.rd 14 (.pu 15 (.pu 16 (.pu 17 (.rd 18 (.pu 19 (.pu 20 (.pu 21 (.rd 22 (.ef 6 [5] (.ef 23 [5, 14, 18, 22] (.ef 24 [5, 10, 14, 18, 22] (.pu 25 .fin) .no) .no) .no))))))))))))))))))))))) (by kernel_rfl) (by kernel_rfl) ?_
  refine sp 40 (.pointer l1) rfl rfl (r_move rfl) ?_
  refine sp 41 (.int .i64 x2) rfl rfl (r_move rfl) ?_
  refine sp 42 (.pointer x33) rfl rfl (r_move rfl) ?_
  obtain ⟨p35, e36, H⟩ := H
  refine sp 43 (.pointer (some p35)) rfl rfl (r_nilCheck rfl e36) ?_
  refine sp 44 (.pointer (some (Addr.add p35 2))) rfl rfl (r_fieldAddr Tryz.underlying98 Tryz.sizeOf42 rfl rfl rfl) ?_
  obtain ⟨x37, e38, H⟩ := H
  refine s_rd (d := some 45) (v := (.pointer x37)) rfl rfl rfl (fun dr => r_load1 Tryz.isAgg42 rfl e38) ?_
  refine sp 47 (.pointer x33) rfl rfl (r_move rfl) ?_
  obtain ⟨p39, e40, H⟩ := H
  refine sp 48 (.pointer (some p39)) rfl rfl (r_nilCheck rfl e40) ?_
  refine sp 49 (.pointer (some (Addr.add p39 0))) rfl rfl (r_fieldAddr Tryz.underlying98 Tryz.sizeOf3 rfl rfl rfl) ?_
  obtain ⟨x41, e42, H⟩ := H
  refine s_rd (d := some 50) (v := (.int .i64 x41)) rfl rfl rfl (fun dr => r_load1 Tryz.isAgg3 rfl e42) ?_
  refine sp 51 (.pointer x33) rfl rfl (r_move rfl) ?_
  obtain ⟨p43, e44, H⟩ := H
  refine sp 52 (.pointer (some p43)) rfl rfl (r_nilCheck rfl e44) ?_
  refine sp 53 (.pointer (some (Addr.add p43 3))) rfl rfl (r_fieldAddr Tryz.underlying98 Tryz.sizeOf42 rfl rfl rfl) ?_
  obtain ⟨x45, e46, H⟩ := H
  refine s_rd (d := some 54) (v := (.pointer x45)) rfl rfl rfl (fun dr => r_load1 Tryz.isAgg42 rfl e46) ?_
  refine sp 55 (.pointer vr3) rfl rfl (r_move rfl) ?_
  obtain ⟨p47, e48, H⟩ := H
  refine sp 56 (.pointer (some p47)) rfl rfl (r_nilCheck rfl e48) ?_
  refine sp 57 (.pointer (some (Addr.add p47 0))) rfl rfl (r_fieldAddr Tryz.underlying98 Tryz.sizeOf3 rfl rfl rfl) ?_
  obtain ⟨x49, e50, H⟩ := H
  refine s_rd (d := some 58) (v := (.int .i64 x49)) rfl rfl rfl (fun dr => r_load1 Tryz.isAgg3 rfl e50) ?_
  refine sp 59 (.pointer vr3) rfl rfl (r_move rfl) ?_
  obtain ⟨p51, e52, H⟩ := H
  refine sp 60 (.pointer (some p51)) rfl rfl (r_nilCheck rfl e52) ?_
  refine sp 61 (.pointer (some (Addr.add p51 3))) rfl rfl (r_fieldAddr Tryz.underlying98 Tryz.sizeOf42 rfl rfl rfl) ?_
  obtain ⟨x53, e54, H⟩ := H
  refine s_rd (d := some 62) (v := (.pointer x53)) rfl rfl rfl (fun dr => r_load1 Tryz.isAgg42 rfl e54) ?_
  refine s_ef (d := some 46) rfl rfl rfl (fun dr => r_call Tryz.call77 rfl rfl H) ?_ trivial
  rintro _ h5 ⟨y55, rfl, H⟩
  obtain ⟨e56, H⟩ := H
  obtain ⟨e57, H⟩ := H
  obtain ⟨e58, H⟩ := H
  obtain ⟨e59, H⟩ := H
  refine ⟨⟨(.inl ⟨rfl, fun dr => r_load1 Tryz.isAgg42 rfl e56⟩), (.inl ⟨rfl, fun dr => r_load1 Tryz.isAgg3 rfl e57⟩), (.inl ⟨rfl, fun dr => r_load1 Tryz.isAgg42 rfl e58⟩), (.inl ⟨rfl, fun dr => r_load1 Tryz.isAgg3 rfl e59⟩), trivial, trivial⟩, ?_⟩
  refine s_ef (d := some 63) rfl rfl rfl (fun dr => r_call Tryz.call77 rfl rfl H) ?_ trivial
  rintro _ h6 ⟨y60, rfl, H⟩
  obtain ⟨e61, H⟩ := H
  refine ⟨⟨trivial, trivial, trivial, (.inl ⟨rfl, fun dr => r_load1 Tryz.isAgg3 rfl e61⟩), trivial, trivial⟩, ?_⟩
  refine s_ef (d := some 64) rfl rfl rfl (fun dr => r_call Tryz.call77 rfl rfl H) ?_ trivial
  rintro _ h7 ⟨y62, rfl, H⟩
  refine ⟨⟨trivial, trivial, trivial, trivial, trivial, trivial⟩, ?_⟩
  refine sp 6 (.pointer y62) rfl rfl (r_assign rfl) ?_
  refine s_fin ?_
  refine W_ret ?_
  exact ⟨[(.pointer y62)], ⟨_, _, rfl, rfl, rfl⟩, y62, rfl, H⟩
def wbt_turnRight_F (r : World) (l1 : Option Addr) (x2 : Int) (vr3 : Option Addr) (h : Heap) (R : Option Addr → Heap → Prop) : Prop :=
 Ck l1 fun p4 =>
 LdP h (Addr.add p4 3) fun x6 =>
 Ck l1 fun p8 =>
 LdP h (Addr.add p8 2) fun x10 =>
 wbt_node_weight r x6 h fun y12 h1 =>
 (hcell h1 (Addr.add p8 2) = some (.pointer x10)) ∧
 wbt_node_weight r x10 h1 fun y14 h2 =>
 Br (decide (y12 < (w64 (2 * y14)))) (
  Ck l1 fun p15 =>
  LdP h2 (Addr.add p15 2) fun x17 =>
  Ck l1 fun p19 =>
  LdI h2 (Addr.add p19 0) fun x21 =>
  Ck l1 fun p23 =>
  LdP h2 (Addr.add p23 3) fun x25 =>
  wbt_made r x25 x2 vr3 h2 fun y27 h3 =>
  (hcell h3 (Addr.add p19 0) = some (.int .i64 x21)) ∧
  (hcell h3 (Addr.add p15 2) = some (.pointer x17)) ∧
  wbt_made r x17 x21 y27 h3 fun y30 h4 =>
  R y30 h4) (
  Ck l1 fun p31 =>
  LdP h2 (Addr.add p31 3) fun x33 =>
  Ck l1 fun p35 =>
  LdP h2 (Addr.add p35 2) fun x37 =>
  Ck l1 fun p39 =>
  LdI h2 (Addr.add p39 0) fun x41 =>
  Ck x33 fun p43 =>
  LdP h2 (Addr.add p43 2) fun x45 =>
  Ck x33 fun p47 =>
  LdI h2 (Addr.add p47 0) fun x49 =>
  Ck x33 fun p51 =>
  LdP h2 (Addr.add p51 3) fun x53 =>
  wbt_made r x37 x41 x45 h2 fun y55 h5 =>
  (hcell h5 (Addr.add p51 3) = some (.pointer x53)) ∧
  (hcell h5 (Addr.add p47 0) = some (.int .i64 x49)) ∧
  wbt_made r x53 x2 vr3 h5 fun y58 h6 =>
  (hcell h6 (Addr.add p47 0) = some (.int .i64 x49)) ∧
  wbt_made r y55 x49 y58 h6 fun y60 h7 =>
  R y60 h7)
theorem wbt_turnRight_of {r : World} {l1 : Option Addr} {x2 : Int} {vr3 : Option Addr} {h : Heap} {R : Option Addr → Heap → Prop} (H : wbt_turnRight_F r l1 x2 vr3 h R) : wbt_turnRight r l1 x2 vr3 h R := by
 unfold wbt_turnRight_F at H
 refine calls_of 65 [.tmp 6] Tryz.func111 rfl rfl rfl rfl rfl ?_
 refine W_seq ?_
 refine W_region (.pu 0 .fin) rfl rfl ?_
 refine sp 6 (.pointer none) rfl rfl (r_assign rfl) ?_
 refine s_fin ?_
 refine W_seq ?_
 refine W_seq ?_
 refine W_draw [0, 1, 3, 7, 15, 0, 32, 96, 224, 511, 1023, 2047] (.pu 0 (.pu 1 (.pu 2 (.rd 3 (.pu 5 (.pu 6 (.pu 7 (.rd 8 (.ef 4 [3] (.ef 9 [3, 8] (.pu 10 (.pu 11 .fin)) .no) .no))))))))) (by kernel_rfl) (by kernel_rfl) ?_
 refine sp 8 (.pointer l1) rfl rfl (r_move rfl) ?_
 obtain ⟨p4, e5, H⟩ := H
 refine sp 9 (.pointer (some p4)) rfl rfl (r_nilCheck rfl e5) ?_
 refine sp 10 (.pointer (some (Addr.add p4 3))) rfl rfl (r_fieldAddr Tryz.underlying98 Tryz.sizeOf42 rfl rfl rfl) ?_
 obtain ⟨x6, e7, H⟩ := H
 refine s_rd (d := some 11) (v := (.pointer x6)) rfl rfl rfl (fun dr => r_load1 Tryz.isAgg42 rfl e7) ?_
 refine sp 13 (.pointer l1) rfl rfl (r_move rfl) ?_
 obtain ⟨p8, e9, H⟩ := H
 refine sp 14 (.pointer (some p8)) rfl rfl (r_nilCheck rfl e9) ?_
 refine sp 15 (.pointer (some (Addr.add p8 2))) rfl rfl (r_fieldAddr Tryz.underlying98 Tryz.sizeOf42 rfl rfl rfl) ?_
 obtain ⟨x10, e11, H⟩ := H
 refine s_rd (d := some 16) (v := (.pointer x10)) rfl rfl rfl (fun dr => r_load1 Tryz.isAgg42 rfl e11) ?_
 refine s_ef (d := some 12) rfl rfl rfl (fun dr => r_call Tryz.call55 rfl rfl H) ?_ trivial
 rintro _ h1 ⟨y12, rfl, H⟩
 obtain ⟨e13, H⟩ := H
 refine ⟨⟨(.inl ⟨rfl, fun dr => r_load1 Tryz.isAgg42 rfl e13⟩), trivial, trivial⟩, ?_⟩
 refine s_ef (d := some 17) rfl rfl rfl (fun dr => r_call Tryz.call55 rfl rfl H) ?_ trivial
 rintro _ h2 ⟨y14, rfl, H⟩
 refine ⟨⟨trivial, trivial, trivial⟩, ?_⟩
 refine sp 18 (.int .i64 (w64 (2 * y14))) rfl rfl (r_mul rfl rfl) ?_
 refine sp 19 (.bool (decide (y12 < (w64 (2 * y14))))) rfl rfl (r_lss rfl rfl) ?_
 refine s_fin ?_
 refine W_if (decide (y12 < (w64 (2 * y14)))) rfl (fun g61 => ?_) (fun g61 => ?_)
 ·have H := H.1 g61
  refine W_seq ?_
  refine W_draw [0, 1, 3, 7, 0, 16, 48, 112, 0, 256, 768, 1792, 0, 0, 16128, 32767, 65535] (.pu 0 (.pu 1 (.pu 2 (.rd 3 (.pu 4 (.pu 5 (.pu 6 (.rd 7 (.pu 8 (.pu 9 (.pu 10 (.rd 11 (.pu 12 (.pu 13 (.ef 14 [11] (.ef 15 [3, 7, 11] (.pu 16 .fin) .no) .no))))))))))))))) (by kernel_rfl) (by kernel_rfl) ?_
  refine sp 20 (.pointer l1) rfl rfl (r_move rfl) ?_
  obtain ⟨p15, e16, H⟩ := H
  refine sp 21 (.pointer (some p15)) rfl rfl (r_nilCheck rfl e16) ?_
  refine sp 22 (.pointer (some (Addr.add p15 2))) rfl rfl (r_fieldAddr Tryz.underlying98 Tryz.sizeOf42 rfl rfl rfl) ?_
  obtain ⟨x17, e18, H⟩ := H
  refine s_rd (d := some 23) (v := (.pointer x17)) rfl rfl rfl (fun dr => r_load1 Tryz.isAgg42 rfl e18) ?_
  refine sp 24 (.pointer l1) rfl rfl (r_move rfl) ?_
  obtain ⟨p19, e20, H⟩ := H
  refine sp 25 (.pointer (some p19)) rfl rfl (r_nilCheck rfl e20) ?_
  refine sp 26 (.pointer (some (Addr.add p19 0))) rfl rfl (r_fieldAddr Tryz.underlying98 Tryz.sizeOf3 rfl rfl rfl) ?_
  obtain ⟨x21, e22, H⟩ := H
  refine s_rd (d := some 27) (v := (.int .i64 x21)) rfl rfl rfl (fun dr => r_load1 Tryz.isAgg3 rfl e22) ?_
  refine sp 28 (.pointer l1) rfl rfl (r_move rfl) ?_
  obtain ⟨p23, e24, H⟩ := H
  refine sp 29 (.pointer (some p23)) rfl rfl (r_nilCheck rfl e24) ?_
  refine sp 30 (.pointer (some (Addr.add p23 3))) rfl rfl (r_fieldAddr Tryz.underlying98 Tryz.sizeOf42 rfl rfl rfl) ?_
  obtain ⟨x25, e26, H⟩ := H
  refine s_rd (d := some 31) (v := (.pointer x25)) rfl rfl rfl (fun dr => r_load1 Tryz.isAgg42 rfl e26) ?_
  refine sp 32 (.int .i64 x2) rfl rfl (r_move rfl) ?_
  refine sp 33 (.pointer vr3) rfl rfl (r_move rfl) ?_
  refine s_ef (d := some 34) rfl rfl rfl (fun dr => r_call Tryz.call77 rfl rfl H) ?_ trivial
  rintro _ h3 ⟨y27, rfl, H⟩
  obtain ⟨e28, H⟩ := H
  obtain ⟨e29, H⟩ := H
  refine ⟨⟨trivial, (.inl ⟨rfl, fun dr => r_load1 Tryz.isAgg3 rfl e28⟩), (.inl ⟨rfl, fun dr => r_load1 Tryz.isAgg42 rfl e29⟩), trivial⟩, ?_⟩
  refine s_ef (d := some 35) rfl rfl rfl (fun dr => r_call Tryz.call77 rfl rfl H) ?_ trivial
  rintro _ h4 ⟨y30, rfl, H⟩
  refine ⟨⟨trivial, trivial, trivial, trivial⟩, ?_⟩
  refine sp 6 (.pointer y30) rfl rfl (r_assign rfl) ?_
  refine s_fin ?_
  refine W_ret ?_
  exact ⟨[(.pointer y30)], ⟨_, _, rfl, rfl, rfl⟩, y30, rfl, H⟩
 ·have H := H.2 g61
  refine W_skip ?_
  show W _ _ _ _ _ _ _ _
  refine W_seq ?_
  refine W_region (.pu 0 (.pu 1 (.pu 2 (.rl 3 (.pu 4 .fin))))) rfl rfl ?_
  refine sp 36 (.pointer l1) rfl rfl (r_move rfl) ?_
  obtain ⟨p31, e32, H⟩ := H
  refine sp 37 (.pointer (some p31)) rfl rfl (r_nilCheck rfl e32) ?_
  refine sp 38 (.pointer (some (Addr.add p31 3))) rfl rfl (r_fieldAddr Tryz.underlying98 Tryz.sizeOf42 rfl rfl rfl) ?_
  obtain ⟨x33, e34, H⟩ := H
  refine sl 39 (.pointer x33) rfl rfl (fun dr => r_load1 Tryz.isAgg42 rfl e34) ?_
  refine sp 7 (.pointer x33) rfl rfl (r_assign rfl) ?_
  refine s_fin ?_
  refine W_seq ?_
  refine W_draw [0, 1, 3, 7, 0, 16, 48, 112, 0, 256, 768, 1792, 4095, 0, 8192, 24576, 57344, 0, 131072, 393216, 917504, 0, 0, 8265727, 16777215, 33554431] (.pu 0 (.pu 1 (.pu 2 (.rd 3 (.pu 4 (.pu 5 (.pu 6 (.rd 7 (.pu 8 (.pu 9 (.pu 10 (.rd 11 (.pu 13 (.pu 14 (.pu 15 (.rd 16 (.pu 17 (.pu 18 (.pu 19 (.rd 20 (.pu 21 (.pu 22 (.ef 12 [3, 7, 11] (.ef 23 [3, 7, 11, 20] (.ef 24 [3, 7, 11, 16, 20] (.pu 25 .fin) .no) .no) .no))))))))))))))))))))))) (by kernel_rfl) (by kernel_rfl) ?_
  refine sp 40 (.pointer l1) rfl rfl (r_move rfl) ?_
  obtain ⟨p35, e36, H⟩ := H
  refine sp 41 (.pointer (some p35)) rfl rfl (r_nilCheck rfl e36) ?_
  refine sp 42 (.pointer (some (Addr.add p35 2))) rfl rfl (r_fieldAddr Tryz.underlying98 Tryz.sizeOf42 rfl rfl rfl) ?_
  obtain ⟨x37, e38, H⟩ := H
  refine s_rd (d := some 43) (v := (.pointer x37)) rfl rfl rfl (fun dr => r_load1 Tryz.isAgg42 rfl e38) ?_
  refine sp 44 (.pointer l1) rfl rfl (r_move rfl) ?_
  obtain ⟨p39, e40, H⟩ := H
  refine sp 45 (.pointer (some p39)) rfl rfl (r_nilCheck rfl e40) ?_
  refine sp 46 (.pointer (some (Addr.add p39 0))) rfl rfl (r_fieldAddr Tryz.underlying98 Tryz.sizeOf3 rfl rfl rfl) ?_
  obtain ⟨x41, e42, H⟩ := H
  refine s_rd (d := some 47) (v := (.int .i64 x41)) rfl rfl rfl (fun dr => r_load1 Tryz.isAgg3 rfl e42) ?_
  refine sp 48 (.pointer x33) rfl rfl (r_move rfl) ?_
  obtain ⟨p43, e44, H⟩ := H
  refine sp 49 (.pointer (some p43)) rfl rfl (r_nilCheck rfl e44) ?_
  refine sp 50 (.pointer (some (Addr.add p43 2))) rfl rfl (r_fieldAddr Tryz.underlying98 Tryz.sizeOf42 rfl rfl rfl) ?_
  obtain ⟨x45, e46, H⟩ := H
  refine s_rd (d := some 51) (v := (.pointer x45)) rfl rfl rfl (fun dr => r_load1 Tryz.isAgg42 rfl e46) ?_
  refine sp 53 (.pointer x33) rfl rfl (r_move rfl) ?_
  obtain ⟨p47, e48, H⟩ := H
  refine sp 54 (.pointer (some p47)) rfl rfl (r_nilCheck rfl e48) ?_
  refine sp 55 (.pointer (some (Addr.add p47 0))) rfl rfl (r_fieldAddr Tryz.underlying98 Tryz.sizeOf3 rfl rfl rfl) ?_
  obtain ⟨x49, e50, H⟩ := H
  refine s_rd (d := some 56) (v := (.int .i64 x49)) rfl rfl rfl (fun dr => r_load1 Tryz.isAgg3 rfl e50) ?_
  refine sp 57 (.pointer x33) rfl rfl (r_move rfl) ?_
  obtain ⟨p51, e52, H⟩ := H
  refine sp 58 (.pointer (some p51)) rfl rfl (r_nilCheck rfl e52) ?_
  refine sp 59 (.pointer (some (Addr.add p51 3))) rfl rfl (r_fieldAddr Tryz.underlying98 Tryz.sizeOf42 rfl rfl rfl) ?_
  obtain ⟨x53, e54, H⟩ := H
  refine s_rd (d := some 60) (v := (.pointer x53)) rfl rfl rfl (fun dr => r_load1 Tryz.isAgg42 rfl e54) ?_
  refine sp 61 (.int .i64 x2) rfl rfl (r_move rfl) ?_
  refine sp 62 (.pointer vr3) rfl rfl (r_move rfl) ?_
  refine s_ef (d := some 52) rfl rfl rfl (fun dr => r_call Tryz.call77 rfl rfl H) ?_ trivial
  rintro _ h5 ⟨y55, rfl, H⟩
  obtain ⟨e56, H⟩ := H
  obtain ⟨e57, H⟩ := H
  refine ⟨⟨(.inl ⟨rfl, fun dr => r_load1 Tryz.isAgg42 rfl e56⟩), (.inl ⟨rfl, fun dr => r_load1 Tryz.isAgg3 rfl e57⟩), trivial, trivial, trivial, trivial⟩, ?_⟩
  refine s_ef (d := some 63) rfl rfl rfl (fun dr => r_call Tryz.call77 rfl rfl H) ?_ trivial
  rintro _ h6 ⟨y58, rfl, H⟩
  obtain ⟨e59, H⟩ := H
  refine ⟨⟨trivial, (.inl ⟨rfl, fun dr => r_load1 Tryz.isAgg3 rfl e59⟩), trivial, trivial, trivial, trivial⟩, ?_⟩
  refine s_ef (d := some 64) rfl rfl rfl (fun dr => r_call Tryz.call77 rfl rfl H) ?_ trivial
  rintro _ h7 ⟨y60, rfl, H⟩
  refine ⟨⟨trivial, trivial, trivial, trivial, trivial, trivial⟩, ?_⟩
  refine sp 6 (.pointer y60) rfl rfl (r_assign rfl) ?_
  refine s_fin ?_
  refine W_ret ?_
  exact ⟨[(.pointer y60)], ⟨_, _, rfl, rfl, rfl⟩, y60, rfl, H⟩
def wbt_even_F (r : World) (l1 : Option Addr) (x2 : Int) (vr3 : Option Addr) (h : Heap) (R : Option Addr → Heap → Prop) : Prop :=
 wbt_heavy r vr3 l1 h fun y4 h1 =>
 Br y4 (
  wbt_turnLeft r l1 x2 vr3 h1 fun y5 h2 =>
  R y5 h2) (
  wbt_heavy r l1 vr3 h1 fun y6 h3 =>
  Br y6 (
   wbt_turnRight r l1 x2 vr3 h3 fun y7 h4 =>
   R y7 h4) (
   wbt_made r l1 x2 vr3 h3 fun y8 h5 =>
   R y8 h5))
theorem wbt_even_of {r : World} {l1 : Option Addr} {x2 : Int} {vr3 : Option Addr} {h : Heap} {R : Option Addr → Heap → Prop} (H : wbt_even_F r l1 x2 vr3 h R) : wbt_even r l1 x2 vr3 h R := by
 unfold wbt_even_F at H
 refine calls_of 27 [.tmp 6] Tryz.func76 rfl rfl rfl rfl rfl ?_
 refine W_seq ?_
 refine W_region (.pu 0 .fin) rfl rfl ?_
 refine sp 6 (.pointer none) rfl rfl (r_assign rfl) ?_
 refine s_fin ?_
 refine W_seq ?_
 refine W_block ?_
 refine W_seq ?_
 refine W_region (.pu 0 (.pu 1 (.ef 2 [] (.pu 3 .fin) .no))) rfl rfl ?_
 refine sp 8 (.pointer vr3) rfl rfl (r_move rfl) ?_
 refine sp 9 (.pointer l1) rfl rfl (r_move rfl) ?_
 refine sc 10 rfl rfl (fun dr => r_call Tryz.call75 rfl rfl H) ?_
 rintro _ h1 ⟨y4, rfl, H⟩
 refine sp 7 (.bool y4) rfl rfl (r_assign rfl) ?_
 refine s_fin ?_
 refine W_if y4 rfl (fun g10 => ?_) (fun g10 => ?_)
 ·have H := H.1 g10
  refine W_seq ?_
  refine W_region (.pu 0 (.pu 1 (.pu 2 (.ef 3 [] (.pu 4 .fin) .no)))) rfl rfl ?_
  refine sp 11 (.pointer l1) rfl rfl (r_move rfl) ?_
  refine sp 12 (.int .i64 x2) rfl rfl (r_move rfl) ?_
  refine sp 13 (.pointer vr3) rfl rfl (r_move rfl) ?_
  refine sc 14 rfl rfl (fun dr => r_call Tryz.call110 rfl rfl H) ?_
  rintro _ h2 ⟨y5, rfl, H⟩
  refine sp 6 (.pointer y5) rfl rfl (r_assign rfl) ?_
  refine s_fin ?_
  refine W_ret ?_
  exact ⟨[(.pointer y5)], ⟨_, _, rfl, rfl, rfl⟩, y5, rfl, H⟩
 ·have H := H.2 g10
  refine W_seq ?_
  refine W_region (.pu 0 (.pu 1 (.ef 2 [] (.pu 3 .fin) .no))) rfl rfl ?_
  refine sp 16 (.pointer l1) rfl rfl (r_move rfl) ?_
  refine sp 17 (.pointer vr3) rfl rfl (r_move rfl) ?_
  refine sc 18 rfl rfl (fun dr => r_call Tryz.call75 rfl rfl H) ?_
  rintro _ h3 ⟨y6, rfl, H⟩
  refine sp 15 (.bool y6) rfl rfl (r_assign rfl) ?_
  refine s_fin ?_
  refine W_if y6 rfl (fun g9 => ?_) (fun g9 => ?_)
  ·have H := H.1 g9
   refine W_seq ?_
   refine W_region (.pu 0 (.pu 1 (.pu 2 (.ef 3 [] (.pu 4 .fin) .no)))) rfl rfl ?_
   refine sp 19 (.pointer l1) rfl rfl (r_move rfl) ?_
   refine sp 20 (.int .i64 x2) rfl rfl (r_move rfl) ?_
   refine sp 21 (.pointer vr3) rfl rfl (r_move rfl) ?_
   refine sc 22 rfl rfl (fun dr => r_call Tryz.call111 rfl rfl H) ?_
   rintro _ h4 ⟨y7, rfl, H⟩
   refine sp 6 (.pointer y7) rfl rfl (r_assign rfl) ?_
   refine s_fin ?_
   refine W_ret ?_
   exact ⟨[(.pointer y7)], ⟨_, _, rfl, rfl, rfl⟩, y7, rfl, H⟩
  ·have H := H.2 g9
   refine W_skip ?_
   show W _ _ _ _ _ _ _ _
   refine W_seq ?_
   refine W_region (.pu 0 (.pu 1 (.pu 2 (.ef 3 [] (.pu 4 .fin) .no)))) rfl rfl ?_
   refine sp 23 (.pointer l1) rfl rfl (r_move rfl) ?_
   refine sp 24 (.int .i64 x2) rfl rfl (r_move rfl) ?_
   refine sp 25 (.pointer vr3) rfl rfl (r_move rfl) ?_
   refine sc 26 rfl rfl (fun dr => r_call Tryz.call77 rfl rfl H) ?_
   rintro _ h5 ⟨y8, rfl, H⟩
   refine sp 6 (.pointer y8) rfl rfl (r_assign rfl) ?_
   refine s_fin ?_
   refine W_ret ?_
   exact ⟨[(.pointer y8)], ⟨_, _, rfl, rfl, rfl⟩, y8, rfl, H⟩
def wbt_link_F (r : World) (l1 : Option Addr) (x2 : Int) (vr3 : Option Addr) (h : Heap) (R : Option Addr → Heap → Prop) : Prop :=
 wbt_heavy r vr3 l1 h fun y4 h1 =>
 Br y4 (
  Ck vr3 fun p5 =>
  LdP h1 (Addr.add p5 2) fun x7 =>
  Ck vr3 fun p9 =>
  LdI h1 (Addr.add p9 0) fun x11 =>
  Ck vr3 fun p13 =>
  LdP h1 (Addr.add p13 3) fun x15 =>
  wbt_link r l1 x2 x7 h1 fun y17 h2 =>
  (hcell h2 (Addr.add p13 3) = some (.pointer x15)) ∧
  (hcell h2 (Addr.add p9 0) = some (.int .i64 x11)) ∧
  wbt_even r y17 x11 x15 h2 fun y20 h3 =>
  R y20 h3) (
  wbt_heavy r l1 vr3 h1 fun y21 h4 =>
  Br y21 (
   Ck l1 fun p22 =>
   LdP h4 (Addr.add p22 2) fun x24 =>
   Ck l1 fun p26 =>
   LdI h4 (Addr.add p26 0) fun x28 =>
   Ck l1 fun p30 =>
   LdP h4 (Addr.add p30 3) fun x32 =>
   wbt_link r x32 x2 vr3 h4 fun y34 h5 =>
   (hcell h5 (Addr.add p26 0) = some (.int .i64 x28)) ∧
   (hcell h5 (Addr.add p22 2) = some (.pointer x24)) ∧
   wbt_even r x24 x28 y34 h5 fun y37 h6 =>
   R y37 h6) (
   wbt_made r l1 x2 vr3 h4 fun y38 h7 =>
   R y38 h7))
theorem wbt_link_of {r : World} {l1 : Option Addr} {x2 : Int} {vr3 : Option Addr} {h : Heap} {R : Option Addr → Heap → Prop} (H : wbt_link_F r l1 x2 vr3 h R) : wbt_link r l1 x2 vr3 h R := by
 unfold wbt_link_F at H
 refine calls_of 51 [.tmp 6] Tryz.func53 rfl rfl rfl rfl rfl ?_
 refine W_seq ?_
 refine W_region (.pu 0 .fin) rfl rfl ?_
 refine sp 6 (.pointer none) rfl rfl (r_assign rfl) ?_
 refine s_fin ?_
 refine W_seq ?_
 refine W_block ?_
 refine W_seq ?_
 refine W_region (.pu 0 (.pu 1 (.ef 2 [] (.pu 3 .fin) .no))) rfl rfl ?_
 refine sp 8 (.pointer vr3) rfl rfl (r_move rfl) ?_
 refine sp 9 (.pointer l1) rfl rfl (r_move rfl) ?_
 refine sc 10 rfl rfl (fun dr => r_call Tryz.call75 rfl rfl H) ?_
 rintro _ h1 ⟨y4, rfl, H⟩
 refine sp 7 (.bool y4) rfl rfl (r_assign rfl) ?_
 refine s_fin ?_
 refine W_if y4 rfl (fun g40 => ?_) (fun g40 => ?_)
 ·have H := H.1 g40
  refine W_seq ?_
  refine W_draw [0, 0, 0, 4, 12, 28, 63, 0, 128, 384, 896, 0, 2048, 6144, 14336, 32767, 65535] (.pu 0 (.pu 1 (.pu 2 (.pu 3 (.pu 4 (.rd 5 (.pu 7 (.pu 8 (.pu 9 (.rd 10 (.pu 11 (.pu 12 (.pu 13 (.rd 14 (.ef 6 [5] (.ef 15 [5, 10, 14] (.pu 16 .fin) .no) .no))))))))))))))) (by kernel_rfl) (by kernel_rfl) ?_
  refine sp 11 (.pointer l1) rfl rfl (r_move rfl) ?_
  refine sp 12 (.int .i64 x2) rfl rfl (r_move rfl) ?_
  refine sp 13 (.pointer vr3) rfl rfl (r_move rfl) ?_
  obtain ⟨p5, e6, H⟩ := H
  refine sp 14 (.pointer (some p5)) rfl rfl (r_nilCheck rfl e6) ?_
  refine sp 15 (.pointer (some (Addr.add p5 2))) rfl rfl (r_fieldAddr Tryz.underlying98 Tryz.sizeOf42 rfl rfl rfl) ?_
  obtain ⟨x7, e8, H⟩ := H
  refine s_rd (d := some 16) (v := (.pointer x7)) rfl rfl rfl (fun dr => r_load1 Tryz.isAgg42 rfl e8) ?_
  refine sp 18 (.pointer vr3) rfl rfl (r_move rfl) ?_
  obtain ⟨p9, e10, H⟩ := H
  refine sp 19 (.pointer (some p9)) rfl rfl (r_nilCheck rfl e10) ?_
  refine sp 20 (.pointer (some (Addr.add p9 0))) rfl rfl (r_fieldAddr Tryz.underlying98 Tryz.sizeOf3 rfl rfl rfl) ?_
  obtain ⟨x11, e12, H⟩ := H
  refine s_rd (d := some 21) (v := (.int .i64 x11)) rfl rfl rfl (fun dr => r_load1 Tryz.isAgg3 rfl e12) ?_
  refine sp 22 (.pointer vr3) rfl rfl (r_move rfl) ?_
  obtain ⟨p13, e14, H⟩ := H
  refine sp 23 (.pointer (some p13)) rfl rfl (r_nilCheck rfl e14) ?_
  refine sp 24 (.pointer (some (Addr.add p13 3))) rfl rfl (r_fieldAddr Tryz.underlying98 Tryz.sizeOf42 rfl rfl rfl) ?_
  obtain ⟨x15, e16, H⟩ := H
  refine s_rd (d := some 25) (v := (.pointer x15)) rfl rfl rfl (fun dr => r_load1 Tryz.isAgg42 rfl e16) ?_
  refine s_ef (d := some 17) rfl rfl rfl (fun dr => r_call Tryz.call53 rfl rfl H) ?_ trivial
  rintro _ h2 ⟨y17, rfl, H⟩
  obtain ⟨e18, H⟩ := H
  obtain ⟨e19, H⟩ := H
  refine ⟨⟨(.inl ⟨rfl, fun dr => r_load1 Tryz.isAgg42 rfl e18⟩), (.inl ⟨rfl, fun dr => r_load1 Tryz.isAgg3 rfl e19⟩), trivial, trivial⟩, ?_⟩
  refine s_ef (d := some 26) rfl rfl rfl (fun dr => r_call Tryz.call76 rfl rfl H) ?_ trivial
  rintro _ h3 ⟨y20, rfl, H⟩
  refine ⟨⟨trivial, trivial, trivial, trivial⟩, ?_⟩
  refine sp 6 (.pointer y20) rfl rfl (r_assign rfl) ?_
  refine s_fin ?_
  refine W_ret ?_
  exact ⟨[(.pointer y20)], ⟨_, _, rfl, rfl, rfl⟩, y20, rfl, H⟩
 ·have H := H.2 g40
  refine W_seq ?_
  refine W_region (.pu 0 (.pu 1 (.ef 2 [] (.pu 3 .fin) .no))) rfl rfl ?_
  refine sp 28 (.pointer l1) rfl rfl (r_move rfl) ?_
  refine sp 29 (.pointer vr3) rfl rfl (r_move rfl) ?_
  refine sc 30 rfl rfl (fun dr => r_call Tryz.call75 rfl rfl H) ?_
  rintro _ h4 ⟨y21, rfl, H⟩
  refine sp 27 (.bool y21) rfl rfl (r_assign rfl) ?_
  refine s_fin ?_
  refine W_if y21 rfl (fun g39 => ?_) (fun g39 => ?_)
  ·have H := H.1 g39
   refine W_seq ?_
   refine W_draw [0, 1, 3, 7, 0, 16, 48, 112, 0, 256, 768, 1792, 0, 0, 16128, 32767, 65535] (.pu 0 (.pu 1 (.pu 2 (.rd 3 (.pu 4 (.pu 5 (.pu 6 (.rd 7 (.pu 8 (.pu 9 (.pu 10 (.rd 11 (.pu 12 (.pu 13 (.ef 14 [11] (.ef 15 [3, 7, 11] (.pu 16 .fin) .no) .no))))))))))))))) (by kernel_rfl) (by kernel_rfl) ?_
   refine sp 31 (.pointer l1) rfl rfl (r_move rfl) ?_
   obtain ⟨p22, e23, H⟩ := H
   refine sp 32 (.pointer (some p22)) rfl rfl (r_nilCheck rfl e23) ?_
   refine sp 33 (.pointer (some (Addr.add p22 2))) rfl rfl (r_fieldAddr Tryz.underlying98 Tryz.sizeOf42 rfl rfl rfl) ?_
   obtain ⟨x24, e25, H⟩ := H
   refine s_rd (d := some 34) (v := (.pointer x24)) rfl rfl rfl (fun dr => r_load1 Tryz.isAgg42 rfl e25) ?_
   refine sp 35 (.pointer l1) rfl rfl (r_move rfl) ?_
   obtain ⟨p26, e27, H⟩ := H
   refine sp 36 (.pointer (some p26)) rfl rfl (r_nilCheck rfl e27) ?_
   refine sp 37 (.pointer (some (Addr.add p26 0))) rfl rfl (r_fieldAddr Tryz.underlying98 Tryz.sizeOf3 rfl rfl rfl) ?_
   obtain ⟨x28, e29, H⟩ := H
   refine s_rd (d := some 38) (v := (.int .i64 x28)) rfl rfl rfl (fun dr => r_load1 Tryz.isAgg3 rfl e29) ?_
   refine sp 39 (.pointer l1) rfl rfl (r_move rfl) ?_
   obtain ⟨p30, e31, H⟩ := H
   refine sp 40 (.pointer (some p30)) rfl rfl (r_nilCheck rfl e31) ?_
   refine sp 41 (.pointer (some (Addr.add p30 3))) rfl rfl (r_fieldAddr Tryz.underlying98 Tryz.sizeOf42 rfl rfl rfl) ?_
   obtain ⟨x32, e33, H⟩ := H
   refine s_rd (d := some 42) (v := (.pointer x32)) rfl rfl rfl (fun dr => r_load1 Tryz.isAgg42 rfl e33) ?_
   refine sp 43 (.int .i64 x2) rfl rfl (r_move rfl) ?_
   refine sp 44 (.pointer vr3) rfl rfl (r_move rfl) ?_
   refine s_ef (d := some 45) rfl rfl rfl (fun dr => r_call Tryz.call53 rfl rfl H) ?_ trivial
   rintro _ h5 ⟨y34, rfl, H⟩
   obtain ⟨e35, H⟩ := H
   obtain ⟨e36, H⟩ := H
   refine ⟨⟨trivial, (.inl ⟨rfl, fun dr => r_load1 Tryz.isAgg3 rfl e35⟩), (.inl ⟨rfl, fun dr => r_load1 Tryz.isAgg42 rfl e36⟩), trivial⟩, ?_⟩
   refine s_ef (d := some 46) rfl rfl rfl (fun dr => r_call Tryz.call76 rfl rfl H) ?_ trivial
   rintro _ h6 ⟨y37, rfl, H⟩
   refine ⟨⟨trivial, trivial, trivial, trivial⟩, ?_⟩
   refine sp 6 (.pointer y37) rfl rfl (r_assign rfl) ?_
   refine s_fin ?_
   refine W_ret ?_
   exact ⟨[(.pointer y37)], ⟨_, _, rfl, rfl, rfl⟩, y37, rfl, H⟩
  ·have H := H.2 g39
   refine W_skip ?_
   show W _ _ _ _ _ _ _ _
   refine W_seq ?_
   refine W_region (.pu 0 (.pu 1 (.pu 2 (.ef 3 [] (.pu 4 .fin) .no)))) rfl rfl ?_
   refine sp 47 (.pointer l1) rfl rfl (r_move rfl) ?_
   refine sp 48 (.int .i64 x2) rfl rfl (r_move rfl) ?_
   refine sp 49 (.pointer vr3) rfl rfl (r_move rfl) ?_
   refine sc 50 rfl rfl (fun dr => r_call Tryz.call77 rfl rfl H) ?_
   rintro _ h7 ⟨y38, rfl, H⟩
   refine sp 6 (.pointer y38) rfl rfl (r_assign rfl) ?_
   refine s_fin ?_
   refine W_ret ?_
   exact ⟨[(.pointer y38)], ⟨_, _, rfl, rfl, rfl⟩, y38, rfl, H⟩
def wbt_node_first_F (r : World) (t1 : Option Addr) (h : Heap) (R : Int → Option Addr → Heap → Prop) : Prop :=
 Ck t1 fun p2 =>
 LdP h (Addr.add p2 2) fun x4 =>
 Br (Option.isNone x4) (
  Ck t1 fun p6 =>
  LdI h (Addr.add p6 0) fun x8 =>
  Ck t1 fun p10 =>
  LdP h (Addr.add p10 3) fun x12 =>
  R x8 x12 h) (
  Ck t1 fun p14 =>
  LdP h (Addr.add p14 2) fun x16 =>
  wbt_node_first r x16 h fun y18 y19 h1 =>
  Ck t1 fun p20 =>
  LdI h1 (Addr.add p20 0) fun x22 =>
  Ck t1 fun p24 =>
  LdP h1 (Addr.add p24 3) fun x26 =>
  wbt_even r y19 x22 x26 h1 fun y28 h2 =>
  R y18 y28 h2)
theorem wbt_node_first_of {r : World} {t1 : Option Addr} {h : Heap} {R : Int → Option Addr → Heap → Prop} (H : wbt_node_first_F r t1 h R) : wbt_node_first r t1 h R := by
 unfold wbt_node_first_F at H
 refine calls_of 38 [.tmp 2, .tmp 3] Tryz.func78 rfl rfl rfl rfl rfl ?_
 refine W_seq ?_
 refine W_region (.pu 0 (.pu 1 .fin)) rfl rfl ?_
 refine sp 2 (.int .i64 0) rfl rfl (r_assign rfl) ?_
 refine sp 3 (.pointer none) rfl rfl (r_assign rfl) ?_
 refine s_fin ?_
 refine W_seq ?_
 refine W_seq ?_
 refine W_region (.pu 0 (.pu 1 (.pu 2 (.rl 3 (.pu 4 .fin))))) rfl rfl ?_
 refine sp 6 (.pointer t1) rfl rfl (r_move rfl) ?_
 obtain ⟨p2, e3, H⟩ := H
 refine sp 7 (.pointer (some p2)) rfl rfl (r_nilCheck rfl e3) ?_
 refine sp 8 (.pointer (some (Addr.add p2 2))) rfl rfl (r_fieldAddr Tryz.underlying98 Tryz.sizeOf42 rfl rfl rfl) ?_
 obtain ⟨x4, e5, H⟩ := H
 refine sl 9 (.pointer x4) rfl rfl (fun dr => r_load1 Tryz.isAgg42 rfl e5) ?_
 refine sp 10 (.bool (Option.isNone x4)) rfl rfl (r_nilP Tryz.underlying42 rfl rfl) ?_
 refine s_fin ?_
 refine W_if (Option.isNone x4) rfl (fun g29 => ?_) (fun g29 => ?_)
 ·have H := H.1 g29
  refine W_seq ?_
  refine W_draw [0, 1, 3, 7, 0, 16, 48, 112, 15, 511] (.pu 0 (.pu 1 (.pu 2 (.rd 3 (.pu 4 (.pu 5 (.pu 6 (.rd 7 (.pu 8 (.pu 9 .fin)))))))))) (by kernel_rfl) (by kernel_rfl) ?_
  refine sp 11 (.pointer t1) rfl rfl (r_move rfl) ?_
  obtain ⟨p6, e7, H⟩ := H
  refine sp 12 (.pointer (some p6)) rfl rfl (r_nilCheck rfl e7) ?_
  refine sp 13 (.pointer (some (Addr.add p6 0))) rfl rfl (r_fieldAddr Tryz.underlying98 Tryz.sizeOf3 rfl rfl rfl) ?_
  obtain ⟨x8, e9, H⟩ := H
  refine s_rd (d := some 14) (v := (.int .i64 x8)) rfl rfl rfl (fun dr => r_load1 Tryz.isAgg3 rfl e9) ?_
  refine sp 15 (.pointer t1) rfl rfl (r_move rfl) ?_
  obtain ⟨p10, e11, H⟩ := H
  refine sp 16 (.pointer (some p10)) rfl rfl (r_nilCheck rfl e11) ?_
  refine sp 17 (.pointer (some (Addr.add p10 3))) rfl rfl (r_fieldAddr Tryz.underlying98 Tryz.sizeOf42 rfl rfl rfl) ?_
  obtain ⟨x12, e13, H⟩ := H
  refine s_rd (d := some 18) (v := (.pointer x12)) rfl rfl rfl (fun dr => r_load1 Tryz.isAgg42 rfl e13) ?_
  refine sp 2 (.int .i64 x8) rfl rfl (r_assign rfl) ?_
  refine sp 3 (.pointer x12) rfl rfl (r_assign rfl) ?_
  refine s_fin ?_
  refine W_ret ?_
  exact ⟨[(.int .i64 x8), (.pointer x12)], ⟨_, _, rfl, rfl, ⟨_, _, rfl, rfl, rfl⟩⟩, x8, x12, rfl, H⟩
 ·have H := H.2 g29
  refine W_skip ?_
  show W _ _ _ _ _ _ _ _
  refine W_seq ?_
  refine W_region (.pu 0 (.pu 1 (.pu 2 (.rl 3 (.ef 4 [] (.pu 5 (.pu 6 (.pu 7 (.pu 8 (.pu 9 .fin))))) .no))))) rfl rfl ?_
  refine sp 20 (.pointer t1) rfl rfl (r_move rfl) ?_
  obtain ⟨p14, e15, H⟩ := H
  refine sp 21 (.pointer (some p14)) rfl rfl (r_nilCheck rfl e15) ?_
  refine sp 22 (.pointer (some (Addr.add p14 2))) rfl rfl (r_fieldAddr Tryz.underlying98 Tryz.sizeOf42 rfl rfl rfl) ?_
  obtain ⟨x16, e17, H⟩ := H
  refine sl 23 (.pointer x16) rfl rfl (fun dr => r_load1 Tryz.isAgg42 rfl e17) ?_
  refine sc 24 rfl rfl (fun dr => r_call Tryz.call78 rfl rfl H) ?_
  rintro _ h1 ⟨y18, y19, rfl, H⟩
  refine sp 19 (.tuple #[(.int .i64 y18), (.pointer y19)]) rfl rfl (r_move rfl) ?_
  refine sp 25 (.int .i64 y18) rfl rfl (r_extract rfl rfl) ?_
  refine sp 26 (.pointer y19) rfl rfl (r_extract rfl rfl) ?_
  refine sp 4 (.int .i64 y18) rfl rfl (r_assign rfl) ?_
  refine sp 5 (.pointer y19) rfl rfl (r_assign rfl) ?_
  refine s_fin ?_
  refine W_seq ?_
  refine W_draw [0, 0, 0, 4, 12, 28, 0, 64, 192, 448, 1022, 2047, 4095] (.pu 0 (.pu 1 (.pu 2 (.pu 3 (.pu 4 (.rd 5 (.pu 6 (.pu 7 (.pu 8 (.rd 9 (.ef 10 [5, 9] (.pu 11 (.pu 12 .fin)) .no))))))))))) (by kernel_rfl) (by kernel_rfl) ?_
  refine sp 27 (.int .i64 y18) rfl rfl (r_move rfl) ?_
  refine sp 28 (.pointer y19) rfl rfl (r_move rfl) ?_
  refine sp 29 (.pointer t1) rfl rfl (r_move rfl) ?_
  obtain ⟨p20, e21, H⟩ := H
  refine sp 30 (.pointer (some p20)) rfl rfl (r_nilCheck rfl e21) ?_
  refine sp 31 (.pointer (some (Addr.add p20 0))) rfl rfl (r_fieldAddr Tryz.underlying98 Tryz.sizeOf3 rfl rfl rfl) ?_
  obtain ⟨x22, e23, H⟩ := H
  refine s_rd (d := some 32) (v := (.int .i64 x22)) rfl rfl rfl (fun dr => r_load1 Tryz.isAgg3 rfl e23) ?_
  refine sp 33 (.pointer t1) rfl rfl (r_move rfl) ?_
  obtain ⟨p24, e25, H⟩ := H
  refine sp 34 (.pointer (some p24)) rfl rfl (r_nilCheck rfl e25) ?_
  refine sp 35 (.pointer (some (Addr.add p24 3))) rfl rfl (r_fieldAddr Tryz.underlying98 Tryz.sizeOf42 rfl rfl rfl) ?_
  obtain ⟨x26, e27, H⟩ := H
  refine s_rd (d := some 36) (v := (.pointer x26)) rfl rfl rfl (fun dr => r_load1 Tryz.isAgg42 rfl e27) ?_
  refine s_ef (d := some 37) rfl rfl rfl (fun dr => r_call Tryz.call76 rfl rfl H) ?_ trivial
  rintro _ h2 ⟨y28, rfl, H⟩
  refine ⟨⟨trivial, trivial, trivial⟩, ?_⟩
  refine sp 2 (.int .i64 y18) rfl rfl (r_assign rfl) ?_
  refine sp 3 (.pointer y28) rfl rfl (r_assign rfl) ?_
  refine s_fin ?_
  refine W_ret ?_
  exact ⟨[(.int .i64 y18), (.pointer y28)], ⟨_, _, rfl, rfl, ⟨_, _, rfl, rfl, rfl⟩⟩, y18, y28, rfl, H⟩
def wbt_joined_F (r : World) (l1 : Option Addr) (vr2 : Option Addr) (h : Heap) (R : Option Addr → Heap → Prop) : Prop :=
 Br (Option.isNone vr2) (
  R l1 h) (
  wbt_node_first r vr2 h fun y3 y4 h1 =>
  wbt_link r l1 y3 y4 h1 fun y5 h2 =>
  R y5 h2)
theorem wbt_joined_of {r : World} {l1 : Option Addr} {vr2 : Option Addr} {h : Heap} {R : Option Addr → Heap → Prop} (H : wbt_joined_F r l1 vr2 h R) : wbt_joined r l1 vr2 h R := by
 unfold wbt_joined_F at H
 refine calls_of 19 [.tmp 4] Tryz.func54 rfl rfl rfl rfl rfl ?_
 refine W_seq ?_
 refine W_region (.pu 0 .fin) rfl rfl ?_
 refine sp 4 (.pointer none) rfl rfl (r_assign rfl) ?_
 refine s_fin ?_
 refine W_seq ?_
 refine W_seq ?_
 refine W_region (.pu 0 (.pu 1 .fin)) rfl rfl ?_
 refine sp 7 (.pointer vr2) rfl rfl (r_move rfl) ?_
 refine sp 8 (.bool (Option.isNone vr2)) rfl rfl (r_nilP Tryz.underlying42 rfl rfl) ?_
 refine s_fin ?_
 refine W_if (Option.isNone vr2) rfl (fun g6 => ?_) (fun g6 => ?_)
 ·have H := H.1 g6
  refine W_seq ?_
  refine W_region (.pu 0 (.pu 1 .fin)) rfl rfl ?_
  refine sp 9 (.pointer l1) rfl rfl (r_move rfl) ?_
  refine sp 4 (.pointer l1) rfl rfl (r_assign rfl) ?_
  refine s_fin ?_
  refine W_ret ?_
  exact ⟨[(.pointer l1)], ⟨_, _, rfl, rfl, rfl⟩, l1, rfl, H⟩
 ·have H := H.2 g6
  refine W_skip ?_
  show W _ _ _ _ _ _ _ _
  refine W_seq ?_
  refine W_region (.pu 0 (.ef 1 [] (.pu 2 (.pu 3 (.pu 4 (.pu 5 (.pu 6 .fin))))) .no)) rfl rfl ?_
  refine sp 11 (.pointer vr2) rfl rfl (r_move rfl) ?_
  refine sc 12 rfl rfl (fun dr => r_call Tryz.call78 rfl rfl H) ?_
  rintro _ h1 ⟨y3, y4, rfl, H⟩
  refine sp 10 (.tuple #[(.int .i64 y3), (.pointer y4)]) rfl rfl (r_move rfl) ?_
  refine sp 13 (.int .i64 y3) rfl rfl (r_extract rfl rfl) ?_
  refine sp 14 (.pointer y4) rfl rfl (r_extract rfl rfl) ?_
  refine sp 5 (.int .i64 y3) rfl rfl (r_assign rfl) ?_
  refine sp 6 (.pointer y4) rfl rfl (r_assign rfl) ?_
  refine s_fin ?_
  refine W_seq ?_
  refine W_region (.pu 0 (.pu 1 (.pu 2 (.ef 3 [] (.pu 4 .fin) .no)))) rfl rfl ?_
  refine sp 15 (.pointer l1) rfl rfl (r_move rfl) ?_
  refine sp 16 (.int .i64 y3) rfl rfl (r_move rfl) ?_
  refine sp 17 (.pointer y4) rfl rfl (r_move rfl) ?_
  refine sc 18 rfl rfl (fun dr => r_call Tryz.call53 rfl rfl H) ?_
  rintro _ h2 ⟨y5, rfl, H⟩
  refine sp 4 (.pointer y5) rfl rfl (r_assign rfl) ?_
  refine s_fin ?_
  refine W_ret ?_
  exact ⟨[(.pointer y5)], ⟨_, _, rfl, rfl, rfl⟩, y5, rfl, H⟩
def wbt_node_split_F (r : World) (t1 : Option Addr) (x2 : Int) (h : Heap) (R : Option Addr → Bool → Option Addr → Heap → Prop) : Prop :=
 Br (Option.isNone t1) (
  R none false none h) (
  Ck t1 fun p3 =>
  LdI h (Addr.add p3 0) fun x5 =>
  Br (decide (x2 < x5)) (
   Ck t1 fun p7 =>
   LdP h (Addr.add p7 2) fun x9 =>
   wbt_node_split r x9 x2 h fun y11 y12 y13 h1 =>
   Ck t1 fun p14 =>
   LdI h1 (Addr.add p14 0) fun x16 =>
   Ck t1 fun p18 =>
   LdP h1 (Addr.add p18 3) fun x20 =>
   wbt_link r y13 x16 x20 h1 fun y22 h2 =>
   R y11 y12 y22 h2) (
   Ck t1 fun p23 =>
   LdI h (Addr.add p23 0) fun x25 =>
   Br (decide (x25 < x2)) (
    Ck t1 fun p27 =>
    LdP h (Addr.add p27 3) fun x29 =>
    wbt_node_split r x29 x2 h fun y31 y32 y33 h3 =>
    Ck t1 fun p34 =>
    LdP h3 (Addr.add p34 2) fun x36 =>
    Ck t1 fun p38 =>
    LdI h3 (Addr.add p38 0) fun x40 =>
    wbt_link r x36 x40 y31 h3 fun y42 h4 =>
    R y42 y32 y33 h4) (
    Ck t1 fun p43 =>
    LdP h (Addr.add p43 2) fun x45 =>
    Ck t1 fun p47 =>
    LdP h (Addr.add p47 3) fun x49 =>
    R x45 true x49 h)))
theorem wbt_node_split_of {r : World} {t1 : Option Addr} {x2 : Int} {h : Heap} {R : Option Addr → Bool → Option Addr → Heap → Prop} (H : wbt_node_split_F r t1 x2 h R) : wbt_node_split r t1 x2 h R := by
 unfold wbt_node_split_F at H
 refine calls_of 79 [.tmp 4, .tmp 5, .tmp 6] Tryz.func52 rfl rfl rfl rfl rfl ?_
 refine W_seq ?_
 refine W_region (.pu 0 (.pu 1 (.pu 2 .fin))) rfl rfl ?_
 refine sp 4 (.pointer none) rfl rfl (r_assign rfl) ?_
 refine sp 5 (.bool false) rfl rfl (r_assign rfl) ?_
 refine sp 6 (.pointer none) rfl rfl (r_assign rfl) ?_
 refine s_fin ?_
 refine W_seq ?_
 refine W_seq ?_
 refine W_region (.pu 0 (.pu 1 .fin)) rfl rfl ?_
 refine sp 13 (.pointer t1) rfl rfl (r_move rfl) ?_
 refine sp 14 (.bool (Option.isNone t1)) rfl rfl (r_nilP Tryz.underlying42 rfl rfl) ?_
 refine s_fin ?_
 refine W_if (Option.isNone t1) rfl (fun g53 => ?_) (fun g53 => ?_)
 ·have H := H.1 g53
  refine W_seq ?_
  refine W_region (.pu 0 (.pu 1 (.pu 2 .fin))) rfl rfl ?_
  refine sp 4 (.pointer none) rfl rfl (r_assign rfl) ?_
  refine sp 5 (.bool false) rfl rfl (r_assign rfl) ?_
  refine sp 6 (.pointer none) rfl rfl (r_assign rfl) ?_
  refine s_fin ?_
  refine W_ret ?_
  exact ⟨[(.pointer none), (.bool false), (.pointer none)], ⟨_, _, rfl, rfl, ⟨_, _, rfl, rfl, ⟨_, _, rfl, rfl, rfl⟩⟩⟩, none, false, none, rfl, H⟩
 ·have H := H.2 g53
  refine W_skip ?_
  show W _ _ _ _ _ _ _ _
  refine W_seq ?_
  refine W_seq ?_
  refine W_region (.pu 0 (.pu 1 (.pu 2 (.pu 3 (.rl 4 (.pu 5 .fin)))))) rfl rfl ?_
  refine sp 15 (.int .i64 x2) rfl rfl (r_move rfl) ?_
  refine sp 16 (.pointer t1) rfl rfl (r_move rfl) ?_
  obtain ⟨p3, e4, H⟩ := H
  refine sp 17 (.pointer (some p3)) rfl rfl (r_nilCheck rfl e4) ?_
  refine sp 18 (.pointer (some (Addr.add p3 0))) rfl rfl (r_fieldAddr Tryz.underlying98 Tryz.sizeOf3 rfl rfl rfl) ?_
  obtain ⟨x5, e6, H⟩ := H
  refine sl 19 (.int .i64 x5) rfl rfl (fun dr => r_load1 Tryz.isAgg3 rfl e6) ?_
  refine sp 20 (.bool (decide (x2 < x5))) rfl rfl (r_lss rfl rfl) ?_
  refine s_fin ?_
  refine W_if (decide (x2 < x5)) rfl (fun g52 => ?_) (fun g52 => ?_)
  ·have H := H.1 g52
   refine W_seq ?_
   refine W_region (.pu 0 (.pu 1 (.pu 2 (.rl 3 (.pu 4 (.ef 5 [] (.pu 6 (.pu 7 (.pu 8 (.pu 9 (.pu 10 (.pu 11 (.pu 12 .fin))))))) .no)))))) rfl rfl ?_
   refine sp 22 (.pointer t1) rfl rfl (r_move rfl) ?_
   obtain ⟨p7, e8, H⟩ := H
   refine sp 23 (.pointer (some p7)) rfl rfl (r_nilCheck rfl e8) ?_
   refine sp 24 (.pointer (some (Addr.add p7 2))) rfl rfl (r_fieldAddr Tryz.underlying98 Tryz.sizeOf42 rfl rfl rfl) ?_
   obtain ⟨x9, e10, H⟩ := H
   refine sl 25 (.pointer x9) rfl rfl (fun dr => r_load1 Tryz.isAgg42 rfl e10) ?_
   refine sp 26 (.int .i64 x2) rfl rfl (r_move rfl) ?_
   refine sc 27 rfl rfl (fun dr => r_call Tryz.call52 rfl rfl H) ?_
   rintro _ h1 ⟨y11, y12, y13, rfl, H⟩
   refine sp 21 (.tuple #[(.pointer y11), (.bool y12), (.pointer y13)]) rfl rfl (r_move rfl) ?_
   refine sp 28 (.pointer y11) rfl rfl (r_extract rfl rfl) ?_
   refine sp 29 (.bool y12) rfl rfl (r_extract rfl rfl) ?_
   refine sp 30 (.pointer y13) rfl rfl (r_extract rfl rfl) ?_
   refine sp 7 (.pointer y11) rfl rfl (r_assign rfl) ?_
   refine sp 8 (.bool y12) rfl rfl (r_assign rfl) ?_
   refine sp 9 (.pointer y13) rfl rfl (r_assign rfl) ?_
   refine s_fin ?_
   refine W_seq ?_
   refine W_draw [0, 0, 0, 0, 8, 24, 56, 0, 128, 384, 896, 2044, 4093, 8191, 16383] (.pu 0 (.pu 1 (.pu 2 (.pu 3 (.pu 4 (.pu 5 (.rd 6 (.pu 7 (.pu 8 (.pu 9 (.rd 10 (.ef 11 [6, 10] (.pu 12 (.pu 13 (.pu 14 .fin))) .no)))))))))))) (by kernel_rfl) (by kernel_rfl) ?_
   refine sp 31 (.pointer y11) rfl rfl (r_move rfl) ?_
   refine sp 32 (.bool y12) rfl rfl (r_move rfl) ?_
   refine sp 33 (.pointer y13) rfl rfl (r_move rfl) ?_
   refine sp 34 (.pointer t1) rfl rfl (r_move rfl) ?_
   obtain ⟨p14, e15, H⟩ := H
   refine sp 35 (.pointer (some p14)) rfl rfl (r_nilCheck rfl e15) ?_
   refine sp 36 (.pointer (some (Addr.add p14 0))) rfl rfl (r_fieldAddr Tryz.underlying98 Tryz.sizeOf3 rfl rfl rfl) ?_
   obtain ⟨x16, e17, H⟩ := H
   refine s_rd (d := some 37) (v := (.int .i64 x16)) rfl rfl rfl (fun dr => r_load1 Tryz.isAgg3 rfl e17) ?_
   refine sp 38 (.pointer t1) rfl rfl (r_move rfl) ?_
   obtain ⟨p18, e19, H⟩ := H
   refine sp 39 (.pointer (some p18)) rfl rfl (r_nilCheck rfl e19) ?_
   refine sp 40 (.pointer (some (Addr.add p18 3))) rfl rfl (r_fieldAddr Tryz.underlying98 Tryz.sizeOf42 rfl rfl rfl) ?_
   obtain ⟨x20, e21, H⟩ := H
   refine s_rd (d := some 41) (v := (.pointer x20)) rfl rfl rfl (fun dr => r_load1 Tryz.isAgg42 rfl e21) ?_
   refine s_ef (d := some 42) rfl rfl rfl (fun dr => r_call Tryz.call53 rfl rfl H) ?_ trivial
   rintro _ h2 ⟨y22, rfl, H⟩
   refine ⟨⟨trivial, trivial, trivial⟩, ?_⟩
   refine sp 4 (.pointer y11) rfl rfl (r_assign rfl) ?_
   refine sp 5 (.bool y12) rfl rfl (r_assign rfl) ?_
   refine sp 6 (.pointer y22) rfl rfl (r_assign rfl) ?_
   refine s_fin ?_
   refine W_ret ?_
   exact ⟨[(.pointer y11), (.bool y12), (.pointer y22)], ⟨_, _, rfl, rfl, ⟨_, _, rfl, rfl, ⟨_, _, rfl, rfl, rfl⟩⟩⟩, y11, y12, y22, rfl, H⟩
  ·have H := H.2 g52
   refine W_skip ?_
   show W _ _ _ _ _ _ _ _
   refine W_seq ?_
   refine W_seq ?_
   refine W_region (.pu 0 (.pu 1 (.pu 2 (.pu 3 (.rl 4 (.pu 5 .fin)))))) rfl rfl ?_
   refine sp 43 (.int .i64 x2) rfl rfl (r_move rfl) ?_
   refine sp 44 (.pointer t1) rfl rfl (r_move rfl) ?_
   obtain ⟨p23, e24, H⟩ := H
   refine sp 45 (.pointer (some p23)) rfl rfl (r_nilCheck rfl e24) ?_
   refine sp 46 (.pointer (some (Addr.add p23 0))) rfl rfl (r_fieldAddr Tryz.underlying98 Tryz.sizeOf3 rfl rfl rfl) ?_
   obtain ⟨x25, e26, H⟩ := H
   refine sl 47 (.int .i64 x25) rfl rfl (fun dr => r_load1 Tryz.isAgg3 rfl e26) ?_
   refine sp 48 (.bool (decide (x25 < x2))) rfl rfl (r_gtr rfl rfl) ?_
   refine s_fin ?_
   refine W_if (decide (x25 < x2)) rfl (fun g51 => ?_) (fun g51 => ?_)
   ·have H := H.1 g51
    refine W_seq ?_
    refine W_region (.pu 0 (.pu 1 (.pu 2 (.rl 3 (.pu 4 (.ef 5 [] (.pu 6 (.pu 7 (.pu 8 (.pu 9 (.pu 10 (.pu 11 (.pu 12 .fin))))))) .no)))))) rfl rfl ?_
    refine sp 50 (.pointer t1) rfl rfl (r_move rfl) ?_
    obtain ⟨p27, e28, H⟩ := H
    refine sp 51 (.pointer (some p27)) rfl rfl (r_nilCheck rfl e28) ?_
    refine sp 52 (.pointer (some (Addr.add p27 3))) rfl rfl (r_fieldAddr Tryz.underlying98 Tryz.sizeOf42 rfl rfl rfl) ?_
    obtain ⟨x29, e30, H⟩ := H
    refine sl 53 (.pointer x29) rfl rfl (fun dr => r_load1 Tryz.isAgg42 rfl e30) ?_
    refine sp 54 (.int .i64 x2) rfl rfl (r_move rfl) ?_
    refine sc 55 rfl rfl (fun dr => r_call Tryz.call52 rfl rfl H) ?_
    rintro _ h3 ⟨y31, y32, y33, rfl, H⟩
    refine sp 49 (.tuple #[(.pointer y31), (.bool y32), (.pointer y33)]) rfl rfl (r_move rfl) ?_
    refine sp 56 (.pointer y31) rfl rfl (r_extract rfl rfl) ?_
    refine sp 57 (.bool y32) rfl rfl (r_extract rfl rfl) ?_
    refine sp 58 (.pointer y33) rfl rfl (r_extract rfl rfl) ?_
    refine sp 10 (.pointer y31) rfl rfl (r_assign rfl) ?_
    refine sp 11 (.bool y32) rfl rfl (r_assign rfl) ?_
    refine sp 12 (.pointer y33) rfl rfl (r_assign rfl) ?_
    refine s_fin ?_
    refine W_seq ?_
    refine W_draw [0, 1, 3, 7, 0, 16, 48, 112, 0, 511, 0, 0, 1023, 6143, 16383] (.pu 0 (.pu 1 (.pu 2 (.rd 3 (.pu 4 (.pu 5 (.pu 6 (.rd 7 (.pu 8 (.pu 10 (.pu 11 (.ef 9 [3, 7] (.pu 12 (.pu 13 (.pu 14 .fin))) .no)))))))))))) (by kernel_rfl) (by kernel_rfl) ?_
    refine sp 59 (.pointer t1) rfl rfl (r_move rfl) ?_
    obtain ⟨p34, e35, H⟩ := H
    refine sp 60 (.pointer (some p34)) rfl rfl (r_nilCheck rfl e35) ?_
    refine sp 61 (.pointer (some (Addr.add p34 2))) rfl rfl (r_fieldAddr Tryz.underlying98 Tryz.sizeOf42 rfl rfl rfl) ?_
    obtain ⟨x36, e37, H⟩ := H
    refine s_rd (d := some 62) (v := (.pointer x36)) rfl rfl rfl (fun dr => r_load1 Tryz.isAgg42 rfl e37) ?_
    refine sp 63 (.pointer t1) rfl rfl (r_move rfl) ?_
    obtain ⟨p38, e39, H⟩ := H
    refine sp 64 (.pointer (some p38)) rfl rfl (r_nilCheck rfl e39) ?_
    refine sp 65 (.pointer (some (Addr.add p38 0))) rfl rfl (r_fieldAddr Tryz.underlying98 Tryz.sizeOf3 rfl rfl rfl) ?_
    obtain ⟨x40, e41, H⟩ := H
    refine s_rd (d := some 66) (v := (.int .i64 x40)) rfl rfl rfl (fun dr => r_load1 Tryz.isAgg3 rfl e41) ?_
    refine sp 67 (.pointer y31) rfl rfl (r_move rfl) ?_
    refine sp 69 (.bool y32) rfl rfl (r_move rfl) ?_
    refine sp 70 (.pointer y33) rfl rfl (r_move rfl) ?_
    refine s_ef (d := some 68) rfl rfl rfl (fun dr => r_call Tryz.call53 rfl rfl H) ?_ trivial
    rintro _ h4 ⟨y42, rfl, H⟩
    refine ⟨⟨trivial, trivial, trivial⟩, ?_⟩
    refine sp 4 (.pointer y42) rfl rfl (r_assign rfl) ?_
    refine sp 5 (.bool y32) rfl rfl (r_assign rfl) ?_
    refine sp 6 (.pointer y33) rfl rfl (r_assign rfl) ?_
    refine s_fin ?_
    refine W_ret ?_
    exact ⟨[(.pointer y42), (.bool y32), (.pointer y33)], ⟨_, _, rfl, rfl, ⟨_, _, rfl, rfl, ⟨_, _, rfl, rfl, rfl⟩⟩⟩, y42, y32, y33, rfl, H⟩
   ·have H := H.2 g51
    refine W_skip ?_
    show W _ _ _ _ _ _ _ _
    refine W_seq ?_
    refine W_draw [0, 1, 3, 7, 0, 16, 48, 112, 15, 271, 1023] (.pu 0 (.pu 1 (.pu 2 (.rd 3 (.pu 4 (.pu 5 (.pu 6 (.rd 7 (.pu 8 (.pu 9 (.pu 10 .fin))))))))))) (by kernel_rfl) (by kernel_rfl) ?_
    refine sp 71 (.pointer t1) rfl rfl (r_move rfl) ?_
    obtain ⟨p43, e44, H⟩ := H
    refine sp 72 (.pointer (some p43)) rfl rfl (r_nilCheck rfl e44) ?_
    refine sp 73 (.pointer (some (Addr.add p43 2))) rfl rfl (r_fieldAddr Tryz.underlying98 Tryz.sizeOf42 rfl rfl rfl) ?_
    obtain ⟨x45, e46, H⟩ := H
    refine s_rd (d := some 74) (v := (.pointer x45)) rfl rfl rfl (fun dr => r_load1 Tryz.isAgg42 rfl e46) ?_
    refine sp 75 (.pointer t1) rfl rfl (r_move rfl) ?_
    obtain ⟨p47, e48, H⟩ := H
    refine sp 76 (.pointer (some p47)) rfl rfl (r_nilCheck rfl e48) ?_
    refine sp 77 (.pointer (some (Addr.add p47 3))) rfl rfl (r_fieldAddr Tryz.underlying98 Tryz.sizeOf42 rfl rfl rfl) ?_
    obtain ⟨x49, e50, H⟩ := H
    refine s_rd (d := some 78) (v := (.pointer x49)) rfl rfl rfl (fun dr => r_load1 Tryz.isAgg42 rfl e50) ?_
    refine sp 4 (.pointer x45) rfl rfl (r_assign rfl) ?_
    refine sp 5 (.bool true) rfl rfl (r_assign rfl) ?_
    refine sp 6 (.pointer x49) rfl rfl (r_assign rfl) ?_
    refine s_fin ?_
    refine W_ret ?_
    exact ⟨[(.pointer x45), (.bool true), (.pointer x49)], ⟨_, _, rfl, rfl, ⟨_, _, rfl, rfl, ⟨_, _, rfl, rfl, rfl⟩⟩⟩, x45, true, x49, rfl, H⟩
def wbt_Set_Len_F (r : World) (s1 : Option Addr) (h : Heap) (R : Int → Heap → Prop) : Prop :=
 New h (.cells #[(.pointer s1)] 44) fun p2 h1 =>
 LdP h1 (Addr.add p2 0) fun x5 =>
 wbt_node_size r x5 h1 fun y7 h2 =>
 R y7 h2
theorem wbt_Set_Len_of {r : World} {s1 : Option Addr} {h : Heap} {R : Int → Heap → Prop} (H : wbt_Set_Len_F r s1 h R) : wbt_Set_Len r s1 h R := by
 unfold wbt_Set_Len_F at H
 refine calls_of 6 [.tmp 2] Tryz.func51 rfl rfl rfl rfl rfl ?_
 refine W_seq ?_
 refine W_region (.ef 0 [] (.pu 1 .fin) .no) rfl rfl ?_
 obtain ⟨p2, e3⟩ : ∃ p : Addr, p = ⟨h.size, 0, none⟩ := ⟨_, rfl⟩
 obtain ⟨h1, e4⟩ : ∃ hh : Heap, hh = h.push (.cells #[(.pointer s1)] 44) := ⟨_, rfl⟩
 have H := H p2 h1 e3 e4
 refine s_ef1 (d := some 1) (v := (.pointer (some p2))) (h' := h1) rfl rfl rfl (fun dr => (r_box (v := (.agg #[(.pointer s1)])) rfl).trans (by rw [e3, e4]; rfl)) trivial ?_ trivial
 refine sp 2 (.int .i64 0) rfl rfl (r_assign rfl) ?_
 refine s_fin ?_
 refine W_seq ?_
 refine W_region (.pu 0 (.rl 1 (.ef 2 [] (.pu 3 .fin) .no))) rfl rfl ?_
 refine sp 3 (.pointer (some (Addr.add p2 0))) rfl rfl (r_fieldAddr Tryz.underlying44 Tryz.sizeOf42 rfl rfl rfl) ?_
 obtain ⟨x5, e6, H⟩ := H
 refine sl 4 (.pointer x5) rfl rfl (fun dr => r_load1 Tryz.isAgg42 rfl e6) ?_
 refine sc 5 rfl rfl (fun dr => r_call Tryz.call74 rfl rfl H) ?_
 rintro _ h2 ⟨y7, rfl, H⟩
 refine sp 2 (.int .i64 y7) rfl rfl (r_assign rfl) ?_
 refine s_fin ?_
 refine W_ret ?_
 exact ⟨[(.int .i64 y7)], ⟨_, _, rfl, rfl, rfl⟩, y7, rfl, H⟩
def wbt_Set_Put_F (r : World) (s1 : Option Addr) (x2 : Int) (h : Heap) (R : Option Addr → Heap → Prop) : Prop :=
 New h (.cells #[(.pointer s1)] 44) fun p3 h1 =>
 New h1 (.cells #[(.pointer none)] 44) fun p6 h2 =>
 LdP h2 (Addr.add p3 0) fun x9 =>
 wbt_node_split r x9 x2 h2 fun y11 y12 y13 h3 =>
 wbt_link r y11 x2 y13 h3 fun y14 h4 =>
 St h4 p6 1 [(.pointer y14)] fun h5 =>
 LdP h5 (Addr.add p6 0) fun x17 =>
 R x17 h5
theorem wbt_Set_Put_of {r : World} {s1 : Option Addr} {x2 : Int} {h : Heap} {R : Option Addr → Heap → Prop} (H : wbt_Set_Put_F r s1 x2 h R) : wbt_Set_Put r s1 x2 h R := by
 unfold wbt_Set_Put_F at H
 refine calls_of 21 [.cell 4 44] Tryz.func29 rfl rfl rfl rfl rfl ?_
 refine W_seq ?_
 refine W_region (.ef 0 [] (.ef 1 [] .fin .no) .no) rfl rfl ?_
 obtain ⟨p3, e4⟩ : ∃ p : Addr, p = ⟨h.size, 0, none⟩ := ⟨_, rfl⟩
 obtain ⟨h1, e5⟩ : ∃ hh : Heap, hh = h.push (.cells #[(.pointer s1)] 44) := ⟨_, rfl⟩
 have H := H p3 h1 e4 e5
 refine s_ef1 (d := some 2) (v := (.pointer (some p3))) (h' := h1) rfl rfl rfl (fun dr => (r_box (v := (.agg #[(.pointer s1)])) rfl).trans (by rw [e4, e5]; rfl)) trivial ?_ trivial
 obtain ⟨p6, e7⟩ : ∃ p : Addr, p = ⟨h1.size, 0, none⟩ := ⟨_, rfl⟩
 obtain ⟨h2, e8⟩ : ∃ hh : Heap, hh = h1.push (.cells #[(.pointer none)] 44) := ⟨_, rfl⟩
 have H := H p6 h2 e7 e8
 refine s_ef1 (d := some 4) (v := (.pointer (some p6))) (h' := h2) rfl rfl rfl (fun dr => (r_alloc Tryz.zeroValue44).trans (by rw [e7, e8]; rfl)) trivial ?_ trivial
 refine s_fin ?_
 refine W_seq ?_
 refine W_region (.pu 0 (.rl 1 (.pu 2 (.ef 3 [] (.pu 4 (.pu 5 (.pu 6 (.pu 7 (.pu 8 (.pu 9 (.pu 10 .fin))))))) .no)))) rfl rfl ?_
 refine sp 9 (.pointer (some (Addr.add p3 0))) rfl rfl (r_fieldAddr Tryz.underlying44 Tryz.sizeOf42 rfl rfl rfl) ?_
 obtain ⟨x9, e10, H⟩ := H
 refine sl 10 (.pointer x9) rfl rfl (fun dr => r_load1 Tryz.isAgg42 rfl e10) ?_
 refine sp 11 (.int .i64 x2) rfl rfl (r_move rfl) ?_
 refine sc 12 rfl rfl (fun dr => r_call Tryz.call52 rfl rfl H) ?_
 rintro _ h3 ⟨y11, y12, y13, rfl, H⟩
 refine sp 8 (.tuple #[(.pointer y11), (.bool y12), (.pointer y13)]) rfl rfl (r_move rfl) ?_
 refine sp 13 (.pointer y11) rfl rfl (r_extract rfl rfl) ?_
 refine sp 14 (.bool y12) rfl rfl (r_extract rfl rfl) ?_
 refine sp 15 (.pointer y13) rfl rfl (r_extract rfl rfl) ?_
 refine sp 5 (.pointer y11) rfl rfl (r_assign rfl) ?_
 refine sp 6 (.bool y12) rfl rfl (r_assign rfl) ?_
 refine sp 7 (.pointer y13) rfl rfl (r_assign rfl) ?_
 refine s_fin ?_
 refine W_seq ?_
 refine W_region (.pu 0 (.pu 1 (.pu 2 (.ef 3 [] (.pu 4 (.ef 5 [] .fin .no)) .no)))) rfl rfl ?_
 refine sp 16 (.pointer y11) rfl rfl (r_move rfl) ?_
 refine sp 17 (.int .i64 x2) rfl rfl (r_move rfl) ?_
 refine sp 18 (.pointer y13) rfl rfl (r_move rfl) ?_
 refine sc 19 rfl rfl (fun dr => r_call Tryz.call53 rfl rfl H) ?_
 rintro _ h4 ⟨y14, rfl, H⟩
 refine sp 20 (.agg #[(.pointer y14)]) rfl rfl (fun w => by kernel_rfl) ?_
 obtain ⟨e16, H⟩ := H
 obtain ⟨h5, e15⟩ : ∃ hh : Heap, hh = hsets h4 p6 0 [(.pointer y14)] := ⟨_, rfl⟩
 have H := H h5 e15
 refine s_st (d := none) (h' := h5) rfl rfl rfl (fun dr => (r_store (v := (.agg #[(.pointer y14)])) Tryz.sizeOf44 rfl rfl rfl (one_all rfl) e16).trans (by rw [e15]; rfl)) trivial ?_ trivial
 refine s_fin ?_
 refine W_ret ?_
 obtain ⟨x17, e18, H⟩ := H
 exact ⟨[(.agg #[(.pointer x17)])], ⟨_, _, _, rfl, rfl, fun dr => run_loadVarN Tryz.isAgg44 Tryz.sizeOf44 (vs := [(.pointer x17)]) rfl ⟨e18, trivial⟩, rfl⟩, x17, rfl, H⟩
def wbt_Set_Drop_F (r : World) (s1 : Option Addr) (x2 : Int) (h : Heap) (R : Option Addr → Heap → Prop) : Prop :=
 New h (.cells #[(.pointer s1)] 44) fun p3 h1 =>
 New h1 (.cells #[(.pointer none)] 44) fun p6 h2 =>
 LdP h2 (Addr.add p3 0) fun x9 =>
 wbt_node_split r x9 x2 h2 fun y11 y12 y13 h3 =>
 wbt_joined r y11 y13 h3 fun y14 h4 =>
 St h4 p6 1 [(.pointer y14)] fun h5 =>
 LdP h5 (Addr.add p6 0) fun x17 =>
 R x17 h5
theorem wbt_Set_Drop_of {r : World} {s1 : Option Addr} {x2 : Int} {h : Heap} {R : Option Addr → Heap → Prop} (H : wbt_Set_Drop_F r s1 x2 h R) : wbt_Set_Drop r s1 x2 h R := by
 unfold wbt_Set_Drop_F at H
 refine calls_of 20 [.cell 4 44] Tryz.func30 rfl rfl rfl rfl rfl ?_
 refine W_seq ?_
 refine W_region (.ef 0 [] (.ef 1 [] .fin .no) .no) rfl rfl ?_
 obtain ⟨p3, e4⟩ : ∃ p : Addr, p = ⟨h.size, 0, none⟩ := ⟨_, rfl⟩
 obtain ⟨h1, e5⟩ : ∃ hh : Heap, hh = h.push (.cells #[(.pointer s1)] 44) := ⟨_, rfl⟩
 have H := H p3 h1 e4 e5
 refine s_ef1 (d := some 2) (v := (.pointer (some p3))) (h' := h1) rfl rfl rfl (fun dr => (r_box (v := (.agg #[(.pointer s1)])) rfl).trans (by rw [e4, e5]; rfl)) trivial ?_ trivial
 obtain ⟨p6, e7⟩ : ∃ p : Addr, p = ⟨h1.size, 0, none⟩ := ⟨_, rfl⟩
 obtain ⟨h2, e8⟩ : ∃ hh : Heap, hh = h1.push (.cells #[(.pointer none)] 44) := ⟨_, rfl⟩
 have H := H p6 h2 e7 e8
 refine s_ef1 (d := some 4) (v := (.pointer (some p6))) (h' := h2) rfl rfl rfl (fun dr => (r_alloc Tryz.zeroValue44).trans (by rw [e7, e8]; rfl)) trivial ?_ trivial
 refine s_fin ?_
 refine W_seq ?_
 refine W_region (.pu 0 (.rl 1 (.pu 2 (.ef 3 [] (.pu 4 (.pu 5 (.pu 6 (.pu 7 (.pu 8 (.pu 9 (.pu 10 .fin))))))) .no)))) rfl rfl ?_
 refine sp 9 (.pointer (some (Addr.add p3 0))) rfl rfl (r_fieldAddr Tryz.underlying44 Tryz.sizeOf42 rfl rfl rfl) ?_
 obtain ⟨x9, e10, H⟩ := H
 refine sl 10 (.pointer x9) rfl rfl (fun dr => r_load1 Tryz.isAgg42 rfl e10) ?_
 refine sp 11 (.int .i64 x2) rfl rfl (r_move rfl) ?_
 refine sc 12 rfl rfl (fun dr => r_call Tryz.call52 rfl rfl H) ?_
 rintro _ h3 ⟨y11, y12, y13, rfl, H⟩
 refine sp 8 (.tuple #[(.pointer y11), (.bool y12), (.pointer y13)]) rfl rfl (r_move rfl) ?_
 refine sp 13 (.pointer y11) rfl rfl (r_extract rfl rfl) ?_
 refine sp 14 (.bool y12) rfl rfl (r_extract rfl rfl) ?_
 refine sp 15 (.pointer y13) rfl rfl (r_extract rfl rfl) ?_
 refine sp 5 (.pointer y11) rfl rfl (r_assign rfl) ?_
 refine sp 6 (.bool y12) rfl rfl (r_assign rfl) ?_
 refine sp 7 (.pointer y13) rfl rfl (r_assign rfl) ?_
 refine s_fin ?_
 refine W_seq ?_
 refine W_region (.pu 0 (.pu 1 (.ef 2 [] (.pu 3 (.ef 4 [] .fin .no)) .no))) rfl rfl ?_
 refine sp 16 (.pointer y11) rfl rfl (r_move rfl) ?_
 refine sp 17 (.pointer y13) rfl rfl (r_move rfl) ?_
 refine sc 18 rfl rfl (fun dr => r_call Tryz.call54 rfl rfl H) ?_
 rintro _ h4 ⟨y14, rfl, H⟩
 refine sp 19 (.agg #[(.pointer y14)]) rfl rfl (fun w => by kernel_rfl) ?_
 obtain ⟨e16, H⟩ := H
 obtain ⟨h5, e15⟩ : ∃ hh : Heap, hh = hsets h4 p6 0 [(.pointer y14)] := ⟨_, rfl⟩
 have H := H h5 e15
 refine s_st (d := none) (h' := h5) rfl rfl rfl (fun dr => (r_store (v := (.agg #[(.pointer y14)])) Tryz.sizeOf44 rfl rfl rfl (one_all rfl) e16).trans (by rw [e15]; rfl)) trivial ?_ trivial
 refine s_fin ?_
 refine W_ret ?_
 obtain ⟨x17, e18, H⟩ := H
 exact ⟨[(.agg #[(.pointer x17)])], ⟨_, _, _, rfl, rfl, fun dr => run_loadVarN Tryz.isAgg44 Tryz.sizeOf44 (vs := [(.pointer x17)]) rfl ⟨e18, trivial⟩, rfl⟩, x17, rfl, H⟩
def wbt_Set_Rank_F (r : World) (s1 : Option Addr) (x2 : Int) (h : Heap) (R : Int → Heap → Prop) : Prop :=
 New h (.cells #[(.pointer s1)] 44) fun p3 h1 =>
 LdP h1 (Addr.add p3 0) fun x6 =>
 ∀ X10 : Int → Option Addr → Heap → Prop, (∀ (n8 : Int) (t9 : Option Addr) (h2 : Heap),
  (Br (!(Option.isNone t9)) (
   Ck t9 fun p11 =>
   LdI h2 (Addr.add p11 0) fun x13 =>
   Br (decide (x2 ≤ x13)) (
    Ck t9 fun p15 =>
    LdP h2 (Addr.add p15 2) fun x17 =>
    X10 n8 x17 h2) (
    Ck t9 fun p19 =>
    LdP h2 (Addr.add p19 2) fun x21 =>
    wbt_node_weight r x21 h2 fun y23 h3 =>
    Ck t9 fun p24 =>
    LdP h3 (Addr.add p24 3) fun x26 =>
    X10 (w64 (n8 + y23)) x26 h3)) (
   R n8 h2)) →
  X10 n8 t9 h2) →
 X10 0 x6 h1
theorem wbt_Set_Rank_of {r : World} {s1 : Option Addr} {x2 : Int} {h : Heap} {R : Int → Heap → Prop} (H : wbt_Set_Rank_F r s1 x2 h R) : wbt_Set_Rank r s1 x2 h R := by
 unfold wbt_Set_Rank_F at H
 refine calls_of 33 [.tmp 4] Tryz.func31 rfl rfl rfl rfl rfl ?_
 refine W_seq ?_
 refine W_region (.ef 0 [] (.pu 1 .fin) .no) rfl rfl ?_
 obtain ⟨p3, e4⟩ : ∃ p : Addr, p = ⟨h.size, 0, none⟩ := ⟨_, rfl⟩
 obtain ⟨h1, e5⟩ : ∃ hh : Heap, hh = h.push (.cells #[(.pointer s1)] 44) := ⟨_, rfl⟩
 have H := H p3 h1 e4 e5
 refine s_ef1 (d := some 2) (v := (.pointer (some p3))) (h' := h1) rfl rfl rfl (fun dr => (r_box (v := (.agg #[(.pointer s1)])) rfl).trans (by rw [e4, e5]; rfl)) trivial ?_ trivial
 refine sp 4 (.int .i64 0) rfl rfl (r_assign rfl) ?_
 refine s_fin ?_
 refine W_seq ?_
 refine W_region (.pu 0 .fin) rfl rfl ?_
 refine sp 5 (.int .i64 0) rfl rfl (r_assign rfl) ?_
 refine s_fin ?_
 refine W_seq ?_
 refine W_seq ?_
 refine W_region (.pu 0 (.rl 1 (.pu 2 .fin))) rfl rfl ?_
 refine sp 7 (.pointer (some (Addr.add p3 0))) rfl rfl (r_fieldAddr Tryz.underlying44 Tryz.sizeOf42 rfl rfl rfl) ?_
 obtain ⟨x6, e7, H⟩ := H
 refine sl 8 (.pointer x6) rfl rfl (fun dr => r_load1 Tryz.isAgg42 rfl e7) ?_
 refine sp 6 (.pointer x6) rfl rfl (r_assign rfl) ?_
 refine s_fin ?_
 refine W_block ?_
 refine W_loop (WL_mk (l := [(1, (.int .i64 x2)), (5, (.int .i64 0)), (6, (.pointer x6))]) ?_ ⟨rfl, rfl, rfl, trivial⟩)
 refine H (fun (n8 : Int) (t9 : Option Addr) (h2 : Heap) => ∀ b, WL _ _ _ _ _ _ (mkE [(1, (.int .i64 x2)), (5, (.int .i64 n8)), (6, (.pointer t9))] b) h2) ?_
 intro n8 t9 h2 H b
 refine WL_round ?_
 refine W_seq ?_
 refine W_seq ?_
 refine W_region (.pu 0 (.pu 1 .fin)) rfl rfl ?_
 refine sp 9 (.pointer t9) rfl rfl (r_move rfl) ?_
 refine sp 10 (.bool (!(Option.isNone t9))) rfl rfl (r_notNilP Tryz.underlying42 rfl rfl) ?_
 refine s_fin ?_
 refine W_if (!(Option.isNone t9)) rfl (fun g29 => ?_) (fun g29 => ?_)
 ·have H := H.1 g29
  refine W_skip ?_
  show W _ _ _ _ _ _ _ _
  refine W_block ?_
  refine W_seq ?_
  refine W_region (.pu 0 (.pu 1 (.pu 2 (.pu 3 (.rl 4 (.pu 5 .fin)))))) rfl rfl ?_
  refine sp 11 (.int .i64 x2) rfl rfl (r_move rfl) ?_
  refine sp 12 (.pointer t9) rfl rfl (r_move rfl) ?_
  obtain ⟨p11, e12, H⟩ := H
  refine sp 13 (.pointer (some p11)) rfl rfl (r_nilCheck rfl e12) ?_
  refine sp 14 (.pointer (some (Addr.add p11 0))) rfl rfl (r_fieldAddr Tryz.underlying98 Tryz.sizeOf3 rfl rfl rfl) ?_
  obtain ⟨x13, e14, H⟩ := H
  refine sl 15 (.int .i64 x13) rfl rfl (fun dr => r_load1 Tryz.isAgg3 rfl e14) ?_
  refine sp 16 (.bool (decide (x2 ≤ x13))) rfl rfl (r_leq rfl rfl) ?_
  refine s_fin ?_
  refine W_if (decide (x2 ≤ x13)) rfl (fun g28 => ?_) (fun g28 => ?_)
  ·have H := H.1 g28
   refine W_region (.pu 0 (.pu 1 (.pu 2 (.rl 3 (.pu 4 .fin))))) rfl rfl ?_
   refine sp 17 (.pointer t9) rfl rfl (r_move rfl) ?_
   obtain ⟨p15, e16, H⟩ := H
   refine sp 18 (.pointer (some p15)) rfl rfl (r_nilCheck rfl e16) ?_
   refine sp 19 (.pointer (some (Addr.add p15 2))) rfl rfl (r_fieldAddr Tryz.underlying98 Tryz.sizeOf42 rfl rfl rfl) ?_
   obtain ⟨x17, e18, H⟩ := H
   refine sl 20 (.pointer x17) rfl rfl (fun dr => r_load1 Tryz.isAgg42 rfl e18) ?_
   refine sp 6 (.pointer x17) rfl rfl (r_assign rfl) ?_
   refine s_fin ?_
   exact WL_mk (l := [(1, (.int .i64 x2)), (5, (.int .i64 n8)), (6, (.pointer x17))]) H ⟨rfl, rfl, rfl, trivial⟩
  ·have H := H.2 g28
   refine W_seq ?_
   refine W_region (.pu 0 (.pu 1 (.pu 2 (.pu 3 (.rl 4 (.ef 5 [] (.pu 6 (.pu 7 .fin)) .no)))))) rfl rfl ?_
   refine sp 21 (.int .i64 n8) rfl rfl (r_move rfl) ?_
   refine sp 22 (.pointer t9) rfl rfl (r_move rfl) ?_
   obtain ⟨p19, e20, H⟩ := H
   refine sp 23 (.pointer (some p19)) rfl rfl (r_nilCheck rfl e20) ?_
   refine sp 24 (.pointer (some (Addr.add p19 2))) rfl rfl (r_fieldAddr Tryz.underlying98 Tryz.sizeOf42 rfl rfl rfl) ?_
   obtain ⟨x21, e22, H⟩ := H
   refine sl 25 (.pointer x21) rfl rfl (fun dr => r_load1 Tryz.isAgg42 rfl e22) ?_
   refine sc 26 rfl rfl (fun dr => r_call Tryz.call55 rfl rfl H) ?_
   rintro _ h3 ⟨y23, rfl, H⟩
   refine sp 27 (.int .i64 (w64 (n8 + y23))) rfl rfl (r_add rfl rfl) ?_
   refine sp 5 (.int .i64 (w64 (n8 + y23))) rfl rfl (r_assign rfl) ?_
   refine s_fin ?_
   refine W_region (.pu 0 (.pu 1 (.pu 2 (.rl 3 (.pu 4 .fin))))) rfl rfl ?_
   refine sp 28 (.pointer t9) rfl rfl (r_move rfl) ?_
   obtain ⟨p24, e25, H⟩ := H
   refine sp 29 (.pointer (some p24)) rfl rfl (r_nilCheck rfl e25) ?_
   refine sp 30 (.pointer (some (Addr.add p24 3))) rfl rfl (r_fieldAddr Tryz.underlying98 Tryz.sizeOf42 rfl rfl rfl) ?_
   obtain ⟨x26, e27, H⟩ := H
   refine sl 31 (.pointer x26) rfl rfl (fun dr => r_load1 Tryz.isAgg42 rfl e27) ?_
   refine sp 6 (.pointer x26) rfl rfl (r_assign rfl) ?_
   refine s_fin ?_
   exact WL_mk (l := [(1, (.int .i64 x2)), (5, (.int .i64 (w64 (n8 + y23)))), (6, (.pointer x26))]) H ⟨rfl, rfl, rfl, trivial⟩
 ·have H := H.2 g29
  refine W_exit (inX_here ?_)
  show W _ _ _ _ _ _ _ _
  refine W_seq ?_
  refine W_region (.pu 0 (.pu 1 .fin)) rfl rfl ?_
  refine sp 32 (.int .i64 n8) rfl rfl (r_move rfl) ?_
  refine sp 4 (.int .i64 n8) rfl rfl (r_assign rfl) ?_
  refine s_fin ?_
  refine W_ret ?_
  exact ⟨[(.int .i64 n8)], ⟨_, _, rfl, rfl, rfl⟩, n8, rfl, H⟩
def wbt_Set_At_F (r : World) (s1 : Option Addr) (i2 : Int) (h : Heap) (R : Int → Bool → Heap → Prop) : Prop :=
 New h (.cells #[(.pointer s1)] 44) fun p3 h1 =>
 ∀ J7 : Bool → Heap → Prop, (∀ (x6 : Bool) (h2 : Heap),
  (Br x6 (
   R 0 false h2) (
   LdP h2 (Addr.add p3 0) fun x9 =>
   ∀ X13 : Int → Option Addr → Heap → Prop, (∀ (i11 : Int) (t12 : Option Addr) (h3 : Heap),
    (Ck t12 fun p14 =>
    LdP h3 (Addr.add p14 2) fun x16 =>
    wbt_node_size r x16 h3 fun y18 h4 =>
    Br (decide (i11 < y18)) (
     Ck t12 fun p19 =>
     LdP h4 (Addr.add p19 2) fun x21 =>
     X13 i11 x21 h4) (
     Br (decide (y18 < i11)) (
      Ck t12 fun p23 =>
      LdP h4 (Addr.add p23 3) fun x25 =>
      X13 (w64 ((w64 (i11 - y18)) - 1)) x25 h4) (
      Ck t12 fun p27 =>
      LdI h4 (Addr.add p27 0) fun x29 =>
      R x29 true h4))) →
    X13 i11 t12 h3) →
   X13 i2 x9 h2)) →
  J7 x6 h2) →
 Br (decide (i2 < 0)) (
  J7 true h1) (
  LdP h1 (Addr.add p3 0) fun x35 =>
  wbt_Set_Len r x35 h1 fun y37 h5 =>
  J7 (decide (y37 ≤ i2)) h5)
theorem wbt_Set_At_of {r : World} {s1 : Option Addr} {i2 : Int} {h : Heap} {R : Int → Bool → Heap → Prop} (H : wbt_Set_At_F r s1 i2 h R) : wbt_Set_At r s1 i2 h R := by
 unfold wbt_Set_At_F at H
 refine calls_of 47 [.tmp 4, .tmp 5] Tryz.func58 rfl rfl rfl rfl rfl ?_
 refine W_seq ?_
 refine W_region (.ef 0 [] (.pu 1 (.pu 2 .fin)) .no) rfl rfl ?_
 obtain ⟨p3, e4⟩ : ∃ p : Addr, p = ⟨h.size, 0, none⟩ := ⟨_, rfl⟩
 obtain ⟨h1, e5⟩ : ∃ hh : Heap, hh = h.push (.cells #[(.pointer s1)] 44) := ⟨_, rfl⟩
 have H := H p3 h1 e4 e5
 refine s_ef1 (d := some 2) (v := (.pointer (some p3))) (h' := h1) rfl rfl rfl (fun dr => (r_box (v := (.agg #[(.pointer s1)])) rfl).trans (by rw [e4, e5]; rfl)) trivial ?_ trivial
 refine sp 4 (.int .i64 0) rfl rfl (r_assign rfl) ?_
 refine sp 5 (.bool false) rfl rfl (r_assign rfl) ?_
 refine s_fin ?_
 refine W_seq ?_
 refine W_seq ?_
 refine W_set ?_
 intro N8 eN8
 have H := H (fun (x6 : Bool) (h2 : Heap) => ∀ b, N8 [] (mkE [(1, (.int .i64 i2)), (2, (.pointer (some p3))), (15, (.bool x6))] b) h2) (by
  intro x6 h2 H b
  rw [eN8]
  show W _ _ _ _ _ _ _ _
  refine W_if x6 rfl (fun g33 => ?_) (fun g33 => ?_)
  ·have H := H.1 g33
   refine W_seq ?_
   refine W_region (.pu 0 (.pu 1 .fin)) rfl rfl ?_
   refine sp 4 (.int .i64 0) rfl rfl (r_assign rfl) ?_
   refine sp 5 (.bool false) rfl rfl (r_assign rfl) ?_
   refine s_fin ?_
   refine W_ret ?_
   exact ⟨[(.int .i64 0), (.bool false)], ⟨_, _, rfl, rfl, ⟨_, _, rfl, rfl, rfl⟩⟩, 0, false, rfl, H⟩
  ·have H := H.2 g33
   refine W_skip ?_
   show W _ _ _ _ _ _ _ _
   refine W_seq ?_
   refine W_region (.pu 0 (.rl 1 (.pu 2 .fin))) rfl rfl ?_
   refine sp 16 (.pointer (some (Addr.add p3 0))) rfl rfl (r_fieldAddr Tryz.underlying44 Tryz.sizeOf42 rfl rfl rfl) ?_
   obtain ⟨x9, e10, H⟩ := H
   refine sl 17 (.pointer x9) rfl rfl (fun dr => r_load1 Tryz.isAgg42 rfl e10) ?_
   refine sp 6 (.pointer x9) rfl rfl (r_assign rfl) ?_
   refine s_fin ?_
   refine W_block ?_
   refine W_loop (WL_mk (l := [(1, (.int .i64 i2)), (6, (.pointer x9))]) ?_ ⟨rfl, rfl, trivial⟩)
   refine H (fun (i11 : Int) (t12 : Option Addr) (h3 : Heap) => ∀ b, WL _ _ _ _ _ _ (mkE [(1, (.int .i64 i11)), (6, (.pointer t12))] b) h3) ?_
   intro i11 t12 h3 H b
   refine WL_round ?_
   refine W_block ?_
   refine W_seq ?_
   refine W_region (.pu 0 (.pu 1 (.pu 2 (.rl 3 (.ef 4 [] (.pu 5 .fin) .no))))) rfl rfl ?_
   refine sp 18 (.pointer t12) rfl rfl (r_move rfl) ?_
   obtain ⟨p14, e15, H⟩ := H
   refine sp 19 (.pointer (some p14)) rfl rfl (r_nilCheck rfl e15) ?_
   refine sp 20 (.pointer (some (Addr.add p14 2))) rfl rfl (r_fieldAddr Tryz.underlying98 Tryz.sizeOf42 rfl rfl rfl) ?_
   obtain ⟨x16, e17, H⟩ := H
   refine sl 21 (.pointer x16) rfl rfl (fun dr => r_load1 Tryz.isAgg42 rfl e17) ?_
   refine sc 22 rfl rfl (fun dr => r_call Tryz.call74 rfl rfl H) ?_
   rintro _ h4 ⟨y18, rfl, H⟩
   refine sp 7 (.int .i64 y18) rfl rfl (r_assign rfl) ?_
   refine s_fin ?_
   refine W_block ?_
   refine W_seq ?_
   refine W_region (.pu 0 (.pu 1 (.pu 2 (.pu 3 .fin)))) rfl rfl ?_
   refine sp 28 (.int .i64 i11) rfl rfl (r_move rfl) ?_
   refine sp 29 (.int .i64 y18) rfl rfl (r_move rfl) ?_
   refine sp 30 (.bool (decide (i11 < y18))) rfl rfl (r_lss rfl rfl) ?_
   refine sp 27 (.bool (decide (i11 < y18))) rfl rfl (r_assign rfl) ?_
   refine s_fin ?_
   refine W_if (decide (i11 < y18)) rfl (fun g32 => ?_) (fun g32 => ?_)
   ·have H := H.1 g32
    refine W_region (.pu 0 (.pu 1 (.pu 2 (.rl 3 (.pu 4 .fin))))) rfl rfl ?_
    refine sp 31 (.pointer t12) rfl rfl (r_move rfl) ?_
    obtain ⟨p19, e20, H⟩ := H
    refine sp 32 (.pointer (some p19)) rfl rfl (r_nilCheck rfl e20) ?_
    refine sp 33 (.pointer (some (Addr.add p19 2))) rfl rfl (r_fieldAddr Tryz.underlying98 Tryz.sizeOf42 rfl rfl rfl) ?_
    obtain ⟨x21, e22, H⟩ := H
    refine sl 34 (.pointer x21) rfl rfl (fun dr => r_load1 Tryz.isAgg42 rfl e22) ?_
    refine sp 6 (.pointer x21) rfl rfl (r_assign rfl) ?_
    refine s_fin ?_
    exact WL_mk (l := [(1, (.int .i64 i11)), (6, (.pointer x21))]) H ⟨rfl, rfl, trivial⟩
   ·have H := H.2 g32
    refine W_seq ?_
    refine W_region (.pu 0 (.pu 1 (.pu 2 (.pu 3 .fin)))) rfl rfl ?_
    refine sp 36 (.int .i64 i11) rfl rfl (r_move rfl) ?_
    refine sp 37 (.int .i64 y18) rfl rfl (r_move rfl) ?_
    refine sp 38 (.bool (decide (y18 < i11))) rfl rfl (r_gtr rfl rfl) ?_
    refine sp 35 (.bool (decide (y18 < i11))) rfl rfl (r_assign rfl) ?_
    refine s_fin ?_
    refine W_if (decide (y18 < i11)) rfl (fun g31 => ?_) (fun g31 => ?_)
    ·have H := H.1 g31
     refine W_region (.pu 0 (.pu 1 (.pu 2 (.rl 3 (.pu 4 (.pu 5 (.pu 6 (.pu 7 (.pu 8 (.pu 9 .fin)))))))))) rfl rfl ?_
     refine sp 39 (.pointer t12) rfl rfl (r_move rfl) ?_
     obtain ⟨p23, e24, H⟩ := H
     refine sp 40 (.pointer (some p23)) rfl rfl (r_nilCheck rfl e24) ?_
     refine sp 41 (.pointer (some (Addr.add p23 3))) rfl rfl (r_fieldAddr Tryz.underlying98 Tryz.sizeOf42 rfl rfl rfl) ?_
     obtain ⟨x25, e26, H⟩ := H
     refine sl 42 (.pointer x25) rfl rfl (fun dr => r_load1 Tryz.isAgg42 rfl e26) ?_
     refine sp 43 (.int .i64 i11) rfl rfl (r_move rfl) ?_
     refine sp 44 (.int .i64 y18) rfl rfl (r_move rfl) ?_
     refine sp 45 (.int .i64 (w64 (i11 - y18))) rfl rfl (r_sub rfl rfl) ?_
     refine sp 46 (.int .i64 (w64 ((w64 (i11 - y18)) - 1))) rfl rfl (r_sub rfl rfl) ?_
     refine sp 6 (.pointer x25) rfl rfl (r_assign rfl) ?_
     refine sp 1 (.int .i64 (w64 ((w64 (i11 - y18)) - 1))) rfl rfl (r_assign rfl) ?_
     refine s_fin ?_
     exact WL_mk (l := [(1, (.int .i64 (w64 ((w64 (i11 - y18)) - 1)))), (6, (.pointer x25))]) H ⟨rfl, rfl, trivial⟩
    ·have H := H.2 g31
     refine W_seq ?_
     refine W_region (.pu 0 (.pu 1 (.pu 2 (.rl 3 (.pu 4 (.pu 5 .fin)))))) rfl rfl ?_
     refine sp 23 (.pointer t12) rfl rfl (r_move rfl) ?_
     obtain ⟨p27, e28, H⟩ := H
     refine sp 24 (.pointer (some p27)) rfl rfl (r_nilCheck rfl e28) ?_
     refine sp 25 (.pointer (some (Addr.add p27 0))) rfl rfl (r_fieldAddr Tryz.underlying98 Tryz.sizeOf3 rfl rfl rfl) ?_
     obtain ⟨x29, e30, H⟩ := H
     refine sl 26 (.int .i64 x29) rfl rfl (fun dr => r_load1 Tryz.isAgg3 rfl e30) ?_
     refine sp 4 (.int .i64 x29) rfl rfl (r_assign rfl) ?_
     refine sp 5 (.bool true) rfl rfl (r_assign rfl) ?_
     refine s_fin ?_
     refine W_ret ?_
     exact ⟨[(.int .i64 x29), (.bool true)], ⟨_, _, rfl, rfl, ⟨_, _, rfl, rfl, rfl⟩⟩, x29, true, rfl, H⟩)
 clear eN8
 refine W_region (.pu 0 (.pu 1 (.pu 2 (.pu 3 (.rl 4 (.ef 5 [] (.pu 6 (.pu 7 .fin)) .no)))))) rfl rfl ?_
 refine sp 8 (.int .i64 i2) rfl rfl (r_move rfl) ?_
 refine sp 9 (.bool (decide (i2 < 0))) rfl rfl (r_lss rfl rfl) ?_
 refine sp 10 (.bool (decide (i2 < 0))) rfl rfl (r_move rfl) ?_
 rcases Bool.eq_false_or_eq_true (decide (i2 < 0)) with g34 | g34
 ·have H := H.1 g34
  refine s_sk (d := some 11) rfl rfl (wants_no rfl rfl rfl rfl g34) ?_
  refine s_skl (d := some 12) rfl rfl (wants_no rfl rfl rfl rfl g34) ?_
  refine s_skf (d := some 13) rfl rfl (wants_no rfl rfl rfl rfl g34) trivial ?_ trivial
  refine s_sk (d := some 14) rfl rfl (wants_no rfl rfl rfl rfl g34) ?_
  refine sp 15 (.bool true) rfl rfl (r_pick1 rfl g34 rfl) ?_
  refine s_fin ?_
  exact N_mk (l := [(1, (.int .i64 i2)), (2, (.pointer (some p3))), (15, (.bool true))]) H ⟨rfl, rfl, rfl, trivial⟩
 ·have H := H.2 g34
  refine s_pu (d := some 11) (v := (.int .i64 i2)) rfl rfl (wants_yes rfl rfl rfl rfl g34) (r_move rfl) ?_
  obtain ⟨x35, e36, H⟩ := H
  refine s_rl (d := some 12) (v := (.agg #[(.pointer x35)])) rfl rfl (wants_yes rfl rfl rfl rfl g34) (fun dr => r_loadN Tryz.isAgg44 Tryz.sizeOf44 (vs := [(.pointer x35)]) rfl rfl ⟨e36, trivial⟩) ?_
  refine s_ef (d := some 13) rfl rfl (wants_yes rfl rfl rfl rfl g34) (fun dr => r_call Tryz.call51 rfl rfl H) ?_ trivial
  rintro _ h5 ⟨y37, rfl, H⟩
  refine ⟨trivial, ?_⟩
  refine s_pu (d := some 14) (v := (.bool (decide (y37 ≤ i2)))) rfl rfl (wants_yes rfl rfl rfl rfl g34) (r_geq rfl rfl) ?_
  refine sp 15 (.bool (decide (y37 ≤ i2))) rfl rfl (r_pick0 rfl g34 rfl) ?_
  refine s_fin ?_
  exact N_mk (l := [(1, (.int .i64 i2)), (2, (.pointer (some p3))), (15, (.bool (decide (y37 ≤ i2))))]) H ⟨rfl, rfl, rfl, trivial⟩
def wbt_Set_Ints_F (r : World) (s1 : Option Addr) (h : Heap) (R : Sl → Heap → Prop) : Prop :=
 New h (.cells #[(.pointer s1)] 44) fun p2 h1 =>
 LdP h1 (Addr.add p2 0) fun x5 =>
 wbt_Set_Len r x5 h1 fun y7 h2 =>
 ∀ X10 : Sl → Int → Heap → Prop, (∀ (out8 : Sl) (x9 : Int) (h3 : Heap),
  (Br (decide (x9 < y7)) (
   LdP h3 (Addr.add p2 0) fun x11 =>
   wbt_Set_At r x11 x9 h3 fun y13 y14 h4 =>
   New h4 (.cells #[(.int .i64 y13)] 3) fun p15 h5 =>
   App 3 1 8 (.int .i64 0) out8 ((⟨some p15, 1, 1⟩ : Sl)) h5 fun s18 h6 =>
   X10 s18 (w64 (x9 + 1)) h6) (
   R out8 h3)) →
  X10 out8 x9 h3) →
 X10 Sl.nil 0 h2
theorem wbt_Set_Ints_of {r : World} {s1 : Option Addr} {h : Heap} {R : Sl → Heap → Prop} (H : wbt_Set_Ints_F r s1 h R) : wbt_Set_Ints r s1 h R := by
 unfold wbt_Set_Ints_F at H
 refine calls_of 24 [.tmp 2] Tryz.func34 rfl rfl rfl rfl rfl ?_
 refine W_seq ?_
 refine W_region (.ef 0 [] (.pu 1 .fin) .no) rfl rfl ?_
 obtain ⟨p2, e3⟩ : ∃ p : Addr, p = ⟨h.size, 0, none⟩ := ⟨_, rfl⟩
 obtain ⟨h1, e4⟩ : ∃ hh : Heap, hh = h.push (.cells #[(.pointer s1)] 44) := ⟨_, rfl⟩
 have H := H p2 h1 e3 e4
 refine s_ef1 (d := some 1) (v := (.pointer (some p2))) (h' := h1) rfl rfl rfl (fun dr => (r_box (v := (.agg #[(.pointer s1)])) rfl).trans (by rw [e3, e4]; rfl)) trivial ?_ trivial
 refine sp 2 (Sl.v Sl.nil) rfl rfl (r_assign rfl) ?_
 refine s_fin ?_
 refine W_seq ?_
 refine W_region (.pu 0 .fin) rfl rfl ?_
 refine sp 3 (Sl.v Sl.nil) rfl rfl (r_assign rfl) ?_
 refine s_fin ?_
 refine W_seq ?_
 refine W_seq ?_
 refine W_region (.rl 0 (.ef 1 [] (.pu 2 .fin) .no)) rfl rfl ?_
 obtain ⟨x5, e6, H⟩ := H
 refine sl 7 (.agg #[(.pointer x5)]) rfl rfl (fun dr => r_loadN Tryz.isAgg44 Tryz.sizeOf44 (vs := [(.pointer x5)]) rfl rfl ⟨e6, trivial⟩) ?_
 refine sc 8 rfl rfl (fun dr => r_call Tryz.call51 rfl rfl H) ?_
 rintro _ h2 ⟨y7, rfl, H⟩
 refine sp 9 (.int .i64 0) rfl rfl (r_move rfl) ?_
 refine s_fin ?_
 refine W_block ?_
 refine W_loop (WL_mk (l := [(1, (.pointer (some p2))), (3, (Sl.v Sl.nil)), (8, (.int .i64 y7)), (9, (.int .i64 0))]) ?_ ⟨rfl, rfl, rfl, rfl, trivial⟩)
 refine H (fun (out8 : Sl) (x9 : Int) (h3 : Heap) => ∀ b, WL _ _ _ _ _ _ (mkE [(1, (.pointer (some p2))), (3, (Sl.v out8)), (8, (.int .i64 y7)), (9, (.int .i64 x9))] b) h3) ?_
 intro out8 x9 h3 H b
 refine WL_round ?_
 refine W_seq ?_
 refine W_region (.pu 0 .fin) rfl rfl ?_
 refine sp 10 (.bool (decide (x9 < y7))) rfl rfl (r_lss rfl rfl) ?_
 refine s_fin ?_
 refine W_seq ?_
 refine W_if (decide (x9 < y7)) rfl (fun g19 => ?_) (fun g19 => ?_)
 ·have H := H.1 g19
  refine W_skip ?_
  show W _ _ _ _ _ _ _ _
  refine W_seq ?_
  refine W_block ?_
  refine W_seq ?_
  refine W_region (.pu 0 (.pu 1 .fin)) rfl rfl ?_
  refine sp 11 (.int .i64 x9) rfl rfl (r_move rfl) ?_
  refine sp 4 (.int .i64 x9) rfl rfl (r_assign rfl) ?_
  refine s_fin ?_
  refine W_seq ?_
  refine W_region (.rl 0 (.pu 1 (.ef 2 [] (.pu 3 (.pu 4 (.pu 5 (.pu 6 (.pu 7 .fin))))) .no))) rfl rfl ?_
  obtain ⟨x11, e12, H⟩ := H
  refine sl 13 (.agg #[(.pointer x11)]) rfl rfl (fun dr => r_loadN Tryz.isAgg44 Tryz.sizeOf44 (vs := [(.pointer x11)]) rfl rfl ⟨e12, trivial⟩) ?_
  refine sp 14 (.int .i64 x9) rfl rfl (r_move rfl) ?_
  refine sc 15 rfl rfl (fun dr => r_call Tryz.call58 rfl rfl H) ?_
  rintro _ h4 ⟨y13, y14, rfl, H⟩
  refine sp 12 (.tuple #[(.int .i64 y13), (.bool y14)]) rfl rfl (r_move rfl) ?_
  refine sp 16 (.int .i64 y13) rfl rfl (r_extract rfl rfl) ?_
  refine sp 17 (.bool y14) rfl rfl (r_extract rfl rfl) ?_
  refine sp 5 (.int .i64 y13) rfl rfl (r_assign rfl) ?_
  refine sp 6 (.bool y14) rfl rfl (r_assign rfl) ?_
  refine s_fin ?_
  refine W_region (.pu 0 (.pu 1 (.ef 2 [] (.ef 3 [] (.pu 4 .fin) .no) .no))) rfl rfl ?_
  refine sp 18 (Sl.v out8) rfl rfl (r_move rfl) ?_
  refine sp 19 (.int .i64 y13) rfl rfl (r_move rfl) ?_
  obtain ⟨p15, e16⟩ : ∃ p : Addr, p = ⟨h4.size, 0, none⟩ := ⟨_, rfl⟩
  obtain ⟨h5, e17⟩ : ∃ hh : Heap, hh = h4.push (.cells #[(.int .i64 y13)] 3) := ⟨_, rfl⟩
  have H := H p15 h5 e16 e17
  refine s_ef1 (d := some 20) (v := (Sl.v ((⟨some p15, 1, 1⟩ : Sl)))) (h' := h5) rfl rfl rfl (fun dr => (slFGWbt_26.build (cells := #[(.int .i64 y13)]) (by decide) rfl (by kernel_rfl)).trans (by rw [e16, e17]; rfl)) trivial ?_ trivial
  refine s_ef (d := some 21) rfl rfl rfl (fun dr => slFGWbt_26.append rfl rfl H) ?_ trivial
  rintro _ h6 ⟨s18, rfl, H⟩
  refine ⟨trivial, ?_⟩
  refine sp 3 (Sl.v s18) rfl rfl (r_assign rfl) ?_
  refine s_fin ?_
  refine W_region (.pu 0 (.pu 1 .fin)) rfl rfl ?_
  refine sp 22 (.int .i64 (w64 (x9 + 1))) rfl rfl (r_add rfl rfl) ?_
  refine sp 9 (.int .i64 (w64 (x9 + 1))) rfl rfl (r_move rfl) ?_
  refine s_fin ?_
  exact WL_mk (l := [(1, (.pointer (some p2))), (3, (Sl.v s18)), (8, (.int .i64 y7)), (9, (.int .i64 (w64 (x9 + 1))))]) H ⟨rfl, rfl, rfl, rfl, trivial⟩
 ·have H := H.2 g19
  refine W_exit (inX_here ?_)
  show W _ _ _ _ _ _ _ _
  refine W_seq ?_
  refine W_region (.pu 0 (.pu 1 .fin)) rfl rfl ?_
  refine sp 23 (Sl.v out8) rfl rfl (r_move rfl) ?_
  refine sp 2 (Sl.v out8) rfl rfl (r_assign rfl) ?_
  refine s_fin ?_
  refine W_ret ?_
  exact ⟨[(Sl.v out8)], ⟨_, _, rfl, rfl, rfl⟩, out8, rfl, H⟩
end Go.Proofs.YthkimbiknhebeaaGreatDoor
