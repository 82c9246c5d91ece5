/- Typed words of functions, and that they hold: printed by gen.py (an own tool of this claim) off the model's own form of each function. -/
import Derived.Test.YthkimbiknhebeaaGreatDoorProg
import Derived.Test.YthkimbiknhebeaaGreatDoorGFingC
namespace Go.Proofs.YthkimbiknhebeaaGreatDoor
open Go Go.RowKit Go.Tw
set_option linter.unusedVariables false
set_option maxRecDepth 100000
theorem slFGTree_26 : SlF Tryz.prog 26 3 1 8 (.int .i64 0) := ⟨Tryz.underlying26, ⟨Tryz.t3, by kernel_rfl, rfl, rfl, rfl⟩, rfl, Tryz.sizeOf3, Tryz.zeroValue3⟩
abbrev finger_Tree_PushRight (r : World) (t1 : Option Addr) (x2 : Int) (h : Heap) (R : Option Addr → Heap → Prop) : Prop :=
 CallsH Tryz.prog r 46 [(.agg #[(.pointer t1)]), (.int .i64 x2)] h fun v h' => ∃ (y3 : Option Addr), v = (.agg #[(.pointer y3)]) ∧ R y3 h'
abbrev finger_Tree_PopLeft (r : World) (t1 : Option Addr) (h : Heap) (R : Int → Option Addr → Bool → Heap → Prop) : Prop :=
 CallsH Tryz.prog r 48 [(.agg #[(.pointer t1)])] h fun v h' => ∃ (y2 : Int) (y3 : Option Addr) (y4 : Bool), v = (.tuple #[(.int .i64 y2), (.agg #[(.pointer y3)]), (.bool y4)]) ∧ R y2 y3 y4 h'
abbrev finger_Tree_Join (r : World) (t1 : Option Addr) (u2 : Option Addr) (h : Heap) (R : Option Addr → Heap → Prop) : Prop :=
 CallsH Tryz.prog r 47 [(.agg #[(.pointer t1)]), (.agg #[(.pointer u2)])] h fun v h' => ∃ (y3 : Option Addr), v = (.agg #[(.pointer y3)]) ∧ R y3 h'
abbrev finger_Tree_Measure (r : World) (t1 : Option Addr) (h : Heap) (R : Int → Int → Int → Int → Int → Heap → Prop) : Prop :=
 CallsH Tryz.prog r 49 [(.agg #[(.pointer t1)])] h fun v h' => ∃ (y2 : Int) (y3 : Int) (y4 : Int) (y5 : Int) (y6 : Int), v = (.agg #[(.int .i64 y2), (.int .i64 y3), (.int .i64 y4), (.int .i64 y5), (.int .i64 y6)]) ∧ R y2 y3 y4 y5 y6 h'
abbrev finger_Tree_Split (r : World) (t1 : Option Addr) (p2 : Value) (h : Heap) (R : Option Addr → Option Addr → Heap → Prop) : Prop :=
 CallsH Tryz.prog r 66 [(.agg #[(.pointer t1)]), p2] h fun v h' => ∃ (y3 : Option Addr) (y4 : Option Addr), v = (.tuple #[(.agg #[(.pointer y3)]), (.agg #[(.pointer y4)])]) ∧ R y3 y4 h'
abbrev finger_Tree_Ints (r : World) (t1 : Option Addr) (h : Heap) (R : Sl → Heap → Prop) : Prop :=
 CallsH Tryz.prog r 57 [(.agg #[(.pointer t1)])] h fun v h' => ∃ (y2 : Sl), v = (Sl.v y2) ∧ R y2 h'
abbrev finger_Tree_Ints_1 (r : World) (l1 : Sl) (c2 : Addr) (c3 : Addr) (h : Heap) (R : Heap → Prop) : Prop :=
 CallsH Tryz.prog r 82 [(Sl.v l1), (.pointer (some c2)), (.pointer (some c3))] h fun v h' => v = (.tuple #[]) ∧ R  h'
abbrev finger_Tree_Ints_2 (r : World) (v1 : Option Addr) (c2 : Addr) (c3 : Addr) (h : Heap) (R : Heap → Prop) : Prop :=
 CallsH Tryz.prog r 83 [(.pointer v1), (.pointer (some c2)), (.pointer (some c3))] h fun v h' => v = (.tuple #[]) ∧ R  h'
def finger_Tree_PushRight_F (r : World) (t1 : Option Addr) (x2 : Int) (h : Heap) (R : Option Addr → Heap → Prop) : Prop :=
 New h (.cells #[(.pointer t1)] 39) fun p3 h1 =>
 New h1 (.cells #[(.pointer none)] 39) fun p6 h2 =>
 LdP h2 (Addr.add p3 0) fun x9 =>
 finger_number r x2 h2 fun y11 h3 =>
 (hcell h3 (Addr.add p3 0) = some (.pointer x9)) ∧
 finger_pushRight r x9 y11 h3 fun y13 h4 =>
 St h4 p6 1 [(.pointer y13)] fun h5 =>
 LdP h5 (Addr.add p6 0) fun x16 =>
 R x16 h5
theorem finger_Tree_PushRight_of {r : World} {t1 : Option Addr} {x2 : Int} {h : Heap} {R : Option Addr → Heap → Prop} (H : finger_Tree_PushRight_F r t1 x2 h R) : finger_Tree_PushRight r t1 x2 h R := by
 unfold finger_Tree_PushRight_F at H
 refine calls_of 11 [.cell 4 39] Tryz.func46 rfl rfl rfl rfl rfl ?_
 refine W_seq ?_
 refine W_region (.ef 0 [] (.ef 1 [] .fin .no) .no) rfl rfl ?_
 obtain ⟨p3, e4⟩ : ∃ p : Addr, p = ⟨h.size, 0, none⟩ := ⟨_, rfl⟩
 obtain ⟨h1, e5⟩ : ∃ hh : Heap, hh = h.push (.cells #[(.pointer t1)] 39) := ⟨_, rfl⟩
 have H := H p3 h1 e4 e5
 refine s_ef1 (d := some 2) (v := (.pointer (some p3))) (h' := h1) rfl rfl rfl (fun dr => (r_box (v := (.agg #[(.pointer t1)])) rfl).trans (by rw [e4, e5]; rfl)) trivial ?_ trivial
 obtain ⟨p6, e7⟩ : ∃ p : Addr, p = ⟨h1.size, 0, none⟩ := ⟨_, rfl⟩
 obtain ⟨h2, e8⟩ : ∃ hh : Heap, hh = h1.push (.cells #[(.pointer none)] 39) := ⟨_, rfl⟩
 have H := H p6 h2 e7 e8
 refine s_ef1 (d := some 4) (v := (.pointer (some p6))) (h' := h2) rfl rfl rfl (fun dr => (r_alloc Tryz.zeroValue39).trans (by rw [e7, e8]; rfl)) trivial ?_ trivial
 refine s_fin ?_
 refine W_seq ?_
 refine W_draw [0, 1, 0, 4, 15, 31, 63] (.pu 0 (.rd 1 (.pu 2 (.ef 3 [] (.ef 4 [1] (.pu 5 (.ef 6 [1] .fin .no)) .no) .no)))) (by kernel_rfl) (by kernel_rfl) ?_
 refine sp 5 (.pointer (some (Addr.add p3 0))) rfl rfl (r_fieldAddr Tryz.underlying39 Tryz.sizeOf37 rfl rfl rfl) ?_
 obtain ⟨x9, e10, H⟩ := H
 refine s_rd (d := some 6) (v := (.pointer x9)) rfl rfl rfl (fun dr => r_load1 Tryz.isAgg37 rfl e10) ?_
 refine sp 7 (.int .i64 x2) rfl rfl (r_move rfl) ?_
 refine s_ef (d := some 8) rfl rfl rfl (fun dr => r_call Tryz.call69 rfl rfl H) ?_ trivial
 rintro _ h3 ⟨y11, rfl, H⟩
 obtain ⟨e12, H⟩ := H
 refine ⟨⟨(.inl ⟨rfl, fun dr => r_load1 Tryz.isAgg37 rfl e12⟩), trivial⟩, ?_⟩
 refine s_ef (d := some 9) rfl rfl rfl (fun dr => r_call Tryz.call68 rfl rfl H) ?_ trivial
 rintro _ h4 ⟨y13, rfl, H⟩
 refine ⟨⟨trivial, trivial⟩, ?_⟩
 refine sp 10 (.agg #[(.pointer y13)]) rfl rfl (fun w => by kernel_rfl) ?_
 obtain ⟨e15, H⟩ := H
 obtain ⟨h5, e14⟩ : ∃ hh : Heap, hh = hsets h4 p6 0 [(.pointer y13)] := ⟨_, rfl⟩
 have H := H h5 e14
 refine s_st (d := none) (h' := h5) rfl rfl rfl (fun dr => (r_store (v := (.agg #[(.pointer y13)])) Tryz.sizeOf39 rfl rfl rfl (one_all rfl) e15).trans (by rw [e14]; rfl)) ⟨trivial, trivial⟩ ?_ trivial
 refine s_fin ?_
 refine W_ret ?_
 obtain ⟨x16, e17, H⟩ := H
 exact ⟨[(.agg #[(.pointer x16)])], ⟨_, _, _, rfl, rfl, fun dr => run_loadVarN Tryz.isAgg39 Tryz.sizeOf39 (vs := [(.pointer x16)]) rfl ⟨e17, trivial⟩, rfl⟩, x16, rfl, H⟩
def finger_Tree_PopLeft_F (r : World) (t1 : Option Addr) (h : Heap) (R : Int → Option Addr → Bool → Heap → Prop) : Prop :=
 New h (.cells #[(.pointer t1)] 39) fun p2 h1 =>
 New h1 (.cells #[(.pointer none)] 39) fun p5 h2 =>
 LdP h2 (Addr.add p2 0) fun x8 =>
 Br (Option.isNone x8) (
  St h2 p5 1 [(.pointer none)] fun h3 =>
  LdP h3 (Addr.add p5 0) fun x12 =>
  R 0 x12 false h3) (
  LdP h2 (Addr.add p2 0) fun x14 =>
  finger_popLeft r x14 h2 fun y16 y17 h4 =>
  Ck y16 fun p18 =>
  LdI h4 (Addr.add p18 5) fun x20 =>
  St h4 p5 1 [(.pointer y17)] fun h5 =>
  LdP h5 (Addr.add p5 0) fun x24 =>
  R x20 x24 true h5)
theorem finger_Tree_PopLeft_of {r : World} {t1 : Option Addr} {h : Heap} {R : Int → Option Addr → Bool → Heap → Prop} (H : finger_Tree_PopLeft_F r t1 h R) : finger_Tree_PopLeft r t1 h R := by
 unfold finger_Tree_PopLeft_F at H
 refine calls_of 23 [.tmp 2, .cell 3 39, .tmp 4] Tryz.func48 rfl rfl rfl rfl rfl ?_
 refine W_seq ?_
 refine W_region (.ef 0 [] (.pu 1 (.ef 2 [] (.pu 3 .fin) .no)) .no) rfl rfl ?_
 obtain ⟨p2, e3⟩ : ∃ p : Addr, p = ⟨h.size, 0, none⟩ := ⟨_, rfl⟩
 obtain ⟨h1, e4⟩ : ∃ hh : Heap, hh = h.push (.cells #[(.pointer t1)] 39) := ⟨_, rfl⟩
 have H := H p2 h1 e3 e4
 refine s_ef1 (d := some 1) (v := (.pointer (some p2))) (h' := h1) rfl rfl rfl (fun dr => (r_box (v := (.agg #[(.pointer t1)])) rfl).trans (by rw [e3, e4]; rfl)) trivial ?_ trivial
 refine sp 2 (.int .i64 0) rfl rfl (r_assign rfl) ?_
 obtain ⟨p5, e6⟩ : ∃ p : Addr, p = ⟨h1.size, 0, none⟩ := ⟨_, rfl⟩
 obtain ⟨h2, e7⟩ : ∃ hh : Heap, hh = h1.push (.cells #[(.pointer none)] 39) := ⟨_, rfl⟩
 have H := H p5 h2 e6 e7
 refine s_ef1 (d := some 3) (v := (.pointer (some p5))) (h' := h2) rfl rfl rfl (fun dr => (r_alloc Tryz.zeroValue39).trans (by rw [e6, e7]; rfl)) trivial ?_ trivial
 refine sp 4 (.bool false) rfl rfl (r_assign rfl) ?_
 refine s_fin ?_
 refine W_seq ?_
 refine W_seq ?_
 refine W_region (.pu 0 (.rl 1 (.pu 2 .fin))) rfl rfl ?_
 refine sp 7 (.pointer (some (Addr.add p2 0))) rfl rfl (r_fieldAddr Tryz.underlying39 Tryz.sizeOf37 rfl rfl rfl) ?_
 obtain ⟨x8, e9, H⟩ := H
 refine sl 8 (.pointer x8) rfl rfl (fun dr => r_load1 Tryz.isAgg37 rfl e9) ?_
 refine sp 9 (.bool (Option.isNone x8)) rfl rfl (r_nilP Tryz.underlying37 rfl rfl) ?_
 refine s_fin ?_
 refine W_if (Option.isNone x8) rfl (fun g26 => ?_) (fun g26 => ?_)
 ·have H := H.1 g26
  refine W_seq ?_
  refine W_region (.pu 0 (.pu 1 (.ef 2 [] (.pu 3 .fin) .no))) rfl rfl ?_
  refine sp 10 (.agg #[(.pointer none)]) rfl rfl (fun w => by kernel_rfl) ?_
  refine sp 2 (.int .i64 0) rfl rfl (r_assign rfl) ?_
  obtain ⟨e11, H⟩ := H
  obtain ⟨h3, e10⟩ : ∃ hh : Heap, hh = hsets h2 p5 0 [(.pointer none)] := ⟨_, rfl⟩
  have H := H h3 e10
  refine s_st (d := none) (h' := h3) rfl rfl rfl (fun dr => (r_store (v := (.agg #[(.pointer none)])) Tryz.sizeOf39 rfl rfl rfl (one_all rfl) e11).trans (by rw [e10]; rfl)) trivial ?_ trivial
  refine sp 4 (.bool false) rfl rfl (r_assign rfl) ?_
  refine s_fin ?_
  refine W_ret ?_
  obtain ⟨x12, e13, H⟩ := H
  exact ⟨[(.int .i64 0), (.agg #[(.pointer x12)]), (.bool false)], ⟨_, _, rfl, rfl, ⟨_, _, _, rfl, rfl, fun dr => run_loadVarN Tryz.isAgg39 Tryz.sizeOf39 (vs := [(.pointer x12)]) rfl ⟨e13, trivial⟩, ⟨_, _, rfl, rfl, rfl⟩⟩⟩, 0, x12, false, rfl, H⟩
 ·have H := H.2 g26
  refine W_skip ?_
  show W _ _ _ _ _ _ _ _
  refine W_seq ?_
  refine W_region (.pu 0 (.rl 1 (.ef 2 [] (.pu 3 (.pu 4 (.pu 5 (.pu 6 (.pu 7 .fin))))) .no))) rfl rfl ?_
  refine sp 12 (.pointer (some (Addr.add p2 0))) rfl rfl (r_fieldAddr Tryz.underlying39 Tryz.sizeOf37 rfl rfl rfl) ?_
  obtain ⟨x14, e15, H⟩ := H
  refine sl 13 (.pointer x14) rfl rfl (fun dr => r_load1 Tryz.isAgg37 rfl e15) ?_
  refine sc 14 rfl rfl (fun dr => r_call Tryz.call71 rfl rfl H) ?_
  rintro _ h4 ⟨y16, y17, rfl, H⟩
  refine sp 11 (.tuple #[(.pointer y16), (.pointer y17)]) rfl rfl (r_move rfl) ?_
  refine sp 15 (.pointer y16) rfl rfl (r_extract rfl rfl) ?_
  refine sp 16 (.pointer y17) rfl rfl (r_extract rfl rfl) ?_
  refine sp 5 (.pointer y16) rfl rfl (r_assign rfl) ?_
  refine sp 6 (.pointer y17) rfl rfl (r_assign rfl) ?_
  refine s_fin ?_
  refine W_seq ?_
  refine W_region (.pu 0 (.pu 1 (.pu 2 (.rl 3 (.pu 4 (.pu 5 (.pu 6 (.ef 7 [] (.pu 8 .fin) .no)))))))) rfl rfl ?_
  refine sp 17 (.pointer y16) rfl rfl (r_move rfl) ?_
  obtain ⟨p18, e19, H⟩ := H
  refine sp 18 (.pointer (some p18)) rfl rfl (r_nilCheck rfl e19) ?_
  refine sp 19 (.pointer (some (Addr.add p18 5))) rfl rfl (r_fieldAddr Tryz.underlying115 Tryz.sizeOf3 rfl rfl rfl) ?_
  obtain ⟨x20, e21, H⟩ := H
  refine sl 20 (.int .i64 x20) rfl rfl (fun dr => r_load1 Tryz.isAgg3 rfl e21) ?_
  refine sp 21 (.pointer y17) rfl rfl (r_move rfl) ?_
  refine sp 22 (.agg #[(.pointer y17)]) rfl rfl (fun w => by kernel_rfl) ?_
  refine sp 2 (.int .i64 x20) rfl rfl (r_assign rfl) ?_
  obtain ⟨e23, H⟩ := H
  obtain ⟨h5, e22⟩ : ∃ hh : Heap, hh = hsets h4 p5 0 [(.pointer y17)] := ⟨_, rfl⟩
  have H := H h5 e22
  refine s_st (d := none) (h' := h5) rfl rfl rfl (fun dr => (r_store (v := (.agg #[(.pointer y17)])) Tryz.sizeOf39 rfl rfl rfl (one_all rfl) e23).trans (by rw [e22]; rfl)) trivial ?_ trivial
  refine sp 4 (.bool true) rfl rfl (r_assign rfl) ?_
  refine s_fin ?_
  refine W_ret ?_
  obtain ⟨x24, e25, H⟩ := H
  exact ⟨[(.int .i64 x20), (.agg #[(.pointer x24)]), (.bool true)], ⟨_, _, rfl, rfl, ⟨_, _, _, rfl, rfl, fun dr => run_loadVarN Tryz.isAgg39 Tryz.sizeOf39 (vs := [(.pointer x24)]) rfl ⟨e25, trivial⟩, ⟨_, _, rfl, rfl, rfl⟩⟩⟩, x20, x24, true, rfl, H⟩
def finger_Tree_Join_F (r : World) (t1 : Option Addr) (u2 : Option Addr) (h : Heap) (R : Option Addr → Heap → Prop) : Prop :=
 New h (.cells #[(.pointer t1)] 39) fun p3 h1 =>
 New h1 (.cells #[(.pointer u2)] 39) fun p6 h2 =>
 New h2 (.cells #[(.pointer none)] 39) fun p9 h3 =>
 LdP h3 (Addr.add p3 0) fun x12 =>
 LdP h3 (Addr.add p6 0) fun x14 =>
 finger_joined r x12 Sl.nil x14 h3 fun y16 h4 =>
 St h4 p9 1 [(.pointer y16)] fun h5 =>
 LdP h5 (Addr.add p9 0) fun x19 =>
 R x19 h5
theorem finger_Tree_Join_of {r : World} {t1 : Option Addr} {u2 : Option Addr} {h : Heap} {R : Option Addr → Heap → Prop} (H : finger_Tree_Join_F r t1 u2 h R) : finger_Tree_Join r t1 u2 h R := by
 unfold finger_Tree_Join_F at H
 refine calls_of 11 [.cell 4 39] Tryz.func47 rfl rfl rfl rfl rfl ?_
 refine W_seq ?_
 refine W_region (.ef 0 [] (.ef 1 [] (.ef 2 [] .fin .no) .no) .no) rfl rfl ?_
 obtain ⟨p3, e4⟩ : ∃ p : Addr, p = ⟨h.size, 0, none⟩ := ⟨_, rfl⟩
 obtain ⟨h1, e5⟩ : ∃ hh : Heap, hh = h.push (.cells #[(.pointer t1)] 39) := ⟨_, rfl⟩
 have H := H p3 h1 e4 e5
 refine s_ef1 (d := some 2) (v := (.pointer (some p3))) (h' := h1) rfl rfl rfl (fun dr => (r_box (v := (.agg #[(.pointer t1)])) rfl).trans (by rw [e4, e5]; rfl)) trivial ?_ trivial
 obtain ⟨p6, e7⟩ : ∃ p : Addr, p = ⟨h1.size, 0, none⟩ := ⟨_, rfl⟩
 obtain ⟨h2, e8⟩ : ∃ hh : Heap, hh = h1.push (.cells #[(.pointer u2)] 39) := ⟨_, rfl⟩
 have H := H p6 h2 e7 e8
 refine s_ef1 (d := some 3) (v := (.pointer (some p6))) (h' := h2) rfl rfl rfl (fun dr => (r_box (v := (.agg #[(.pointer u2)])) rfl).trans (by rw [e7, e8]; rfl)) trivial ?_ trivial
 obtain ⟨p9, e10⟩ : ∃ p : Addr, p = ⟨h2.size, 0, none⟩ := ⟨_, rfl⟩
 obtain ⟨h3, e11⟩ : ∃ hh : Heap, hh = h2.push (.cells #[(.pointer none)] 39) := ⟨_, rfl⟩
 have H := H p9 h3 e10 e11
 refine s_ef1 (d := some 4) (v := (.pointer (some p9))) (h' := h3) rfl rfl rfl (fun dr => (r_alloc Tryz.zeroValue39).trans (by rw [e10, e11]; rfl)) trivial ?_ trivial
 refine s_fin ?_
 refine W_seq ?_
 refine W_region (.pu 0 (.rl 1 (.pu 2 (.rl 3 (.ef 4 [] (.pu 5 (.ef 6 [] .fin .no)) .no))))) rfl rfl ?_
 refine sp 5 (.pointer (some (Addr.add p3 0))) rfl rfl (r_fieldAddr Tryz.underlying39 Tryz.sizeOf37 rfl rfl rfl) ?_
 obtain ⟨x12, e13, H⟩ := H
 refine sl 6 (.pointer x12) rfl rfl (fun dr => r_load1 Tryz.isAgg37 rfl e13) ?_
 refine sp 7 (.pointer (some (Addr.add p6 0))) rfl rfl (r_fieldAddr Tryz.underlying39 Tryz.sizeOf37 rfl rfl rfl) ?_
 obtain ⟨x14, e15, H⟩ := H
 refine sl 8 (.pointer x14) rfl rfl (fun dr => r_load1 Tryz.isAgg37 rfl e15) ?_
 refine sc 9 rfl rfl (fun dr => r_call Tryz.call70 rfl rfl H) ?_
 rintro _ h4 ⟨y16, rfl, H⟩
 refine sp 10 (.agg #[(.pointer y16)]) rfl rfl (fun w => by kernel_rfl) ?_
 obtain ⟨e18, H⟩ := H
 obtain ⟨h5, e17⟩ : ∃ hh : Heap, hh = hsets h4 p9 0 [(.pointer y16)] := ⟨_, rfl⟩
 have H := H h5 e17
 refine s_st (d := none) (h' := h5) rfl rfl rfl (fun dr => (r_store (v := (.agg #[(.pointer y16)])) Tryz.sizeOf39 rfl rfl rfl (one_all rfl) e18).trans (by rw [e17]; rfl)) trivial ?_ trivial
 refine s_fin ?_
 refine W_ret ?_
 obtain ⟨x19, e20, H⟩ := H
 exact ⟨[(.agg #[(.pointer x19)])], ⟨_, _, _, rfl, rfl, fun dr => run_loadVarN Tryz.isAgg39 Tryz.sizeOf39 (vs := [(.pointer x19)]) rfl ⟨e20, trivial⟩, rfl⟩, x19, rfl, H⟩
def finger_Tree_Measure_F (r : World) (t1 : Option Addr) (h : Heap) (R : Int → Int → Int → Int → Int → Heap → Prop) : Prop :=
 New h (.cells #[(.pointer t1)] 39) fun p2 h1 =>
 New h1 (.cells #[(.int .i64 0), (.int .i64 0), (.int .i64 0), (.int .i64 0), (.int .i64 0)] 66) fun p5 h2 =>
 LdP h2 (Addr.add p2 0) fun x8 =>
 finger_level_measure r x8 h2 fun y10 y11 y12 y13 y14 h3 =>
 St h3 p5 5 [(.int .i64 y10), (.int .i64 y11), (.int .i64 y12), (.int .i64 y13), (.int .i64 y14)] fun h4 =>
 LdI h4 (Addr.add p5 0) fun x17 =>
 LdI h4 (Addr.add p5 1) fun x19 =>
 LdI h4 (Addr.add p5 2) fun x21 =>
 LdI h4 (Addr.add p5 3) fun x23 =>
 LdI h4 (Addr.add p5 4) fun x25 =>
 R x17 x19 x21 x23 x25 h4
theorem finger_Tree_Measure_of {r : World} {t1 : Option Addr} {h : Heap} {R : Int → Int → Int → Int → Int → Heap → Prop} (H : finger_Tree_Measure_F r t1 h R) : finger_Tree_Measure r t1 h R := by
 unfold finger_Tree_Measure_F at H
 refine calls_of 6 [.cell 2 66] Tryz.func49 rfl rfl rfl rfl rfl ?_
 refine W_seq ?_
 refine W_region (.ef 0 [] (.ef 1 [] .fin .no) .no) rfl rfl ?_
 obtain ⟨p2, e3⟩ : ∃ p : Addr, p = ⟨h.size, 0, none⟩ := ⟨_, rfl⟩
 obtain ⟨h1, e4⟩ : ∃ hh : Heap, hh = h.push (.cells #[(.pointer t1)] 39) := ⟨_, rfl⟩
 have H := H p2 h1 e3 e4
 refine s_ef1 (d := some 1) (v := (.pointer (some p2))) (h' := h1) rfl rfl rfl (fun dr => (r_box (v := (.agg #[(.pointer t1)])) rfl).trans (by rw [e3, e4]; rfl)) trivial ?_ trivial
 obtain ⟨p5, e6⟩ : ∃ p : Addr, p = ⟨h1.size, 0, none⟩ := ⟨_, rfl⟩
 obtain ⟨h2, e7⟩ : ∃ hh : Heap, hh = h1.push (.cells #[(.int .i64 0), (.int .i64 0), (.int .i64 0), (.int .i64 0), (.int .i64 0)] 66) := ⟨_, rfl⟩
 have H := H p5 h2 e6 e7
 refine s_ef1 (d := some 2) (v := (.pointer (some p5))) (h' := h2) rfl rfl rfl (fun dr => (r_alloc Tryz.zeroValue66).trans (by rw [e6, e7]; rfl)) trivial ?_ trivial
 refine s_fin ?_
 refine W_seq ?_
 refine W_region (.pu 0 (.rl 1 (.ef 2 [] (.ef 3 [] .fin .no) .no))) rfl rfl ?_
 refine sp 3 (.pointer (some (Addr.add p2 0))) rfl rfl (r_fieldAddr Tryz.underlying39 Tryz.sizeOf37 rfl rfl rfl) ?_
 obtain ⟨x8, e9, H⟩ := H
 refine sl 4 (.pointer x8) rfl rfl (fun dr => r_load1 Tryz.isAgg37 rfl e9) ?_
 refine sc 5 rfl rfl (fun dr => r_call Tryz.call72 rfl rfl H) ?_
 rintro _ h3 ⟨y10, y11, y12, y13, y14, rfl, H⟩
 obtain ⟨e16, H⟩ := H
 obtain ⟨h4, e15⟩ : ∃ hh : Heap, hh = hsets h3 p5 0 [(.int .i64 y10), (.int .i64 y11), (.int .i64 y12), (.int .i64 y13), (.int .i64 y14)] := ⟨_, rfl⟩
 have H := H h4 e15
 refine s_st (d := none) (h' := h4) rfl rfl rfl (fun dr => (r_store (v := (.agg #[(.int .i64 y10), (.int .i64 y11), (.int .i64 y12), (.int .i64 y13), (.int .i64 y14)])) Tryz.sizeOf66 rfl rfl rfl (one_all rfl) e16).trans (by rw [e15]; rfl)) trivial ?_ trivial
 refine s_fin ?_
 refine W_ret ?_
 obtain ⟨x17, e18, H⟩ := H
 obtain ⟨x19, e20, H⟩ := H
 obtain ⟨x21, e22, H⟩ := H
 obtain ⟨x23, e24, H⟩ := H
 obtain ⟨x25, e26, H⟩ := H
 exact ⟨[(.agg #[(.int .i64 x17), (.int .i64 x19), (.int .i64 x21), (.int .i64 x23), (.int .i64 x25)])], ⟨_, _, _, rfl, rfl, fun dr => run_loadVarN Tryz.isAgg66 Tryz.sizeOf66 (vs := [(.int .i64 x17), (.int .i64 x19), (.int .i64 x21), (.int .i64 x23), (.int .i64 x25)]) rfl ⟨e18, e20, e22, e24, e26, trivial⟩, rfl⟩, x17, x19, x21, x23, x25, rfl, H⟩
def finger_Tree_Split_F (r : World) (t1 : Option Addr) (p2 : Value) (h : Heap) (R : Option Addr → Option Addr → Heap → Prop) : Prop :=
 New h (.cells #[(.pointer t1)] 39) fun p3 h1 =>
 New h1 (.cells #[(.pointer none)] 39) fun p6 h2 =>
 New h2 (.cells #[(.pointer none)] 39) fun p9 h3 =>
 ∀ J13 : Bool → Heap → Prop, (∀ (x12 : Bool) (h4 : Heap),
  (Br x12 (
   LdP h4 (Addr.add p3 0) fun x15 =>
   St h4 p6 1 [(.pointer x15)] fun h5 =>
   St h5 p9 1 [(.pointer none)] fun h6 =>
   LdP h6 (Addr.add p6 0) fun x21 =>
   LdP h6 (Addr.add p9 0) fun x23 =>
   R x21 x23 h6) (
   mono_None r h4 fun y25 y26 y27 y28 y29 h7 =>
   CallV Tryz.prog r p2 [(.agg #[(.int .i64 y25), (.int .i64 y26), (.int .i64 y27), (.int .i64 y28), (.int .i64 y29)])] h7 fun v63 h8 => ∃ (y30 : Bool), v63 = (.bool y30) ∧
   Br y30 (
    LdP h8 (Addr.add p3 0) fun x31 =>
    St h8 p6 1 [(.pointer none)] fun h9 =>
    (hcell h9 (Addr.add p3 0) = some (.pointer x31)) ∧
    St h9 p9 1 [(.pointer x31)] fun h10 =>
    LdP h10 (Addr.add p6 0) fun x38 =>
    LdP h10 (Addr.add p9 0) fun x40 =>
    R x38 x40 h10) (
    LdP h8 (Addr.add p3 0) fun x42 =>
    mono_None r h8 fun y44 y45 y46 y47 y48 h11 =>
    (hcell h11 (Addr.add p3 0) = some (.pointer x42)) ∧
    finger_asker_cut r p2 y44 y45 y46 y47 y48 x42 h11 fun y50 y51 y52 h12 =>
    finger_pushLeft r y51 y52 h12 fun y53 h13 =>
    St h13 p6 1 [(.pointer y50)] fun h14 =>
    St h14 p9 1 [(.pointer y53)] fun h15 =>
    LdP h15 (Addr.add p6 0) fun x58 =>
    LdP h15 (Addr.add p9 0) fun x60 =>
    R x58 x60 h15))) →
  J13 x12 h4) →
 LdP h3 (Addr.add p3 0) fun x65 =>
 Br (Option.isNone x65) (
  J13 true h3) (
  LdP h3 (Addr.add p3 0) fun x68 =>
  Ck x68 fun p70 =>
  LdI h3 (Addr.add (Addr.add p70 0) 0) fun x72 =>
  LdI h3 (Addr.add (Addr.add p70 0) 1) fun x74 =>
  LdI h3 (Addr.add (Addr.add p70 0) 2) fun x76 =>
  LdI h3 (Addr.add (Addr.add p70 0) 3) fun x78 =>
  LdI h3 (Addr.add (Addr.add p70 0) 4) fun x80 =>
  CallV Tryz.prog r p2 [(.agg #[(.int .i64 x72), (.int .i64 x74), (.int .i64 x76), (.int .i64 x78), (.int .i64 x80)])] h3 fun v83 h16 => ∃ (y82 : Bool), v83 = (.bool y82) ∧
  J13 (!y82) h16)
theorem finger_Tree_Split_of {r : World} {t1 : Option Addr} {p2 : Value} {h : Heap} {R : Option Addr → Option Addr → Heap → Prop} (H : finger_Tree_Split_F r t1 p2 h R) : finger_Tree_Split r t1 p2 h R := by
 unfold finger_Tree_Split_F at H
 refine calls_of 44 [.cell 4 39, .cell 5 39] Tryz.func66 rfl rfl rfl rfl rfl ?_
 refine W_seq ?_
 refine W_region (.ef 0 [] (.ef 1 [] (.ef 2 [] .fin .no) .no) .no) rfl rfl ?_
 obtain ⟨p3, e4⟩ : ∃ p : Addr, p = ⟨h.size, 0, none⟩ := ⟨_, rfl⟩
 obtain ⟨h1, e5⟩ : ∃ hh : Heap, hh = h.push (.cells #[(.pointer t1)] 39) := ⟨_, rfl⟩
 have H := H p3 h1 e4 e5
 refine s_ef1 (d := some 2) (v := (.pointer (some p3))) (h' := h1) rfl rfl rfl (fun dr => (r_box (v := (.agg #[(.pointer t1)])) rfl).trans (by rw [e4, e5]; rfl)) trivial ?_ trivial
 obtain ⟨p6, e7⟩ : ∃ p : Addr, p = ⟨h1.size, 0, none⟩ := ⟨_, rfl⟩
 obtain ⟨h2, e8⟩ : ∃ hh : Heap, hh = h1.push (.cells #[(.pointer none)] 39) := ⟨_, rfl⟩
 have H := H p6 h2 e7 e8
 refine s_ef1 (d := some 4) (v := (.pointer (some p6))) (h' := h2) rfl rfl rfl (fun dr => (r_alloc Tryz.zeroValue39).trans (by rw [e7, e8]; rfl)) trivial ?_ trivial
 obtain ⟨p9, e10⟩ : ∃ p : Addr, p = ⟨h2.size, 0, none⟩ := ⟨_, rfl⟩
 obtain ⟨h3, e11⟩ : ∃ hh : Heap, hh = h2.push (.cells #[(.pointer none)] 39) := ⟨_, rfl⟩
 have H := H p9 h3 e10 e11
 refine s_ef1 (d := some 5) (v := (.pointer (some p9))) (h' := h3) rfl rfl rfl (fun dr => (r_alloc Tryz.zeroValue39).trans (by rw [e10, e11]; rfl)) trivial ?_ trivial
 refine s_fin ?_
 refine W_seq ?_
 refine W_seq ?_
 refine W_set ?_
 intro N14 eN14
 have H := H (fun (x12 : Bool) (h4 : Heap) => ∀ b, N14 [] (mkE [(1, p2), (2, (.pointer (some p3))), (4, (.pointer (some p6))), (5, (.pointer (some p9))), (21, (.bool x12))] b) h4) (by
  intro x12 h4 H b
  rw [eN14]
  show W _ _ _ _ _ _ _ _
  refine W_if x12 rfl (fun g64 => ?_) (fun g64 => ?_)
  ·have H := H.1 g64
   refine W_seq ?_
   refine W_region (.rl 0 (.pu 1 (.ef 2 [] (.ef 3 [] .fin .no) .no))) rfl rfl ?_
   obtain ⟨x15, e16, H⟩ := H
   refine sl 22 (.agg #[(.pointer x15)]) rfl rfl (fun dr => r_loadN Tryz.isAgg39 Tryz.sizeOf39 (vs := [(.pointer x15)]) rfl rfl ⟨e16, trivial⟩) ?_
   refine sp 23 (.agg #[(.pointer none)]) rfl rfl (fun w => by kernel_rfl) ?_
   obtain ⟨e18, H⟩ := H
   obtain ⟨h5, e17⟩ : ∃ hh : Heap, hh = hsets h4 p6 0 [(.pointer x15)] := ⟨_, rfl⟩
   have H := H h5 e17
   refine s_st (d := none) (h' := h5) rfl rfl rfl (fun dr => (r_store (v := (.agg #[(.pointer x15)])) Tryz.sizeOf39 rfl rfl rfl (one_all rfl) e18).trans (by rw [e17]; rfl)) trivial ?_ trivial
   obtain ⟨e20, H⟩ := H
   obtain ⟨h6, e19⟩ : ∃ hh : Heap, hh = hsets h5 p9 0 [(.pointer none)] := ⟨_, rfl⟩
   have H := H h6 e19
   refine s_st (d := none) (h' := h6) rfl rfl rfl (fun dr => (r_store (v := (.agg #[(.pointer none)])) Tryz.sizeOf39 rfl rfl rfl (one_all rfl) e20).trans (by rw [e19]; rfl)) trivial ?_ trivial
   refine s_fin ?_
   refine W_ret ?_
   obtain ⟨x21, e22, H⟩ := H
   obtain ⟨x23, e24, H⟩ := H
   exact ⟨[(.agg #[(.pointer x21)]), (.agg #[(.pointer x23)])], ⟨_, _, _, rfl, rfl, fun dr => run_loadVarN Tryz.isAgg39 Tryz.sizeOf39 (vs := [(.pointer x21)]) rfl ⟨e22, trivial⟩, ⟨_, _, _, rfl, rfl, fun dr => run_loadVarN Tryz.isAgg39 Tryz.sizeOf39 (vs := [(.pointer x23)]) rfl ⟨e24, trivial⟩, rfl⟩⟩, x21, x23, rfl, H⟩
  ·have H := H.2 g64
   refine W_skip ?_
   show W _ _ _ _ _ _ _ _
   refine W_seq ?_
   refine W_seq ?_
   refine W_region (.pu 0 (.ef 1 [] (.ef 2 [] .fin .no) .no)) rfl rfl ?_
   refine sp 24 p2 rfl rfl (r_move rfl) ?_
   refine sc 25 rfl rfl (fun dr => r_call Tryz.call94 rfl rfl H) ?_
   rintro _ h7 ⟨y25, y26, y27, y28, y29, rfl, H⟩
   refine s_ef (d := some 26) rfl rfl rfl (fun dr => r_callV rfl rfl H) ?_ trivial
   rintro _ h8 ⟨y30, rfl, H⟩
   refine ⟨trivial, ?_⟩
   refine s_fin ?_
   refine W_if y30 rfl (fun g62 => ?_) (fun g62 => ?_)
   ·have H := H.1 g62
    refine W_seq ?_
    refine W_draw [0, 0, 1, 7] (.pu 0 (.rd 1 (.ef 2 [] (.ef 3 [1] .fin .no) .no))) (by kernel_rfl) (by kernel_rfl) ?_
    refine sp 27 (.agg #[(.pointer none)]) rfl rfl (fun w => by kernel_rfl) ?_
    obtain ⟨x31, e32, H⟩ := H
    refine s_rd (d := some 28) (v := (.agg #[(.pointer x31)])) rfl rfl rfl (fun dr => r_loadN Tryz.isAgg39 Tryz.sizeOf39 (vs := [(.pointer x31)]) rfl rfl ⟨e32, trivial⟩) ?_
    obtain ⟨e34, H⟩ := H
    obtain ⟨h9, e33⟩ : ∃ hh : Heap, hh = hsets h8 p6 0 [(.pointer none)] := ⟨_, rfl⟩
    have H := H h9 e33
    obtain ⟨e35, H⟩ := H
    refine s_st (d := none) (h' := h9) rfl rfl rfl (fun dr => (r_store (v := (.agg #[(.pointer none)])) Tryz.sizeOf39 rfl rfl rfl (one_all rfl) e34).trans (by rw [e33]; rfl)) ⟨(.inl ⟨rfl, fun dr => r_loadN Tryz.isAgg39 Tryz.sizeOf39 (vs := [(.pointer x31)]) rfl rfl ⟨e35, trivial⟩⟩), trivial⟩ ?_ trivial
    obtain ⟨e37, H⟩ := H
    obtain ⟨h10, e36⟩ : ∃ hh : Heap, hh = hsets h9 p9 0 [(.pointer x31)] := ⟨_, rfl⟩
    have H := H h10 e36
    refine s_st (d := none) (h' := h10) rfl rfl rfl (fun dr => (r_store (v := (.agg #[(.pointer x31)])) Tryz.sizeOf39 rfl rfl rfl (one_all rfl) e37).trans (by rw [e36]; rfl)) ⟨trivial, trivial⟩ ?_ trivial
    refine s_fin ?_
    refine W_ret ?_
    obtain ⟨x38, e39, H⟩ := H
    obtain ⟨x40, e41, H⟩ := H
    exact ⟨[(.agg #[(.pointer x38)]), (.agg #[(.pointer x40)])], ⟨_, _, _, rfl, rfl, fun dr => run_loadVarN Tryz.isAgg39 Tryz.sizeOf39 (vs := [(.pointer x38)]) rfl ⟨e39, trivial⟩, ⟨_, _, _, rfl, rfl, fun dr => run_loadVarN Tryz.isAgg39 Tryz.sizeOf39 (vs := [(.pointer x40)]) rfl ⟨e41, trivial⟩, rfl⟩⟩, x38, x40, rfl, H⟩
   ·have H := H.2 g62
    refine W_skip ?_
    show W _ _ _ _ _ _ _ _
    refine W_seq ?_
    refine W_draw [0, 0, 0, 4, 15, 31, 63, 63, 63, 127, 767, 2047] (.pu 0 (.pu 2 (.rd 3 (.ef 1 [] (.ef 4 [3] (.pu 5 (.pu 6 (.pu 7 (.pu 8 (.pu 9 (.pu 10 (.pu 11 .fin))))))) .no) .no)))) (by kernel_rfl) (by kernel_rfl) ?_
    refine sp 30 p2 rfl rfl (r_move rfl) ?_
    refine sp 32 (.pointer (some (Addr.add p3 0))) rfl rfl (r_fieldAddr Tryz.underlying39 Tryz.sizeOf37 rfl rfl rfl) ?_
    obtain ⟨x42, e43, H⟩ := H
    refine s_rd (d := some 33) (v := (.pointer x42)) rfl rfl rfl (fun dr => r_load1 Tryz.isAgg37 rfl e43) ?_
    refine s_ef (d := some 31) rfl rfl rfl (fun dr => r_call Tryz.call94 rfl rfl H) ?_ trivial
    rintro _ h11 ⟨y44, y45, y46, y47, y48, rfl, H⟩
    obtain ⟨e49, H⟩ := H
    refine ⟨⟨(.inl ⟨rfl, fun dr => r_load1 Tryz.isAgg37 rfl e49⟩), trivial⟩, ?_⟩
    refine s_ef (d := some 34) rfl rfl rfl (fun dr => r_call Tryz.call95 rfl rfl H) ?_ trivial
    rintro _ h12 ⟨y50, y51, y52, rfl, H⟩
    refine ⟨⟨trivial, trivial⟩, ?_⟩
    refine sp 29 (.tuple #[(.pointer y50), (.pointer y51), (.pointer y52)]) rfl rfl (r_move rfl) ?_
    refine sp 35 (.pointer y50) rfl rfl (r_extract rfl rfl) ?_
    refine sp 36 (.pointer y51) rfl rfl (r_extract rfl rfl) ?_
    refine sp 37 (.pointer y52) rfl rfl (r_extract rfl rfl) ?_
    refine sp 6 (.pointer y50) rfl rfl (r_assign rfl) ?_
    refine sp 7 (.pointer y51) rfl rfl (r_assign rfl) ?_
    refine sp 8 (.pointer y52) rfl rfl (r_assign rfl) ?_
    refine s_fin ?_
    refine W_seq ?_
    refine W_region (.pu 0 (.pu 1 (.pu 2 (.pu 3 (.ef 4 [] (.pu 5 (.ef 6 [] (.ef 7 [] .fin .no) .no)) .no))))) rfl rfl ?_
    refine sp 38 (.pointer y50) rfl rfl (r_move rfl) ?_
    refine sp 39 (.agg #[(.pointer y50)]) rfl rfl (fun w => by kernel_rfl) ?_
    refine sp 40 (.pointer y51) rfl rfl (r_move rfl) ?_
    refine sp 41 (.pointer y52) rfl rfl (r_move rfl) ?_
    refine sc 42 rfl rfl (fun dr => r_call Tryz.call96 rfl rfl H) ?_
    rintro _ h13 ⟨y53, rfl, H⟩
    refine sp 43 (.agg #[(.pointer y53)]) rfl rfl (fun w => by kernel_rfl) ?_
    obtain ⟨e55, H⟩ := H
    obtain ⟨h14, e54⟩ : ∃ hh : Heap, hh = hsets h13 p6 0 [(.pointer y50)] := ⟨_, rfl⟩
    have H := H h14 e54
    refine s_st (d := none) (h' := h14) rfl rfl rfl (fun dr => (r_store (v := (.agg #[(.pointer y50)])) Tryz.sizeOf39 rfl rfl rfl (one_all rfl) e55).trans (by rw [e54]; rfl)) trivial ?_ trivial
    obtain ⟨e57, H⟩ := H
    obtain ⟨h15, e56⟩ : ∃ hh : Heap, hh = hsets h14 p9 0 [(.pointer y53)] := ⟨_, rfl⟩
    have H := H h15 e56
    refine s_st (d := none) (h' := h15) rfl rfl rfl (fun dr => (r_store (v := (.agg #[(.pointer y53)])) Tryz.sizeOf39 rfl rfl rfl (one_all rfl) e57).trans (by rw [e56]; rfl)) trivial ?_ trivial
    refine s_fin ?_
    refine W_ret ?_
    obtain ⟨x58, e59, H⟩ := H
    obtain ⟨x60, e61, H⟩ := H
    exact ⟨[(.agg #[(.pointer x58)]), (.agg #[(.pointer x60)])], ⟨_, _, _, rfl, rfl, fun dr => run_loadVarN Tryz.isAgg39 Tryz.sizeOf39 (vs := [(.pointer x58)]) rfl ⟨e59, trivial⟩, ⟨_, _, _, rfl, rfl, fun dr => run_loadVarN Tryz.isAgg39 Tryz.sizeOf39 (vs := [(.pointer x60)]) rfl ⟨e61, trivial⟩, rfl⟩⟩, x58, x60, rfl, H⟩)
 clear eN14
 refine W_region (.pu 0 (.rl 1 (.pu 2 (.pu 3 (.pu 4 (.pu 5 (.rl 6 (.pu 7 (.pu 8 (.rl 9 (.ef 10 [] (.pu 11 (.pu 12 .fin)) .no))))))))))) rfl rfl ?_
 refine sp 9 (.pointer (some (Addr.add p3 0))) rfl rfl (r_fieldAddr Tryz.underlying39 Tryz.sizeOf37 rfl rfl rfl) ?_
 obtain ⟨x65, e66, H⟩ := H
 refine sl 10 (.pointer x65) rfl rfl (fun dr => r_load1 Tryz.isAgg37 rfl e66) ?_
 refine sp 11 (.bool (Option.isNone x65)) rfl rfl (r_nilP Tryz.underlying37 rfl rfl) ?_
 refine sp 12 (.bool (Option.isNone x65)) rfl rfl (r_move rfl) ?_
 rcases Bool.eq_false_or_eq_true (Option.isNone x65) with g67 | g67
 ·have H := H.1 g67
  refine s_sk (d := some 13) rfl rfl (wants_no rfl rfl rfl rfl g67) ?_
  refine s_sk (d := some 14) rfl rfl (wants_no rfl rfl rfl rfl g67) ?_
  refine s_skl (d := some 15) rfl rfl (wants_no rfl rfl rfl rfl g67) ?_
  refine s_sk (d := some 16) rfl rfl (wants_no rfl rfl rfl rfl g67) ?_
  refine s_sk (d := some 17) rfl rfl (wants_no rfl rfl rfl rfl g67) ?_
  refine s_skl (d := some 18) rfl rfl (wants_no rfl rfl rfl rfl g67) ?_
  refine s_skf (d := some 19) rfl rfl (wants_no rfl rfl rfl rfl g67) trivial ?_ trivial
  refine s_sk (d := some 20) rfl rfl (wants_no rfl rfl rfl rfl g67) ?_
  refine sp 21 (.bool true) rfl rfl (r_pick1 rfl g67 rfl) ?_
  refine s_fin ?_
  exact N_mk (l := [(1, p2), (2, (.pointer (some p3))), (4, (.pointer (some p6))), (5, (.pointer (some p9))), (21, (.bool true))]) H ⟨rfl, rfl, rfl, rfl, rfl, trivial⟩
 ·have H := H.2 g67
  refine s_pu (d := some 13) (v := p2) rfl rfl (wants_yes rfl rfl rfl rfl g67) (r_move rfl) ?_
  refine s_pu (d := some 14) (v := (.pointer (some (Addr.add p3 0)))) rfl rfl (wants_yes rfl rfl rfl rfl g67) (r_fieldAddr Tryz.underlying39 Tryz.sizeOf37 rfl rfl rfl) ?_
  obtain ⟨x68, e69, H⟩ := H
  refine s_rl (d := some 15) (v := (.pointer x68)) rfl rfl (wants_yes rfl rfl rfl rfl g67) (fun dr => r_load1 Tryz.isAgg37 rfl e69) ?_
  obtain ⟨p70, e71, H⟩ := H
  refine s_pu (d := some 16) (v := (.pointer (some p70))) rfl rfl (wants_yes rfl rfl rfl rfl g67) (r_nilCheck rfl e71) ?_
  refine s_pu (d := some 17) (v := (.pointer (some (Addr.add p70 0)))) rfl rfl (wants_yes rfl rfl rfl rfl g67) (r_fieldAddr Tryz.underlying127 Tryz.sizeOf66 rfl rfl rfl) ?_
  obtain ⟨x72, e73, H⟩ := H
  obtain ⟨x74, e75, H⟩ := H
  obtain ⟨x76, e77, H⟩ := H
  obtain ⟨x78, e79, H⟩ := H
  obtain ⟨x80, e81, H⟩ := H
  refine s_rl (d := some 18) (v := (.agg #[(.int .i64 x72), (.int .i64 x74), (.int .i64 x76), (.int .i64 x78), (.int .i64 x80)])) rfl rfl (wants_yes rfl rfl rfl rfl g67) (fun dr => r_loadN Tryz.isAgg66 Tryz.sizeOf66 (vs := [(.int .i64 x72), (.int .i64 x74), (.int .i64 x76), (.int .i64 x78), (.int .i64 x80)]) rfl rfl ⟨e73, e75, e77, e79, e81, trivial⟩) ?_
  refine s_ef (d := some 19) rfl rfl (wants_yes rfl rfl rfl rfl g67) (fun dr => r_callV rfl rfl H) ?_ trivial
  rintro _ h16 ⟨y82, rfl, H⟩
  refine ⟨trivial, ?_⟩
  refine s_pu (d := some 20) (v := (.bool (!y82))) rfl rfl (wants_yes rfl rfl rfl rfl g67) (r_not rfl) ?_
  refine sp 21 (.bool (!y82)) rfl rfl (r_pick0 rfl g67 rfl) ?_
  refine s_fin ?_
  exact N_mk (l := [(1, p2), (2, (.pointer (some p3))), (4, (.pointer (some p6))), (5, (.pointer (some p9))), (21, (.bool (!y82)))]) H ⟨rfl, rfl, rfl, rfl, rfl, trivial⟩
def finger_Tree_Ints_F (r : World) (t1 : Option Addr) (h : Heap) (R : Sl → Heap → Prop) : Prop :=
 New h (.cells #[(.pointer t1)] 39) fun p2 h1 =>
 New h1 (.cells #[(Sl.v Sl.nil)] 26) fun p5 h2 =>
 New h2 (.cells #[.nilFunc] 124) fun p8 h3 =>
 St h3 p8 1 [((.func (.func 82) #[] #[(.pointer (some p5)), (.pointer (some p8))]))] fun h4 =>
 New h4 (.cells #[.nilFunc] 125) fun p13 h5 =>
 St h5 p13 1 [((.func (.func 83) #[] #[(.pointer (some p8)), (.pointer (some p13))]))] fun h6 =>
 LdV h6 p13 fun x18 =>
 LdP h6 (Addr.add p2 0) fun x20 =>
 CallV Tryz.prog r x18 [(.pointer x20)] h6 fun v24 h7 => v24 = (.tuple #[]) ∧
 LdS h7 p5 fun x22 =>
 R x22 h7
theorem finger_Tree_Ints_of {r : World} {t1 : Option Addr} {h : Heap} {R : Sl → Heap → Prop} (H : finger_Tree_Ints_F r t1 h R) : finger_Tree_Ints r t1 h R := by
 unfold finger_Tree_Ints_F at H
 refine calls_of 13 [.tmp 2] Tryz.func57 rfl rfl rfl rfl rfl ?_
 refine W_seq ?_
 refine W_region (.ef 0 [] (.pu 1 .fin) .no) rfl rfl ?_
 obtain ⟨p2, e3⟩ : ∃ p : Addr, p = ⟨h.size, 0, none⟩ := ⟨_, rfl⟩
 obtain ⟨h1, e4⟩ : ∃ hh : Heap, hh = h.push (.cells #[(.pointer t1)] 39) := ⟨_, rfl⟩
 have H := H p2 h1 e3 e4
 refine s_ef1 (d := some 1) (v := (.pointer (some p2))) (h' := h1) rfl rfl rfl (fun dr => (r_box (v := (.agg #[(.pointer t1)])) rfl).trans (by rw [e3, e4]; rfl)) trivial ?_ trivial
 refine sp 2 (Sl.v Sl.nil) rfl rfl (r_assign rfl) ?_
 refine s_fin ?_
 refine W_seq ?_
 refine W_region (.ef 0 [] .fin .no) rfl rfl ?_
 obtain ⟨p5, e6⟩ : ∃ p : Addr, p = ⟨h1.size, 0, none⟩ := ⟨_, rfl⟩
 obtain ⟨h2, e7⟩ : ∃ hh : Heap, hh = h1.push (.cells #[(Sl.v Sl.nil)] 26) := ⟨_, rfl⟩
 have H := H p5 h2 e6 e7
 refine s_ef1 (d := some 3) (v := (.pointer (some p5))) (h' := h2) rfl rfl rfl (fun dr => (r_alloc Tryz.zeroValue26).trans (by rw [e6, e7]; rfl)) trivial ?_ trivial
 refine s_fin ?_
 refine W_seq ?_
 refine W_region (.ef 0 [] .fin .no) rfl rfl ?_
 obtain ⟨p8, e9⟩ : ∃ p : Addr, p = ⟨h2.size, 0, none⟩ := ⟨_, rfl⟩
 obtain ⟨h3, e10⟩ : ∃ hh : Heap, hh = h2.push (.cells #[.nilFunc] 124) := ⟨_, rfl⟩
 have H := H p8 h3 e9 e10
 refine s_ef1 (d := some 4) (v := (.pointer (some p8))) (h' := h3) rfl rfl rfl (fun dr => (r_alloc Tryz.zeroValue124).trans (by rw [e9, e10]; rfl)) trivial ?_ trivial
 refine s_fin ?_
 refine W_seq ?_
 refine W_region (.pu 0 (.ef 1 [] .fin .no)) rfl rfl ?_
 refine sp 6 ((.func (.func 82) #[] #[(.pointer (some p5)), (.pointer (some p8))])) rfl rfl (r_makeFunc rfl rfl) ?_
 obtain ⟨e12, H⟩ := H
 obtain ⟨h4, e11⟩ : ∃ hh : Heap, hh = hsets h3 p8 0 [((.func (.func 82) #[] #[(.pointer (some p5)), (.pointer (some p8))]))] := ⟨_, rfl⟩
 have H := H h4 e11
 refine s_st (d := none) (h' := h4) rfl rfl rfl (fun dr => (r_store (v := ((.func (.func 82) #[] #[(.pointer (some p5)), (.pointer (some p8))]))) Tryz.sizeOf124 rfl rfl rfl (one_all rfl) e12).trans (by rw [e11]; rfl)) trivial ?_ trivial
 refine s_fin ?_
 refine W_seq ?_
 refine W_region (.ef 0 [] .fin .no) rfl rfl ?_
 obtain ⟨p13, e14⟩ : ∃ p : Addr, p = ⟨h4.size, 0, none⟩ := ⟨_, rfl⟩
 obtain ⟨h5, e15⟩ : ∃ hh : Heap, hh = h4.push (.cells #[.nilFunc] 125) := ⟨_, rfl⟩
 have H := H p13 h5 e14 e15
 refine s_ef1 (d := some 5) (v := (.pointer (some p13))) (h' := h5) rfl rfl rfl (fun dr => (r_alloc Tryz.zeroValue125).trans (by rw [e14, e15]; rfl)) trivial ?_ trivial
 refine s_fin ?_
 refine W_seq ?_
 refine W_region (.pu 0 (.ef 1 [] .fin .no)) rfl rfl ?_
 refine sp 7 ((.func (.func 83) #[] #[(.pointer (some p8)), (.pointer (some p13))])) rfl rfl (r_makeFunc rfl rfl) ?_
 obtain ⟨e17, H⟩ := H
 obtain ⟨h6, e16⟩ : ∃ hh : Heap, hh = hsets h5 p13 0 [((.func (.func 83) #[] #[(.pointer (some p8)), (.pointer (some p13))]))] := ⟨_, rfl⟩
 have H := H h6 e16
 refine s_st (d := none) (h' := h6) rfl rfl rfl (fun dr => (r_store (v := ((.func (.func 83) #[] #[(.pointer (some p8)), (.pointer (some p13))]))) Tryz.sizeOf125 rfl rfl rfl (one_all rfl) e17).trans (by rw [e16]; rfl)) trivial ?_ trivial
 refine s_fin ?_
 refine W_seq ?_
 refine W_region (.rl 0 (.pu 1 (.rl 2 (.ef 3 [] .fin .no)))) rfl rfl ?_
 obtain ⟨x18, e19, H⟩ := H
 refine sl 8 x18 rfl rfl (fun dr => r_load1 Tryz.isAgg125 rfl e19) ?_
 refine sp 9 (.pointer (some (Addr.add p2 0))) rfl rfl (r_fieldAddr Tryz.underlying39 Tryz.sizeOf37 rfl rfl rfl) ?_
 obtain ⟨x20, e21, H⟩ := H
 refine sl 10 (.pointer x20) rfl rfl (fun dr => r_load1 Tryz.isAgg37 rfl e21) ?_
 refine s_ef (d := some 11) rfl rfl rfl (fun dr => r_callV rfl rfl H) ?_ trivial
 rintro _ h7 ⟨rfl, H⟩
 refine ⟨trivial, ?_⟩
 refine s_fin ?_
 refine W_seq ?_
 refine W_region (.rl 0 (.pu 1 .fin)) rfl rfl ?_
 obtain ⟨x22, e23, H⟩ := H
 refine sl 12 (Sl.v x22) rfl rfl (fun dr => r_load1 Tryz.isAgg26 rfl e23) ?_
 refine sp 2 (Sl.v x22) rfl rfl (r_assign rfl) ?_
 refine s_fin ?_
 refine W_ret ?_
 exact ⟨[(Sl.v x22)], ⟨_, _, rfl, rfl, rfl⟩, x22, rfl, H⟩
def finger_Tree_Ints_1_F (r : World) (l1 : Sl) (c2 : Addr) (c3 : Addr) (h : Heap) (R : Heap → Prop) : Prop :=
 ∀ X5 : Int → Heap → Prop, (∀ (x4 : Int) (h1 : Heap),
  (Br (decide (x4 < ((l1.len : Int)))) (
   Ix l1 x4 1 fun q10 =>
   LdP h1 q10 fun x12 =>
   Ck x12 fun p14 =>
   LdS h1 (Addr.add p14 6) fun x16 =>
   ∀ J18 : Heap → Prop, (∀ (h2 : Heap),
    (LdV h2 c3 fun x20 =>
    Ck x12 fun p22 =>
    LdS h2 (Addr.add p22 6) fun x24 =>
    CallV Tryz.prog r x20 [(Sl.v x24)] h2 fun v26 h3 => v26 = (.tuple #[]) ∧
    X5 (w64 (x4 + 1)) h3) →
    J18 h2) →
   Br (Option.isNone x16.a) (
    LdS h1 c2 fun x27 =>
    Ck x12 fun p29 =>
    LdI h1 (Addr.add p29 5) fun x31 =>
    New h1 (.cells #[(.int .i64 x31)] 3) fun p33 h4 =>
    (hcell h4 c2 = some (Sl.v x27)) ∧
    App 3 1 8 (.int .i64 0) x27 ((⟨some p33, 1, 1⟩ : Sl)) h4 fun s37 h5 =>
    St h5 c2 1 [(Sl.v s37)] fun h6 =>
    J18 h6) (
    J18 h1)) (
   R h1)) →
  X5 x4 h1) →
 X5 0 h
theorem finger_Tree_Ints_1_of {r : World} {l1 : Sl} {c2 : Addr} {c3 : Addr} {h : Heap} {R : Heap → Prop} (H : finger_Tree_Ints_1_F r l1 c2 c3 h R) : finger_Tree_Ints_1 r l1 c2 c3 h R := by
 unfold finger_Tree_Ints_1_F at H
 refine calls_of 31 [] Tryz.func82 rfl rfl rfl rfl rfl ?_
 refine W_seq ?_
 refine W_region (.pu 0 (.pu 1 (.pu 2 .fin))) rfl rfl ?_
 refine sp 6 (Sl.v l1) rfl rfl (r_move rfl) ?_
 refine sp 7 (.int .i64 ((l1.len : Int))) rfl rfl (r_len Tryz.underlying113 rfl) ?_
 refine sp 8 (.int .i64 0) rfl rfl (r_move rfl) ?_
 refine s_fin ?_
 refine W_block ?_
 refine W_loop (WL_mk (l := [(1, (.pointer (some c2))), (2, (.pointer (some c3))), (6, (Sl.v l1)), (7, (.int .i64 ((l1.len : Int)))), (8, (.int .i64 0))]) ?_ ⟨rfl, rfl, rfl, rfl, rfl, trivial⟩)
 refine H (fun (x4 : Int) (h1 : Heap) => ∀ b, WL _ _ _ _ _ _ (mkE [(1, (.pointer (some c2))), (2, (.pointer (some c3))), (6, (Sl.v l1)), (7, (.int .i64 ((l1.len : Int)))), (8, (.int .i64 x4))] b) h1) ?_
 intro x4 h1 H b
 refine WL_round ?_
 refine W_seq ?_
 refine W_region (.pu 0 .fin) rfl rfl ?_
 refine sp 9 (.bool (decide (x4 < ((l1.len : Int))))) rfl rfl (r_lss rfl rfl) ?_
 refine s_fin ?_
 refine W_seq ?_
 refine W_if (decide (x4 < ((l1.len : Int)))) rfl (fun g41 => ?_) (fun g41 => ?_)
 ·have H := H.1 g41
  refine W_skip ?_
  show W _ _ _ _ _ _ _ _
  refine W_seq ?_
  refine W_block ?_
  refine W_seq ?_
  refine W_region (.pu 0 (.rl 1 (.pu 2 .fin))) rfl rfl ?_
  obtain ⟨p6, e7, e8, e9, H⟩ := H
  obtain ⟨q10, e11⟩ : ∃ q : Addr, q = Addr.add p6 (Int.toNat x4 * 1) := ⟨_, rfl⟩
  rw [← e11] at H
  refine sp 10 (.pointer (some q10)) rfl rfl (fun w => (r_indexAddr Tryz.underlying113 Tryz.sizeOf108 rfl rfl e7 e8 e9 w).trans (by rw [e11])) ?_
  obtain ⟨x12, e13, H⟩ := H
  refine sl 11 (.pointer x12) rfl rfl (fun dr => r_load1 Tryz.isAgg108 rfl e13) ?_
  refine sp 5 (.pointer x12) rfl rfl (r_assign rfl) ?_
  refine s_fin ?_
  refine W_seq ?_
  refine W_seq ?_
  refine W_region (.pu 0 (.pu 1 (.pu 2 (.rl 3 (.pu 4 .fin))))) rfl rfl ?_
  refine sp 12 (.pointer x12) rfl rfl (r_move rfl) ?_
  obtain ⟨p14, e15, H⟩ := H
  refine sp 13 (.pointer (some p14)) rfl rfl (r_nilCheck rfl e15) ?_
  refine sp 14 (.pointer (some (Addr.add p14 6))) rfl rfl (r_fieldAddr Tryz.underlying115 Tryz.sizeOf113 rfl rfl rfl) ?_
  obtain ⟨x16, e17, H⟩ := H
  refine sl 15 (Sl.v x16) rfl rfl (fun dr => r_load1 Tryz.isAgg113 rfl e17) ?_
  refine sp 16 (.bool (Option.isNone x16.a)) rfl rfl (r_nilS Tryz.underlying113 rfl rfl) ?_
  refine s_fin ?_
  refine W_set ?_
  intro N19 eN19
  have H := H (fun (h2 : Heap) => ∀ b, N19 [] (mkE [(1, (.pointer (some c2))), (2, (.pointer (some c3))), (5, (.pointer x12)), (6, (Sl.v l1)), (7, (.int .i64 ((l1.len : Int)))), (8, (.int .i64 x4))] b) h2) (by
   intro h2 H b
   rw [eN19]
   show W _ _ _ _ _ _ _ _
   refine W_draw [0, 0, 2, 6, 14, 31] (.rd 0 (.pu 1 (.pu 2 (.pu 3 (.rd 4 (.ef 5 [0, 4] .fin .no)))))) (by kernel_rfl) (by kernel_rfl) ?_
   obtain ⟨x20, e21, H⟩ := H
   refine s_rd (d := some 24) (v := x20) rfl rfl rfl (fun dr => r_load1 Tryz.isAgg124 rfl e21) ?_
   refine sp 25 (.pointer x12) rfl rfl (r_move rfl) ?_
   obtain ⟨p22, e23, H⟩ := H
   refine sp 26 (.pointer (some p22)) rfl rfl (r_nilCheck rfl e23) ?_
   refine sp 27 (.pointer (some (Addr.add p22 6))) rfl rfl (r_fieldAddr Tryz.underlying115 Tryz.sizeOf113 rfl rfl rfl) ?_
   obtain ⟨x24, e25, H⟩ := H
   refine s_rd (d := some 28) (v := (Sl.v x24)) rfl rfl rfl (fun dr => r_load1 Tryz.isAgg113 rfl e25) ?_
   refine s_ef (d := some 29) rfl rfl rfl (fun dr => r_callV rfl rfl H) ?_ trivial
   rintro _ h3 ⟨rfl, H⟩
   refine ⟨⟨trivial, trivial, trivial⟩, ?_⟩
   refine s_fin ?_
   refine W_region (.pu 0 (.pu 1 .fin)) rfl rfl ?_
   refine sp 30 (.int .i64 (w64 (x4 + 1))) rfl rfl (r_add rfl rfl) ?_
   refine sp 8 (.int .i64 (w64 (x4 + 1))) rfl rfl (r_move rfl) ?_
   refine s_fin ?_
   exact WL_mk (l := [(1, (.pointer (some c2))), (2, (.pointer (some c3))), (6, (Sl.v l1)), (7, (.int .i64 ((l1.len : Int)))), (8, (.int .i64 (w64 (x4 + 1))))]) H ⟨rfl, rfl, rfl, rfl, rfl, trivial⟩)
  clear eN19
  refine W_if (Option.isNone x16.a) rfl (fun g40 => ?_) (fun g40 => ?_)
  ·have H := H.1 g40
   refine W_draw [0, 0, 2, 6, 14, 30, 63, 127] (.rd 0 (.pu 1 (.pu 2 (.pu 3 (.rd 4 (.ef 5 [4] (.ef 6 [0, 4] (.ef 7 [0, 4] .fin .no) .no) .no)))))) (by kernel_rfl) (by kernel_rfl) ?_
   obtain ⟨x27, e28, H⟩ := H
   refine s_rd (d := some 17) (v := (Sl.v x27)) rfl rfl rfl (fun dr => r_load1 Tryz.isAgg26 rfl e28) ?_
   refine sp 18 (.pointer x12) rfl rfl (r_move rfl) ?_
   obtain ⟨p29, e30, H⟩ := H
   refine sp 19 (.pointer (some p29)) rfl rfl (r_nilCheck rfl e30) ?_
   refine sp 20 (.pointer (some (Addr.add p29 5))) rfl rfl (r_fieldAddr Tryz.underlying115 Tryz.sizeOf3 rfl rfl rfl) ?_
   obtain ⟨x31, e32, H⟩ := H
   refine s_rd (d := some 21) (v := (.int .i64 x31)) rfl rfl rfl (fun dr => r_load1 Tryz.isAgg3 rfl e32) ?_
   obtain ⟨p33, e34⟩ : ∃ p : Addr, p = ⟨h1.size, 0, none⟩ := ⟨_, rfl⟩
   obtain ⟨h4, e35⟩ : ∃ hh : Heap, hh = h1.push (.cells #[(.int .i64 x31)] 3) := ⟨_, rfl⟩
   have H := H p33 h4 e34 e35
   obtain ⟨e36, H⟩ := H
   refine s_ef1 (d := some 22) (v := (Sl.v ((⟨some p33, 1, 1⟩ : Sl)))) (h' := h4) rfl rfl rfl (fun dr => (slFGTree_26.build (cells := #[(.int .i64 x31)]) (by decide) rfl (by kernel_rfl)).trans (by rw [e34, e35]; rfl)) ⟨trivial, (.inl ⟨rfl, fun dr => r_load1 Tryz.isAgg26 rfl e36⟩), trivial⟩ ?_ trivial
   refine s_ef (d := some 23) rfl rfl rfl (fun dr => slFGTree_26.append rfl rfl H) ?_ trivial
   rintro _ h5 ⟨s37, rfl, H⟩
   refine ⟨⟨trivial, trivial, trivial⟩, ?_⟩
   obtain ⟨e39, H⟩ := H
   obtain ⟨h6, e38⟩ : ∃ hh : Heap, hh = hsets h5 c2 0 [(Sl.v s37)] := ⟨_, rfl⟩
   have H := H h6 e38
   refine s_st (d := none) (h' := h6) rfl rfl rfl (fun dr => (r_store (v := (Sl.v s37)) Tryz.sizeOf26 rfl rfl rfl (one_all rfl) e39).trans (by rw [e38]; rfl)) ⟨trivial, trivial, trivial⟩ ?_ trivial
   refine s_fin ?_
   exact N_mk (l := [(1, (.pointer (some c2))), (2, (.pointer (some c3))), (5, (.pointer x12)), (6, (Sl.v l1)), (7, (.int .i64 ((l1.len : Int)))), (8, (.int .i64 x4))]) H ⟨rfl, rfl, rfl, rfl, rfl, rfl, trivial⟩
  ·have H := H.2 g40
   refine W_skip ?_
   exact N_mk (l := [(1, (.pointer (some c2))), (2, (.pointer (some c3))), (5, (.pointer x12)), (6, (Sl.v l1)), (7, (.int .i64 ((l1.len : Int)))), (8, (.int .i64 x4))]) H ⟨rfl, rfl, rfl, rfl, rfl, rfl, trivial⟩
 ·have H := H.2 g41
  refine W_exit (inX_here ?_)
  exact ⟨[], rfl, rfl, H⟩
def finger_Tree_Ints_2_F (r : World) (v1 : Option Addr) (c2 : Addr) (c3 : Addr) (h : Heap) (R : Heap → Prop) : Prop :=
 Br (!(Option.isNone v1)) (
  LdV h c2 fun x4 =>
  Ck v1 fun p6 =>
  LdS h (Addr.add p6 5) fun x8 =>
  CallV Tryz.prog r x4 [(Sl.v x8)] h fun v24 h1 => v24 = (.tuple #[]) ∧
  LdV h1 c3 fun x10 =>
  Ck v1 fun p12 =>
  LdP h1 (Addr.add p12 7) fun x14 =>
  CallV Tryz.prog r x10 [(.pointer x14)] h1 fun v23 h2 => v23 = (.tuple #[]) ∧
  LdV h2 c2 fun x16 =>
  Ck v1 fun p18 =>
  LdS h2 (Addr.add p18 6) fun x20 =>
  CallV Tryz.prog r x16 [(Sl.v x20)] h2 fun v22 h3 => v22 = (.tuple #[]) ∧
  R h3) (
  R h)
theorem finger_Tree_Ints_2_of {r : World} {v1 : Option Addr} {c2 : Addr} {c3 : Addr} {h : Heap} {R : Heap → Prop} (H : finger_Tree_Ints_2_F r v1 c2 c3 h R) : finger_Tree_Ints_2 r v1 c2 c3 h R := by
 unfold finger_Tree_Ints_2_F at H
 refine calls_of 24 [] Tryz.func83 rfl rfl rfl rfl rfl ?_
 refine W_seq ?_
 refine W_region (.pu 0 (.pu 1 .fin)) rfl rfl ?_
 refine sp 4 (.pointer v1) rfl rfl (r_move rfl) ?_
 refine sp 5 (.bool (!(Option.isNone v1))) rfl rfl (r_notNilP Tryz.underlying37 rfl rfl) ?_
 refine s_fin ?_
 refine W_if (!(Option.isNone v1)) rfl (fun g25 => ?_) (fun g25 => ?_)
 ·have H := H.1 g25
  refine W_seq ?_
  refine W_draw [0, 0, 2, 6, 14, 31] (.rd 0 (.pu 1 (.pu 2 (.pu 3 (.rd 4 (.ef 5 [0, 4] .fin .no)))))) (by kernel_rfl) (by kernel_rfl) ?_
  obtain ⟨x4, e5, H⟩ := H
  refine s_rd (d := some 6) (v := x4) rfl rfl rfl (fun dr => r_load1 Tryz.isAgg124 rfl e5) ?_
  refine sp 7 (.pointer v1) rfl rfl (r_move rfl) ?_
  obtain ⟨p6, e7, H⟩ := H
  refine sp 8 (.pointer (some p6)) rfl rfl (r_nilCheck rfl e7) ?_
  refine sp 9 (.pointer (some (Addr.add p6 5))) rfl rfl (r_fieldAddr Tryz.underlying127 Tryz.sizeOf113 rfl rfl rfl) ?_
  obtain ⟨x8, e9, H⟩ := H
  refine s_rd (d := some 10) (v := (Sl.v x8)) rfl rfl rfl (fun dr => r_load1 Tryz.isAgg113 rfl e9) ?_
  refine s_ef (d := some 11) rfl rfl rfl (fun dr => r_callV rfl rfl H) ?_ trivial
  rintro _ h1 ⟨rfl, H⟩
  refine ⟨⟨trivial, trivial, trivial⟩, ?_⟩
  refine s_fin ?_
  refine W_seq ?_
  refine W_draw [0, 0, 2, 6, 14, 31] (.rd 0 (.pu 1 (.pu 2 (.pu 3 (.rd 4 (.ef 5 [0, 4] .fin .no)))))) (by kernel_rfl) (by kernel_rfl) ?_
  obtain ⟨x10, e11, H⟩ := H
  refine s_rd (d := some 12) (v := x10) rfl rfl rfl (fun dr => r_load1 Tryz.isAgg125 rfl e11) ?_
  refine sp 13 (.pointer v1) rfl rfl (r_move rfl) ?_
  obtain ⟨p12, e13, H⟩ := H
  refine sp 14 (.pointer (some p12)) rfl rfl (r_nilCheck rfl e13) ?_
  refine sp 15 (.pointer (some (Addr.add p12 7))) rfl rfl (r_fieldAddr Tryz.underlying127 Tryz.sizeOf37 rfl rfl rfl) ?_
  obtain ⟨x14, e15, H⟩ := H
  refine s_rd (d := some 16) (v := (.pointer x14)) rfl rfl rfl (fun dr => r_load1 Tryz.isAgg37 rfl e15) ?_
  refine s_ef (d := some 17) rfl rfl rfl (fun dr => r_callV rfl rfl H) ?_ trivial
  rintro _ h2 ⟨rfl, H⟩
  refine ⟨⟨trivial, trivial, trivial⟩, ?_⟩
  refine s_fin ?_
  refine W_draw [0, 0, 2, 6, 14, 31] (.rd 0 (.pu 1 (.pu 2 (.pu 3 (.rd 4 (.ef 5 [0, 4] .fin .no)))))) (by kernel_rfl) (by kernel_rfl) ?_
  obtain ⟨x16, e17, H⟩ := H
  refine s_rd (d := some 18) (v := x16) rfl rfl rfl (fun dr => r_load1 Tryz.isAgg124 rfl e17) ?_
  refine sp 19 (.pointer v1) rfl rfl (r_move rfl) ?_
  obtain ⟨p18, e19, H⟩ := H
  refine sp 20 (.pointer (some p18)) rfl rfl (r_nilCheck rfl e19) ?_
  refine sp 21 (.pointer (some (Addr.add p18 6))) rfl rfl (r_fieldAddr Tryz.underlying127 Tryz.sizeOf113 rfl rfl rfl) ?_
  obtain ⟨x20, e21, H⟩ := H
  refine s_rd (d := some 22) (v := (Sl.v x20)) rfl rfl rfl (fun dr => r_load1 Tryz.isAgg113 rfl e21) ?_
  refine s_ef (d := some 23) rfl rfl rfl (fun dr => r_callV rfl rfl H) ?_ trivial
  rintro _ h3 ⟨rfl, H⟩
  refine ⟨⟨trivial, trivial, trivial⟩, ?_⟩
  refine s_fin ?_
  exact ⟨[], rfl, rfl, H⟩
 ·have H := H.2 g25
  refine W_skip ?_
  exact ⟨[], rfl, rfl, H⟩
end Go.Proofs.YthkimbiknhebeaaGreatDoor
