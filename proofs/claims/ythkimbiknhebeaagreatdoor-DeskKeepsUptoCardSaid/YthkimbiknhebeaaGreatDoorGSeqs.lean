/- Typed words of functions, and that they hold: printed by gen.py (an own tool of this claim) off the model's own form of each function. -/
import Derived.Test.YthkimbiknhebeaaGreatDoorProg
import Derived.Test.YthkimbiknhebeaaGreatDoorGTree
namespace Go.Proofs.YthkimbiknhebeaaGreatDoor
open Go Go.RowKit Go.Tw
set_option linter.unusedVariables false
set_option maxRecDepth 100000
abbrev seq_Seq_Ints (r : World) (s1 : Option Addr) (h : Heap) (R : Sl → Heap → Prop) : Prop :=
 CallsH Tryz.prog r 33 [(.agg #[(.pointer s1)])] h fun v h' => ∃ (y2 : Sl), v = (Sl.v y2) ∧ R y2 h'
abbrev seq_Seq_Len (r : World) (s1 : Option Addr) (h : Heap) (R : Int → Heap → Prop) : Prop :=
 CallsH Tryz.prog r 44 [(.agg #[(.pointer s1)])] h fun v h' => ∃ (y2 : Int), v = (.int .i64 y2) ∧ R y2 h'
abbrev seq_Seq_cut (r : World) (s1 : Option Addr) (i2 : Int) (h : Heap) (R : Option Addr → Option Addr → Heap → Prop) : Prop :=
 CallsH Tryz.prog r 45 [(.agg #[(.pointer s1)]), (.int .i64 i2)] h fun v h' => ∃ (y3 : Option Addr) (y4 : Option Addr), v = (.tuple #[(.agg #[(.pointer y3)]), (.agg #[(.pointer y4)])]) ∧ R y3 y4 h'
abbrev seq_Seq_cut_1 (r : World) (m1 : Int) (m2 : Int) (m3 : Int) (m4 : Int) (m5 : Int) (c6 : Addr) (h : Heap) (R : Bool → Heap → Prop) : Prop :=
 CallsH Tryz.prog r 67 [(.agg #[(.int .i64 m1), (.int .i64 m2), (.int .i64 m3), (.int .i64 m4), (.int .i64 m5)]), (.pointer (some c6))] h fun v h' => ∃ (y7 : Bool), v = (.bool y7) ∧ R y7 h'
abbrev seq_Seq_Insert (r : World) (s1 : Option Addr) (i2 : Int) (x3 : Int) (h : Heap) (R : Option Addr → Bool → Heap → Prop) : Prop :=
 CallsH Tryz.prog r 23 [(.agg #[(.pointer s1)]), (.int .i64 i2), (.int .i64 x3)] h fun v h' => ∃ (y4 : Option Addr) (y5 : Bool), v = (.tuple #[(.agg #[(.pointer y4)]), (.bool y5)]) ∧ R y4 y5 h'
abbrev seq_Seq_Delete (r : World) (s1 : Option Addr) (i2 : Int) (h : Heap) (R : Option Addr → Bool → Heap → Prop) : Prop :=
 CallsH Tryz.prog r 24 [(.agg #[(.pointer s1)]), (.int .i64 i2)] h fun v h' => ∃ (y3 : Option Addr) (y4 : Bool), v = (.tuple #[(.agg #[(.pointer y3)]), (.bool y4)]) ∧ R y3 y4 h'
abbrev seq_Seq_Slice (r : World) (s1 : Option Addr) (i2 : Int) (j3 : Int) (h : Heap) (R : Option Addr → Bool → Heap → Prop) : Prop :=
 CallsH Tryz.prog r 25 [(.agg #[(.pointer s1)]), (.int .i64 i2), (.int .i64 j3)] h fun v h' => ∃ (y4 : Option Addr) (y5 : Bool), v = (.tuple #[(.agg #[(.pointer y4)]), (.bool y5)]) ∧ R y4 y5 h'
abbrev seq_Seq_Measure (r : World) (s1 : Option Addr) (i2 : Int) (j3 : Int) (h : Heap) (R : Int → Int → Int → Int → Int → Bool → Heap → Prop) : Prop :=
 CallsH Tryz.prog r 26 [(.agg #[(.pointer s1)]), (.int .i64 i2), (.int .i64 j3)] h fun v h' => ∃ (y4 : Int) (y5 : Int) (y6 : Int) (y7 : Int) (y8 : Int) (y9 : Bool), v = (.tuple #[(.agg #[(.int .i64 y4), (.int .i64 y5), (.int .i64 y6), (.int .i64 y7), (.int .i64 y8)]), (.bool y9)]) ∧ R y4 y5 y6 y7 y8 y9 h'
def seq_Seq_Ints_F (r : World) (s1 : Option Addr) (h : Heap) (R : Sl → Heap → Prop) : Prop :=
 New h (.cells #[(.pointer s1)] 41) fun p2 h1 =>
 LdP h1 (Addr.add (Addr.add p2 0) 0) fun x5 =>
 finger_Tree_Ints r x5 h1 fun y7 h2 =>
 R y7 h2
theorem seq_Seq_Ints_of {r : World} {s1 : Option Addr} {h : Heap} {R : Sl → Heap → Prop} (H : seq_Seq_Ints_F r s1 h R) : seq_Seq_Ints r s1 h R := by
 unfold seq_Seq_Ints_F at H
 refine calls_of 6 [.tmp 2] Tryz.func33 rfl rfl rfl rfl rfl ?_
 refine W_seq ?_
 refine W_region (.ef 0 [] (.pu 1 .fin) .no) rfl rfl ?_
 obtain ⟨p2, e3⟩ : ∃ p : Addr, p = ⟨h.size, 0, none⟩ := ⟨_, rfl⟩
 obtain ⟨h1, e4⟩ : ∃ hh : Heap, hh = h.push (.cells #[(.pointer s1)] 41) := ⟨_, rfl⟩
 have H := H p2 h1 e3 e4
 refine s_ef1 (d := some 1) (v := (.pointer (some p2))) (h' := h1) rfl rfl rfl (fun dr => (r_box (v := (.agg #[(.pointer s1)])) rfl).trans (by rw [e3, e4]; rfl)) trivial ?_ trivial
 refine sp 2 (Sl.v Sl.nil) rfl rfl (r_assign rfl) ?_
 refine s_fin ?_
 refine W_seq ?_
 refine W_region (.pu 0 (.rl 1 (.ef 2 [] (.pu 3 .fin) .no))) rfl rfl ?_
 refine sp 3 (.pointer (some (Addr.add p2 0))) rfl rfl (r_fieldAddr Tryz.underlying41 Tryz.sizeOf39 rfl rfl rfl) ?_
 obtain ⟨x5, e6, H⟩ := H
 refine sl 4 (.agg #[(.pointer x5)]) rfl rfl (fun dr => r_loadN Tryz.isAgg39 Tryz.sizeOf39 (vs := [(.pointer x5)]) rfl rfl ⟨e6, trivial⟩) ?_
 refine sc 5 rfl rfl (fun dr => r_call Tryz.call57 rfl rfl H) ?_
 rintro _ h2 ⟨y7, rfl, H⟩
 refine sp 2 (Sl.v y7) rfl rfl (r_assign rfl) ?_
 refine s_fin ?_
 refine W_ret ?_
 exact ⟨[(Sl.v y7)], ⟨_, _, rfl, rfl, rfl⟩, y7, rfl, H⟩
def seq_Seq_Len_F (r : World) (s1 : Option Addr) (h : Heap) (R : Int → Heap → Prop) : Prop :=
 New h (.cells #[(.pointer s1)] 41) fun p2 h1 =>
 LdP h1 (Addr.add (Addr.add p2 0) 0) fun x5 =>
 finger_Tree_Measure r x5 h1 fun y7 y8 y9 y10 y11 h2 =>
 R y7 h2
theorem seq_Seq_Len_of {r : World} {s1 : Option Addr} {h : Heap} {R : Int → Heap → Prop} (H : seq_Seq_Len_F r s1 h R) : seq_Seq_Len r s1 h R := by
 unfold seq_Seq_Len_F at H
 refine calls_of 7 [.tmp 2] Tryz.func44 rfl rfl rfl rfl rfl ?_
 refine W_seq ?_
 refine W_region (.ef 0 [] (.pu 1 .fin) .no) rfl rfl ?_
 obtain ⟨p2, e3⟩ : ∃ p : Addr, p = ⟨h.size, 0, none⟩ := ⟨_, rfl⟩
 obtain ⟨h1, e4⟩ : ∃ hh : Heap, hh = h.push (.cells #[(.pointer s1)] 41) := ⟨_, rfl⟩
 have H := H p2 h1 e3 e4
 refine s_ef1 (d := some 1) (v := (.pointer (some p2))) (h' := h1) rfl rfl rfl (fun dr => (r_box (v := (.agg #[(.pointer s1)])) rfl).trans (by rw [e3, e4]; rfl)) trivial ?_ trivial
 refine sp 2 (.int .i64 0) rfl rfl (r_assign rfl) ?_
 refine s_fin ?_
 refine W_seq ?_
 refine W_region (.pu 0 (.rl 1 (.ef 2 [] (.pu 3 (.pu 4 .fin)) .no))) rfl rfl ?_
 refine sp 3 (.pointer (some (Addr.add p2 0))) rfl rfl (r_fieldAddr Tryz.underlying41 Tryz.sizeOf39 rfl rfl rfl) ?_
 obtain ⟨x5, e6, H⟩ := H
 refine sl 4 (.agg #[(.pointer x5)]) rfl rfl (fun dr => r_loadN Tryz.isAgg39 Tryz.sizeOf39 (vs := [(.pointer x5)]) rfl rfl ⟨e6, trivial⟩) ?_
 refine sc 5 rfl rfl (fun dr => r_call Tryz.call49 rfl rfl H) ?_
 rintro _ h2 ⟨y7, y8, y9, y10, y11, rfl, H⟩
 refine sp 6 (.int .i64 y7) rfl rfl (fun w => by kernel_rfl) ?_
 refine sp 2 (.int .i64 y7) rfl rfl (r_assign rfl) ?_
 refine s_fin ?_
 refine W_ret ?_
 exact ⟨[(.int .i64 y7)], ⟨_, _, rfl, rfl, rfl⟩, y7, rfl, H⟩
def seq_Seq_cut_F (r : World) (s1 : Option Addr) (i2 : Int) (h : Heap) (R : Option Addr → Option Addr → Heap → Prop) : Prop :=
 New h (.cells #[(.pointer s1)] 41) fun p3 h1 =>
 New h1 (.cells #[(.int .i64 i2)] 3) fun p6 h2 =>
 New h2 (.cells #[(.pointer none)] 39) fun p9 h3 =>
 New h3 (.cells #[(.pointer none)] 39) fun p12 h4 =>
 LdP h4 (Addr.add (Addr.add p3 0) 0) fun x15 =>
 finger_Tree_Split r x15 ((.func (.func 67) #[] #[(.pointer (some p6))])) h4 fun y17 y18 h5 =>
 St h5 p9 1 [(.pointer y17)] fun h6 =>
 St h6 p12 1 [(.pointer y18)] fun h7 =>
 LdP h7 (Addr.add p9 0) fun x23 =>
 LdP h7 (Addr.add p12 0) fun x25 =>
 R x23 x25 h7
theorem seq_Seq_cut_of {r : World} {s1 : Option Addr} {i2 : Int} {h : Heap} {R : Option Addr → Option Addr → Heap → Prop} (H : seq_Seq_cut_F r s1 i2 h R) : seq_Seq_cut r s1 i2 h R := by
 unfold seq_Seq_cut_F at H
 refine calls_of 12 [.cell 4 39, .cell 5 39] Tryz.func45 rfl rfl rfl rfl rfl ?_
 refine W_seq ?_
 refine W_region (.ef 0 [] (.ef 1 [] (.ef 2 [] (.ef 3 [] .fin .no) .no) .no) .no) rfl rfl ?_
 obtain ⟨p3, e4⟩ : ∃ p : Addr, p = ⟨h.size, 0, none⟩ := ⟨_, rfl⟩
 obtain ⟨h1, e5⟩ : ∃ hh : Heap, hh = h.push (.cells #[(.pointer s1)] 41) := ⟨_, rfl⟩
 have H := H p3 h1 e4 e5
 refine s_ef1 (d := some 2) (v := (.pointer (some p3))) (h' := h1) rfl rfl rfl (fun dr => (r_box (v := (.agg #[(.pointer s1)])) rfl).trans (by rw [e4, e5]; rfl)) trivial ?_ trivial
 obtain ⟨p6, e7⟩ : ∃ p : Addr, p = ⟨h1.size, 0, none⟩ := ⟨_, rfl⟩
 obtain ⟨h2, e8⟩ : ∃ hh : Heap, hh = h1.push (.cells #[(.int .i64 i2)] 3) := ⟨_, rfl⟩
 have H := H p6 h2 e7 e8
 refine s_ef1 (d := some 3) (v := (.pointer (some p6))) (h' := h2) rfl rfl rfl (fun dr => (r_box (v := (.int .i64 i2)) rfl).trans (by rw [e7, e8]; rfl)) trivial ?_ trivial
 obtain ⟨p9, e10⟩ : ∃ p : Addr, p = ⟨h2.size, 0, none⟩ := ⟨_, rfl⟩
 obtain ⟨h3, e11⟩ : ∃ hh : Heap, hh = h2.push (.cells #[(.pointer none)] 39) := ⟨_, rfl⟩
 have H := H p9 h3 e10 e11
 refine s_ef1 (d := some 4) (v := (.pointer (some p9))) (h' := h3) rfl rfl rfl (fun dr => (r_alloc Tryz.zeroValue39).trans (by rw [e10, e11]; rfl)) trivial ?_ trivial
 obtain ⟨p12, e13⟩ : ∃ p : Addr, p = ⟨h3.size, 0, none⟩ := ⟨_, rfl⟩
 obtain ⟨h4, e14⟩ : ∃ hh : Heap, hh = h3.push (.cells #[(.pointer none)] 39) := ⟨_, rfl⟩
 have H := H p12 h4 e13 e14
 refine s_ef1 (d := some 5) (v := (.pointer (some p12))) (h' := h4) rfl rfl rfl (fun dr => (r_alloc Tryz.zeroValue39).trans (by rw [e13, e14]; rfl)) trivial ?_ trivial
 refine s_fin ?_
 refine W_seq ?_
 refine W_region (.pu 0 (.rl 1 (.pu 2 (.ef 3 [] (.pu 4 (.pu 5 (.ef 6 [] (.ef 7 [] .fin .no) .no))) .no)))) rfl rfl ?_
 refine sp 6 (.pointer (some (Addr.add p3 0))) rfl rfl (r_fieldAddr Tryz.underlying41 Tryz.sizeOf39 rfl rfl rfl) ?_
 obtain ⟨x15, e16, H⟩ := H
 refine sl 7 (.agg #[(.pointer x15)]) rfl rfl (fun dr => r_loadN Tryz.isAgg39 Tryz.sizeOf39 (vs := [(.pointer x15)]) rfl rfl ⟨e16, trivial⟩) ?_
 refine sp 8 ((.func (.func 67) #[] #[(.pointer (some p6))])) rfl rfl (r_makeFunc rfl rfl) ?_
 refine sc 9 rfl rfl (fun dr => r_call Tryz.call66 rfl rfl H) ?_
 rintro _ h5 ⟨y17, y18, rfl, H⟩
 refine sp 10 (.agg #[(.pointer y17)]) rfl rfl (r_extract rfl rfl) ?_
 refine sp 11 (.agg #[(.pointer y18)]) rfl rfl (r_extract rfl rfl) ?_
 obtain ⟨e20, H⟩ := H
 obtain ⟨h6, e19⟩ : ∃ hh : Heap, hh = hsets h5 p9 0 [(.pointer y17)] := ⟨_, rfl⟩
 have H := H h6 e19
 refine s_st (d := none) (h' := h6) rfl rfl rfl (fun dr => (r_store (v := (.agg #[(.pointer y17)])) Tryz.sizeOf39 rfl rfl rfl (one_all rfl) e20).trans (by rw [e19]; rfl)) trivial ?_ trivial
 obtain ⟨e22, H⟩ := H
 obtain ⟨h7, e21⟩ : ∃ hh : Heap, hh = hsets h6 p12 0 [(.pointer y18)] := ⟨_, rfl⟩
 have H := H h7 e21
 refine s_st (d := none) (h' := h7) rfl rfl rfl (fun dr => (r_store (v := (.agg #[(.pointer y18)])) Tryz.sizeOf39 rfl rfl rfl (one_all rfl) e22).trans (by rw [e21]; rfl)) trivial ?_ trivial
 refine s_fin ?_
 refine W_ret ?_
 obtain ⟨x23, e24, H⟩ := H
 obtain ⟨x25, e26, H⟩ := H
 exact ⟨[(.agg #[(.pointer x23)]), (.agg #[(.pointer x25)])], ⟨_, _, _, rfl, rfl, fun dr => run_loadVarN Tryz.isAgg39 Tryz.sizeOf39 (vs := [(.pointer x23)]) rfl ⟨e24, trivial⟩, ⟨_, _, _, rfl, rfl, fun dr => run_loadVarN Tryz.isAgg39 Tryz.sizeOf39 (vs := [(.pointer x25)]) rfl ⟨e26, trivial⟩, rfl⟩⟩, x23, x25, rfl, H⟩
def seq_Seq_cut_1_F (r : World) (m1 : Int) (m2 : Int) (m3 : Int) (m4 : Int) (m5 : Int) (c6 : Addr) (h : Heap) (R : Bool → Heap → Prop) : Prop :=
 New h (.cells #[(.int .i64 m1), (.int .i64 m2), (.int .i64 m3), (.int .i64 m4), (.int .i64 m5)] 66) fun p7 h1 =>
 LdI h1 (Addr.add p7 0) fun x10 =>
 LdI h1 c6 fun x12 =>
 R (decide (x12 < x10)) h1
theorem seq_Seq_cut_1_of {r : World} {m1 : Int} {m2 : Int} {m3 : Int} {m4 : Int} {m5 : Int} {c6 : Addr} {h : Heap} {R : Bool → Heap → Prop} (H : seq_Seq_cut_1_F r m1 m2 m3 m4 m5 c6 h R) : seq_Seq_cut_1 r m1 m2 m3 m4 m5 c6 h R := by
 unfold seq_Seq_cut_1_F at H
 refine calls_of 8 [.tmp 3] Tryz.func67 rfl rfl rfl rfl rfl ?_
 refine W_seq ?_
 refine W_region (.ef 0 [] (.pu 1 .fin) .no) rfl rfl ?_
 obtain ⟨p7, e8⟩ : ∃ p : Addr, p = ⟨h.size, 0, none⟩ := ⟨_, rfl⟩
 obtain ⟨h1, e9⟩ : ∃ hh : Heap, hh = h.push (.cells #[(.int .i64 m1), (.int .i64 m2), (.int .i64 m3), (.int .i64 m4), (.int .i64 m5)] 66) := ⟨_, rfl⟩
 have H := H p7 h1 e8 e9
 refine s_ef1 (d := some 2) (v := (.pointer (some p7))) (h' := h1) rfl rfl rfl (fun dr => (r_box (v := (.agg #[(.int .i64 m1), (.int .i64 m2), (.int .i64 m3), (.int .i64 m4), (.int .i64 m5)])) rfl).trans (by rw [e8, e9]; rfl)) trivial ?_ trivial
 refine sp 3 (.bool false) rfl rfl (r_assign rfl) ?_
 refine s_fin ?_
 refine W_seq ?_
 refine W_region (.pu 0 (.rl 1 (.rl 2 (.pu 3 (.pu 4 .fin))))) rfl rfl ?_
 refine sp 4 (.pointer (some (Addr.add p7 0))) rfl rfl (r_fieldAddr Tryz.underlying66 Tryz.sizeOf3 rfl rfl rfl) ?_
 obtain ⟨x10, e11, H⟩ := H
 refine sl 5 (.int .i64 x10) rfl rfl (fun dr => r_load1 Tryz.isAgg3 rfl e11) ?_
 obtain ⟨x12, e13, H⟩ := H
 refine sl 6 (.int .i64 x12) rfl rfl (fun dr => r_load1 Tryz.isAgg3 rfl e13) ?_
 refine sp 7 (.bool (decide (x12 < x10))) rfl rfl (r_gtr rfl rfl) ?_
 refine sp 3 (.bool (decide (x12 < x10))) rfl rfl (r_assign rfl) ?_
 refine s_fin ?_
 refine W_ret ?_
 exact ⟨[(.bool (decide (x12 < x10)))], ⟨_, _, rfl, rfl, rfl⟩, (decide (x12 < x10)), rfl, H⟩
def seq_Seq_Insert_F (r : World) (s1 : Option Addr) (i2 : Int) (x3 : Int) (h : Heap) (R : Option Addr → Bool → Heap → Prop) : Prop :=
 New h (.cells #[(.pointer s1)] 41) fun p4 h1 =>
 New h1 (.cells #[(.pointer none)] 41) fun p7 h2 =>
 ∀ J11 : Bool → Heap → Prop, (∀ (x10 : Bool) (h3 : Heap),
  (Br x10 (
   St h3 p7 1 [(.pointer none)] fun h4 =>
   LdP h4 (Addr.add p7 0) fun x15 =>
   R x15 false h4) (
   LdP h3 (Addr.add p4 0) fun x17 =>
   seq_Seq_cut r x17 i2 h3 fun y19 y20 h5 =>
   New h5 (.cells #[(.pointer none)] 39) fun p21 h6 =>
   New h6 (.cells #[(.pointer none)] 39) fun p24 h7 =>
   St h7 p21 1 [(.pointer y19)] fun h8 =>
   St h8 p24 1 [(.pointer y20)] fun h9 =>
   LdP h9 (Addr.add p21 0) fun x31 =>
   LdP h9 (Addr.add p24 0) fun x33 =>
   finger_Tree_PushRight r x31 x3 h9 fun y35 h10 =>
   (hcell h10 (Addr.add p24 0) = some (.pointer x33)) ∧
   finger_Tree_Join r y35 x33 h10 fun y37 h11 =>
   St h11 p7 1 [(.pointer y37)] fun h12 =>
   LdP h12 (Addr.add p7 0) fun x40 =>
   R x40 true h12)) →
  J11 x10 h3) →
 Br (decide (i2 < 0)) (
  J11 true h2) (
  LdP h2 (Addr.add p4 0) fun x44 =>
  seq_Seq_Len r x44 h2 fun y46 h13 =>
  J11 (decide (y46 < i2)) h13)
theorem seq_Seq_Insert_of {r : World} {s1 : Option Addr} {i2 : Int} {x3 : Int} {h : Heap} {R : Option Addr → Bool → Heap → Prop} (H : seq_Seq_Insert_F r s1 i2 x3 h R) : seq_Seq_Insert r s1 i2 x3 h R := by
 unfold seq_Seq_Insert_F at H
 refine calls_of 31 [.cell 6 41, .tmp 7] Tryz.func23 rfl rfl rfl rfl rfl ?_
 refine W_seq ?_
 refine W_region (.ef 0 [] (.ef 1 [] (.pu 2 .fin) .no) .no) rfl rfl ?_
 obtain ⟨p4, e5⟩ : ∃ p : Addr, p = ⟨h.size, 0, none⟩ := ⟨_, rfl⟩
 obtain ⟨h1, e6⟩ : ∃ hh : Heap, hh = h.push (.cells #[(.pointer s1)] 41) := ⟨_, rfl⟩
 have H := H p4 h1 e5 e6
 refine s_ef1 (d := some 3) (v := (.pointer (some p4))) (h' := h1) rfl rfl rfl (fun dr => (r_box (v := (.agg #[(.pointer s1)])) rfl).trans (by rw [e5, e6]; rfl)) trivial ?_ trivial
 obtain ⟨p7, e8⟩ : ∃ p : Addr, p = ⟨h1.size, 0, none⟩ := ⟨_, rfl⟩
 obtain ⟨h2, e9⟩ : ∃ hh : Heap, hh = h1.push (.cells #[(.pointer none)] 41) := ⟨_, rfl⟩
 have H := H p7 h2 e8 e9
 refine s_ef1 (d := some 6) (v := (.pointer (some p7))) (h' := h2) rfl rfl rfl (fun dr => (r_alloc Tryz.zeroValue41).trans (by rw [e8, e9]; rfl)) trivial ?_ trivial
 refine sp 7 (.bool false) rfl rfl (r_assign rfl) ?_
 refine s_fin ?_
 refine W_seq ?_
 refine W_seq ?_
 refine W_set ?_
 intro N12 eN12
 have H := H (fun (x10 : Bool) (h3 : Heap) => ∀ b, N12 [] (mkE [(1, (.int .i64 i2)), (2, (.int .i64 x3)), (3, (.pointer (some p4))), (6, (.pointer (some p7))), (17, (.bool x10))] b) h3) (by
  intro x10 h3 H b
  rw [eN12]
  show W _ _ _ _ _ _ _ _
  refine W_if x10 rfl (fun g42 => ?_) (fun g42 => ?_)
  ·have H := H.1 g42
   refine W_seq ?_
   refine W_region (.pu 0 (.ef 1 [] (.pu 2 .fin) .no)) rfl rfl ?_
   refine sp 18 (.agg #[(.pointer none)]) rfl rfl (fun w => by kernel_rfl) ?_
   obtain ⟨e14, H⟩ := H
   obtain ⟨h4, e13⟩ : ∃ hh : Heap, hh = hsets h3 p7 0 [(.pointer none)] := ⟨_, rfl⟩
   have H := H h4 e13
   refine s_st (d := none) (h' := h4) rfl rfl rfl (fun dr => (r_store (v := (.agg #[(.pointer none)])) Tryz.sizeOf41 rfl rfl rfl (one_all rfl) e14).trans (by rw [e13]; rfl)) trivial ?_ trivial
   refine sp 7 (.bool false) rfl rfl (r_assign rfl) ?_
   refine s_fin ?_
   refine W_ret ?_
   obtain ⟨x15, e16, H⟩ := H
   exact ⟨[(.agg #[(.pointer x15)]), (.bool false)], ⟨_, _, _, rfl, rfl, fun dr => run_loadVarN Tryz.isAgg41 Tryz.sizeOf41 (vs := [(.pointer x15)]) rfl ⟨e16, trivial⟩, ⟨_, _, rfl, rfl, rfl⟩⟩, x15, false, rfl, H⟩
  ·have H := H.2 g42
   refine W_skip ?_
   show W _ _ _ _ _ _ _ _
   refine W_seq ?_
   refine W_region (.rl 0 (.pu 1 (.ef 2 [] (.pu 3 (.pu 4 (.pu 5 (.ef 6 [] (.ef 7 [] (.ef 8 [] (.ef 9 [] .fin .no) .no) .no) .no)))) .no))) rfl rfl ?_
   obtain ⟨x17, e18, H⟩ := H
   refine sl 20 (.agg #[(.pointer x17)]) rfl rfl (fun dr => r_loadN Tryz.isAgg41 Tryz.sizeOf41 (vs := [(.pointer x17)]) rfl rfl ⟨e18, trivial⟩) ?_
   refine sp 21 (.int .i64 i2) rfl rfl (r_move rfl) ?_
   refine sc 22 rfl rfl (fun dr => r_call Tryz.call45 rfl rfl H) ?_
   rintro _ h5 ⟨y19, y20, rfl, H⟩
   refine sp 19 (.tuple #[(.agg #[(.pointer y19)]), (.agg #[(.pointer y20)])]) rfl rfl (r_move rfl) ?_
   refine sp 23 (.agg #[(.pointer y19)]) rfl rfl (r_extract rfl rfl) ?_
   refine sp 24 (.agg #[(.pointer y20)]) rfl rfl (r_extract rfl rfl) ?_
   obtain ⟨p21, e22⟩ : ∃ p : Addr, p = ⟨h5.size, 0, none⟩ := ⟨_, rfl⟩
   obtain ⟨h6, e23⟩ : ∃ hh : Heap, hh = h5.push (.cells #[(.pointer none)] 39) := ⟨_, rfl⟩
   have H := H p21 h6 e22 e23
   refine s_ef1 (d := some 8) (v := (.pointer (some p21))) (h' := h6) rfl rfl rfl (fun dr => (r_alloc Tryz.zeroValue39).trans (by rw [e22, e23]; rfl)) trivial ?_ trivial
   obtain ⟨p24, e25⟩ : ∃ p : Addr, p = ⟨h6.size, 0, none⟩ := ⟨_, rfl⟩
   obtain ⟨h7, e26⟩ : ∃ hh : Heap, hh = h6.push (.cells #[(.pointer none)] 39) := ⟨_, rfl⟩
   have H := H p24 h7 e25 e26
   refine s_ef1 (d := some 9) (v := (.pointer (some p24))) (h' := h7) rfl rfl rfl (fun dr => (r_alloc Tryz.zeroValue39).trans (by rw [e25, e26]; rfl)) trivial ?_ trivial
   obtain ⟨e28, H⟩ := H
   obtain ⟨h8, e27⟩ : ∃ hh : Heap, hh = hsets h7 p21 0 [(.pointer y19)] := ⟨_, rfl⟩
   have H := H h8 e27
   refine s_st (d := none) (h' := h8) rfl rfl rfl (fun dr => (r_store (v := (.agg #[(.pointer y19)])) Tryz.sizeOf39 rfl rfl rfl (one_all rfl) e28).trans (by rw [e27]; rfl)) trivial ?_ trivial
   obtain ⟨e30, H⟩ := H
   obtain ⟨h9, e29⟩ : ∃ hh : Heap, hh = hsets h8 p24 0 [(.pointer y20)] := ⟨_, rfl⟩
   have H := H h9 e29
   refine s_st (d := none) (h' := h9) rfl rfl rfl (fun dr => (r_store (v := (.agg #[(.pointer y20)])) Tryz.sizeOf39 rfl rfl rfl (one_all rfl) e30).trans (by rw [e29]; rfl)) trivial ?_ trivial
   refine s_fin ?_
   refine W_seq ?_
   refine W_draw [0, 0, 3, 0, 15, 31, 63, 127] (.rd 0 (.pu 1 (.rd 3 (.ef 2 [0] (.ef 4 [0, 3] (.pu 5 (.ef 6 [0, 3] (.pu 7 .fin) .no)) .no) .no)))) (by kernel_rfl) (by kernel_rfl) ?_
   obtain ⟨x31, e32, H⟩ := H
   refine s_rd (d := some 25) (v := (.agg #[(.pointer x31)])) rfl rfl rfl (fun dr => r_loadN Tryz.isAgg39 Tryz.sizeOf39 (vs := [(.pointer x31)]) rfl rfl ⟨e32, trivial⟩) ?_
   refine sp 26 (.int .i64 x3) rfl rfl (r_move rfl) ?_
   obtain ⟨x33, e34, H⟩ := H
   refine s_rd (d := some 28) (v := (.agg #[(.pointer x33)])) rfl rfl rfl (fun dr => r_loadN Tryz.isAgg39 Tryz.sizeOf39 (vs := [(.pointer x33)]) rfl rfl ⟨e34, trivial⟩) ?_
   refine s_ef (d := some 27) rfl rfl rfl (fun dr => r_call Tryz.call46 rfl rfl H) ?_ trivial
   rintro _ h10 ⟨y35, rfl, H⟩
   obtain ⟨e36, H⟩ := H
   refine ⟨⟨(.inl ⟨rfl, fun dr => r_loadN Tryz.isAgg39 Tryz.sizeOf39 (vs := [(.pointer x33)]) rfl rfl ⟨e36, trivial⟩⟩), trivial, trivial⟩, ?_⟩
   refine s_ef (d := some 29) rfl rfl rfl (fun dr => r_call Tryz.call47 rfl rfl H) ?_ trivial
   rintro _ h11 ⟨y37, rfl, H⟩
   refine ⟨⟨trivial, trivial, trivial⟩, ?_⟩
   refine sp 30 (.agg #[(.pointer y37)]) rfl rfl (fun w => by kernel_rfl) ?_
   obtain ⟨e39, H⟩ := H
   obtain ⟨h12, e38⟩ : ∃ hh : Heap, hh = hsets h11 p7 0 [(.pointer y37)] := ⟨_, rfl⟩
   have H := H h12 e38
   refine s_st (d := none) (h' := h12) rfl rfl rfl (fun dr => (r_store (v := (.agg #[(.pointer y37)])) Tryz.sizeOf41 rfl rfl rfl (one_all rfl) e39).trans (by rw [e38]; rfl)) ⟨trivial, trivial, trivial⟩ ?_ trivial
   refine sp 7 (.bool true) rfl rfl (r_assign rfl) ?_
   refine s_fin ?_
   refine W_ret ?_
   obtain ⟨x40, e41, H⟩ := H
   exact ⟨[(.agg #[(.pointer x40)]), (.bool true)], ⟨_, _, _, rfl, rfl, fun dr => run_loadVarN Tryz.isAgg41 Tryz.sizeOf41 (vs := [(.pointer x40)]) rfl ⟨e41, trivial⟩, ⟨_, _, rfl, rfl, rfl⟩⟩, x40, true, rfl, H⟩)
 clear eN12
 refine W_region (.pu 0 (.pu 1 (.pu 2 (.pu 3 (.rl 4 (.ef 5 [] (.pu 6 (.pu 7 .fin)) .no)))))) rfl rfl ?_
 refine sp 10 (.int .i64 i2) rfl rfl (r_move rfl) ?_
 refine sp 11 (.bool (decide (i2 < 0))) rfl rfl (r_lss rfl rfl) ?_
 refine sp 12 (.bool (decide (i2 < 0))) rfl rfl (r_move rfl) ?_
 rcases Bool.eq_false_or_eq_true (decide (i2 < 0)) with g43 | g43
 ·have H := H.1 g43
  refine s_sk (d := some 13) rfl rfl (wants_no rfl rfl rfl rfl g43) ?_
  refine s_skl (d := some 14) rfl rfl (wants_no rfl rfl rfl rfl g43) ?_
  refine s_skf (d := some 15) rfl rfl (wants_no rfl rfl rfl rfl g43) trivial ?_ trivial
  refine s_sk (d := some 16) rfl rfl (wants_no rfl rfl rfl rfl g43) ?_
  refine sp 17 (.bool true) rfl rfl (r_pick1 rfl g43 rfl) ?_
  refine s_fin ?_
  exact N_mk (l := [(1, (.int .i64 i2)), (2, (.int .i64 x3)), (3, (.pointer (some p4))), (6, (.pointer (some p7))), (17, (.bool true))]) H ⟨rfl, rfl, rfl, rfl, rfl, trivial⟩
 ·have H := H.2 g43
  refine s_pu (d := some 13) (v := (.int .i64 i2)) rfl rfl (wants_yes rfl rfl rfl rfl g43) (r_move rfl) ?_
  obtain ⟨x44, e45, H⟩ := H
  refine s_rl (d := some 14) (v := (.agg #[(.pointer x44)])) rfl rfl (wants_yes rfl rfl rfl rfl g43) (fun dr => r_loadN Tryz.isAgg41 Tryz.sizeOf41 (vs := [(.pointer x44)]) rfl rfl ⟨e45, trivial⟩) ?_
  refine s_ef (d := some 15) rfl rfl (wants_yes rfl rfl rfl rfl g43) (fun dr => r_call Tryz.call44 rfl rfl H) ?_ trivial
  rintro _ h13 ⟨y46, rfl, H⟩
  refine ⟨trivial, ?_⟩
  refine s_pu (d := some 16) (v := (.bool (decide (y46 < i2)))) rfl rfl (wants_yes rfl rfl rfl rfl g43) (r_gtr rfl rfl) ?_
  refine sp 17 (.bool (decide (y46 < i2))) rfl rfl (r_pick0 rfl g43 rfl) ?_
  refine s_fin ?_
  exact N_mk (l := [(1, (.int .i64 i2)), (2, (.int .i64 x3)), (3, (.pointer (some p4))), (6, (.pointer (some p7))), (17, (.bool (decide (y46 < i2))))]) H ⟨rfl, rfl, rfl, rfl, rfl, trivial⟩
def seq_Seq_Delete_F (r : World) (s1 : Option Addr) (i2 : Int) (h : Heap) (R : Option Addr → Bool → Heap → Prop) : Prop :=
 New h (.cells #[(.pointer s1)] 41) fun p3 h1 =>
 New h1 (.cells #[(.pointer none)] 41) fun p6 h2 =>
 ∀ J10 : Bool → Heap → Prop, (∀ (x9 : Bool) (h3 : Heap),
  (Br x9 (
   St h3 p6 1 [(.pointer none)] fun h4 =>
   LdP h4 (Addr.add p6 0) fun x14 =>
   R x14 false h4) (
   LdP h3 (Addr.add p3 0) fun x16 =>
   seq_Seq_cut r x16 i2 h3 fun y18 y19 h5 =>
   New h5 (.cells #[(.pointer none)] 39) fun p20 h6 =>
   New h6 (.cells #[(.pointer none)] 39) fun p23 h7 =>
   St h7 p20 1 [(.pointer y18)] fun h8 =>
   St h8 p23 1 [(.pointer y19)] fun h9 =>
   LdP h9 (Addr.add p23 0) fun x30 =>
   finger_Tree_PopLeft r x30 h9 fun y32 y33 y34 h10 =>
   New h10 (.cells #[(.pointer none)] 39) fun p35 h11 =>
   St h11 p35 1 [(.pointer y33)] fun h12 =>
   LdP h12 (Addr.add p20 0) fun x40 =>
   LdP h12 (Addr.add p35 0) fun x42 =>
   finger_Tree_Join r x40 x42 h12 fun y44 h13 =>
   St h13 p6 1 [(.pointer y44)] fun h14 =>
   LdP h14 (Addr.add p6 0) fun x47 =>
   R x47 true h14)) →
  J10 x9 h3) →
 Br (decide (i2 < 0)) (
  J10 true h2) (
  LdP h2 (Addr.add p3 0) fun x51 =>
  seq_Seq_Len r x51 h2 fun y53 h15 =>
  J10 (decide (y53 ≤ i2)) h15)
theorem seq_Seq_Delete_of {r : World} {s1 : Option Addr} {i2 : Int} {h : Heap} {R : Option Addr → Bool → Heap → Prop} (H : seq_Seq_Delete_F r s1 i2 h R) : seq_Seq_Delete r s1 i2 h R := by
 unfold seq_Seq_Delete_F at H
 refine calls_of 36 [.cell 4 41, .tmp 5] Tryz.func24 rfl rfl rfl rfl rfl ?_
 refine W_seq ?_
 refine W_region (.ef 0 [] (.ef 1 [] (.pu 2 .fin) .no) .no) rfl rfl ?_
 obtain ⟨p3, e4⟩ : ∃ p : Addr, p = ⟨h.size, 0, none⟩ := ⟨_, rfl⟩
 obtain ⟨h1, e5⟩ : ∃ hh : Heap, hh = h.push (.cells #[(.pointer s1)] 41) := ⟨_, rfl⟩
 have H := H p3 h1 e4 e5
 refine s_ef1 (d := some 2) (v := (.pointer (some p3))) (h' := h1) rfl rfl rfl (fun dr => (r_box (v := (.agg #[(.pointer s1)])) rfl).trans (by rw [e4, e5]; rfl)) trivial ?_ trivial
 obtain ⟨p6, e7⟩ : ∃ p : Addr, p = ⟨h1.size, 0, none⟩ := ⟨_, rfl⟩
 obtain ⟨h2, e8⟩ : ∃ hh : Heap, hh = h1.push (.cells #[(.pointer none)] 41) := ⟨_, rfl⟩
 have H := H p6 h2 e7 e8
 refine s_ef1 (d := some 4) (v := (.pointer (some p6))) (h' := h2) rfl rfl rfl (fun dr => (r_alloc Tryz.zeroValue41).trans (by rw [e7, e8]; rfl)) trivial ?_ trivial
 refine sp 5 (.bool false) rfl rfl (r_assign rfl) ?_
 refine s_fin ?_
 refine W_seq ?_
 refine W_seq ?_
 refine W_set ?_
 intro N11 eN11
 have H := H (fun (x9 : Bool) (h3 : Heap) => ∀ b, N11 [] (mkE [(1, (.int .i64 i2)), (2, (.pointer (some p3))), (4, (.pointer (some p6))), (18, (.bool x9))] b) h3) (by
  intro x9 h3 H b
  rw [eN11]
  show W _ _ _ _ _ _ _ _
  refine W_if x9 rfl (fun g49 => ?_) (fun g49 => ?_)
  ·have H := H.1 g49
   refine W_seq ?_
   refine W_region (.pu 0 (.ef 1 [] (.pu 2 .fin) .no)) rfl rfl ?_
   refine sp 19 (.agg #[(.pointer none)]) rfl rfl (fun w => by kernel_rfl) ?_
   obtain ⟨e13, H⟩ := H
   obtain ⟨h4, e12⟩ : ∃ hh : Heap, hh = hsets h3 p6 0 [(.pointer none)] := ⟨_, rfl⟩
   have H := H h4 e12
   refine s_st (d := none) (h' := h4) rfl rfl rfl (fun dr => (r_store (v := (.agg #[(.pointer none)])) Tryz.sizeOf41 rfl rfl rfl (one_all rfl) e13).trans (by rw [e12]; rfl)) trivial ?_ trivial
   refine sp 5 (.bool false) rfl rfl (r_assign rfl) ?_
   refine s_fin ?_
   refine W_ret ?_
   obtain ⟨x14, e15, H⟩ := H
   exact ⟨[(.agg #[(.pointer x14)]), (.bool false)], ⟨_, _, _, rfl, rfl, fun dr => run_loadVarN Tryz.isAgg41 Tryz.sizeOf41 (vs := [(.pointer x14)]) rfl ⟨e15, trivial⟩, ⟨_, _, rfl, rfl, rfl⟩⟩, x14, false, rfl, H⟩
  ·have H := H.2 g49
   refine W_skip ?_
   show W _ _ _ _ _ _ _ _
   refine W_seq ?_
   refine W_region (.rl 0 (.pu 1 (.ef 2 [] (.pu 3 (.pu 4 (.pu 5 (.ef 6 [] (.ef 7 [] (.ef 8 [] (.ef 9 [] .fin .no) .no) .no) .no)))) .no))) rfl rfl ?_
   obtain ⟨x16, e17, H⟩ := H
   refine sl 21 (.agg #[(.pointer x16)]) rfl rfl (fun dr => r_loadN Tryz.isAgg41 Tryz.sizeOf41 (vs := [(.pointer x16)]) rfl rfl ⟨e17, trivial⟩) ?_
   refine sp 22 (.int .i64 i2) rfl rfl (r_move rfl) ?_
   refine sc 23 rfl rfl (fun dr => r_call Tryz.call45 rfl rfl H) ?_
   rintro _ h5 ⟨y18, y19, rfl, H⟩
   refine sp 20 (.tuple #[(.agg #[(.pointer y18)]), (.agg #[(.pointer y19)])]) rfl rfl (r_move rfl) ?_
   refine sp 24 (.agg #[(.pointer y18)]) rfl rfl (r_extract rfl rfl) ?_
   refine sp 25 (.agg #[(.pointer y19)]) rfl rfl (r_extract rfl rfl) ?_
   obtain ⟨p20, e21⟩ : ∃ p : Addr, p = ⟨h5.size, 0, none⟩ := ⟨_, rfl⟩
   obtain ⟨h6, e22⟩ : ∃ hh : Heap, hh = h5.push (.cells #[(.pointer none)] 39) := ⟨_, rfl⟩
   have H := H p20 h6 e21 e22
   refine s_ef1 (d := some 6) (v := (.pointer (some p20))) (h' := h6) rfl rfl rfl (fun dr => (r_alloc Tryz.zeroValue39).trans (by rw [e21, e22]; rfl)) trivial ?_ trivial
   obtain ⟨p23, e24⟩ : ∃ p : Addr, p = ⟨h6.size, 0, none⟩ := ⟨_, rfl⟩
   obtain ⟨h7, e25⟩ : ∃ hh : Heap, hh = h6.push (.cells #[(.pointer none)] 39) := ⟨_, rfl⟩
   have H := H p23 h7 e24 e25
   refine s_ef1 (d := some 7) (v := (.pointer (some p23))) (h' := h7) rfl rfl rfl (fun dr => (r_alloc Tryz.zeroValue39).trans (by rw [e24, e25]; rfl)) trivial ?_ trivial
   obtain ⟨e27, H⟩ := H
   obtain ⟨h8, e26⟩ : ∃ hh : Heap, hh = hsets h7 p20 0 [(.pointer y18)] := ⟨_, rfl⟩
   have H := H h8 e26
   refine s_st (d := none) (h' := h8) rfl rfl rfl (fun dr => (r_store (v := (.agg #[(.pointer y18)])) Tryz.sizeOf39 rfl rfl rfl (one_all rfl) e27).trans (by rw [e26]; rfl)) trivial ?_ trivial
   obtain ⟨e29, H⟩ := H
   obtain ⟨h9, e28⟩ : ∃ hh : Heap, hh = hsets h8 p23 0 [(.pointer y19)] := ⟨_, rfl⟩
   have H := H h9 e28
   refine s_st (d := none) (h' := h9) rfl rfl rfl (fun dr => (r_store (v := (.agg #[(.pointer y19)])) Tryz.sizeOf39 rfl rfl rfl (one_all rfl) e29).trans (by rw [e28]; rfl)) trivial ?_ trivial
   refine s_fin ?_
   refine W_seq ?_
   refine W_region (.rl 0 (.ef 1 [] (.pu 2 (.pu 3 (.pu 4 (.pu 5 (.ef 6 [] (.pu 7 (.ef 8 [] (.pu 9 .fin) .no)) .no))))) .no)) rfl rfl ?_
   obtain ⟨x30, e31, H⟩ := H
   refine sl 27 (.agg #[(.pointer x30)]) rfl rfl (fun dr => r_loadN Tryz.isAgg39 Tryz.sizeOf39 (vs := [(.pointer x30)]) rfl rfl ⟨e31, trivial⟩) ?_
   refine sc 28 rfl rfl (fun dr => r_call Tryz.call48 rfl rfl H) ?_
   rintro _ h10 ⟨y32, y33, y34, rfl, H⟩
   refine sp 26 (.tuple #[(.int .i64 y32), (.agg #[(.pointer y33)]), (.bool y34)]) rfl rfl (r_move rfl) ?_
   refine sp 29 (.int .i64 y32) rfl rfl (r_extract rfl rfl) ?_
   refine sp 30 (.agg #[(.pointer y33)]) rfl rfl (r_extract rfl rfl) ?_
   refine sp 31 (.bool y34) rfl rfl (r_extract rfl rfl) ?_
   obtain ⟨p35, e36⟩ : ∃ p : Addr, p = ⟨h10.size, 0, none⟩ := ⟨_, rfl⟩
   obtain ⟨h11, e37⟩ : ∃ hh : Heap, hh = h10.push (.cells #[(.pointer none)] 39) := ⟨_, rfl⟩
   have H := H p35 h11 e36 e37
   refine s_ef1 (d := some 9) (v := (.pointer (some p35))) (h' := h11) rfl rfl rfl (fun dr => (r_alloc Tryz.zeroValue39).trans (by rw [e36, e37]; rfl)) trivial ?_ trivial
   refine sp 8 (.int .i64 y32) rfl rfl (r_assign rfl) ?_
   obtain ⟨e39, H⟩ := H
   obtain ⟨h12, e38⟩ : ∃ hh : Heap, hh = hsets h11 p35 0 [(.pointer y33)] := ⟨_, rfl⟩
   have H := H h12 e38
   refine s_st (d := none) (h' := h12) rfl rfl rfl (fun dr => (r_store (v := (.agg #[(.pointer y33)])) Tryz.sizeOf39 rfl rfl rfl (one_all rfl) e39).trans (by rw [e38]; rfl)) trivial ?_ trivial
   refine sp 10 (.bool y34) rfl rfl (r_assign rfl) ?_
   refine s_fin ?_
   refine W_seq ?_
   refine W_region (.rl 0 (.rl 1 (.ef 2 [] (.pu 3 (.ef 4 [] (.pu 5 .fin) .no)) .no))) rfl rfl ?_
   obtain ⟨x40, e41, H⟩ := H
   refine sl 32 (.agg #[(.pointer x40)]) rfl rfl (fun dr => r_loadN Tryz.isAgg39 Tryz.sizeOf39 (vs := [(.pointer x40)]) rfl rfl ⟨e41, trivial⟩) ?_
   obtain ⟨x42, e43, H⟩ := H
   refine sl 33 (.agg #[(.pointer x42)]) rfl rfl (fun dr => r_loadN Tryz.isAgg39 Tryz.sizeOf39 (vs := [(.pointer x42)]) rfl rfl ⟨e43, trivial⟩) ?_
   refine sc 34 rfl rfl (fun dr => r_call Tryz.call47 rfl rfl H) ?_
   rintro _ h13 ⟨y44, rfl, H⟩
   refine sp 35 (.agg #[(.pointer y44)]) rfl rfl (fun w => by kernel_rfl) ?_
   obtain ⟨e46, H⟩ := H
   obtain ⟨h14, e45⟩ : ∃ hh : Heap, hh = hsets h13 p6 0 [(.pointer y44)] := ⟨_, rfl⟩
   have H := H h14 e45
   refine s_st (d := none) (h' := h14) rfl rfl rfl (fun dr => (r_store (v := (.agg #[(.pointer y44)])) Tryz.sizeOf41 rfl rfl rfl (one_all rfl) e46).trans (by rw [e45]; rfl)) trivial ?_ trivial
   refine sp 5 (.bool true) rfl rfl (r_assign rfl) ?_
   refine s_fin ?_
   refine W_ret ?_
   obtain ⟨x47, e48, H⟩ := H
   exact ⟨[(.agg #[(.pointer x47)]), (.bool true)], ⟨_, _, _, rfl, rfl, fun dr => run_loadVarN Tryz.isAgg41 Tryz.sizeOf41 (vs := [(.pointer x47)]) rfl ⟨e48, trivial⟩, ⟨_, _, rfl, rfl, rfl⟩⟩, x47, true, rfl, H⟩)
 clear eN11
 refine W_region (.pu 0 (.pu 1 (.pu 2 (.pu 3 (.rl 4 (.ef 5 [] (.pu 6 (.pu 7 .fin)) .no)))))) rfl rfl ?_
 refine sp 11 (.int .i64 i2) rfl rfl (r_move rfl) ?_
 refine sp 12 (.bool (decide (i2 < 0))) rfl rfl (r_lss rfl rfl) ?_
 refine sp 13 (.bool (decide (i2 < 0))) rfl rfl (r_move rfl) ?_
 rcases Bool.eq_false_or_eq_true (decide (i2 < 0)) with g50 | g50
 ·have H := H.1 g50
  refine s_sk (d := some 14) rfl rfl (wants_no rfl rfl rfl rfl g50) ?_
  refine s_skl (d := some 15) rfl rfl (wants_no rfl rfl rfl rfl g50) ?_
  refine s_skf (d := some 16) rfl rfl (wants_no rfl rfl rfl rfl g50) trivial ?_ trivial
  refine s_sk (d := some 17) rfl rfl (wants_no rfl rfl rfl rfl g50) ?_
  refine sp 18 (.bool true) rfl rfl (r_pick1 rfl g50 rfl) ?_
  refine s_fin ?_
  exact N_mk (l := [(1, (.int .i64 i2)), (2, (.pointer (some p3))), (4, (.pointer (some p6))), (18, (.bool true))]) H ⟨rfl, rfl, rfl, rfl, trivial⟩
 ·have H := H.2 g50
  refine s_pu (d := some 14) (v := (.int .i64 i2)) rfl rfl (wants_yes rfl rfl rfl rfl g50) (r_move rfl) ?_
  obtain ⟨x51, e52, H⟩ := H
  refine s_rl (d := some 15) (v := (.agg #[(.pointer x51)])) rfl rfl (wants_yes rfl rfl rfl rfl g50) (fun dr => r_loadN Tryz.isAgg41 Tryz.sizeOf41 (vs := [(.pointer x51)]) rfl rfl ⟨e52, trivial⟩) ?_
  refine s_ef (d := some 16) rfl rfl (wants_yes rfl rfl rfl rfl g50) (fun dr => r_call Tryz.call44 rfl rfl H) ?_ trivial
  rintro _ h15 ⟨y53, rfl, H⟩
  refine ⟨trivial, ?_⟩
  refine s_pu (d := some 17) (v := (.bool (decide (y53 ≤ i2)))) rfl rfl (wants_yes rfl rfl rfl rfl g50) (r_geq rfl rfl) ?_
  refine sp 18 (.bool (decide (y53 ≤ i2))) rfl rfl (r_pick0 rfl g50 rfl) ?_
  refine s_fin ?_
  exact N_mk (l := [(1, (.int .i64 i2)), (2, (.pointer (some p3))), (4, (.pointer (some p6))), (18, (.bool (decide (y53 ≤ i2))))]) H ⟨rfl, rfl, rfl, rfl, trivial⟩
def seq_Seq_Slice_F (r : World) (s1 : Option Addr) (i2 : Int) (j3 : Int) (h : Heap) (R : Option Addr → Bool → Heap → Prop) : Prop :=
 New h (.cells #[(.pointer s1)] 41) fun p4 h1 =>
 New h1 (.cells #[(.pointer none)] 41) fun p7 h2 =>
 ∀ J11 : Bool → Heap → Prop, (∀ (x10 : Bool) (h3 : Heap),
  (Br x10 (
   St h3 p7 1 [(.pointer none)] fun h4 =>
   LdP h4 (Addr.add p7 0) fun x15 =>
   R x15 false h4) (
   LdP h3 (Addr.add p4 0) fun x17 =>
   seq_Seq_cut r x17 j3 h3 fun y19 y20 h5 =>
   New h5 (.cells #[(.pointer none)] 39) fun p21 h6 =>
   New h6 (.cells #[(.pointer none)] 39) fun p24 h7 =>
   St h7 p21 1 [(.pointer y19)] fun h8 =>
   St h8 p24 1 [(.pointer y20)] fun h9 =>
   LdP h9 (Addr.add p21 0) fun x31 =>
   seq_Seq_cut r x31 i2 h9 fun y33 y34 h10 =>
   New h10 (.cells #[(.pointer none)] 39) fun p35 h11 =>
   New h11 (.cells #[(.pointer none)] 39) fun p38 h12 =>
   St h12 p35 1 [(.pointer y33)] fun h13 =>
   St h13 p38 1 [(.pointer y34)] fun h14 =>
   LdP h14 (Addr.add p38 0) fun x45 =>
   St h14 p7 1 [(.pointer x45)] fun h15 =>
   LdP h15 (Addr.add p7 0) fun x49 =>
   R x49 true h15)) →
  J11 x10 h3) →
 Br (decide (i2 < 0)) (
  J11 true h2) (
  Br (decide (j3 < i2)) (
   J11 true h2) (
   LdP h2 (Addr.add p4 0) fun x54 =>
   seq_Seq_Len r x54 h2 fun y56 h16 =>
   J11 (decide (y56 < j3)) h16))
theorem seq_Seq_Slice_of {r : World} {s1 : Option Addr} {i2 : Int} {j3 : Int} {h : Heap} {R : Option Addr → Bool → Heap → Prop} (H : seq_Seq_Slice_F r s1 i2 j3 h R) : seq_Seq_Slice r s1 i2 j3 h R := by
 unfold seq_Seq_Slice_F at H
 refine calls_of 41 [.cell 6 41, .tmp 7] Tryz.func25 rfl rfl rfl rfl rfl ?_
 refine W_seq ?_
 refine W_region (.ef 0 [] (.ef 1 [] (.pu 2 .fin) .no) .no) rfl rfl ?_
 obtain ⟨p4, e5⟩ : ∃ p : Addr, p = ⟨h.size, 0, none⟩ := ⟨_, rfl⟩
 obtain ⟨h1, e6⟩ : ∃ hh : Heap, hh = h.push (.cells #[(.pointer s1)] 41) := ⟨_, rfl⟩
 have H := H p4 h1 e5 e6
 refine s_ef1 (d := some 3) (v := (.pointer (some p4))) (h' := h1) rfl rfl rfl (fun dr => (r_box (v := (.agg #[(.pointer s1)])) rfl).trans (by rw [e5, e6]; rfl)) trivial ?_ trivial
 obtain ⟨p7, e8⟩ : ∃ p : Addr, p = ⟨h1.size, 0, none⟩ := ⟨_, rfl⟩
 obtain ⟨h2, e9⟩ : ∃ hh : Heap, hh = h1.push (.cells #[(.pointer none)] 41) := ⟨_, rfl⟩
 have H := H p7 h2 e8 e9
 refine s_ef1 (d := some 6) (v := (.pointer (some p7))) (h' := h2) rfl rfl rfl (fun dr => (r_alloc Tryz.zeroValue41).trans (by rw [e8, e9]; rfl)) trivial ?_ trivial
 refine sp 7 (.bool false) rfl rfl (r_assign rfl) ?_
 refine s_fin ?_
 refine W_seq ?_
 refine W_seq ?_
 refine W_set ?_
 intro N12 eN12
 have H := H (fun (x10 : Bool) (h3 : Heap) => ∀ b, N12 [] (mkE [(1, (.int .i64 i2)), (2, (.int .i64 j3)), (3, (.pointer (some p4))), (6, (.pointer (some p7))), (24, (.bool x10))] b) h3) (by
  intro x10 h3 H b
  rw [eN12]
  show W _ _ _ _ _ _ _ _
  refine W_if x10 rfl (fun g51 => ?_) (fun g51 => ?_)
  ·have H := H.1 g51
   refine W_seq ?_
   refine W_region (.pu 0 (.ef 1 [] (.pu 2 .fin) .no)) rfl rfl ?_
   refine sp 25 (.agg #[(.pointer none)]) rfl rfl (fun w => by kernel_rfl) ?_
   obtain ⟨e14, H⟩ := H
   obtain ⟨h4, e13⟩ : ∃ hh : Heap, hh = hsets h3 p7 0 [(.pointer none)] := ⟨_, rfl⟩
   have H := H h4 e13
   refine s_st (d := none) (h' := h4) rfl rfl rfl (fun dr => (r_store (v := (.agg #[(.pointer none)])) Tryz.sizeOf41 rfl rfl rfl (one_all rfl) e14).trans (by rw [e13]; rfl)) trivial ?_ trivial
   refine sp 7 (.bool false) rfl rfl (r_assign rfl) ?_
   refine s_fin ?_
   refine W_ret ?_
   obtain ⟨x15, e16, H⟩ := H
   exact ⟨[(.agg #[(.pointer x15)]), (.bool false)], ⟨_, _, _, rfl, rfl, fun dr => run_loadVarN Tryz.isAgg41 Tryz.sizeOf41 (vs := [(.pointer x15)]) rfl ⟨e16, trivial⟩, ⟨_, _, rfl, rfl, rfl⟩⟩, x15, false, rfl, H⟩
  ·have H := H.2 g51
   refine W_skip ?_
   show W _ _ _ _ _ _ _ _
   refine W_seq ?_
   refine W_region (.rl 0 (.pu 1 (.ef 2 [] (.pu 3 (.pu 4 (.pu 5 (.ef 6 [] (.ef 7 [] (.ef 8 [] (.ef 9 [] .fin .no) .no) .no) .no)))) .no))) rfl rfl ?_
   obtain ⟨x17, e18, H⟩ := H
   refine sl 27 (.agg #[(.pointer x17)]) rfl rfl (fun dr => r_loadN Tryz.isAgg41 Tryz.sizeOf41 (vs := [(.pointer x17)]) rfl rfl ⟨e18, trivial⟩) ?_
   refine sp 28 (.int .i64 j3) rfl rfl (r_move rfl) ?_
   refine sc 29 rfl rfl (fun dr => r_call Tryz.call45 rfl rfl H) ?_
   rintro _ h5 ⟨y19, y20, rfl, H⟩
   refine sp 26 (.tuple #[(.agg #[(.pointer y19)]), (.agg #[(.pointer y20)])]) rfl rfl (r_move rfl) ?_
   refine sp 30 (.agg #[(.pointer y19)]) rfl rfl (r_extract rfl rfl) ?_
   refine sp 31 (.agg #[(.pointer y20)]) rfl rfl (r_extract rfl rfl) ?_
   obtain ⟨p21, e22⟩ : ∃ p : Addr, p = ⟨h5.size, 0, none⟩ := ⟨_, rfl⟩
   obtain ⟨h6, e23⟩ : ∃ hh : Heap, hh = h5.push (.cells #[(.pointer none)] 39) := ⟨_, rfl⟩
   have H := H p21 h6 e22 e23
   refine s_ef1 (d := some 8) (v := (.pointer (some p21))) (h' := h6) rfl rfl rfl (fun dr => (r_alloc Tryz.zeroValue39).trans (by rw [e22, e23]; rfl)) trivial ?_ trivial
   obtain ⟨p24, e25⟩ : ∃ p : Addr, p = ⟨h6.size, 0, none⟩ := ⟨_, rfl⟩
   obtain ⟨h7, e26⟩ : ∃ hh : Heap, hh = h6.push (.cells #[(.pointer none)] 39) := ⟨_, rfl⟩
   have H := H p24 h7 e25 e26
   refine s_ef1 (d := some 9) (v := (.pointer (some p24))) (h' := h7) rfl rfl rfl (fun dr => (r_alloc Tryz.zeroValue39).trans (by rw [e25, e26]; rfl)) trivial ?_ trivial
   obtain ⟨e28, H⟩ := H
   obtain ⟨h8, e27⟩ : ∃ hh : Heap, hh = hsets h7 p21 0 [(.pointer y19)] := ⟨_, rfl⟩
   have H := H h8 e27
   refine s_st (d := none) (h' := h8) rfl rfl rfl (fun dr => (r_store (v := (.agg #[(.pointer y19)])) Tryz.sizeOf39 rfl rfl rfl (one_all rfl) e28).trans (by rw [e27]; rfl)) trivial ?_ trivial
   obtain ⟨e30, H⟩ := H
   obtain ⟨h9, e29⟩ : ∃ hh : Heap, hh = hsets h8 p24 0 [(.pointer y20)] := ⟨_, rfl⟩
   have H := H h9 e29
   refine s_st (d := none) (h' := h9) rfl rfl rfl (fun dr => (r_store (v := (.agg #[(.pointer y20)])) Tryz.sizeOf39 rfl rfl rfl (one_all rfl) e30).trans (by rw [e29]; rfl)) trivial ?_ trivial
   refine s_fin ?_
   refine W_seq ?_
   refine W_region (.rl 0 (.pu 1 (.pu 2 (.ef 3 [] (.pu 4 (.pu 5 (.pu 6 (.ef 7 [] (.ef 8 [] (.ef 9 [] (.ef 10 [] .fin .no) .no) .no) .no)))) .no)))) rfl rfl ?_
   obtain ⟨x31, e32, H⟩ := H
   refine sl 33 (.agg #[(.pointer x31)]) rfl rfl (fun dr => r_loadN Tryz.isAgg39 Tryz.sizeOf39 (vs := [(.pointer x31)]) rfl rfl ⟨e32, trivial⟩) ?_
   refine sp 34 (.agg #[(.pointer x31)]) rfl rfl (fun w => by kernel_rfl) ?_
   refine sp 35 (.int .i64 i2) rfl rfl (r_move rfl) ?_
   refine sc 36 rfl rfl (fun dr => r_call Tryz.call45 rfl rfl H) ?_
   rintro _ h10 ⟨y33, y34, rfl, H⟩
   refine sp 32 (.tuple #[(.agg #[(.pointer y33)]), (.agg #[(.pointer y34)])]) rfl rfl (r_move rfl) ?_
   refine sp 37 (.agg #[(.pointer y33)]) rfl rfl (r_extract rfl rfl) ?_
   refine sp 38 (.agg #[(.pointer y34)]) rfl rfl (r_extract rfl rfl) ?_
   obtain ⟨p35, e36⟩ : ∃ p : Addr, p = ⟨h10.size, 0, none⟩ := ⟨_, rfl⟩
   obtain ⟨h11, e37⟩ : ∃ hh : Heap, hh = h10.push (.cells #[(.pointer none)] 39) := ⟨_, rfl⟩
   have H := H p35 h11 e36 e37
   refine s_ef1 (d := some 10) (v := (.pointer (some p35))) (h' := h11) rfl rfl rfl (fun dr => (r_alloc Tryz.zeroValue39).trans (by rw [e36, e37]; rfl)) trivial ?_ trivial
   obtain ⟨p38, e39⟩ : ∃ p : Addr, p = ⟨h11.size, 0, none⟩ := ⟨_, rfl⟩
   obtain ⟨h12, e40⟩ : ∃ hh : Heap, hh = h11.push (.cells #[(.pointer none)] 39) := ⟨_, rfl⟩
   have H := H p38 h12 e39 e40
   refine s_ef1 (d := some 11) (v := (.pointer (some p38))) (h' := h12) rfl rfl rfl (fun dr => (r_alloc Tryz.zeroValue39).trans (by rw [e39, e40]; rfl)) trivial ?_ trivial
   obtain ⟨e42, H⟩ := H
   obtain ⟨h13, e41⟩ : ∃ hh : Heap, hh = hsets h12 p35 0 [(.pointer y33)] := ⟨_, rfl⟩
   have H := H h13 e41
   refine s_st (d := none) (h' := h13) rfl rfl rfl (fun dr => (r_store (v := (.agg #[(.pointer y33)])) Tryz.sizeOf39 rfl rfl rfl (one_all rfl) e42).trans (by rw [e41]; rfl)) trivial ?_ trivial
   obtain ⟨e44, H⟩ := H
   obtain ⟨h14, e43⟩ : ∃ hh : Heap, hh = hsets h13 p38 0 [(.pointer y34)] := ⟨_, rfl⟩
   have H := H h14 e43
   refine s_st (d := none) (h' := h14) rfl rfl rfl (fun dr => (r_store (v := (.agg #[(.pointer y34)])) Tryz.sizeOf39 rfl rfl rfl (one_all rfl) e44).trans (by rw [e43]; rfl)) trivial ?_ trivial
   refine s_fin ?_
   refine W_seq ?_
   refine W_region (.rl 0 (.pu 1 (.ef 2 [] (.pu 3 .fin) .no))) rfl rfl ?_
   obtain ⟨x45, e46, H⟩ := H
   refine sl 39 (.agg #[(.pointer x45)]) rfl rfl (fun dr => r_loadN Tryz.isAgg39 Tryz.sizeOf39 (vs := [(.pointer x45)]) rfl rfl ⟨e46, trivial⟩) ?_
   refine sp 40 (.agg #[(.pointer x45)]) rfl rfl (fun w => by kernel_rfl) ?_
   obtain ⟨e48, H⟩ := H
   obtain ⟨h15, e47⟩ : ∃ hh : Heap, hh = hsets h14 p7 0 [(.pointer x45)] := ⟨_, rfl⟩
   have H := H h15 e47
   refine s_st (d := none) (h' := h15) rfl rfl rfl (fun dr => (r_store (v := (.agg #[(.pointer x45)])) Tryz.sizeOf41 rfl rfl rfl (one_all rfl) e48).trans (by rw [e47]; rfl)) trivial ?_ trivial
   refine sp 7 (.bool true) rfl rfl (r_assign rfl) ?_
   refine s_fin ?_
   refine W_ret ?_
   obtain ⟨x49, e50, H⟩ := H
   exact ⟨[(.agg #[(.pointer x49)]), (.bool true)], ⟨_, _, _, rfl, rfl, fun dr => run_loadVarN Tryz.isAgg41 Tryz.sizeOf41 (vs := [(.pointer x49)]) rfl ⟨e50, trivial⟩, ⟨_, _, rfl, rfl, rfl⟩⟩, x49, true, rfl, H⟩)
 clear eN12
 refine W_region (.pu 0 (.pu 1 (.pu 2 (.pu 3 (.pu 4 (.pu 5 (.pu 6 (.pu 7 (.pu 8 (.rl 9 (.ef 10 [] (.pu 11 (.pu 12 .fin)) .no))))))))))) rfl rfl ?_
 refine sp 12 (.int .i64 i2) rfl rfl (r_move rfl) ?_
 refine sp 13 (.bool (decide (i2 < 0))) rfl rfl (r_lss rfl rfl) ?_
 refine sp 14 (.bool (decide (i2 < 0))) rfl rfl (r_move rfl) ?_
 rcases Bool.eq_false_or_eq_true (decide (i2 < 0)) with g52 | g52
 ·have H := H.1 g52
  refine s_sk (d := some 15) rfl rfl (wants_no rfl rfl rfl rfl g52) ?_
  refine s_sk (d := some 16) rfl rfl (wants_no rfl rfl rfl rfl g52) ?_
  refine s_sk (d := some 17) rfl rfl (wants_no rfl rfl rfl rfl g52) ?_
  refine sp 18 (.bool true) rfl rfl (r_pick1 rfl g52 rfl) ?_
  refine sp 19 (.bool true) rfl rfl (r_move rfl) ?_
  refine s_sk (d := some 20) rfl rfl (wants_no rfl rfl rfl rfl rfl) ?_
  refine s_skl (d := some 21) rfl rfl (wants_no rfl rfl rfl rfl rfl) ?_
  refine s_skf (d := some 22) rfl rfl (wants_no rfl rfl rfl rfl rfl) trivial ?_ trivial
  refine s_sk (d := some 23) rfl rfl (wants_no rfl rfl rfl rfl rfl) ?_
  refine sp 24 (.bool true) rfl rfl (r_pick1 rfl rfl rfl) ?_
  refine s_fin ?_
  exact N_mk (l := [(1, (.int .i64 i2)), (2, (.int .i64 j3)), (3, (.pointer (some p4))), (6, (.pointer (some p7))), (24, (.bool true))]) H ⟨rfl, rfl, rfl, rfl, rfl, trivial⟩
 ·have H := H.2 g52
  refine s_pu (d := some 15) (v := (.int .i64 j3)) rfl rfl (wants_yes rfl rfl rfl rfl g52) (r_move rfl) ?_
  refine s_pu (d := some 16) (v := (.int .i64 i2)) rfl rfl (wants_yes rfl rfl rfl rfl g52) (r_move rfl) ?_
  refine s_pu (d := some 17) (v := (.bool (decide (j3 < i2)))) rfl rfl (wants_yes rfl rfl rfl rfl g52) (r_lss rfl rfl) ?_
  refine sp 18 (.bool (decide (j3 < i2))) rfl rfl (r_pick0 rfl g52 rfl) ?_
  refine sp 19 (.bool (decide (j3 < i2))) rfl rfl (r_move rfl) ?_
  rcases Bool.eq_false_or_eq_true (decide (j3 < i2)) with g53 | g53
  ·have H := H.1 g53
   refine s_sk (d := some 20) rfl rfl (wants_no rfl rfl rfl rfl g53) ?_
   refine s_skl (d := some 21) rfl rfl (wants_no rfl rfl rfl rfl g53) ?_
   refine s_skf (d := some 22) rfl rfl (wants_no rfl rfl rfl rfl g53) trivial ?_ trivial
   refine s_sk (d := some 23) rfl rfl (wants_no rfl rfl rfl rfl g53) ?_
   refine sp 24 (.bool true) rfl rfl (r_pick1 rfl g53 rfl) ?_
   refine s_fin ?_
   exact N_mk (l := [(1, (.int .i64 i2)), (2, (.int .i64 j3)), (3, (.pointer (some p4))), (6, (.pointer (some p7))), (24, (.bool true))]) H ⟨rfl, rfl, rfl, rfl, rfl, trivial⟩
  ·have H := H.2 g53
   refine s_pu (d := some 20) (v := (.int .i64 j3)) rfl rfl (wants_yes rfl rfl rfl rfl g53) (r_move rfl) ?_
   obtain ⟨x54, e55, H⟩ := H
   refine s_rl (d := some 21) (v := (.agg #[(.pointer x54)])) rfl rfl (wants_yes rfl rfl rfl rfl g53) (fun dr => r_loadN Tryz.isAgg41 Tryz.sizeOf41 (vs := [(.pointer x54)]) rfl rfl ⟨e55, trivial⟩) ?_
   refine s_ef (d := some 22) rfl rfl (wants_yes rfl rfl rfl rfl g53) (fun dr => r_call Tryz.call44 rfl rfl H) ?_ trivial
   rintro _ h16 ⟨y56, rfl, H⟩
   refine ⟨trivial, ?_⟩
   refine s_pu (d := some 23) (v := (.bool (decide (y56 < j3)))) rfl rfl (wants_yes rfl rfl rfl rfl g53) (r_gtr rfl rfl) ?_
   refine sp 24 (.bool (decide (y56 < j3))) rfl rfl (r_pick0 rfl g53 rfl) ?_
   refine s_fin ?_
   exact N_mk (l := [(1, (.int .i64 i2)), (2, (.int .i64 j3)), (3, (.pointer (some p4))), (6, (.pointer (some p7))), (24, (.bool (decide (y56 < j3))))]) H ⟨rfl, rfl, rfl, rfl, rfl, trivial⟩
def seq_Seq_Measure_F (r : World) (s1 : Option Addr) (i2 : Int) (j3 : Int) (h : Heap) (R : Int → Int → Int → Int → Int → Bool → Heap → Prop) : Prop :=
 New h (.cells #[(.pointer s1)] 41) fun p4 h1 =>
 New h1 (.cells #[(.int .i64 0), (.int .i64 0), (.int .i64 0), (.int .i64 0), (.int .i64 0)] 66) fun p7 h2 =>
 LdP h2 (Addr.add p4 0) fun x10 =>
 seq_Seq_Slice r x10 i2 j3 h2 fun y12 y13 h3 =>
 New h3 (.cells #[(.pointer none)] 41) fun p14 h4 =>
 St h4 p14 1 [(.pointer y12)] fun h5 =>
 Br (!y13) (
  St h5 p7 5 [(.int .i64 0), (.int .i64 0), (.int .i64 0), (.int .i64 0), (.int .i64 0)] fun h6 =>
  LdI h6 (Addr.add p7 0) fun x21 =>
  LdI h6 (Addr.add p7 1) fun x23 =>
  LdI h6 (Addr.add p7 2) fun x25 =>
  LdI h6 (Addr.add p7 3) fun x27 =>
  LdI h6 (Addr.add p7 4) fun x29 =>
  R x21 x23 x25 x27 x29 false h6) (
  LdP h5 (Addr.add (Addr.add p14 0) 0) fun x31 =>
  finger_Tree_Measure r x31 h5 fun y33 y34 y35 y36 y37 h7 =>
  St h7 p7 5 [(.int .i64 y33), (.int .i64 y34), (.int .i64 y35), (.int .i64 y36), (.int .i64 y37)] fun h8 =>
  LdI h8 (Addr.add p7 0) fun x40 =>
  LdI h8 (Addr.add p7 1) fun x42 =>
  LdI h8 (Addr.add p7 2) fun x44 =>
  LdI h8 (Addr.add p7 3) fun x46 =>
  LdI h8 (Addr.add p7 4) fun x48 =>
  R x40 x42 x44 x46 x48 true h8)
theorem seq_Seq_Measure_of {r : World} {s1 : Option Addr} {i2 : Int} {j3 : Int} {h : Heap} {R : Int → Int → Int → Int → Int → Bool → Heap → Prop} (H : seq_Seq_Measure_F r s1 i2 j3 h R) : seq_Seq_Measure r s1 i2 j3 h R := by
 unfold seq_Seq_Measure_F at H
 refine calls_of 23 [.cell 6 66, .tmp 7] Tryz.func26 rfl rfl rfl rfl rfl ?_
 refine W_seq ?_
 refine W_region (.ef 0 [] (.ef 1 [] (.pu 2 .fin) .no) .no) rfl rfl ?_
 obtain ⟨p4, e5⟩ : ∃ p : Addr, p = ⟨h.size, 0, none⟩ := ⟨_, rfl⟩
 obtain ⟨h1, e6⟩ : ∃ hh : Heap, hh = h.push (.cells #[(.pointer s1)] 41) := ⟨_, rfl⟩
 have H := H p4 h1 e5 e6
 refine s_ef1 (d := some 3) (v := (.pointer (some p4))) (h' := h1) rfl rfl rfl (fun dr => (r_box (v := (.agg #[(.pointer s1)])) rfl).trans (by rw [e5, e6]; rfl)) trivial ?_ trivial
 obtain ⟨p7, e8⟩ : ∃ p : Addr, p = ⟨h1.size, 0, none⟩ := ⟨_, rfl⟩
 obtain ⟨h2, e9⟩ : ∃ hh : Heap, hh = h1.push (.cells #[(.int .i64 0), (.int .i64 0), (.int .i64 0), (.int .i64 0), (.int .i64 0)] 66) := ⟨_, rfl⟩
 have H := H p7 h2 e8 e9
 refine s_ef1 (d := some 6) (v := (.pointer (some p7))) (h' := h2) rfl rfl rfl (fun dr => (r_alloc Tryz.zeroValue66).trans (by rw [e8, e9]; rfl)) trivial ?_ trivial
 refine sp 7 (.bool false) rfl rfl (r_assign rfl) ?_
 refine s_fin ?_
 refine W_seq ?_
 refine W_region (.rl 0 (.pu 1 (.pu 2 (.ef 3 [] (.pu 4 (.pu 5 (.pu 6 (.ef 7 [] (.ef 8 [] (.pu 9 .fin) .no) .no)))) .no)))) rfl rfl ?_
 obtain ⟨x10, e11, H⟩ := H
 refine sl 11 (.agg #[(.pointer x10)]) rfl rfl (fun dr => r_loadN Tryz.isAgg41 Tryz.sizeOf41 (vs := [(.pointer x10)]) rfl rfl ⟨e11, trivial⟩) ?_
 refine sp 12 (.int .i64 i2) rfl rfl (r_move rfl) ?_
 refine sp 13 (.int .i64 j3) rfl rfl (r_move rfl) ?_
 refine sc 14 rfl rfl (fun dr => r_call Tryz.call25 rfl rfl H) ?_
 rintro _ h3 ⟨y12, y13, rfl, H⟩
 refine sp 10 (.tuple #[(.agg #[(.pointer y12)]), (.bool y13)]) rfl rfl (r_move rfl) ?_
 refine sp 15 (.agg #[(.pointer y12)]) rfl rfl (r_extract rfl rfl) ?_
 refine sp 16 (.bool y13) rfl rfl (r_extract rfl rfl) ?_
 obtain ⟨p14, e15⟩ : ∃ p : Addr, p = ⟨h3.size, 0, none⟩ := ⟨_, rfl⟩
 obtain ⟨h4, e16⟩ : ∃ hh : Heap, hh = h3.push (.cells #[(.pointer none)] 41) := ⟨_, rfl⟩
 have H := H p14 h4 e15 e16
 refine s_ef1 (d := some 8) (v := (.pointer (some p14))) (h' := h4) rfl rfl rfl (fun dr => (r_alloc Tryz.zeroValue41).trans (by rw [e15, e16]; rfl)) trivial ?_ trivial
 obtain ⟨e18, H⟩ := H
 obtain ⟨h5, e17⟩ : ∃ hh : Heap, hh = hsets h4 p14 0 [(.pointer y12)] := ⟨_, rfl⟩
 have H := H h5 e17
 refine s_st (d := none) (h' := h5) rfl rfl rfl (fun dr => (r_store (v := (.agg #[(.pointer y12)])) Tryz.sizeOf41 rfl rfl rfl (one_all rfl) e18).trans (by rw [e17]; rfl)) trivial ?_ trivial
 refine sp 9 (.bool y13) rfl rfl (r_assign rfl) ?_
 refine s_fin ?_
 refine W_seq ?_
 refine W_seq ?_
 refine W_region (.pu 0 (.pu 1 .fin)) rfl rfl ?_
 refine sp 17 (.bool y13) rfl rfl (r_move rfl) ?_
 refine sp 18 (.bool (!y13)) rfl rfl (r_not rfl) ?_
 refine s_fin ?_
 refine W_if (!y13) rfl (fun g50 => ?_) (fun g50 => ?_)
 ·have H := H.1 g50
  refine W_seq ?_
  refine W_region (.pu 0 (.ef 1 [] (.pu 2 .fin) .no)) rfl rfl ?_
  refine sp 19 (.agg #[(.int .i64 0), (.int .i64 0), (.int .i64 0), (.int .i64 0), (.int .i64 0)]) rfl rfl (fun w => by kernel_rfl) ?_
  obtain ⟨e20, H⟩ := H
  obtain ⟨h6, e19⟩ : ∃ hh : Heap, hh = hsets h5 p7 0 [(.int .i64 0), (.int .i64 0), (.int .i64 0), (.int .i64 0), (.int .i64 0)] := ⟨_, rfl⟩
  have H := H h6 e19
  refine s_st (d := none) (h' := h6) rfl rfl rfl (fun dr => (r_store (v := (.agg #[(.int .i64 0), (.int .i64 0), (.int .i64 0), (.int .i64 0), (.int .i64 0)])) Tryz.sizeOf66 rfl rfl rfl (one_all rfl) e20).trans (by rw [e19]; rfl)) trivial ?_ trivial
  refine sp 7 (.bool false) rfl rfl (r_assign rfl) ?_
  refine s_fin ?_
  refine W_ret ?_
  obtain ⟨x21, e22, H⟩ := H
  obtain ⟨x23, e24, H⟩ := H
  obtain ⟨x25, e26, H⟩ := H
  obtain ⟨x27, e28, H⟩ := H
  obtain ⟨x29, e30, H⟩ := H
  exact ⟨[(.agg #[(.int .i64 x21), (.int .i64 x23), (.int .i64 x25), (.int .i64 x27), (.int .i64 x29)]), (.bool false)], ⟨_, _, _, rfl, rfl, fun dr => run_loadVarN Tryz.isAgg66 Tryz.sizeOf66 (vs := [(.int .i64 x21), (.int .i64 x23), (.int .i64 x25), (.int .i64 x27), (.int .i64 x29)]) rfl ⟨e22, e24, e26, e28, e30, trivial⟩, ⟨_, _, rfl, rfl, rfl⟩⟩, x21, x23, x25, x27, x29, false, rfl, H⟩
 ·have H := H.2 g50
  refine W_skip ?_
  show W _ _ _ _ _ _ _ _
  refine W_seq ?_
  refine W_region (.pu 0 (.rl 1 (.ef 2 [] (.ef 3 [] (.pu 4 .fin) .no) .no))) rfl rfl ?_
  refine sp 20 (.pointer (some (Addr.add p14 0))) rfl rfl (r_fieldAddr Tryz.underlying41 Tryz.sizeOf39 rfl rfl rfl) ?_
  obtain ⟨x31, e32, H⟩ := H
  refine sl 21 (.agg #[(.pointer x31)]) rfl rfl (fun dr => r_loadN Tryz.isAgg39 Tryz.sizeOf39 (vs := [(.pointer x31)]) rfl rfl ⟨e32, trivial⟩) ?_
  refine sc 22 rfl rfl (fun dr => r_call Tryz.call49 rfl rfl H) ?_
  rintro _ h7 ⟨y33, y34, y35, y36, y37, rfl, H⟩
  obtain ⟨e39, H⟩ := H
  obtain ⟨h8, e38⟩ : ∃ hh : Heap, hh = hsets h7 p7 0 [(.int .i64 y33), (.int .i64 y34), (.int .i64 y35), (.int .i64 y36), (.int .i64 y37)] := ⟨_, rfl⟩
  have H := H h8 e38
  refine s_st (d := none) (h' := h8) rfl rfl rfl (fun dr => (r_store (v := (.agg #[(.int .i64 y33), (.int .i64 y34), (.int .i64 y35), (.int .i64 y36), (.int .i64 y37)])) Tryz.sizeOf66 rfl rfl rfl (one_all rfl) e39).trans (by rw [e38]; rfl)) trivial ?_ trivial
  refine sp 7 (.bool true) rfl rfl (r_assign rfl) ?_
  refine s_fin ?_
  refine W_ret ?_
  obtain ⟨x40, e41, H⟩ := H
  obtain ⟨x42, e43, H⟩ := H
  obtain ⟨x44, e45, H⟩ := H
  obtain ⟨x46, e47, H⟩ := H
  obtain ⟨x48, e49, H⟩ := H
  exact ⟨[(.agg #[(.int .i64 x40), (.int .i64 x42), (.int .i64 x44), (.int .i64 x46), (.int .i64 x48)]), (.bool true)], ⟨_, _, _, rfl, rfl, fun dr => run_loadVarN Tryz.isAgg66 Tryz.sizeOf66 (vs := [(.int .i64 x40), (.int .i64 x42), (.int .i64 x44), (.int .i64 x46), (.int .i64 x48)]) rfl ⟨e41, e43, e45, e47, e49, trivial⟩, ⟨_, _, rfl, rfl, rfl⟩⟩, x40, x42, x44, x46, x48, true, rfl, H⟩
end Go.Proofs.YthkimbiknhebeaaGreatDoor
