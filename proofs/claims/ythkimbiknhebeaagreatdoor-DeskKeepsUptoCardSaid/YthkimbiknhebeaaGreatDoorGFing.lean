/- Typed words of functions, and that they hold: printed by gen.py (an own tool of this claim) off the model's own form of each function. -/
import Derived.Test.YthkimbiknhebeaaGreatDoorProg
import Derived.Test.YthkimbiknhebeaaGreatDoorGMono
import Derived.Test.YthkimbiknhebeaaGreatDoorTwB
namespace Go.Proofs.YthkimbiknhebeaaGreatDoor
open Go Go.RowKit Go.Tw
set_option linter.unusedVariables false
set_option maxRecDepth 100000
abbrev txtGFing1 : ByteArray := ⟨#[108, 101, 110, 32, 111, 117, 116, 32, 111, 102, 32, 114, 97, 110, 103, 101]⟩
abbrev txtGFing2 : ByteArray := ⟨#[99, 97, 110, 110, 111, 116, 32, 98, 101, 32, 110, 101, 103, 97, 116, 105, 118, 101]⟩
theorem slFGFing_113 : SlF Tryz.prog 113 108 1 8 (.pointer none) := ⟨Tryz.underlying113, ⟨Tryz.t108, by kernel_rfl, rfl, rfl, rfl⟩, rfl, Tryz.sizeOf108, Tryz.zeroValue108⟩
theorem slFGFing_173 : SlF Tryz.prog 173 113 1 24 (Sl.v Sl.nil) := ⟨Tryz.underlying173, ⟨Tryz.t113, by kernel_rfl, rfl, rfl, rfl⟩, rfl, Tryz.sizeOf113, Tryz.zeroValue113⟩
abbrev finger_number (r : World) (x1 : Int) (h : Heap) (R : Option Addr → Heap → Prop) : Prop :=
 CallsH Tryz.prog r 69 [(.int .i64 x1)] h fun v h' => ∃ (y2 : Option Addr), v = (.pointer y2) ∧ R y2 h'
abbrev finger_measured (r : World) (l1 : Sl) (h : Heap) (R : Int → Int → Int → Int → Int → Heap → Prop) : Prop :=
 CallsH Tryz.prog r 120 [(Sl.v l1)] h fun v h' => ∃ (y2 : Int) (y3 : Int) (y4 : Int) (y5 : Int) (y6 : Int), v = (.agg #[(.int .i64 y2), (.int .i64 y3), (.int .i64 y4), (.int .i64 y5), (.int .i64 y6)]) ∧ R y2 y3 y4 y5 y6 h'
abbrev finger_group (r : World) (l1 : Sl) (h : Heap) (R : Option Addr → Heap → Prop) : Prop :=
 CallsH Tryz.prog r 100 [(Sl.v l1)] h fun v h' => ∃ (y2 : Option Addr), v = (.pointer y2) ∧ R y2 h'
abbrev finger_level_measure (r : World) (v1 : Option Addr) (h : Heap) (R : Int → Int → Int → Int → Int → Heap → Prop) : Prop :=
 CallsH Tryz.prog r 72 [(.pointer v1)] h fun v h' => ∃ (y2 : Int) (y3 : Int) (y4 : Int) (y5 : Int) (y6 : Int), v = (.agg #[(.int .i64 y2), (.int .i64 y3), (.int .i64 y4), (.int .i64 y5), (.int .i64 y6)]) ∧ R y2 y3 y4 y5 y6 h'
abbrev finger_alone (r : World) (t1 : Option Addr) (h : Heap) (R : Option Addr → Heap → Prop) : Prop :=
 CallsH Tryz.prog r 97 [(.pointer t1)] h fun v h' => ∃ (y2 : Option Addr), v = (.pointer y2) ∧ R y2 h'
abbrev finger_deep (r : World) (l1 : Sl) (mid2 : Option Addr) (vr3 : Sl) (h : Heap) (R : Option Addr → Heap → Prop) : Prop :=
 CallsH Tryz.prog r 98 [(Sl.v l1), (.pointer mid2), (Sl.v vr3)] h fun v h' => ∃ (y4 : Option Addr), v = (.pointer y4) ∧ R y4 h'
abbrev finger_pushLeft (r : World) (t1 : Option Addr) (v2 : Option Addr) (h : Heap) (R : Option Addr → Heap → Prop) : Prop :=
 CallsH Tryz.prog r 96 [(.pointer t1), (.pointer v2)] h fun v h' => ∃ (y3 : Option Addr), v = (.pointer y3) ∧ R y3 h'
abbrev finger_pushRight (r : World) (v1 : Option Addr) (t2 : Option Addr) (h : Heap) (R : Option Addr → Heap → Prop) : Prop :=
 CallsH Tryz.prog r 68 [(.pointer v1), (.pointer t2)] h fun v h' => ∃ (y3 : Option Addr), v = (.pointer y3) ∧ R y3 h'
abbrev slices_Clone_finger_thing_finger_thing (r : World) (s1 : Sl) (h : Heap) (R : Sl → Heap → Prop) : Prop :=
 CallsH Tryz.prog r 99 [(Sl.v s1)] h fun v h' => ∃ (y2 : Sl), v = (Sl.v y2) ∧ R y2 h'
abbrev finger_some (r : World) (l1 : Sl) (h : Heap) (R : Option Addr → Heap → Prop) : Prop :=
 CallsH Tryz.prog r 122 [(Sl.v l1)] h fun v h' => ∃ (y2 : Option Addr), v = (.pointer y2) ∧ R y2 h'
abbrev finger_deepLeft (r : World) (l1 : Sl) (mid2 : Option Addr) (vr3 : Sl) (h : Heap) (R : Option Addr → Heap → Prop) : Prop :=
 CallsH Tryz.prog r 105 [(Sl.v l1), (.pointer mid2), (Sl.v vr3)] h fun v h' => ∃ (y4 : Option Addr), v = (.pointer y4) ∧ R y4 h'
abbrev finger_deepRight (r : World) (l1 : Sl) (mid2 : Option Addr) (vr3 : Sl) (h : Heap) (R : Option Addr → Heap → Prop) : Prop :=
 CallsH Tryz.prog r 123 [(Sl.v l1), (.pointer mid2), (Sl.v vr3)] h fun v h' => ∃ (y4 : Option Addr), v = (.pointer y4) ∧ R y4 h'
abbrev finger_popLeft (r : World) (v1 : Option Addr) (h : Heap) (R : Option Addr → Option Addr → Heap → Prop) : Prop :=
 CallsH Tryz.prog r 71 [(.pointer v1)] h fun v h' => ∃ (y2 : Option Addr) (y3 : Option Addr), v = (.tuple #[(.pointer y2), (.pointer y3)]) ∧ R y2 y3 h'
abbrev finger_popRight (r : World) (v1 : Option Addr) (h : Heap) (R : Option Addr → Option Addr → Heap → Prop) : Prop :=
 CallsH Tryz.prog r 137 [(.pointer v1)] h fun v h' => ∃ (y2 : Option Addr) (y3 : Option Addr), v = (.tuple #[(.pointer y2), (.pointer y3)]) ∧ R y2 y3 h'
abbrev finger_groups (r : World) (l1 : Sl) (h : Heap) (R : Sl → Heap → Prop) : Prop :=
 CallsH Tryz.prog r 103 [(Sl.v l1)] h fun v h' => ∃ (y2 : Sl), v = (Sl.v y2) ∧ R y2 h'
abbrev slices_Concat_finger_thing_finger_thing (r : World) (slices1 : Sl) (h : Heap) (R : Sl → Heap → Prop) : Prop :=
 CallsH Tryz.prog r 104 [(Sl.v slices1)] h fun v h' => ∃ (y2 : Sl), v = (Sl.v y2) ∧ R y2 h'
abbrev slices_Grow_finger_thing_finger_thing (r : World) (s1 : Sl) (n2 : Int) (h : Heap) (R : Sl → Heap → Prop) : Prop :=
 CallsH Tryz.prog r 126 [(Sl.v s1), (.int .i64 n2)] h fun v h' => ∃ (y3 : Sl), v = (Sl.v y3) ∧ R y3 h'
abbrev slices_Backward_finger_thing_finger_thing (r : World) (s1 : Sl) (h : Heap) (R : Value → Heap → Prop) : Prop :=
 CallsH Tryz.prog r 102 [(Sl.v s1)] h R
abbrev slices_Backward_finger_thing_finger_thing_1 (r : World) (yield1 : Value) (c2 : Addr) (h : Heap) (R : Heap → Prop) : Prop :=
 CallsH Tryz.prog r 125 [yield1, (.pointer (some c2))] h fun v h' => v = (.tuple #[]) ∧ R  h'
abbrev finger_joined (r : World) (a1 : Option Addr) (l2 : Sl) (vb3 : Option Addr) (h : Heap) (R : Option Addr → Heap → Prop) : Prop :=
 CallsH Tryz.prog r 70 [(.pointer a1), (Sl.v l2), (.pointer vb3)] h fun v h' => ∃ (y4 : Option Addr), v = (.pointer y4) ∧ R y4 h'
def finger_number_F (r : World) (x1 : Int) (h : Heap) (R : Option Addr → Heap → Prop) : Prop :=
 mono_One r x1 h fun y2 y3 y4 y5 y6 h1 =>
 New h1 (.cells #[(.int .i64 y2), (.int .i64 y3), (.int .i64 y4), (.int .i64 y5), (.int .i64 y6), (.int .i64 x1), (Sl.v Sl.nil)] 115) fun p7 h2 =>
 R (some p7) h2
theorem finger_number_of {r : World} {x1 : Int} {h : Heap} {R : Option Addr → Heap → Prop} (H : finger_number_F r x1 h R) : finger_number r x1 h R := by
 unfold finger_number_F at H
 refine calls_of 8 [.tmp 2] Tryz.func69 rfl rfl rfl rfl rfl ?_
 refine W_seq ?_
 refine W_region (.pu 0 .fin) rfl rfl ?_
 refine sp 2 (.pointer none) rfl rfl (r_assign rfl) ?_
 refine s_fin ?_
 refine W_seq ?_
 refine W_region (.pu 0 (.ef 1 [] (.pu 2 (.pu 3 (.ef 4 [] (.pu 5 .fin) .no))) .no)) rfl rfl ?_
 refine sp 3 (.int .i64 x1) rfl rfl (r_move rfl) ?_
 refine sc 4 rfl rfl (fun dr => r_call Tryz.call101 rfl rfl H) ?_
 rintro _ h1 ⟨y2, y3, y4, y5, y6, rfl, H⟩
 refine sp 5 (.int .i64 x1) rfl rfl (r_move rfl) ?_
 refine sp 6 (.agg #[(.int .i64 y2), (.int .i64 y3), (.int .i64 y4), (.int .i64 y5), (.int .i64 y6), (.int .i64 x1), (Sl.v Sl.nil)]) rfl rfl (fun w => by kernel_rfl) ?_
 obtain ⟨p7, e8⟩ : ∃ p : Addr, p = ⟨h1.size, 0, none⟩ := ⟨_, rfl⟩
 obtain ⟨h2, e9⟩ : ∃ hh : Heap, hh = h1.push (.cells #[(.int .i64 y2), (.int .i64 y3), (.int .i64 y4), (.int .i64 y5), (.int .i64 y6), (.int .i64 x1), (Sl.v Sl.nil)] 115) := ⟨_, rfl⟩
 have H := H p7 h2 e8 e9
 refine s_ef1 (d := some 7) (v := (.pointer (some p7))) (h' := h2) rfl rfl rfl (fun dr => (r_box (v := (.agg #[(.int .i64 y2), (.int .i64 y3), (.int .i64 y4), (.int .i64 y5), (.int .i64 y6), (.int .i64 x1), (Sl.v Sl.nil)])) rfl).trans (by rw [e8, e9]; rfl)) trivial ?_ trivial
 refine sp 2 (.pointer (some p7)) rfl rfl (r_assign rfl) ?_
 refine s_fin ?_
 refine W_ret ?_
 exact ⟨[(.pointer (some p7))], ⟨_, _, rfl, rfl, rfl⟩, (some p7), rfl, H⟩
def finger_measured_F (r : World) (l1 : Sl) (h : Heap) (R : Int → Int → Int → Int → Int → Heap → Prop) : Prop :=
 New h (.cells #[(.int .i64 0), (.int .i64 0), (.int .i64 0), (.int .i64 0), (.int .i64 0)] 66) fun p2 h1 =>
 mono_None r h1 fun y5 y6 y7 y8 y9 h2 =>
 New h2 (.cells #[(.int .i64 0), (.int .i64 0), (.int .i64 0), (.int .i64 0), (.int .i64 0)] 66) fun p10 h3 =>
 St h3 p10 5 [(.int .i64 y5), (.int .i64 y6), (.int .i64 y7), (.int .i64 y8), (.int .i64 y9)] fun h4 =>
 ∀ X16 : Int → Heap → Prop, (∀ (x15 : Int) (h5 : Heap),
  (Br (decide (x15 < ((l1.len : Int)))) (
   Ix l1 x15 1 fun q21 =>
   LdP h5 q21 fun x23 =>
   LdI h5 (Addr.add p10 0) fun x25 =>
   LdI h5 (Addr.add p10 1) fun x27 =>
   LdI h5 (Addr.add p10 2) fun x29 =>
   LdI h5 (Addr.add p10 3) fun x31 =>
   LdI h5 (Addr.add p10 4) fun x33 =>
   Ck x23 fun p35 =>
   LdI h5 (Addr.add (Addr.add p35 0) 0) fun x37 =>
   LdI h5 (Addr.add (Addr.add p35 0) 1) fun x39 =>
   LdI h5 (Addr.add (Addr.add p35 0) 2) fun x41 =>
   LdI h5 (Addr.add (Addr.add p35 0) 3) fun x43 =>
   LdI h5 (Addr.add (Addr.add p35 0) 4) fun x45 =>
   mono_Join r x25 x27 x29 x31 x33 x37 x39 x41 x43 x45 h5 fun y47 y48 y49 y50 y51 h6 =>
   St h6 p10 5 [(.int .i64 y47), (.int .i64 y48), (.int .i64 y49), (.int .i64 y50), (.int .i64 y51)] fun h7 =>
   X16 (w64 (x15 + 1)) h7) (
   LdI h5 (Addr.add p10 0) fun x54 =>
   LdI h5 (Addr.add p10 1) fun x56 =>
   LdI h5 (Addr.add p10 2) fun x58 =>
   LdI h5 (Addr.add p10 3) fun x60 =>
   LdI h5 (Addr.add p10 4) fun x62 =>
   St h5 p2 5 [(.int .i64 x54), (.int .i64 x56), (.int .i64 x58), (.int .i64 x60), (.int .i64 x62)] fun h8 =>
   LdI h8 (Addr.add p2 0) fun x66 =>
   LdI h8 (Addr.add p2 1) fun x68 =>
   LdI h8 (Addr.add p2 2) fun x70 =>
   LdI h8 (Addr.add p2 3) fun x72 =>
   LdI h8 (Addr.add p2 4) fun x74 =>
   R x66 x68 x70 x72 x74 h8)) →
  X16 x15 h5) →
 X16 0 h4
theorem finger_measured_of {r : World} {l1 : Sl} {h : Heap} {R : Int → Int → Int → Int → Int → Heap → Prop} (H : finger_measured_F r l1 h R) : finger_measured r l1 h R := by
 unfold finger_measured_F at H
 refine calls_of 21 [.cell 2 66] Tryz.func120 rfl rfl rfl rfl rfl ?_
 refine W_seq ?_
 refine W_region (.ef 0 [] .fin .no) rfl rfl ?_
 obtain ⟨p2, e3⟩ : ∃ p : Addr, p = ⟨h.size, 0, none⟩ := ⟨_, rfl⟩
 obtain ⟨h1, e4⟩ : ∃ hh : Heap, hh = h.push (.cells #[(.int .i64 0), (.int .i64 0), (.int .i64 0), (.int .i64 0), (.int .i64 0)] 66) := ⟨_, rfl⟩
 have H := H p2 h1 e3 e4
 refine s_ef1 (d := some 2) (v := (.pointer (some p2))) (h' := h1) rfl rfl rfl (fun dr => (r_alloc Tryz.zeroValue66).trans (by rw [e3, e4]; rfl)) trivial ?_ trivial
 refine s_fin ?_
 refine W_seq ?_
 refine W_region (.ef 0 [] (.ef 1 [] (.ef 2 [] .fin .no) .no) .no) rfl rfl ?_
 refine sc 6 rfl rfl (fun dr => r_call Tryz.call94 rfl rfl H) ?_
 rintro _ h2 ⟨y5, y6, y7, y8, y9, rfl, H⟩
 obtain ⟨p10, e11⟩ : ∃ p : Addr, p = ⟨h2.size, 0, none⟩ := ⟨_, rfl⟩
 obtain ⟨h3, e12⟩ : ∃ hh : Heap, hh = h2.push (.cells #[(.int .i64 0), (.int .i64 0), (.int .i64 0), (.int .i64 0), (.int .i64 0)] 66) := ⟨_, rfl⟩
 have H := H p10 h3 e11 e12
 refine s_ef1 (d := some 3) (v := (.pointer (some p10))) (h' := h3) rfl rfl rfl (fun dr => (r_alloc Tryz.zeroValue66).trans (by rw [e11, e12]; rfl)) trivial ?_ trivial
 obtain ⟨e14, H⟩ := H
 obtain ⟨h4, e13⟩ : ∃ hh : Heap, hh = hsets h3 p10 0 [(.int .i64 y5), (.int .i64 y6), (.int .i64 y7), (.int .i64 y8), (.int .i64 y9)] := ⟨_, rfl⟩
 have H := H h4 e13
 refine s_st (d := none) (h' := h4) rfl rfl rfl (fun dr => (r_store (v := (.agg #[(.int .i64 y5), (.int .i64 y6), (.int .i64 y7), (.int .i64 y8), (.int .i64 y9)])) Tryz.sizeOf66 rfl rfl rfl (one_all rfl) e14).trans (by rw [e13]; rfl)) trivial ?_ trivial
 refine s_fin ?_
 refine W_seq ?_
 refine W_seq ?_
 refine W_region (.pu 0 (.pu 1 (.pu 2 .fin))) rfl rfl ?_
 refine sp 7 (Sl.v l1) rfl rfl (r_move rfl) ?_
 refine sp 8 (.int .i64 ((l1.len : Int))) rfl rfl (r_len Tryz.underlying113 rfl) ?_
 refine sp 9 (.int .i64 0) rfl rfl (r_move rfl) ?_
 refine s_fin ?_
 refine W_block ?_
 refine W_loop (WL_mk (l := [(2, (.pointer (some p2))), (3, (.pointer (some p10))), (7, (Sl.v l1)), (8, (.int .i64 ((l1.len : Int)))), (9, (.int .i64 0))]) ?_ ⟨rfl, rfl, rfl, rfl, rfl, trivial⟩)
 refine H (fun (x15 : Int) (h5 : Heap) => ∀ b, WL _ _ _ _ _ _ (mkE [(2, (.pointer (some p2))), (3, (.pointer (some p10))), (7, (Sl.v l1)), (8, (.int .i64 ((l1.len : Int)))), (9, (.int .i64 x15))] b) h5) ?_
 intro x15 h5 H b
 refine WL_round ?_
 refine W_seq ?_
 refine W_region (.pu 0 .fin) rfl rfl ?_
 refine sp 10 (.bool (decide (x15 < ((l1.len : Int))))) rfl rfl (r_lss rfl rfl) ?_
 refine s_fin ?_
 refine W_seq ?_
 refine W_if (decide (x15 < ((l1.len : Int)))) rfl (fun g76 => ?_) (fun g76 => ?_)
 ·have H := H.1 g76
  refine W_skip ?_
  show W _ _ _ _ _ _ _ _
  refine W_seq ?_
  refine W_block ?_
  refine W_seq ?_
  refine W_region (.pu 0 (.rl 1 (.pu 2 .fin))) rfl rfl ?_
  obtain ⟨p17, e18, e19, e20, H⟩ := H
  obtain ⟨q21, e22⟩ : ∃ q : Addr, q = Addr.add p17 (Int.toNat x15 * 1) := ⟨_, rfl⟩
  rw [← e22] at H
  refine sp 11 (.pointer (some q21)) rfl rfl (fun w => (r_indexAddr Tryz.underlying113 Tryz.sizeOf108 rfl rfl e18 e19 e20 w).trans (by rw [e22])) ?_
  obtain ⟨x23, e24, H⟩ := H
  refine sl 12 (.pointer x23) rfl rfl (fun dr => r_load1 Tryz.isAgg108 rfl e24) ?_
  refine sp 5 (.pointer x23) rfl rfl (r_assign rfl) ?_
  refine s_fin ?_
  refine W_draw [0, 0, 2, 6, 14, 31, 63] (.rd 0 (.pu 1 (.pu 2 (.pu 3 (.rd 4 (.ef 5 [0, 4] (.ef 6 [0, 4] .fin .no) .no)))))) (by kernel_rfl) (by kernel_rfl) ?_
  obtain ⟨x25, e26, H⟩ := H
  obtain ⟨x27, e28, H⟩ := H
  obtain ⟨x29, e30, H⟩ := H
  obtain ⟨x31, e32, H⟩ := H
  obtain ⟨x33, e34, H⟩ := H
  refine s_rd (d := some 13) (v := (.agg #[(.int .i64 x25), (.int .i64 x27), (.int .i64 x29), (.int .i64 x31), (.int .i64 x33)])) rfl rfl rfl (fun dr => r_loadN Tryz.isAgg66 Tryz.sizeOf66 (vs := [(.int .i64 x25), (.int .i64 x27), (.int .i64 x29), (.int .i64 x31), (.int .i64 x33)]) rfl rfl ⟨e26, e28, e30, e32, e34, trivial⟩) ?_
  refine sp 14 (.pointer x23) rfl rfl (r_move rfl) ?_
  obtain ⟨p35, e36, H⟩ := H
  refine sp 15 (.pointer (some p35)) rfl rfl (r_nilCheck rfl e36) ?_
  refine sp 16 (.pointer (some (Addr.add p35 0))) rfl rfl (r_fieldAddr Tryz.underlying115 Tryz.sizeOf66 rfl rfl rfl) ?_
  obtain ⟨x37, e38, H⟩ := H
  obtain ⟨x39, e40, H⟩ := H
  obtain ⟨x41, e42, H⟩ := H
  obtain ⟨x43, e44, H⟩ := H
  obtain ⟨x45, e46, H⟩ := H
  refine s_rd (d := some 17) (v := (.agg #[(.int .i64 x37), (.int .i64 x39), (.int .i64 x41), (.int .i64 x43), (.int .i64 x45)])) rfl rfl rfl (fun dr => r_loadN Tryz.isAgg66 Tryz.sizeOf66 (vs := [(.int .i64 x37), (.int .i64 x39), (.int .i64 x41), (.int .i64 x43), (.int .i64 x45)]) rfl rfl ⟨e38, e40, e42, e44, e46, trivial⟩) ?_
  refine s_ef (d := some 18) rfl rfl rfl (fun dr => r_call Tryz.call119 rfl rfl H) ?_ trivial
  rintro _ h6 ⟨y47, y48, y49, y50, y51, rfl, H⟩
  refine ⟨⟨trivial, trivial, trivial⟩, ?_⟩
  obtain ⟨e53, H⟩ := H
  obtain ⟨h7, e52⟩ : ∃ hh : Heap, hh = hsets h6 p10 0 [(.int .i64 y47), (.int .i64 y48), (.int .i64 y49), (.int .i64 y50), (.int .i64 y51)] := ⟨_, rfl⟩
  have H := H h7 e52
  refine s_st (d := none) (h' := h7) rfl rfl rfl (fun dr => (r_store (v := (.agg #[(.int .i64 y47), (.int .i64 y48), (.int .i64 y49), (.int .i64 y50), (.int .i64 y51)])) Tryz.sizeOf66 rfl rfl rfl (one_all rfl) e53).trans (by rw [e52]; rfl)) ⟨trivial, trivial, trivial⟩ ?_ trivial
  refine s_fin ?_
  refine W_region (.pu 0 (.pu 1 .fin)) rfl rfl ?_
  refine sp 19 (.int .i64 (w64 (x15 + 1))) rfl rfl (r_add rfl rfl) ?_
  refine sp 9 (.int .i64 (w64 (x15 + 1))) rfl rfl (r_move rfl) ?_
  refine s_fin ?_
  exact WL_mk (l := [(2, (.pointer (some p2))), (3, (.pointer (some p10))), (7, (Sl.v l1)), (8, (.int .i64 ((l1.len : Int)))), (9, (.int .i64 (w64 (x15 + 1))))]) H ⟨rfl, rfl, rfl, rfl, rfl, trivial⟩
 ·have H := H.2 g76
  refine W_exit (inX_here ?_)
  show W _ _ _ _ _ _ _ _
  refine W_seq ?_
  refine W_region (.rl 0 (.ef 1 [] .fin .no)) rfl rfl ?_
  obtain ⟨x54, e55, H⟩ := H
  obtain ⟨x56, e57, H⟩ := H
  obtain ⟨x58, e59, H⟩ := H
  obtain ⟨x60, e61, H⟩ := H
  obtain ⟨x62, e63, H⟩ := H
  refine sl 20 (.agg #[(.int .i64 x54), (.int .i64 x56), (.int .i64 x58), (.int .i64 x60), (.int .i64 x62)]) rfl rfl (fun dr => r_loadN Tryz.isAgg66 Tryz.sizeOf66 (vs := [(.int .i64 x54), (.int .i64 x56), (.int .i64 x58), (.int .i64 x60), (.int .i64 x62)]) rfl rfl ⟨e55, e57, e59, e61, e63, trivial⟩) ?_
  obtain ⟨e65, H⟩ := H
  obtain ⟨h8, e64⟩ : ∃ hh : Heap, hh = hsets h5 p2 0 [(.int .i64 x54), (.int .i64 x56), (.int .i64 x58), (.int .i64 x60), (.int .i64 x62)] := ⟨_, rfl⟩
  have H := H h8 e64
  refine s_st (d := none) (h' := h8) rfl rfl rfl (fun dr => (r_store (v := (.agg #[(.int .i64 x54), (.int .i64 x56), (.int .i64 x58), (.int .i64 x60), (.int .i64 x62)])) Tryz.sizeOf66 rfl rfl rfl (one_all rfl) e65).trans (by rw [e64]; rfl)) trivial ?_ trivial
  refine s_fin ?_
  refine W_ret ?_
  obtain ⟨x66, e67, H⟩ := H
  obtain ⟨x68, e69, H⟩ := H
  obtain ⟨x70, e71, H⟩ := H
  obtain ⟨x72, e73, H⟩ := H
  obtain ⟨x74, e75, H⟩ := H
  exact ⟨[(.agg #[(.int .i64 x66), (.int .i64 x68), (.int .i64 x70), (.int .i64 x72), (.int .i64 x74)])], ⟨_, _, _, rfl, rfl, fun dr => run_loadVarN Tryz.isAgg66 Tryz.sizeOf66 (vs := [(.int .i64 x66), (.int .i64 x68), (.int .i64 x70), (.int .i64 x72), (.int .i64 x74)]) rfl ⟨e67, e69, e71, e73, e75, trivial⟩, rfl⟩, x66, x68, x70, x72, x74, rfl, H⟩
def finger_group_F (r : World) (l1 : Sl) (h : Heap) (R : Option Addr → Heap → Prop) : Prop :=
 finger_measured r l1 h fun y2 y3 y4 y5 y6 h1 =>
 New h1 (.cells #[(.int .i64 y2), (.int .i64 y3), (.int .i64 y4), (.int .i64 y5), (.int .i64 y6), (.int .i64 0), (Sl.v l1)] 115) fun p7 h2 =>
 R (some p7) h2
theorem finger_group_of {r : World} {l1 : Sl} {h : Heap} {R : Option Addr → Heap → Prop} (H : finger_group_F r l1 h R) : finger_group r l1 h R := by
 unfold finger_group_F at H
 refine calls_of 8 [.tmp 2] Tryz.func100 rfl rfl rfl rfl rfl ?_
 refine W_seq ?_
 refine W_region (.pu 0 .fin) rfl rfl ?_
 refine sp 2 (.pointer none) rfl rfl (r_assign rfl) ?_
 refine s_fin ?_
 refine W_seq ?_
 refine W_region (.pu 0 (.ef 1 [] (.pu 2 (.pu 3 (.ef 4 [] (.pu 5 .fin) .no))) .no)) rfl rfl ?_
 refine sp 3 (Sl.v l1) rfl rfl (r_move rfl) ?_
 refine sc 4 rfl rfl (fun dr => r_call Tryz.call120 rfl rfl H) ?_
 rintro _ h1 ⟨y2, y3, y4, y5, y6, rfl, H⟩
 refine sp 5 (Sl.v l1) rfl rfl (r_move rfl) ?_
 refine sp 6 (.agg #[(.int .i64 y2), (.int .i64 y3), (.int .i64 y4), (.int .i64 y5), (.int .i64 y6), (.int .i64 0), (Sl.v l1)]) rfl rfl (fun w => by kernel_rfl) ?_
 obtain ⟨p7, e8⟩ : ∃ p : Addr, p = ⟨h1.size, 0, none⟩ := ⟨_, rfl⟩
 obtain ⟨h2, e9⟩ : ∃ hh : Heap, hh = h1.push (.cells #[(.int .i64 y2), (.int .i64 y3), (.int .i64 y4), (.int .i64 y5), (.int .i64 y6), (.int .i64 0), (Sl.v l1)] 115) := ⟨_, rfl⟩
 have H := H p7 h2 e8 e9
 refine s_ef1 (d := some 7) (v := (.pointer (some p7))) (h' := h2) rfl rfl rfl (fun dr => (r_box (v := (.agg #[(.int .i64 y2), (.int .i64 y3), (.int .i64 y4), (.int .i64 y5), (.int .i64 y6), (.int .i64 0), (Sl.v l1)])) rfl).trans (by rw [e8, e9]; rfl)) trivial ?_ trivial
 refine sp 2 (.pointer (some p7)) rfl rfl (r_assign rfl) ?_
 refine s_fin ?_
 refine W_ret ?_
 exact ⟨[(.pointer (some p7))], ⟨_, _, rfl, rfl, rfl⟩, (some p7), rfl, H⟩
def finger_level_measure_F (r : World) (v1 : Option Addr) (h : Heap) (R : Int → Int → Int → Int → Int → Heap → Prop) : Prop :=
 New h (.cells #[(.int .i64 0), (.int .i64 0), (.int .i64 0), (.int .i64 0), (.int .i64 0)] 66) fun p2 h1 =>
 Br (Option.isNone v1) (
  mono_None r h1 fun y5 y6 y7 y8 y9 h2 =>
  St h2 p2 5 [(.int .i64 y5), (.int .i64 y6), (.int .i64 y7), (.int .i64 y8), (.int .i64 y9)] fun h3 =>
  LdI h3 (Addr.add p2 0) fun x12 =>
  LdI h3 (Addr.add p2 1) fun x14 =>
  LdI h3 (Addr.add p2 2) fun x16 =>
  LdI h3 (Addr.add p2 3) fun x18 =>
  LdI h3 (Addr.add p2 4) fun x20 =>
  R x12 x14 x16 x18 x20 h3) (
  Ck v1 fun p22 =>
  LdI h1 (Addr.add (Addr.add p22 0) 0) fun x24 =>
  LdI h1 (Addr.add (Addr.add p22 0) 1) fun x26 =>
  LdI h1 (Addr.add (Addr.add p22 0) 2) fun x28 =>
  LdI h1 (Addr.add (Addr.add p22 0) 3) fun x30 =>
  LdI h1 (Addr.add (Addr.add p22 0) 4) fun x32 =>
  St h1 p2 5 [(.int .i64 x24), (.int .i64 x26), (.int .i64 x28), (.int .i64 x30), (.int .i64 x32)] fun h4 =>
  LdI h4 (Addr.add p2 0) fun x36 =>
  LdI h4 (Addr.add p2 1) fun x38 =>
  LdI h4 (Addr.add p2 2) fun x40 =>
  LdI h4 (Addr.add p2 3) fun x42 =>
  LdI h4 (Addr.add p2 4) fun x44 =>
  R x36 x38 x40 x42 x44 h4)
theorem finger_level_measure_of {r : World} {v1 : Option Addr} {h : Heap} {R : Int → Int → Int → Int → Int → Heap → Prop} (H : finger_level_measure_F r v1 h R) : finger_level_measure r v1 h R := by
 unfold finger_level_measure_F at H
 refine calls_of 10 [.cell 2 66] Tryz.func72 rfl rfl rfl rfl rfl ?_
 refine W_seq ?_
 refine W_region (.ef 0 [] .fin .no) rfl rfl ?_
 obtain ⟨p2, e3⟩ : ∃ p : Addr, p = ⟨h.size, 0, none⟩ := ⟨_, rfl⟩
 obtain ⟨h1, e4⟩ : ∃ hh : Heap, hh = h.push (.cells #[(.int .i64 0), (.int .i64 0), (.int .i64 0), (.int .i64 0), (.int .i64 0)] 66) := ⟨_, rfl⟩
 have H := H p2 h1 e3 e4
 refine s_ef1 (d := some 2) (v := (.pointer (some p2))) (h' := h1) rfl rfl rfl (fun dr => (r_alloc Tryz.zeroValue66).trans (by rw [e3, e4]; rfl)) trivial ?_ trivial
 refine s_fin ?_
 refine W_seq ?_
 refine W_seq ?_
 refine W_region (.pu 0 (.pu 1 .fin)) rfl rfl ?_
 refine sp 3 (.pointer v1) rfl rfl (r_move rfl) ?_
 refine sp 4 (.bool (Option.isNone v1)) rfl rfl (r_nilP Tryz.underlying37 rfl rfl) ?_
 refine s_fin ?_
 refine W_if (Option.isNone v1) rfl (fun g46 => ?_) (fun g46 => ?_)
 ·have H := H.1 g46
  refine W_seq ?_
  refine W_region (.ef 0 [] (.ef 1 [] .fin .no) .no) rfl rfl ?_
  refine sc 5 rfl rfl (fun dr => r_call Tryz.call94 rfl rfl H) ?_
  rintro _ h2 ⟨y5, y6, y7, y8, y9, rfl, H⟩
  obtain ⟨e11, H⟩ := H
  obtain ⟨h3, e10⟩ : ∃ hh : Heap, hh = hsets h2 p2 0 [(.int .i64 y5), (.int .i64 y6), (.int .i64 y7), (.int .i64 y8), (.int .i64 y9)] := ⟨_, rfl⟩
  have H := H h3 e10
  refine s_st (d := none) (h' := h3) rfl rfl rfl (fun dr => (r_store (v := (.agg #[(.int .i64 y5), (.int .i64 y6), (.int .i64 y7), (.int .i64 y8), (.int .i64 y9)])) Tryz.sizeOf66 rfl rfl rfl (one_all rfl) e11).trans (by rw [e10]; rfl)) trivial ?_ trivial
  refine s_fin ?_
  refine W_ret ?_
  obtain ⟨x12, e13, H⟩ := H
  obtain ⟨x14, e15, H⟩ := H
  obtain ⟨x16, e17, H⟩ := H
  obtain ⟨x18, e19, H⟩ := H
  obtain ⟨x20, e21, H⟩ := H
  exact ⟨[(.agg #[(.int .i64 x12), (.int .i64 x14), (.int .i64 x16), (.int .i64 x18), (.int .i64 x20)])], ⟨_, _, _, rfl, rfl, fun dr => run_loadVarN Tryz.isAgg66 Tryz.sizeOf66 (vs := [(.int .i64 x12), (.int .i64 x14), (.int .i64 x16), (.int .i64 x18), (.int .i64 x20)]) rfl ⟨e13, e15, e17, e19, e21, trivial⟩, rfl⟩, x12, x14, x16, x18, x20, rfl, H⟩
 ·have H := H.2 g46
  refine W_skip ?_
  show W _ _ _ _ _ _ _ _
  refine W_seq ?_
  refine W_region (.pu 0 (.pu 1 (.pu 2 (.rl 3 (.ef 4 [] .fin .no))))) rfl rfl ?_
  refine sp 6 (.pointer v1) rfl rfl (r_move rfl) ?_
  obtain ⟨p22, e23, H⟩ := H
  refine sp 7 (.pointer (some p22)) rfl rfl (r_nilCheck rfl e23) ?_
  refine sp 8 (.pointer (some (Addr.add p22 0))) rfl rfl (r_fieldAddr Tryz.underlying127 Tryz.sizeOf66 rfl rfl rfl) ?_
  obtain ⟨x24, e25, H⟩ := H
  obtain ⟨x26, e27, H⟩ := H
  obtain ⟨x28, e29, H⟩ := H
  obtain ⟨x30, e31, H⟩ := H
  obtain ⟨x32, e33, H⟩ := H
  refine sl 9 (.agg #[(.int .i64 x24), (.int .i64 x26), (.int .i64 x28), (.int .i64 x30), (.int .i64 x32)]) rfl rfl (fun dr => r_loadN Tryz.isAgg66 Tryz.sizeOf66 (vs := [(.int .i64 x24), (.int .i64 x26), (.int .i64 x28), (.int .i64 x30), (.int .i64 x32)]) rfl rfl ⟨e25, e27, e29, e31, e33, trivial⟩) ?_
  obtain ⟨e35, H⟩ := H
  obtain ⟨h4, e34⟩ : ∃ hh : Heap, hh = hsets h1 p2 0 [(.int .i64 x24), (.int .i64 x26), (.int .i64 x28), (.int .i64 x30), (.int .i64 x32)] := ⟨_, rfl⟩
  have H := H h4 e34
  refine s_st (d := none) (h' := h4) rfl rfl rfl (fun dr => (r_store (v := (.agg #[(.int .i64 x24), (.int .i64 x26), (.int .i64 x28), (.int .i64 x30), (.int .i64 x32)])) Tryz.sizeOf66 rfl rfl rfl (one_all rfl) e35).trans (by rw [e34]; rfl)) trivial ?_ trivial
  refine s_fin ?_
  refine W_ret ?_
  obtain ⟨x36, e37, H⟩ := H
  obtain ⟨x38, e39, H⟩ := H
  obtain ⟨x40, e41, H⟩ := H
  obtain ⟨x42, e43, H⟩ := H
  obtain ⟨x44, e45, H⟩ := H
  exact ⟨[(.agg #[(.int .i64 x36), (.int .i64 x38), (.int .i64 x40), (.int .i64 x42), (.int .i64 x44)])], ⟨_, _, _, rfl, rfl, fun dr => run_loadVarN Tryz.isAgg66 Tryz.sizeOf66 (vs := [(.int .i64 x36), (.int .i64 x38), (.int .i64 x40), (.int .i64 x42), (.int .i64 x44)]) rfl ⟨e37, e39, e41, e43, e45, trivial⟩, rfl⟩, x36, x38, x40, x42, x44, rfl, H⟩
def finger_alone_F (r : World) (t1 : Option Addr) (h : Heap) (R : Option Addr → Heap → Prop) : Prop :=
 Ck t1 fun p2 =>
 LdI h (Addr.add (Addr.add p2 0) 0) fun x4 =>
 LdI h (Addr.add (Addr.add p2 0) 1) fun x6 =>
 LdI h (Addr.add (Addr.add p2 0) 2) fun x8 =>
 LdI h (Addr.add (Addr.add p2 0) 3) fun x10 =>
 LdI h (Addr.add (Addr.add p2 0) 4) fun x12 =>
 New h (.cells #[(.pointer t1)] 108) fun p14 h1 =>
 New h1 (.cells #[(.int .i64 x4), (.int .i64 x6), (.int .i64 x8), (.int .i64 x10), (.int .i64 x12), (Sl.v ((⟨some p14, 1, 1⟩ : Sl))), (Sl.v Sl.nil), (.pointer none)] 127) fun p17 h2 =>
 R (some p17) h2
theorem finger_alone_of {r : World} {t1 : Option Addr} {h : Heap} {R : Option Addr → Heap → Prop} (H : finger_alone_F r t1 h R) : finger_alone r t1 h R := by
 unfold finger_alone_F at H
 refine calls_of 11 [.tmp 2] Tryz.func97 rfl rfl rfl rfl rfl ?_
 refine W_seq ?_
 refine W_region (.pu 0 .fin) rfl rfl ?_
 refine sp 2 (.pointer none) rfl rfl (r_assign rfl) ?_
 refine s_fin ?_
 refine W_seq ?_
 refine W_region (.pu 0 (.pu 1 (.pu 2 (.rl 3 (.pu 4 (.ef 5 [] (.pu 6 (.ef 7 [] (.pu 8 .fin) .no)) .no)))))) rfl rfl ?_
 refine sp 3 (.pointer t1) rfl rfl (r_move rfl) ?_
 obtain ⟨p2, e3, H⟩ := H
 refine sp 4 (.pointer (some p2)) rfl rfl (r_nilCheck rfl e3) ?_
 refine sp 5 (.pointer (some (Addr.add p2 0))) rfl rfl (r_fieldAddr Tryz.underlying115 Tryz.sizeOf66 rfl rfl rfl) ?_
 obtain ⟨x4, e5, H⟩ := H
 obtain ⟨x6, e7, H⟩ := H
 obtain ⟨x8, e9, H⟩ := H
 obtain ⟨x10, e11, H⟩ := H
 obtain ⟨x12, e13, H⟩ := H
 refine sl 6 (.agg #[(.int .i64 x4), (.int .i64 x6), (.int .i64 x8), (.int .i64 x10), (.int .i64 x12)]) rfl rfl (fun dr => r_loadN Tryz.isAgg66 Tryz.sizeOf66 (vs := [(.int .i64 x4), (.int .i64 x6), (.int .i64 x8), (.int .i64 x10), (.int .i64 x12)]) rfl rfl ⟨e5, e7, e9, e11, e13, trivial⟩) ?_
 refine sp 7 (.pointer t1) rfl rfl (r_move rfl) ?_
 obtain ⟨p14, e15⟩ : ∃ p : Addr, p = ⟨h.size, 0, none⟩ := ⟨_, rfl⟩
 obtain ⟨h1, e16⟩ : ∃ hh : Heap, hh = h.push (.cells #[(.pointer t1)] 108) := ⟨_, rfl⟩
 have H := H p14 h1 e15 e16
 refine s_ef1 (d := some 8) (v := (Sl.v ((⟨some p14, 1, 1⟩ : Sl)))) (h' := h1) rfl rfl rfl (fun dr => (slFGFing_113.build (cells := #[(.pointer t1)]) (by decide) rfl (by kernel_rfl)).trans (by rw [e15, e16]; rfl)) trivial ?_ trivial
 refine sp 9 (.agg #[(.int .i64 x4), (.int .i64 x6), (.int .i64 x8), (.int .i64 x10), (.int .i64 x12), (Sl.v ((⟨some p14, 1, 1⟩ : Sl))), (Sl.v Sl.nil), (.pointer none)]) rfl rfl (fun w => by kernel_rfl) ?_
 obtain ⟨p17, e18⟩ : ∃ p : Addr, p = ⟨h1.size, 0, none⟩ := ⟨_, rfl⟩
 obtain ⟨h2, e19⟩ : ∃ hh : Heap, hh = h1.push (.cells #[(.int .i64 x4), (.int .i64 x6), (.int .i64 x8), (.int .i64 x10), (.int .i64 x12), (Sl.v ((⟨some p14, 1, 1⟩ : Sl))), (Sl.v Sl.nil), (.pointer none)] 127) := ⟨_, rfl⟩
 have H := H p17 h2 e18 e19
 refine s_ef1 (d := some 10) (v := (.pointer (some p17))) (h' := h2) rfl rfl rfl (fun dr => (r_box (v := (.agg #[(.int .i64 x4), (.int .i64 x6), (.int .i64 x8), (.int .i64 x10), (.int .i64 x12), (Sl.v ((⟨some p14, 1, 1⟩ : Sl))), (Sl.v Sl.nil), (.pointer none)])) rfl).trans (by rw [e18, e19]; rfl)) trivial ?_ trivial
 refine sp 2 (.pointer (some p17)) rfl rfl (r_assign rfl) ?_
 refine s_fin ?_
 refine W_ret ?_
 exact ⟨[(.pointer (some p17))], ⟨_, _, rfl, rfl, rfl⟩, (some p17), rfl, H⟩
def finger_deep_F (r : World) (l1 : Sl) (mid2 : Option Addr) (vr3 : Sl) (h : Heap) (R : Option Addr → Heap → Prop) : Prop :=
 finger_measured r l1 h fun y4 y5 y6 y7 y8 h1 =>
 finger_level_measure r mid2 h1 fun y9 y10 y11 y12 y13 h2 =>
 mono_Join r y4 y5 y6 y7 y8 y9 y10 y11 y12 y13 h2 fun y14 y15 y16 y17 y18 h3 =>
 finger_measured r vr3 h3 fun y19 y20 y21 y22 y23 h4 =>
 mono_Join r y14 y15 y16 y17 y18 y19 y20 y21 y22 y23 h4 fun y24 y25 y26 y27 y28 h5 =>
 New h5 (.cells #[(.int .i64 y24), (.int .i64 y25), (.int .i64 y26), (.int .i64 y27), (.int .i64 y28), (Sl.v l1), (Sl.v vr3), (.pointer mid2)] 127) fun p29 h6 =>
 R (some p29) h6
theorem finger_deep_of {r : World} {l1 : Sl} {mid2 : Option Addr} {vr3 : Sl} {h : Heap} {R : Option Addr → Heap → Prop} (H : finger_deep_F r l1 mid2 vr3 h R) : finger_deep r l1 mid2 vr3 h R := by
 unfold finger_deep_F at H
 refine calls_of 20 [.tmp 6] Tryz.func98 rfl rfl rfl rfl rfl ?_
 refine W_seq ?_
 refine W_region (.pu 0 .fin) rfl rfl ?_
 refine sp 6 (.pointer none) rfl rfl (r_assign rfl) ?_
 refine s_fin ?_
 refine W_seq ?_
 refine W_region (.pu 0 (.ef 1 [] (.pu 2 (.ef 3 [] (.ef 4 [] (.pu 5 (.ef 6 [] (.ef 7 [] (.pu 8 (.pu 9 (.pu 10 (.pu 11 (.ef 12 [] (.pu 13 .fin) .no))))) .no) .no)) .no) .no)) .no)) rfl rfl ?_
 refine sp 7 (Sl.v l1) rfl rfl (r_move rfl) ?_
 refine sc 8 rfl rfl (fun dr => r_call Tryz.call120 rfl rfl H) ?_
 rintro _ h1 ⟨y4, y5, y6, y7, y8, rfl, H⟩
 refine sp 9 (.pointer mid2) rfl rfl (r_move rfl) ?_
 refine sc 10 rfl rfl (fun dr => r_call Tryz.call72 rfl rfl H) ?_
 rintro _ h2 ⟨y9, y10, y11, y12, y13, rfl, H⟩
 refine sc 11 rfl rfl (fun dr => r_call Tryz.call119 rfl rfl H) ?_
 rintro _ h3 ⟨y14, y15, y16, y17, y18, rfl, H⟩
 refine sp 12 (Sl.v vr3) rfl rfl (r_move rfl) ?_
 refine sc 13 rfl rfl (fun dr => r_call Tryz.call120 rfl rfl H) ?_
 rintro _ h4 ⟨y19, y20, y21, y22, y23, rfl, H⟩
 refine sc 14 rfl rfl (fun dr => r_call Tryz.call119 rfl rfl H) ?_
 rintro _ h5 ⟨y24, y25, y26, y27, y28, rfl, H⟩
 refine sp 15 (Sl.v l1) rfl rfl (r_move rfl) ?_
 refine sp 16 (Sl.v vr3) rfl rfl (r_move rfl) ?_
 refine sp 17 (.pointer mid2) rfl rfl (r_move rfl) ?_
 refine sp 18 (.agg #[(.int .i64 y24), (.int .i64 y25), (.int .i64 y26), (.int .i64 y27), (.int .i64 y28), (Sl.v l1), (Sl.v vr3), (.pointer mid2)]) rfl rfl (fun w => by kernel_rfl) ?_
 obtain ⟨p29, e30⟩ : ∃ p : Addr, p = ⟨h5.size, 0, none⟩ := ⟨_, rfl⟩
 obtain ⟨h6, e31⟩ : ∃ hh : Heap, hh = h5.push (.cells #[(.int .i64 y24), (.int .i64 y25), (.int .i64 y26), (.int .i64 y27), (.int .i64 y28), (Sl.v l1), (Sl.v vr3), (.pointer mid2)] 127) := ⟨_, rfl⟩
 have H := H p29 h6 e30 e31
 refine s_ef1 (d := some 19) (v := (.pointer (some p29))) (h' := h6) rfl rfl rfl (fun dr => (r_box (v := (.agg #[(.int .i64 y24), (.int .i64 y25), (.int .i64 y26), (.int .i64 y27), (.int .i64 y28), (Sl.v l1), (Sl.v vr3), (.pointer mid2)])) rfl).trans (by rw [e30, e31]; rfl)) trivial ?_ trivial
 refine sp 6 (.pointer (some p29)) rfl rfl (r_assign rfl) ?_
 refine s_fin ?_
 refine W_ret ?_
 exact ⟨[(.pointer (some p29))], ⟨_, _, rfl, rfl, rfl⟩, (some p29), rfl, H⟩
def finger_pushLeft_F (r : World) (t1 : Option Addr) (v2 : Option Addr) (h : Heap) (R : Option Addr → Heap → Prop) : Prop :=
 Br (Option.isNone v2) (
  finger_alone r t1 h fun y3 h1 =>
  R y3 h1) (
  Ck v2 fun p4 =>
  LdS h (Addr.add p4 6) fun x6 =>
  Br (Option.isNone x6.a) (
   New h (.cells #[(.pointer t1)] 108) fun p8 h2 =>
   Ck v2 fun p11 =>
   LdS h2 (Addr.add p11 5) fun x13 =>
   finger_deep r ((⟨some p8, 1, 1⟩ : Sl)) none x13 h2 fun y15 h3 =>
   R y15 h3) (
   Ck v2 fun p16 =>
   LdS h (Addr.add p16 5) fun x18 =>
   Br (decide (((x18.len : Int)) < 4)) (
    Ck v2 fun p20 =>
    LdS h (Addr.add p20 5) fun x22 =>
    Ck v2 fun p24 =>
    LdP h (Addr.add p24 7) fun x26 =>
    Ck v2 fun p28 =>
    LdS h (Addr.add p28 6) fun x30 =>
    New h (.cells #[(.pointer t1)] 108) fun p32 h4 =>
    (hcell h4 (Addr.add p28 6) = some (Sl.v x30)) ∧
    (hcell h4 (Addr.add p24 7) = some (.pointer x26)) ∧
    (hcell h4 (Addr.add p20 5) = some (Sl.v x22)) ∧
    App 108 1 8 (.pointer none) ((⟨some p32, 1, 1⟩ : Sl)) x22 h4 fun s38 h5 =>
    (hcell h5 (Addr.add p28 6) = some (Sl.v x30)) ∧
    (hcell h5 (Addr.add p24 7) = some (.pointer x26)) ∧
    finger_deep r s38 x26 x30 h5 fun y41 h6 =>
    R y41 h6) (
    ∀ J43 : Option Addr → Heap → Prop, (∀ (x42 : Option Addr) (h7 : Heap),
     (R x42 h7) →
     J43 x42 h7) →
    Ck v2 fun p45 =>
    LdS h (Addr.add p45 5) fun x47 =>
    Ix x47 0 1 fun q53 =>
    LdP h q53 fun x55 =>
    Ck v2 fun p57 =>
    LdS h (Addr.add p57 5) fun x59 =>
    Sub x59 1 ((x59.len : Int)) ((x59.cap : Int)) 1 fun s61 =>
    Ck v2 fun p67 =>
    LdP h (Addr.add p67 7) fun x69 =>
    Ck v2 fun p71 =>
    LdS h (Addr.add p71 6) fun x73 =>
    (New h (.cells #[(.pointer t1), (.pointer x55)] 108) fun p75 h8 =>
    (hcell h8 (Addr.add p71 6) = some (Sl.v x73)) ∧
    (hcell h8 (Addr.add p67 7) = some (.pointer x69)) ∧
    (hcell h8 (Addr.add p57 5) = some (Sl.v x59)) ∧
    finger_group r s61 h8 fun y81 h9 =>
    (hcell h9 (Addr.add p71 6) = some (Sl.v x73)) ∧
    (hcell h9 (Addr.add p67 7) = some (.pointer x69)) ∧
    (hcell h9 q53 = some (.pointer x55)) ∧
    (hcell h9 (Addr.add p45 5) = some (Sl.v x47)) ∧
    finger_pushLeft r y81 x69 h9 fun y86 h10 =>
    (hcell h10 (Addr.add p71 6) = some (Sl.v x73)) ∧
    (hcell h10 q53 = some (.pointer x55)) ∧
    (hcell h10 (Addr.add p45 5) = some (Sl.v x47)) ∧
    finger_deep r ((⟨some p75, 2, 2⟩ : Sl)) y86 x73 h10 fun y90 h11 =>
    J43 y90 h11) ∧
    (finger_group r s61 h fun y91 h12 =>
    (hcell h12 (Addr.add p71 6) = some (Sl.v x73)) ∧
    (hcell h12 (Addr.add p67 7) = some (.pointer x69)) ∧
    (hcell h12 q53 = some (.pointer x55)) ∧
    (hcell h12 (Addr.add p45 5) = some (Sl.v x47)) ∧
    (New h12 (.cells #[(.pointer t1), (.pointer x55)] 108) fun p96 h13 =>
    (hcell h13 (Addr.add p71 6) = some (Sl.v x73)) ∧
    (hcell h13 (Addr.add p67 7) = some (.pointer x69)) ∧
    (hcell h13 (Addr.add p57 5) = some (Sl.v x59)) ∧
    finger_pushLeft r y91 x69 h13 fun y102 h14 =>
    (hcell h14 (Addr.add p71 6) = some (Sl.v x73)) ∧
    (hcell h14 q53 = some (.pointer x55)) ∧
    (hcell h14 (Addr.add p45 5) = some (Sl.v x47)) ∧
    finger_deep r ((⟨some p96, 2, 2⟩ : Sl)) y102 x73 h14 fun y106 h15 =>
    J43 y106 h15) ∧
    (finger_pushLeft r y91 x69 h12 fun y107 h16 =>
    (hcell h16 (Addr.add p71 6) = some (Sl.v x73)) ∧
    (hcell h16 q53 = some (.pointer x55)) ∧
    (hcell h16 (Addr.add p45 5) = some (Sl.v x47)) ∧
    New h16 (.cells #[(.pointer t1), (.pointer x55)] 108) fun p111 h17 =>
    (hcell h17 (Addr.add p71 6) = some (Sl.v x73)) ∧
    (hcell h17 (Addr.add p67 7) = some (.pointer x69)) ∧
    (hcell h17 (Addr.add p57 5) = some (Sl.v x59)) ∧
    finger_deep r ((⟨some p111, 2, 2⟩ : Sl)) y107 x73 h17 fun y117 h18 =>
    J43 y117 h18)))))
theorem finger_pushLeft_of {r : World} {t1 : Option Addr} {v2 : Option Addr} {h : Heap} {R : Option Addr → Heap → Prop} (H : finger_pushLeft_F r t1 v2 h R) : finger_pushLeft r t1 v2 h R := by
 unfold finger_pushLeft_F at H
 refine calls_of 70 [.tmp 4] Tryz.func96 rfl rfl rfl rfl rfl ?_
 refine W_seq ?_
 refine W_region (.pu 0 .fin) rfl rfl ?_
 refine sp 4 (.pointer none) rfl rfl (r_assign rfl) ?_
 refine s_fin ?_
 refine W_seq ?_
 refine W_block ?_
 refine W_seq ?_
 refine W_region (.pu 0 (.pu 1 (.pu 2 .fin))) rfl rfl ?_
 refine sp 6 (.pointer v2) rfl rfl (r_move rfl) ?_
 refine sp 7 (.bool (Option.isNone v2)) rfl rfl (r_nilP Tryz.underlying37 rfl rfl) ?_
 refine sp 5 (.bool (Option.isNone v2)) rfl rfl (r_assign rfl) ?_
 refine s_fin ?_
 refine W_if (Option.isNone v2) rfl (fun g120 => ?_) (fun g120 => ?_)
 ·have H := H.1 g120
  refine W_seq ?_
  refine W_region (.pu 0 (.ef 1 [] (.pu 2 .fin) .no)) rfl rfl ?_
  refine sp 8 (.pointer t1) rfl rfl (r_move rfl) ?_
  refine sc 9 rfl rfl (fun dr => r_call Tryz.call97 rfl rfl H) ?_
  rintro _ h1 ⟨y3, rfl, H⟩
  refine sp 4 (.pointer y3) rfl rfl (r_assign rfl) ?_
  refine s_fin ?_
  refine W_ret ?_
  exact ⟨[(.pointer y3)], ⟨_, _, rfl, rfl, rfl⟩, y3, rfl, H⟩
 ·have H := H.2 g120
  refine W_seq ?_
  refine W_region (.pu 0 (.pu 1 (.pu 2 (.rl 3 (.pu 4 (.pu 5 .fin)))))) rfl rfl ?_
  refine sp 11 (.pointer v2) rfl rfl (r_move rfl) ?_
  obtain ⟨p4, e5, H⟩ := H
  refine sp 12 (.pointer (some p4)) rfl rfl (r_nilCheck rfl e5) ?_
  refine sp 13 (.pointer (some (Addr.add p4 6))) rfl rfl (r_fieldAddr Tryz.underlying127 Tryz.sizeOf113 rfl rfl rfl) ?_
  obtain ⟨x6, e7, H⟩ := H
  refine sl 14 (Sl.v x6) rfl rfl (fun dr => r_load1 Tryz.isAgg113 rfl e7) ?_
  refine sp 15 (.bool (Option.isNone x6.a)) rfl rfl (r_nilS Tryz.underlying113 rfl rfl) ?_
  refine sp 10 (.bool (Option.isNone x6.a)) rfl rfl (r_assign rfl) ?_
  refine s_fin ?_
  refine W_if (Option.isNone x6.a) rfl (fun g119 => ?_) (fun g119 => ?_)
  ·have H := H.1 g119
   refine W_seq ?_
   refine W_region (.pu 0 (.ef 1 [] (.pu 2 (.pu 3 (.pu 4 (.rl 5 (.ef 6 [] (.pu 7 .fin) .no))))) .no)) rfl rfl ?_
   refine sp 16 (.pointer t1) rfl rfl (r_move rfl) ?_
   obtain ⟨p8, e9⟩ : ∃ p : Addr, p = ⟨h.size, 0, none⟩ := ⟨_, rfl⟩
   obtain ⟨h2, e10⟩ : ∃ hh : Heap, hh = h.push (.cells #[(.pointer t1)] 108) := ⟨_, rfl⟩
   have H := H p8 h2 e9 e10
   refine s_ef1 (d := some 17) (v := (Sl.v ((⟨some p8, 1, 1⟩ : Sl)))) (h' := h2) rfl rfl rfl (fun dr => (slFGFing_113.build (cells := #[(.pointer t1)]) (by decide) rfl (by kernel_rfl)).trans (by rw [e9, e10]; rfl)) trivial ?_ trivial
   refine sp 18 (.pointer v2) rfl rfl (r_move rfl) ?_
   obtain ⟨p11, e12, H⟩ := H
   refine sp 19 (.pointer (some p11)) rfl rfl (r_nilCheck rfl e12) ?_
   refine sp 20 (.pointer (some (Addr.add p11 5))) rfl rfl (r_fieldAddr Tryz.underlying127 Tryz.sizeOf113 rfl rfl rfl) ?_
   obtain ⟨x13, e14, H⟩ := H
   refine sl 21 (Sl.v x13) rfl rfl (fun dr => r_load1 Tryz.isAgg113 rfl e14) ?_
   refine sc 22 rfl rfl (fun dr => r_call Tryz.call98 rfl rfl H) ?_
   rintro _ h3 ⟨y15, rfl, H⟩
   refine sp 4 (.pointer y15) rfl rfl (r_assign rfl) ?_
   refine s_fin ?_
   refine W_ret ?_
   exact ⟨[(.pointer y15)], ⟨_, _, rfl, rfl, rfl⟩, y15, rfl, H⟩
  ·have H := H.2 g119
   refine W_seq ?_
   refine W_region (.pu 0 (.pu 1 (.pu 2 (.rl 3 (.pu 4 (.pu 5 (.pu 6 .fin))))))) rfl rfl ?_
   refine sp 24 (.pointer v2) rfl rfl (r_move rfl) ?_
   obtain ⟨p16, e17, H⟩ := H
   refine sp 25 (.pointer (some p16)) rfl rfl (r_nilCheck rfl e17) ?_
   refine sp 26 (.pointer (some (Addr.add p16 5))) rfl rfl (r_fieldAddr Tryz.underlying127 Tryz.sizeOf113 rfl rfl rfl) ?_
   obtain ⟨x18, e19, H⟩ := H
   refine sl 27 (Sl.v x18) rfl rfl (fun dr => r_load1 Tryz.isAgg113 rfl e19) ?_
   refine sp 28 (.int .i64 ((x18.len : Int))) rfl rfl (r_len Tryz.underlying113 rfl) ?_
   refine sp 29 (.bool (decide (((x18.len : Int)) < 4))) rfl rfl (r_lss rfl rfl) ?_
   refine sp 23 (.bool (decide (((x18.len : Int)) < 4))) rfl rfl (r_assign rfl) ?_
   refine s_fin ?_
   refine W_if (decide (((x18.len : Int)) < 4)) rfl (fun g118 => ?_) (fun g118 => ?_)
   ·have H := H.1 g118
    refine W_seq ?_
    refine W_draw [0, 1, 0, 4, 12, 28, 63, 0, 128, 384, 896, 0, 2048, 6144, 14336, 32767, 65535] (.pu 0 (.pu 2 (.pu 3 (.pu 4 (.rd 5 (.pu 7 (.pu 8 (.pu 9 (.rd 10 (.pu 11 (.pu 12 (.pu 13 (.rd 14 (.ef 1 [] (.ef 6 [5] (.ef 15 [5, 10, 14] (.pu 16 .fin) .no) .no) .no)))))))))))))) (by kernel_rfl) (by kernel_rfl) ?_
    refine sp 30 (.pointer t1) rfl rfl (r_move rfl) ?_
    refine sp 32 (.pointer v2) rfl rfl (r_move rfl) ?_
    obtain ⟨p20, e21, H⟩ := H
    refine sp 33 (.pointer (some p20)) rfl rfl (r_nilCheck rfl e21) ?_
    refine sp 34 (.pointer (some (Addr.add p20 5))) rfl rfl (r_fieldAddr Tryz.underlying127 Tryz.sizeOf113 rfl rfl rfl) ?_
    obtain ⟨x22, e23, H⟩ := H
    refine s_rd (d := some 35) (v := (Sl.v x22)) rfl rfl rfl (fun dr => r_load1 Tryz.isAgg113 rfl e23) ?_
    refine sp 37 (.pointer v2) rfl rfl (r_move rfl) ?_
    obtain ⟨p24, e25, H⟩ := H
    refine sp 38 (.pointer (some p24)) rfl rfl (r_nilCheck rfl e25) ?_
    refine sp 39 (.pointer (some (Addr.add p24 7))) rfl rfl (r_fieldAddr Tryz.underlying127 Tryz.sizeOf37 rfl rfl rfl) ?_
    obtain ⟨x26, e27, H⟩ := H
    refine s_rd (d := some 40) (v := (.pointer x26)) rfl rfl rfl (fun dr => r_load1 Tryz.isAgg37 rfl e27) ?_
    refine sp 41 (.pointer v2) rfl rfl (r_move rfl) ?_
    obtain ⟨p28, e29, H⟩ := H
    refine sp 42 (.pointer (some p28)) rfl rfl (r_nilCheck rfl e29) ?_
    refine sp 43 (.pointer (some (Addr.add p28 6))) rfl rfl (r_fieldAddr Tryz.underlying127 Tryz.sizeOf113 rfl rfl rfl) ?_
    obtain ⟨x30, e31, H⟩ := H
    refine s_rd (d := some 44) (v := (Sl.v x30)) rfl rfl rfl (fun dr => r_load1 Tryz.isAgg113 rfl e31) ?_
    obtain ⟨p32, e33⟩ : ∃ p : Addr, p = ⟨h.size, 0, none⟩ := ⟨_, rfl⟩
    obtain ⟨h4, e34⟩ : ∃ hh : Heap, hh = h.push (.cells #[(.pointer t1)] 108) := ⟨_, rfl⟩
    have H := H p32 h4 e33 e34
    obtain ⟨e35, H⟩ := H
    obtain ⟨e36, H⟩ := H
    obtain ⟨e37, H⟩ := H
    refine s_ef1 (d := some 31) (v := (Sl.v ((⟨some p32, 1, 1⟩ : Sl)))) (h' := h4) rfl rfl rfl (fun dr => (slFGFing_113.build (cells := #[(.pointer t1)]) (by decide) rfl (by kernel_rfl)).trans (by rw [e33, e34]; rfl)) ⟨(.inl ⟨rfl, fun dr => r_load1 Tryz.isAgg113 rfl e35⟩), (.inl ⟨rfl, fun dr => r_load1 Tryz.isAgg37 rfl e36⟩), (.inl ⟨rfl, fun dr => r_load1 Tryz.isAgg113 rfl e37⟩), trivial⟩ ?_ trivial
    refine s_ef (d := some 36) rfl rfl rfl (fun dr => slFGFing_113.append rfl rfl H) ?_ trivial
    rintro _ h5 ⟨s38, rfl, H⟩
    obtain ⟨e39, H⟩ := H
    obtain ⟨e40, H⟩ := H
    refine ⟨⟨(.inl ⟨rfl, fun dr => r_load1 Tryz.isAgg113 rfl e39⟩), (.inl ⟨rfl, fun dr => r_load1 Tryz.isAgg37 rfl e40⟩), trivial, trivial⟩, ?_⟩
    refine s_ef (d := some 45) rfl rfl rfl (fun dr => r_call Tryz.call98 rfl rfl H) ?_ trivial
    rintro _ h6 ⟨y41, rfl, H⟩
    refine ⟨⟨trivial, trivial, trivial, trivial⟩, ?_⟩
    refine sp 4 (.pointer y41) rfl rfl (r_assign rfl) ?_
    refine s_fin ?_
    refine W_ret ?_
    exact ⟨[(.pointer y41)], ⟨_, _, rfl, rfl, rfl⟩, y41, rfl, H⟩
   ·have H := H.2 g118
    refine W_skip ?_
    show W _ _ _ _ _ _ _ _
    refine W_seq ?_
    refine W_set ?_
    intro N44 eN44
    have H := H (fun (x42 : Option Addr) (h7 : Heap) => ∀ b, N44 [] (mkE [(4, (.pointer x42))] b) h7) (by
     intro x42 h7 H b
     rw [eN44]
     show W _ _ _ _ _ _ _ _
     refine W_ret ?_
     exact ⟨[(.pointer x42)], ⟨_, _, rfl, rfl, rfl⟩, x42, rfl, H⟩)
    clear eN44
    refine W_draw [0, 0, 2, 6, 14, 30, 62, 127, 0, 256, 768, 1792, 3840, 7936, 0, 16384, 49152, 114688, 261888, 0, 524288, 1572864, 3670016, 8388607, 16777215] (.pu 0 (.pu 1 (.pu 2 (.pu 3 (.rd 4 (.pu 5 (.rd 6 (.pu 8 (.pu 9 (.pu 10 (.rd 11 (.pu 12 (.pu 14 (.pu 15 (.pu 16 (.rd 17 (.pu 19 (.pu 20 (.pu 21 (.rd 22 (.ef 7 [4, 6] (.ef 13 [11] (.ef 18 [11, 17] (.ef 23 [4, 6, 11, 17, 22] (.pu 24 .fin) .no) .no) .no) (.ef 13 [11] (.ef 7 [4, 6] (.ef 18 [11, 17] (.ef 23 [4, 6, 11, 17, 22] (.pu 24 .fin) .no) .no) (.ef 18 [11, 17] (.ef 7 [4, 6] (.ef 23 [4, 6, 11, 17, 22] (.pu 24 .fin) .no) .no) .no)) .no)))))))))))))))))))))) (by kernel_rfl) (by kernel_rfl) ?_
    refine sp 46 (.pointer t1) rfl rfl (r_move rfl) ?_
    refine sp 47 (.pointer v2) rfl rfl (r_move rfl) ?_
    obtain ⟨p45, e46, H⟩ := H
    refine sp 48 (.pointer (some p45)) rfl rfl (r_nilCheck rfl e46) ?_
    refine sp 49 (.pointer (some (Addr.add p45 5))) rfl rfl (r_fieldAddr Tryz.underlying127 Tryz.sizeOf113 rfl rfl rfl) ?_
    obtain ⟨x47, e48, H⟩ := H
    refine s_rd (d := some 50) (v := (Sl.v x47)) rfl rfl rfl (fun dr => r_load1 Tryz.isAgg113 rfl e48) ?_
    obtain ⟨p49, e50, e51, e52, H⟩ := H
    obtain ⟨q53, e54⟩ : ∃ q : Addr, q = Addr.add p49 (Int.toNat 0 * 1) := ⟨_, rfl⟩
    rw [← e54] at H
    refine sp 51 (.pointer (some q53)) rfl rfl (fun w => (r_indexAddr Tryz.underlying113 Tryz.sizeOf108 rfl rfl e50 e51 e52 w).trans (by rw [e54])) ?_
    obtain ⟨x55, e56, H⟩ := H
    refine s_rd (d := some 52) (v := (.pointer x55)) rfl rfl rfl (fun dr => r_load1 Tryz.isAgg108 rfl e56) ?_
    refine sp 54 (.pointer v2) rfl rfl (r_move rfl) ?_
    obtain ⟨p57, e58, H⟩ := H
    refine sp 55 (.pointer (some p57)) rfl rfl (r_nilCheck rfl e58) ?_
    refine sp 56 (.pointer (some (Addr.add p57 5))) rfl rfl (r_fieldAddr Tryz.underlying127 Tryz.sizeOf113 rfl rfl rfl) ?_
    obtain ⟨x59, e60, H⟩ := H
    refine s_rd (d := some 57) (v := (Sl.v x59)) rfl rfl rfl (fun dr => r_load1 Tryz.isAgg113 rfl e60) ?_
    obtain ⟨e62, e63, e64, e65, H⟩ := H
    obtain ⟨s61, e66⟩ : ∃ t : Sl, t = ⟨sliceA x59.a (Int.toNat ((x59.cap : Int))) (Int.toNat 1) 1, Int.toNat ((x59.len : Int)) - Int.toNat 1, Int.toNat ((x59.cap : Int)) - Int.toNat 1⟩ := ⟨_, rfl⟩
    have H := H s61 e66
    refine sp 58 (Sl.v s61) rfl rfl (fun w => (r_slice (lo := (.some (.const (.int .i64 1)))) (hi := .none) (mx := .none) Tryz.underlying113 Tryz.sizeOf108 rfl ((x59.cap : Int)) ((x59.len : Int)) 1 rfl ⟨rfl, rfl⟩ ⟨_, rfl⟩ e62 e63 (.inl rfl) e65 w).trans (by rw [e66]; rfl)) ?_
    refine sp 60 (.pointer v2) rfl rfl (r_move rfl) ?_
    obtain ⟨p67, e68, H⟩ := H
    refine sp 61 (.pointer (some p67)) rfl rfl (r_nilCheck rfl e68) ?_
    refine sp 62 (.pointer (some (Addr.add p67 7))) rfl rfl (r_fieldAddr Tryz.underlying127 Tryz.sizeOf37 rfl rfl rfl) ?_
    obtain ⟨x69, e70, H⟩ := H
    refine s_rd (d := some 63) (v := (.pointer x69)) rfl rfl rfl (fun dr => r_load1 Tryz.isAgg37 rfl e70) ?_
    refine sp 65 (.pointer v2) rfl rfl (r_move rfl) ?_
    obtain ⟨p71, e72, H⟩ := H
    refine sp 66 (.pointer (some p71)) rfl rfl (r_nilCheck rfl e72) ?_
    refine sp 67 (.pointer (some (Addr.add p71 6))) rfl rfl (r_fieldAddr Tryz.underlying127 Tryz.sizeOf113 rfl rfl rfl) ?_
    obtain ⟨x73, e74, H⟩ := H
    refine s_rd (d := some 68) (v := (Sl.v x73)) rfl rfl rfl (fun dr => r_load1 Tryz.isAgg113 rfl e74) ?_
    refine s_or ?_ ?_
    ·have H := H.1
     obtain ⟨p75, e76⟩ : ∃ p : Addr, p = ⟨h.size, 0, none⟩ := ⟨_, rfl⟩
     obtain ⟨h8, e77⟩ : ∃ hh : Heap, hh = h.push (.cells #[(.pointer t1), (.pointer x55)] 108) := ⟨_, rfl⟩
     have H := H p75 h8 e76 e77
     obtain ⟨e78, H⟩ := H
     obtain ⟨e79, H⟩ := H
     obtain ⟨e80, H⟩ := H
     refine s_ef1 (d := some 53) (v := (Sl.v ((⟨some p75, 2, 2⟩ : Sl)))) (h' := h8) rfl rfl rfl (fun dr => (slFGFing_113.build (cells := #[(.pointer t1), (.pointer x55)]) (by decide) rfl (by kernel_rfl)).trans (by rw [e76, e77]; rfl)) ⟨(.inl ⟨rfl, fun dr => r_load1 Tryz.isAgg113 rfl e78⟩), (.inl ⟨rfl, fun dr => r_load1 Tryz.isAgg37 rfl e79⟩), (.inl ⟨rfl, fun dr => r_load1 Tryz.isAgg113 rfl e80⟩), trivial, trivial, trivial⟩ ?_ trivial
     refine s_ef (d := some 59) rfl rfl rfl (fun dr => r_call Tryz.call100 rfl rfl H) ?_ trivial
     rintro _ h9 ⟨y81, rfl, H⟩
     obtain ⟨e82, H⟩ := H
     obtain ⟨e83, H⟩ := H
     obtain ⟨e84, H⟩ := H
     obtain ⟨e85, H⟩ := H
     refine ⟨⟨(.inl ⟨rfl, fun dr => r_load1 Tryz.isAgg113 rfl e82⟩), (.inl ⟨rfl, fun dr => r_load1 Tryz.isAgg37 rfl e83⟩), trivial, (.inl ⟨rfl, fun dr => r_load1 Tryz.isAgg108 rfl e84⟩), (.inl ⟨rfl, fun dr => r_load1 Tryz.isAgg113 rfl e85⟩), trivial⟩, ?_⟩
     refine s_ef (d := some 64) rfl rfl rfl (fun dr => r_call Tryz.call96 rfl rfl H) ?_ trivial
     rintro _ h10 ⟨y86, rfl, H⟩
     obtain ⟨e87, H⟩ := H
     obtain ⟨e88, H⟩ := H
     obtain ⟨e89, H⟩ := H
     refine ⟨⟨(.inl ⟨rfl, fun dr => r_load1 Tryz.isAgg113 rfl e87⟩), trivial, trivial, (.inl ⟨rfl, fun dr => r_load1 Tryz.isAgg108 rfl e88⟩), (.inl ⟨rfl, fun dr => r_load1 Tryz.isAgg113 rfl e89⟩), trivial⟩, ?_⟩
     refine s_ef (d := some 69) rfl rfl rfl (fun dr => r_call Tryz.call98 rfl rfl H) ?_ trivial
     rintro _ h11 ⟨y90, rfl, H⟩
     refine ⟨⟨trivial, trivial, trivial, trivial, trivial, trivial⟩, ?_⟩
     refine sp 4 (.pointer y90) rfl rfl (r_assign rfl) ?_
     refine s_fin ?_
     exact N_mk (l := [(4, (.pointer y90))]) H ⟨rfl, trivial⟩
    ·have H := H.2
     refine s_ef (d := some 59) rfl rfl rfl (fun dr => r_call Tryz.call100 rfl rfl H) ?_ trivial
     rintro _ h12 ⟨y91, rfl, H⟩
     obtain ⟨e92, H⟩ := H
     obtain ⟨e93, H⟩ := H
     obtain ⟨e94, H⟩ := H
     obtain ⟨e95, H⟩ := H
     refine ⟨⟨(.inl ⟨rfl, fun dr => r_load1 Tryz.isAgg113 rfl e92⟩), (.inl ⟨rfl, fun dr => r_load1 Tryz.isAgg37 rfl e93⟩), trivial, (.inl ⟨rfl, fun dr => r_load1 Tryz.isAgg108 rfl e94⟩), (.inl ⟨rfl, fun dr => r_load1 Tryz.isAgg113 rfl e95⟩), trivial⟩, ?_⟩
     refine s_or ?_ ?_
     ·have H := H.1
      obtain ⟨p96, e97⟩ : ∃ p : Addr, p = ⟨h12.size, 0, none⟩ := ⟨_, rfl⟩
      obtain ⟨h13, e98⟩ : ∃ hh : Heap, hh = h12.push (.cells #[(.pointer t1), (.pointer x55)] 108) := ⟨_, rfl⟩
      have H := H p96 h13 e97 e98
      obtain ⟨e99, H⟩ := H
      obtain ⟨e100, H⟩ := H
      obtain ⟨e101, H⟩ := H
      refine s_ef1 (d := some 53) (v := (Sl.v ((⟨some p96, 2, 2⟩ : Sl)))) (h' := h13) rfl rfl rfl (fun dr => (slFGFing_113.build (cells := #[(.pointer t1), (.pointer x55)]) (by decide) rfl (by kernel_rfl)).trans (by rw [e97, e98]; rfl)) ⟨(.inl ⟨rfl, fun dr => r_load1 Tryz.isAgg113 rfl e99⟩), (.inl ⟨rfl, fun dr => r_load1 Tryz.isAgg37 rfl e100⟩), (.inl ⟨rfl, fun dr => r_load1 Tryz.isAgg113 rfl e101⟩), trivial, trivial, trivial⟩ ?_ trivial
      refine s_ef (d := some 64) rfl rfl rfl (fun dr => r_call Tryz.call96 rfl rfl H) ?_ trivial
      rintro _ h14 ⟨y102, rfl, H⟩
      obtain ⟨e103, H⟩ := H
      obtain ⟨e104, H⟩ := H
      obtain ⟨e105, H⟩ := H
      refine ⟨⟨(.inl ⟨rfl, fun dr => r_load1 Tryz.isAgg113 rfl e103⟩), trivial, trivial, (.inl ⟨rfl, fun dr => r_load1 Tryz.isAgg108 rfl e104⟩), (.inl ⟨rfl, fun dr => r_load1 Tryz.isAgg113 rfl e105⟩), trivial⟩, ?_⟩
      refine s_ef (d := some 69) rfl rfl rfl (fun dr => r_call Tryz.call98 rfl rfl H) ?_ trivial
      rintro _ h15 ⟨y106, rfl, H⟩
      refine ⟨⟨trivial, trivial, trivial, trivial, trivial, trivial⟩, ?_⟩
      refine sp 4 (.pointer y106) rfl rfl (r_assign rfl) ?_
      refine s_fin ?_
      exact N_mk (l := [(4, (.pointer y106))]) H ⟨rfl, trivial⟩
     ·have H := H.2
      refine s_ef (d := some 64) rfl rfl rfl (fun dr => r_call Tryz.call96 rfl rfl H) ?_ trivial
      rintro _ h16 ⟨y107, rfl, H⟩
      obtain ⟨e108, H⟩ := H
      obtain ⟨e109, H⟩ := H
      obtain ⟨e110, H⟩ := H
      refine ⟨⟨(.inl ⟨rfl, fun dr => r_load1 Tryz.isAgg113 rfl e108⟩), trivial, trivial, (.inl ⟨rfl, fun dr => r_load1 Tryz.isAgg108 rfl e109⟩), (.inl ⟨rfl, fun dr => r_load1 Tryz.isAgg113 rfl e110⟩), trivial⟩, ?_⟩
      obtain ⟨p111, e112⟩ : ∃ p : Addr, p = ⟨h16.size, 0, none⟩ := ⟨_, rfl⟩
      obtain ⟨h17, e113⟩ : ∃ hh : Heap, hh = h16.push (.cells #[(.pointer t1), (.pointer x55)] 108) := ⟨_, rfl⟩
      have H := H p111 h17 e112 e113
      obtain ⟨e114, H⟩ := H
      obtain ⟨e115, H⟩ := H
      obtain ⟨e116, H⟩ := H
      refine s_ef1 (d := some 53) (v := (Sl.v ((⟨some p111, 2, 2⟩ : Sl)))) (h' := h17) rfl rfl rfl (fun dr => (slFGFing_113.build (cells := #[(.pointer t1), (.pointer x55)]) (by decide) rfl (by kernel_rfl)).trans (by rw [e112, e113]; rfl)) ⟨(.inl ⟨rfl, fun dr => r_load1 Tryz.isAgg113 rfl e114⟩), (.inl ⟨rfl, fun dr => r_load1 Tryz.isAgg37 rfl e115⟩), (.inl ⟨rfl, fun dr => r_load1 Tryz.isAgg113 rfl e116⟩), trivial, trivial, trivial⟩ ?_ trivial
      refine s_ef (d := some 69) rfl rfl rfl (fun dr => r_call Tryz.call98 rfl rfl H) ?_ trivial
      rintro _ h18 ⟨y117, rfl, H⟩
      refine ⟨⟨trivial, trivial, trivial, trivial, trivial, trivial⟩, ?_⟩
      refine sp 4 (.pointer y117) rfl rfl (r_assign rfl) ?_
      refine s_fin ?_
      exact N_mk (l := [(4, (.pointer y117))]) H ⟨rfl, trivial⟩
def finger_pushRight_F (r : World) (v1 : Option Addr) (t2 : Option Addr) (h : Heap) (R : Option Addr → Heap → Prop) : Prop :=
 Br (Option.isNone v1) (
  finger_alone r t2 h fun y3 h1 =>
  R y3 h1) (
  Ck v1 fun p4 =>
  LdS h (Addr.add p4 6) fun x6 =>
  Br (Option.isNone x6.a) (
   Ck v1 fun p8 =>
   LdS h (Addr.add p8 5) fun x10 =>
   New h (.cells #[(.pointer t2)] 108) fun p12 h2 =>
   finger_deep r x10 none ((⟨some p12, 1, 1⟩ : Sl)) h2 fun y15 h3 =>
   R y15 h3) (
   Ck v1 fun p16 =>
   LdS h (Addr.add p16 6) fun x18 =>
   Br (decide (((x18.len : Int)) < 4)) (
    ∀ J21 : Option Addr → Heap → Prop, (∀ (x20 : Option Addr) (h4 : Heap),
     (R x20 h4) →
     J21 x20 h4) →
    Ck v1 fun p23 =>
    LdS h (Addr.add p23 5) fun x25 =>
    Ck v1 fun p27 =>
    LdP h (Addr.add p27 7) fun x29 =>
    Ck v1 fun p31 =>
    LdS h (Addr.add p31 6) fun x33 =>
    (slices_Clone_finger_thing_finger_thing r x33 h fun y35 h5 =>
    (hcell h5 (Addr.add p27 7) = some (.pointer x29)) ∧
    (hcell h5 (Addr.add p23 5) = some (Sl.v x25)) ∧
    New h5 (.cells #[(.pointer t2)] 108) fun p38 h6 =>
    (hcell h6 (Addr.add p31 6) = some (Sl.v x33)) ∧
    (hcell h6 (Addr.add p27 7) = some (.pointer x29)) ∧
    (hcell h6 (Addr.add p23 5) = some (Sl.v x25)) ∧
    App 108 1 8 (.pointer none) y35 ((⟨some p38, 1, 1⟩ : Sl)) h6 fun s44 h7 =>
    (hcell h7 (Addr.add p27 7) = some (.pointer x29)) ∧
    (hcell h7 (Addr.add p23 5) = some (Sl.v x25)) ∧
    finger_deep r x25 x29 s44 h7 fun y47 h8 =>
    J21 y47 h8) ∧
    (New h (.cells #[(.pointer t2)] 108) fun p48 h9 =>
    (hcell h9 (Addr.add p31 6) = some (Sl.v x33)) ∧
    (hcell h9 (Addr.add p27 7) = some (.pointer x29)) ∧
    (hcell h9 (Addr.add p23 5) = some (Sl.v x25)) ∧
    slices_Clone_finger_thing_finger_thing r x33 h9 fun y54 h10 =>
    (hcell h10 (Addr.add p27 7) = some (.pointer x29)) ∧
    (hcell h10 (Addr.add p23 5) = some (Sl.v x25)) ∧
    App 108 1 8 (.pointer none) y54 ((⟨some p48, 1, 1⟩ : Sl)) h10 fun s57 h11 =>
    (hcell h11 (Addr.add p27 7) = some (.pointer x29)) ∧
    (hcell h11 (Addr.add p23 5) = some (Sl.v x25)) ∧
    finger_deep r x25 x29 s57 h11 fun y60 h12 =>
    J21 y60 h12)) (
    ∀ J62 : Option Addr → Heap → Prop, (∀ (x61 : Option Addr) (h13 : Heap),
     (R x61 h13) →
     J62 x61 h13) →
    Ck v1 fun p64 =>
    LdS h (Addr.add p64 5) fun x66 =>
    Ck v1 fun p68 =>
    LdP h (Addr.add p68 7) fun x70 =>
    Ck v1 fun p72 =>
    LdS h (Addr.add p72 6) fun x74 =>
    Sub x74 0 3 ((x74.cap : Int)) 1 fun s76 =>
    Ck v1 fun p82 =>
    LdS h (Addr.add p82 6) fun x84 =>
    Ix x84 3 1 fun q90 =>
    LdP h q90 fun x92 =>
    (finger_group r s76 h fun y94 h14 =>
    (hcell h14 q90 = some (.pointer x92)) ∧
    (hcell h14 (Addr.add p82 6) = some (Sl.v x84)) ∧
    (hcell h14 (Addr.add p68 7) = some (.pointer x70)) ∧
    (hcell h14 (Addr.add p64 5) = some (Sl.v x66)) ∧
    (finger_pushRight r x70 y94 h14 fun y99 h15 =>
    (hcell h15 q90 = some (.pointer x92)) ∧
    (hcell h15 (Addr.add p82 6) = some (Sl.v x84)) ∧
    (hcell h15 (Addr.add p64 5) = some (Sl.v x66)) ∧
    New h15 (.cells #[(.pointer x92), (.pointer t2)] 108) fun p103 h16 =>
    (hcell h16 (Addr.add p72 6) = some (Sl.v x74)) ∧
    (hcell h16 (Addr.add p68 7) = some (.pointer x70)) ∧
    (hcell h16 (Addr.add p64 5) = some (Sl.v x66)) ∧
    finger_deep r x66 y99 ((⟨some p103, 2, 2⟩ : Sl)) h16 fun y109 h17 =>
    J62 y109 h17) ∧
    (New h14 (.cells #[(.pointer x92), (.pointer t2)] 108) fun p110 h18 =>
    (hcell h18 (Addr.add p72 6) = some (Sl.v x74)) ∧
    (hcell h18 (Addr.add p68 7) = some (.pointer x70)) ∧
    (hcell h18 (Addr.add p64 5) = some (Sl.v x66)) ∧
    finger_pushRight r x70 y94 h18 fun y116 h19 =>
    (hcell h19 q90 = some (.pointer x92)) ∧
    (hcell h19 (Addr.add p82 6) = some (Sl.v x84)) ∧
    (hcell h19 (Addr.add p64 5) = some (Sl.v x66)) ∧
    finger_deep r x66 y116 ((⟨some p110, 2, 2⟩ : Sl)) h19 fun y120 h20 =>
    J62 y120 h20)) ∧
    (New h (.cells #[(.pointer x92), (.pointer t2)] 108) fun p121 h21 =>
    (hcell h21 (Addr.add p72 6) = some (Sl.v x74)) ∧
    (hcell h21 (Addr.add p68 7) = some (.pointer x70)) ∧
    (hcell h21 (Addr.add p64 5) = some (Sl.v x66)) ∧
    finger_group r s76 h21 fun y127 h22 =>
    (hcell h22 q90 = some (.pointer x92)) ∧
    (hcell h22 (Addr.add p82 6) = some (Sl.v x84)) ∧
    (hcell h22 (Addr.add p68 7) = some (.pointer x70)) ∧
    (hcell h22 (Addr.add p64 5) = some (Sl.v x66)) ∧
    finger_pushRight r x70 y127 h22 fun y132 h23 =>
    (hcell h23 q90 = some (.pointer x92)) ∧
    (hcell h23 (Addr.add p82 6) = some (Sl.v x84)) ∧
    (hcell h23 (Addr.add p64 5) = some (Sl.v x66)) ∧
    finger_deep r x66 y132 ((⟨some p121, 2, 2⟩ : Sl)) h23 fun y136 h24 =>
    J62 y136 h24))))
theorem finger_pushRight_of {r : World} {v1 : Option Addr} {t2 : Option Addr} {h : Heap} {R : Option Addr → Heap → Prop} (H : finger_pushRight_F r v1 t2 h R) : finger_pushRight r v1 t2 h R := by
 unfold finger_pushRight_F at H
 refine calls_of 71 [.tmp 4] Tryz.func68 rfl rfl rfl rfl rfl ?_
 refine W_seq ?_
 refine W_region (.pu 0 .fin) rfl rfl ?_
 refine sp 4 (.pointer none) rfl rfl (r_assign rfl) ?_
 refine s_fin ?_
 refine W_seq ?_
 refine W_block ?_
 refine W_seq ?_
 refine W_region (.pu 0 (.pu 1 (.pu 2 .fin))) rfl rfl ?_
 refine sp 6 (.pointer v1) rfl rfl (r_move rfl) ?_
 refine sp 7 (.bool (Option.isNone v1)) rfl rfl (r_nilP Tryz.underlying37 rfl rfl) ?_
 refine sp 5 (.bool (Option.isNone v1)) rfl rfl (r_assign rfl) ?_
 refine s_fin ?_
 refine W_if (Option.isNone v1) rfl (fun g139 => ?_) (fun g139 => ?_)
 ·have H := H.1 g139
  refine W_seq ?_
  refine W_region (.pu 0 (.ef 1 [] (.pu 2 .fin) .no)) rfl rfl ?_
  refine sp 8 (.pointer t2) rfl rfl (r_move rfl) ?_
  refine sc 9 rfl rfl (fun dr => r_call Tryz.call97 rfl rfl H) ?_
  rintro _ h1 ⟨y3, rfl, H⟩
  refine sp 4 (.pointer y3) rfl rfl (r_assign rfl) ?_
  refine s_fin ?_
  refine W_ret ?_
  exact ⟨[(.pointer y3)], ⟨_, _, rfl, rfl, rfl⟩, y3, rfl, H⟩
 ·have H := H.2 g139
  refine W_seq ?_
  refine W_region (.pu 0 (.pu 1 (.pu 2 (.rl 3 (.pu 4 (.pu 5 .fin)))))) rfl rfl ?_
  refine sp 11 (.pointer v1) rfl rfl (r_move rfl) ?_
  obtain ⟨p4, e5, H⟩ := H
  refine sp 12 (.pointer (some p4)) rfl rfl (r_nilCheck rfl e5) ?_
  refine sp 13 (.pointer (some (Addr.add p4 6))) rfl rfl (r_fieldAddr Tryz.underlying127 Tryz.sizeOf113 rfl rfl rfl) ?_
  obtain ⟨x6, e7, H⟩ := H
  refine sl 14 (Sl.v x6) rfl rfl (fun dr => r_load1 Tryz.isAgg113 rfl e7) ?_
  refine sp 15 (.bool (Option.isNone x6.a)) rfl rfl (r_nilS Tryz.underlying113 rfl rfl) ?_
  refine sp 10 (.bool (Option.isNone x6.a)) rfl rfl (r_assign rfl) ?_
  refine s_fin ?_
  refine W_if (Option.isNone x6.a) rfl (fun g138 => ?_) (fun g138 => ?_)
  ·have H := H.1 g138
   refine W_seq ?_
   refine W_region (.pu 0 (.pu 1 (.pu 2 (.rl 3 (.pu 4 (.ef 5 [] (.ef 6 [] (.pu 7 .fin) .no) .no)))))) rfl rfl ?_
   refine sp 16 (.pointer v1) rfl rfl (r_move rfl) ?_
   obtain ⟨p8, e9, H⟩ := H
   refine sp 17 (.pointer (some p8)) rfl rfl (r_nilCheck rfl e9) ?_
   refine sp 18 (.pointer (some (Addr.add p8 5))) rfl rfl (r_fieldAddr Tryz.underlying127 Tryz.sizeOf113 rfl rfl rfl) ?_
   obtain ⟨x10, e11, H⟩ := H
   refine sl 19 (Sl.v x10) rfl rfl (fun dr => r_load1 Tryz.isAgg113 rfl e11) ?_
   refine sp 20 (.pointer t2) rfl rfl (r_move rfl) ?_
   obtain ⟨p12, e13⟩ : ∃ p : Addr, p = ⟨h.size, 0, none⟩ := ⟨_, rfl⟩
   obtain ⟨h2, e14⟩ : ∃ hh : Heap, hh = h.push (.cells #[(.pointer t2)] 108) := ⟨_, rfl⟩
   have H := H p12 h2 e13 e14
   refine s_ef1 (d := some 21) (v := (Sl.v ((⟨some p12, 1, 1⟩ : Sl)))) (h' := h2) rfl rfl rfl (fun dr => (slFGFing_113.build (cells := #[(.pointer t2)]) (by decide) rfl (by kernel_rfl)).trans (by rw [e13, e14]; rfl)) trivial ?_ trivial
   refine sc 22 rfl rfl (fun dr => r_call Tryz.call98 rfl rfl H) ?_
   rintro _ h3 ⟨y15, rfl, H⟩
   refine sp 4 (.pointer y15) rfl rfl (r_assign rfl) ?_
   refine s_fin ?_
   refine W_ret ?_
   exact ⟨[(.pointer y15)], ⟨_, _, rfl, rfl, rfl⟩, y15, rfl, H⟩
  ·have H := H.2 g138
   refine W_seq ?_
   refine W_region (.pu 0 (.pu 1 (.pu 2 (.rl 3 (.pu 4 (.pu 5 (.pu 6 .fin))))))) rfl rfl ?_
   refine sp 24 (.pointer v1) rfl rfl (r_move rfl) ?_
   obtain ⟨p16, e17, H⟩ := H
   refine sp 25 (.pointer (some p16)) rfl rfl (r_nilCheck rfl e17) ?_
   refine sp 26 (.pointer (some (Addr.add p16 6))) rfl rfl (r_fieldAddr Tryz.underlying127 Tryz.sizeOf113 rfl rfl rfl) ?_
   obtain ⟨x18, e19, H⟩ := H
   refine sl 27 (Sl.v x18) rfl rfl (fun dr => r_load1 Tryz.isAgg113 rfl e19) ?_
   refine sp 28 (.int .i64 ((x18.len : Int))) rfl rfl (r_len Tryz.underlying113 rfl) ?_
   refine sp 29 (.bool (decide (((x18.len : Int)) < 4))) rfl rfl (r_lss rfl rfl) ?_
   refine sp 23 (.bool (decide (((x18.len : Int)) < 4))) rfl rfl (r_assign rfl) ?_
   refine s_fin ?_
   refine W_if (decide (((x18.len : Int)) < 4)) rfl (fun g137 => ?_) (fun g137 => ?_)
   ·have H := H.1 g137
    refine W_seq ?_
    refine W_set ?_
    intro N22 eN22
    have H := H (fun (x20 : Option Addr) (h4 : Heap) => ∀ b, N22 [] (mkE [(4, (.pointer x20))] b) h4) (by
     intro x20 h4 H b
     rw [eN22]
     show W _ _ _ _ _ _ _ _
     refine W_ret ?_
     exact ⟨[(.pointer x20)], ⟨_, _, rfl, rfl, rfl⟩, x20, rfl, H⟩)
    clear eN22
    refine W_draw [0, 1, 3, 7, 0, 16, 48, 112, 0, 256, 768, 1792, 3840, 0, 8192, 32512, 65535, 131071] (.pu 0 (.pu 1 (.pu 2 (.rd 3 (.pu 4 (.pu 5 (.pu 6 (.rd 7 (.pu 8 (.pu 9 (.pu 10 (.rd 11 (.pu 13 (.ef 12 [11] (.ef 14 [] (.ef 15 [11] (.ef 16 [3, 7, 11] (.pu 17 .fin) .no) .no) .no) (.ef 14 [] (.ef 12 [11] (.ef 15 [11] (.ef 16 [3, 7, 11] (.pu 17 .fin) .no) .no) .no) .no))))))))))))))) (by kernel_rfl) (by kernel_rfl) ?_
    refine sp 30 (.pointer v1) rfl rfl (r_move rfl) ?_
    obtain ⟨p23, e24, H⟩ := H
    refine sp 31 (.pointer (some p23)) rfl rfl (r_nilCheck rfl e24) ?_
    refine sp 32 (.pointer (some (Addr.add p23 5))) rfl rfl (r_fieldAddr Tryz.underlying127 Tryz.sizeOf113 rfl rfl rfl) ?_
    obtain ⟨x25, e26, H⟩ := H
    refine s_rd (d := some 33) (v := (Sl.v x25)) rfl rfl rfl (fun dr => r_load1 Tryz.isAgg113 rfl e26) ?_
    refine sp 34 (.pointer v1) rfl rfl (r_move rfl) ?_
    obtain ⟨p27, e28, H⟩ := H
    refine sp 35 (.pointer (some p27)) rfl rfl (r_nilCheck rfl e28) ?_
    refine sp 36 (.pointer (some (Addr.add p27 7))) rfl rfl (r_fieldAddr Tryz.underlying127 Tryz.sizeOf37 rfl rfl rfl) ?_
    obtain ⟨x29, e30, H⟩ := H
    refine s_rd (d := some 37) (v := (.pointer x29)) rfl rfl rfl (fun dr => r_load1 Tryz.isAgg37 rfl e30) ?_
    refine sp 38 (.pointer v1) rfl rfl (r_move rfl) ?_
    obtain ⟨p31, e32, H⟩ := H
    refine sp 39 (.pointer (some p31)) rfl rfl (r_nilCheck rfl e32) ?_
    refine sp 40 (.pointer (some (Addr.add p31 6))) rfl rfl (r_fieldAddr Tryz.underlying127 Tryz.sizeOf113 rfl rfl rfl) ?_
    obtain ⟨x33, e34, H⟩ := H
    refine s_rd (d := some 41) (v := (Sl.v x33)) rfl rfl rfl (fun dr => r_load1 Tryz.isAgg113 rfl e34) ?_
    refine sp 43 (.pointer t2) rfl rfl (r_move rfl) ?_
    refine s_or ?_ ?_
    ·have H := H.1
     refine s_ef (d := some 42) rfl rfl rfl (fun dr => r_call Tryz.call99 rfl rfl H) ?_ trivial
     rintro _ h5 ⟨y35, rfl, H⟩
     obtain ⟨e36, H⟩ := H
     obtain ⟨e37, H⟩ := H
     refine ⟨⟨trivial, (.inl ⟨rfl, fun dr => r_load1 Tryz.isAgg37 rfl e36⟩), (.inl ⟨rfl, fun dr => r_load1 Tryz.isAgg113 rfl e37⟩), trivial⟩, ?_⟩
     obtain ⟨p38, e39⟩ : ∃ p : Addr, p = ⟨h5.size, 0, none⟩ := ⟨_, rfl⟩
     obtain ⟨h6, e40⟩ : ∃ hh : Heap, hh = h5.push (.cells #[(.pointer t2)] 108) := ⟨_, rfl⟩
     have H := H p38 h6 e39 e40
     obtain ⟨e41, H⟩ := H
     obtain ⟨e42, H⟩ := H
     obtain ⟨e43, H⟩ := H
     refine s_ef1 (d := some 44) (v := (Sl.v ((⟨some p38, 1, 1⟩ : Sl)))) (h' := h6) rfl rfl rfl (fun dr => (slFGFing_113.build (cells := #[(.pointer t2)]) (by decide) rfl (by kernel_rfl)).trans (by rw [e39, e40]; rfl)) ⟨(.inl ⟨rfl, fun dr => r_load1 Tryz.isAgg113 rfl e41⟩), (.inl ⟨rfl, fun dr => r_load1 Tryz.isAgg37 rfl e42⟩), (.inl ⟨rfl, fun dr => r_load1 Tryz.isAgg113 rfl e43⟩), trivial⟩ ?_ trivial
     refine s_ef (d := some 45) rfl rfl rfl (fun dr => slFGFing_113.append rfl rfl H) ?_ trivial
     rintro _ h7 ⟨s44, rfl, H⟩
     obtain ⟨e45, H⟩ := H
     obtain ⟨e46, H⟩ := H
     refine ⟨⟨trivial, (.inl ⟨rfl, fun dr => r_load1 Tryz.isAgg37 rfl e45⟩), (.inl ⟨rfl, fun dr => r_load1 Tryz.isAgg113 rfl e46⟩), trivial⟩, ?_⟩
     refine s_ef (d := some 46) rfl rfl rfl (fun dr => r_call Tryz.call98 rfl rfl H) ?_ trivial
     rintro _ h8 ⟨y47, rfl, H⟩
     refine ⟨⟨trivial, trivial, trivial, trivial⟩, ?_⟩
     refine sp 4 (.pointer y47) rfl rfl (r_assign rfl) ?_
     refine s_fin ?_
     exact N_mk (l := [(4, (.pointer y47))]) H ⟨rfl, trivial⟩
    ·have H := H.2
     obtain ⟨p48, e49⟩ : ∃ p : Addr, p = ⟨h.size, 0, none⟩ := ⟨_, rfl⟩
     obtain ⟨h9, e50⟩ : ∃ hh : Heap, hh = h.push (.cells #[(.pointer t2)] 108) := ⟨_, rfl⟩
     have H := H p48 h9 e49 e50
     obtain ⟨e51, H⟩ := H
     obtain ⟨e52, H⟩ := H
     obtain ⟨e53, H⟩ := H
     refine s_ef1 (d := some 44) (v := (Sl.v ((⟨some p48, 1, 1⟩ : Sl)))) (h' := h9) rfl rfl rfl (fun dr => (slFGFing_113.build (cells := #[(.pointer t2)]) (by decide) rfl (by kernel_rfl)).trans (by rw [e49, e50]; rfl)) ⟨(.inl ⟨rfl, fun dr => r_load1 Tryz.isAgg113 rfl e51⟩), (.inl ⟨rfl, fun dr => r_load1 Tryz.isAgg37 rfl e52⟩), (.inl ⟨rfl, fun dr => r_load1 Tryz.isAgg113 rfl e53⟩), trivial⟩ ?_ trivial
     refine s_ef (d := some 42) rfl rfl rfl (fun dr => r_call Tryz.call99 rfl rfl H) ?_ trivial
     rintro _ h10 ⟨y54, rfl, H⟩
     obtain ⟨e55, H⟩ := H
     obtain ⟨e56, H⟩ := H
     refine ⟨⟨trivial, (.inl ⟨rfl, fun dr => r_load1 Tryz.isAgg37 rfl e55⟩), (.inl ⟨rfl, fun dr => r_load1 Tryz.isAgg113 rfl e56⟩), trivial⟩, ?_⟩
     refine s_ef (d := some 45) rfl rfl rfl (fun dr => slFGFing_113.append rfl rfl H) ?_ trivial
     rintro _ h11 ⟨s57, rfl, H⟩
     obtain ⟨e58, H⟩ := H
     obtain ⟨e59, H⟩ := H
     refine ⟨⟨trivial, (.inl ⟨rfl, fun dr => r_load1 Tryz.isAgg37 rfl e58⟩), (.inl ⟨rfl, fun dr => r_load1 Tryz.isAgg113 rfl e59⟩), trivial⟩, ?_⟩
     refine s_ef (d := some 46) rfl rfl rfl (fun dr => r_call Tryz.call98 rfl rfl H) ?_ trivial
     rintro _ h12 ⟨y60, rfl, H⟩
     refine ⟨⟨trivial, trivial, trivial, trivial⟩, ?_⟩
     refine sp 4 (.pointer y60) rfl rfl (r_assign rfl) ?_
     refine s_fin ?_
     exact N_mk (l := [(4, (.pointer y60))]) H ⟨rfl, trivial⟩
   ·have H := H.2 g137
    refine W_skip ?_
    show W _ _ _ _ _ _ _ _
    refine W_seq ?_
    refine W_set ?_
    intro N63 eN63
    have H := H (fun (x61 : Option Addr) (h13 : Heap) => ∀ b, N63 [] (mkE [(4, (.pointer x61))] b) h13) (by
     intro x61 h13 H b
     rw [eN63]
     show W _ _ _ _ _ _ _ _
     refine W_ret ?_
     exact ⟨[(.pointer x61)], ⟨_, _, rfl, rfl, rfl⟩, x61, rfl, H⟩)
    clear eN63
    refine W_draw [0, 1, 3, 7, 0, 16, 48, 112, 0, 256, 768, 1792, 3840, 7936, 16368, 0, 32768, 98304, 229376, 491520, 1015808, 0, 4161536, 8388607, 16777215] (.pu 0 (.pu 1 (.pu 2 (.rd 3 (.pu 4 (.pu 5 (.pu 6 (.rd 7 (.pu 8 (.pu 9 (.pu 10 (.rd 11 (.pu 12 (.pu 15 (.pu 16 (.pu 17 (.rd 18 (.pu 19 (.rd 20 (.pu 21 (.ef 13 [11] (.ef 14 [7, 11] (.ef 22 [18, 20] (.ef 23 [3, 7, 11, 18, 20] (.pu 24 .fin) .no) .no) (.ef 22 [18, 20] (.ef 14 [7, 11] (.ef 23 [3, 7, 11, 18, 20] (.pu 24 .fin) .no) .no) .no)) (.ef 22 [18, 20] (.ef 13 [11] (.ef 14 [7, 11] (.ef 23 [3, 7, 11, 18, 20] (.pu 24 .fin) .no) .no) .no) .no)))))))))))))))))))))) (by kernel_rfl) (by kernel_rfl) ?_
    refine sp 47 (.pointer v1) rfl rfl (r_move rfl) ?_
    obtain ⟨p64, e65, H⟩ := H
    refine sp 48 (.pointer (some p64)) rfl rfl (r_nilCheck rfl e65) ?_
    refine sp 49 (.pointer (some (Addr.add p64 5))) rfl rfl (r_fieldAddr Tryz.underlying127 Tryz.sizeOf113 rfl rfl rfl) ?_
    obtain ⟨x66, e67, H⟩ := H
    refine s_rd (d := some 50) (v := (Sl.v x66)) rfl rfl rfl (fun dr => r_load1 Tryz.isAgg113 rfl e67) ?_
    refine sp 51 (.pointer v1) rfl rfl (r_move rfl) ?_
    obtain ⟨p68, e69, H⟩ := H
    refine sp 52 (.pointer (some p68)) rfl rfl (r_nilCheck rfl e69) ?_
    refine sp 53 (.pointer (some (Addr.add p68 7))) rfl rfl (r_fieldAddr Tryz.underlying127 Tryz.sizeOf37 rfl rfl rfl) ?_
    obtain ⟨x70, e71, H⟩ := H
    refine s_rd (d := some 54) (v := (.pointer x70)) rfl rfl rfl (fun dr => r_load1 Tryz.isAgg37 rfl e71) ?_
    refine sp 55 (.pointer v1) rfl rfl (r_move rfl) ?_
    obtain ⟨p72, e73, H⟩ := H
    refine sp 56 (.pointer (some p72)) rfl rfl (r_nilCheck rfl e73) ?_
    refine sp 57 (.pointer (some (Addr.add p72 6))) rfl rfl (r_fieldAddr Tryz.underlying127 Tryz.sizeOf113 rfl rfl rfl) ?_
    obtain ⟨x74, e75, H⟩ := H
    refine s_rd (d := some 58) (v := (Sl.v x74)) rfl rfl rfl (fun dr => r_load1 Tryz.isAgg113 rfl e75) ?_
    obtain ⟨e77, e78, e79, e80, H⟩ := H
    obtain ⟨s76, e81⟩ : ∃ t : Sl, t = ⟨sliceA x74.a (Int.toNat ((x74.cap : Int))) (Int.toNat 0) 1, Int.toNat 3 - Int.toNat 0, Int.toNat ((x74.cap : Int)) - Int.toNat 0⟩ := ⟨_, rfl⟩
    have H := H s76 e81
    refine sp 59 (Sl.v s76) rfl rfl (fun w => (r_slice (lo := .none) (hi := (.some (.const (.int .i64 3)))) (mx := .none) Tryz.underlying113 Tryz.sizeOf108 rfl ((x74.cap : Int)) 3 0 rfl ⟨_, rfl⟩ rfl e77 e78 (.inr e79) e80 w).trans (by rw [e81]; rfl)) ?_
    refine sp 62 (.pointer v1) rfl rfl (r_move rfl) ?_
    obtain ⟨p82, e83, H⟩ := H
    refine sp 63 (.pointer (some p82)) rfl rfl (r_nilCheck rfl e83) ?_
    refine sp 64 (.pointer (some (Addr.add p82 6))) rfl rfl (r_fieldAddr Tryz.underlying127 Tryz.sizeOf113 rfl rfl rfl) ?_
    obtain ⟨x84, e85, H⟩ := H
    refine s_rd (d := some 65) (v := (Sl.v x84)) rfl rfl rfl (fun dr => r_load1 Tryz.isAgg113 rfl e85) ?_
    obtain ⟨p86, e87, e88, e89, H⟩ := H
    obtain ⟨q90, e91⟩ : ∃ q : Addr, q = Addr.add p86 (Int.toNat 3 * 1) := ⟨_, rfl⟩
    rw [← e91] at H
    refine sp 66 (.pointer (some q90)) rfl rfl (fun w => (r_indexAddr Tryz.underlying113 Tryz.sizeOf108 rfl rfl e87 e88 e89 w).trans (by rw [e91])) ?_
    obtain ⟨x92, e93, H⟩ := H
    refine s_rd (d := some 67) (v := (.pointer x92)) rfl rfl rfl (fun dr => r_load1 Tryz.isAgg108 rfl e93) ?_
    refine sp 68 (.pointer t2) rfl rfl (r_move rfl) ?_
    refine s_or ?_ ?_
    ·have H := H.1
     refine s_ef (d := some 60) rfl rfl rfl (fun dr => r_call Tryz.call100 rfl rfl H) ?_ trivial
     rintro _ h14 ⟨y94, rfl, H⟩
     obtain ⟨e95, H⟩ := H
     obtain ⟨e96, H⟩ := H
     obtain ⟨e97, H⟩ := H
     obtain ⟨e98, H⟩ := H
     refine ⟨⟨(.inl ⟨rfl, fun dr => r_load1 Tryz.isAgg108 rfl e95⟩), (.inl ⟨rfl, fun dr => r_load1 Tryz.isAgg113 rfl e96⟩), trivial, (.inl ⟨rfl, fun dr => r_load1 Tryz.isAgg37 rfl e97⟩), (.inl ⟨rfl, fun dr => r_load1 Tryz.isAgg113 rfl e98⟩), trivial⟩, ?_⟩
     refine s_or ?_ ?_
     ·have H := H.1
      refine s_ef (d := some 61) rfl rfl rfl (fun dr => r_call Tryz.call68 rfl rfl H) ?_ trivial
      rintro _ h15 ⟨y99, rfl, H⟩
      obtain ⟨e100, H⟩ := H
      obtain ⟨e101, H⟩ := H
      obtain ⟨e102, H⟩ := H
      refine ⟨⟨(.inl ⟨rfl, fun dr => r_load1 Tryz.isAgg108 rfl e100⟩), (.inl ⟨rfl, fun dr => r_load1 Tryz.isAgg113 rfl e101⟩), trivial, trivial, (.inl ⟨rfl, fun dr => r_load1 Tryz.isAgg113 rfl e102⟩), trivial⟩, ?_⟩
      obtain ⟨p103, e104⟩ : ∃ p : Addr, p = ⟨h15.size, 0, none⟩ := ⟨_, rfl⟩
      obtain ⟨h16, e105⟩ : ∃ hh : Heap, hh = h15.push (.cells #[(.pointer x92), (.pointer t2)] 108) := ⟨_, rfl⟩
      have H := H p103 h16 e104 e105
      obtain ⟨e106, H⟩ := H
      obtain ⟨e107, H⟩ := H
      obtain ⟨e108, H⟩ := H
      refine s_ef1 (d := some 69) (v := (Sl.v ((⟨some p103, 2, 2⟩ : Sl)))) (h' := h16) rfl rfl rfl (fun dr => (slFGFing_113.build (cells := #[(.pointer x92), (.pointer t2)]) (by decide) rfl (by kernel_rfl)).trans (by rw [e104, e105]; rfl)) ⟨trivial, trivial, (.inl ⟨rfl, fun dr => r_load1 Tryz.isAgg113 rfl e106⟩), (.inl ⟨rfl, fun dr => r_load1 Tryz.isAgg37 rfl e107⟩), (.inl ⟨rfl, fun dr => r_load1 Tryz.isAgg113 rfl e108⟩), trivial⟩ ?_ trivial
      refine s_ef (d := some 70) rfl rfl rfl (fun dr => r_call Tryz.call98 rfl rfl H) ?_ trivial
      rintro _ h17 ⟨y109, rfl, H⟩
      refine ⟨⟨trivial, trivial, trivial, trivial, trivial, trivial⟩, ?_⟩
      refine sp 4 (.pointer y109) rfl rfl (r_assign rfl) ?_
      refine s_fin ?_
      exact N_mk (l := [(4, (.pointer y109))]) H ⟨rfl, trivial⟩
     ·have H := H.2
      obtain ⟨p110, e111⟩ : ∃ p : Addr, p = ⟨h14.size, 0, none⟩ := ⟨_, rfl⟩
      obtain ⟨h18, e112⟩ : ∃ hh : Heap, hh = h14.push (.cells #[(.pointer x92), (.pointer t2)] 108) := ⟨_, rfl⟩
      have H := H p110 h18 e111 e112
      obtain ⟨e113, H⟩ := H
      obtain ⟨e114, H⟩ := H
      obtain ⟨e115, H⟩ := H
      refine s_ef1 (d := some 69) (v := (Sl.v ((⟨some p110, 2, 2⟩ : Sl)))) (h' := h18) rfl rfl rfl (fun dr => (slFGFing_113.build (cells := #[(.pointer x92), (.pointer t2)]) (by decide) rfl (by kernel_rfl)).trans (by rw [e111, e112]; rfl)) ⟨trivial, trivial, (.inl ⟨rfl, fun dr => r_load1 Tryz.isAgg113 rfl e113⟩), (.inl ⟨rfl, fun dr => r_load1 Tryz.isAgg37 rfl e114⟩), (.inl ⟨rfl, fun dr => r_load1 Tryz.isAgg113 rfl e115⟩), trivial⟩ ?_ trivial
      refine s_ef (d := some 61) rfl rfl rfl (fun dr => r_call Tryz.call68 rfl rfl H) ?_ trivial
      rintro _ h19 ⟨y116, rfl, H⟩
      obtain ⟨e117, H⟩ := H
      obtain ⟨e118, H⟩ := H
      obtain ⟨e119, H⟩ := H
      refine ⟨⟨(.inl ⟨rfl, fun dr => r_load1 Tryz.isAgg108 rfl e117⟩), (.inl ⟨rfl, fun dr => r_load1 Tryz.isAgg113 rfl e118⟩), trivial, trivial, (.inl ⟨rfl, fun dr => r_load1 Tryz.isAgg113 rfl e119⟩), trivial⟩, ?_⟩
      refine s_ef (d := some 70) rfl rfl rfl (fun dr => r_call Tryz.call98 rfl rfl H) ?_ trivial
      rintro _ h20 ⟨y120, rfl, H⟩
      refine ⟨⟨trivial, trivial, trivial, trivial, trivial, trivial⟩, ?_⟩
      refine sp 4 (.pointer y120) rfl rfl (r_assign rfl) ?_
      refine s_fin ?_
      exact N_mk (l := [(4, (.pointer y120))]) H ⟨rfl, trivial⟩
    ·have H := H.2
     obtain ⟨p121, e122⟩ : ∃ p : Addr, p = ⟨h.size, 0, none⟩ := ⟨_, rfl⟩
     obtain ⟨h21, e123⟩ : ∃ hh : Heap, hh = h.push (.cells #[(.pointer x92), (.pointer t2)] 108) := ⟨_, rfl⟩
     have H := H p121 h21 e122 e123
     obtain ⟨e124, H⟩ := H
     obtain ⟨e125, H⟩ := H
     obtain ⟨e126, H⟩ := H
     refine s_ef1 (d := some 69) (v := (Sl.v ((⟨some p121, 2, 2⟩ : Sl)))) (h' := h21) rfl rfl rfl (fun dr => (slFGFing_113.build (cells := #[(.pointer x92), (.pointer t2)]) (by decide) rfl (by kernel_rfl)).trans (by rw [e122, e123]; rfl)) ⟨trivial, trivial, (.inl ⟨rfl, fun dr => r_load1 Tryz.isAgg113 rfl e124⟩), (.inl ⟨rfl, fun dr => r_load1 Tryz.isAgg37 rfl e125⟩), (.inl ⟨rfl, fun dr => r_load1 Tryz.isAgg113 rfl e126⟩), trivial⟩ ?_ trivial
     refine s_ef (d := some 60) rfl rfl rfl (fun dr => r_call Tryz.call100 rfl rfl H) ?_ trivial
     rintro _ h22 ⟨y127, rfl, H⟩
     obtain ⟨e128, H⟩ := H
     obtain ⟨e129, H⟩ := H
     obtain ⟨e130, H⟩ := H
     obtain ⟨e131, H⟩ := H
     refine ⟨⟨(.inl ⟨rfl, fun dr => r_load1 Tryz.isAgg108 rfl e128⟩), (.inl ⟨rfl, fun dr => r_load1 Tryz.isAgg113 rfl e129⟩), trivial, (.inl ⟨rfl, fun dr => r_load1 Tryz.isAgg37 rfl e130⟩), (.inl ⟨rfl, fun dr => r_load1 Tryz.isAgg113 rfl e131⟩), trivial⟩, ?_⟩
     refine s_ef (d := some 61) rfl rfl rfl (fun dr => r_call Tryz.call68 rfl rfl H) ?_ trivial
     rintro _ h23 ⟨y132, rfl, H⟩
     obtain ⟨e133, H⟩ := H
     obtain ⟨e134, H⟩ := H
     obtain ⟨e135, H⟩ := H
     refine ⟨⟨(.inl ⟨rfl, fun dr => r_load1 Tryz.isAgg108 rfl e133⟩), (.inl ⟨rfl, fun dr => r_load1 Tryz.isAgg113 rfl e134⟩), trivial, trivial, (.inl ⟨rfl, fun dr => r_load1 Tryz.isAgg113 rfl e135⟩), trivial⟩, ?_⟩
     refine s_ef (d := some 70) rfl rfl rfl (fun dr => r_call Tryz.call98 rfl rfl H) ?_ trivial
     rintro _ h24 ⟨y136, rfl, H⟩
     refine ⟨⟨trivial, trivial, trivial, trivial, trivial, trivial⟩, ?_⟩
     refine sp 4 (.pointer y136) rfl rfl (r_assign rfl) ?_
     refine s_fin ?_
     exact N_mk (l := [(4, (.pointer y136))]) H ⟨rfl, trivial⟩
def slices_Clone_finger_thing_finger_thing_F (r : World) (s1 : Sl) (h : Heap) (R : Sl → Heap → Prop) : Prop :=
 Br (Option.isNone s1.a) (
  R Sl.nil h) (
  New h (.cells #[] 108) fun p2 h1 =>
  App 108 1 8 (.pointer none) ((⟨some p2, 0, 0⟩ : Sl)) s1 h1 fun s5 h2 =>
  R s5 h2)
theorem slices_Clone_finger_thing_finger_thing_of {r : World} {s1 : Sl} {h : Heap} {R : Sl → Heap → Prop} (H : slices_Clone_finger_thing_finger_thing_F r s1 h R) : slices_Clone_finger_thing_finger_thing r s1 h R := by
 unfold slices_Clone_finger_thing_finger_thing_F at H
 refine calls_of 8 [.tmp 2] Tryz.func99 rfl rfl rfl rfl rfl ?_
 refine W_seq ?_
 refine W_region (.pu 0 .fin) rfl rfl ?_
 refine sp 2 (Sl.v Sl.nil) rfl rfl (r_assign rfl) ?_
 refine s_fin ?_
 refine W_seq ?_
 refine W_seq ?_
 refine W_region (.pu 0 (.pu 1 .fin)) rfl rfl ?_
 refine sp 3 (Sl.v s1) rfl rfl (r_move rfl) ?_
 refine sp 4 (.bool (Option.isNone s1.a)) rfl rfl (r_nilS Tryz.underlying113 rfl rfl) ?_
 refine s_fin ?_
 refine W_if (Option.isNone s1.a) rfl (fun g6 => ?_) (fun g6 => ?_)
 ·have H := H.1 g6
  refine W_seq ?_
  refine W_region (.pu 0 .fin) rfl rfl ?_
  refine sp 2 (Sl.v Sl.nil) rfl rfl (r_assign rfl) ?_
  refine s_fin ?_
  refine W_ret ?_
  exact ⟨[(Sl.v Sl.nil)], ⟨_, _, rfl, rfl, rfl⟩, Sl.nil, rfl, H⟩
 ·have H := H.2 g6
  refine W_skip ?_
  show W _ _ _ _ _ _ _ _
  refine W_seq ?_
  refine W_region (.ef 0 [] (.pu 1 (.ef 2 [] (.pu 3 .fin) .no)) .no) rfl rfl ?_
  obtain ⟨p2, e3⟩ : ∃ p : Addr, p = ⟨h.size, 0, none⟩ := ⟨_, rfl⟩
  obtain ⟨h1, e4⟩ : ∃ hh : Heap, hh = h.push (.cells #[] 108) := ⟨_, rfl⟩
  have H := H p2 h1 e3 e4
  refine s_ef1 (d := some 5) (v := (Sl.v ((⟨some p2, 0, 0⟩ : Sl)))) (h' := h1) rfl rfl rfl (fun dr => (slFGFing_113.build0).trans (by rw [e3, e4]; rfl)) trivial ?_ trivial
  refine sp 6 (Sl.v s1) rfl rfl (r_move rfl) ?_
  refine s_ef (d := some 7) rfl rfl rfl (fun dr => slFGFing_113.append rfl rfl H) ?_ trivial
  rintro _ h2 ⟨s5, rfl, H⟩
  refine ⟨trivial, ?_⟩
  refine sp 2 (Sl.v s5) rfl rfl (r_assign rfl) ?_
  refine s_fin ?_
  refine W_ret ?_
  exact ⟨[(Sl.v s5)], ⟨_, _, rfl, rfl, rfl⟩, s5, rfl, H⟩
def finger_some_F (r : World) (l1 : Sl) (h : Heap) (R : Option Addr → Heap → Prop) : Prop :=
 ∀ X4 : Option Addr → Int → Heap → Prop, (∀ (v2 : Option Addr) (x3 : Int) (h1 : Heap),
  (Br (decide (x3 < ((l1.len : Int)))) (
   Ix l1 x3 1 fun q9 =>
   LdP h1 q9 fun x11 =>
   finger_pushRight r v2 x11 h1 fun y13 h2 =>
   X4 y13 (w64 (x3 + 1)) h2) (
   R v2 h1)) →
  X4 v2 x3 h1) →
 X4 none 0 h
theorem finger_some_of {r : World} {l1 : Sl} {h : Heap} {R : Option Addr → Heap → Prop} (H : finger_some_F r l1 h R) : finger_some r l1 h R := by
 unfold finger_some_F at H
 refine calls_of 17 [.tmp 2] Tryz.func122 rfl rfl rfl rfl rfl ?_
 refine W_seq ?_
 refine W_region (.pu 0 .fin) rfl rfl ?_
 refine sp 2 (.pointer none) rfl rfl (r_assign rfl) ?_
 refine s_fin ?_
 refine W_seq ?_
 refine W_region (.pu 0 .fin) rfl rfl ?_
 refine sp 3 (.pointer none) rfl rfl (r_assign rfl) ?_
 refine s_fin ?_
 refine W_seq ?_
 refine W_seq ?_
 refine W_region (.pu 0 (.pu 1 (.pu 2 .fin))) rfl rfl ?_
 refine sp 6 (Sl.v l1) rfl rfl (r_move rfl) ?_
 refine sp 7 (.int .i64 ((l1.len : Int))) rfl rfl (r_len Tryz.underlying113 rfl) ?_
 refine sp 8 (.int .i64 0) rfl rfl (r_move rfl) ?_
 refine s_fin ?_
 refine W_block ?_
 refine W_loop (WL_mk (l := [(3, (.pointer none)), (6, (Sl.v l1)), (7, (.int .i64 ((l1.len : Int)))), (8, (.int .i64 0))]) ?_ ⟨rfl, rfl, rfl, rfl, trivial⟩)
 refine H (fun (v2 : Option Addr) (x3 : Int) (h1 : Heap) => ∀ b, WL _ _ _ _ _ _ (mkE [(3, (.pointer v2)), (6, (Sl.v l1)), (7, (.int .i64 ((l1.len : Int)))), (8, (.int .i64 x3))] b) h1) ?_
 intro v2 x3 h1 H b
 refine WL_round ?_
 refine W_seq ?_
 refine W_region (.pu 0 .fin) rfl rfl ?_
 refine sp 9 (.bool (decide (x3 < ((l1.len : Int))))) rfl rfl (r_lss rfl rfl) ?_
 refine s_fin ?_
 refine W_seq ?_
 refine W_if (decide (x3 < ((l1.len : Int)))) rfl (fun g14 => ?_) (fun g14 => ?_)
 ·have H := H.1 g14
  refine W_skip ?_
  show W _ _ _ _ _ _ _ _
  refine W_seq ?_
  refine W_block ?_
  refine W_seq ?_
  refine W_region (.pu 0 (.rl 1 (.pu 2 .fin))) rfl rfl ?_
  obtain ⟨p5, e6, e7, e8, H⟩ := H
  obtain ⟨q9, e10⟩ : ∃ q : Addr, q = Addr.add p5 (Int.toNat x3 * 1) := ⟨_, rfl⟩
  rw [← e10] at H
  refine sp 10 (.pointer (some q9)) rfl rfl (fun w => (r_indexAddr Tryz.underlying113 Tryz.sizeOf108 rfl rfl e6 e7 e8 w).trans (by rw [e10])) ?_
  obtain ⟨x11, e12, H⟩ := H
  refine sl 11 (.pointer x11) rfl rfl (fun dr => r_load1 Tryz.isAgg108 rfl e12) ?_
  refine sp 5 (.pointer x11) rfl rfl (r_assign rfl) ?_
  refine s_fin ?_
  refine W_region (.pu 0 (.pu 1 (.ef 2 [] (.pu 3 .fin) .no))) rfl rfl ?_
  refine sp 12 (.pointer v2) rfl rfl (r_move rfl) ?_
  refine sp 13 (.pointer x11) rfl rfl (r_move rfl) ?_
  refine sc 14 rfl rfl (fun dr => r_call Tryz.call68 rfl rfl H) ?_
  rintro _ h2 ⟨y13, rfl, H⟩
  refine sp 3 (.pointer y13) rfl rfl (r_assign rfl) ?_
  refine s_fin ?_
  refine W_region (.pu 0 (.pu 1 .fin)) rfl rfl ?_
  refine sp 15 (.int .i64 (w64 (x3 + 1))) rfl rfl (r_add rfl rfl) ?_
  refine sp 8 (.int .i64 (w64 (x3 + 1))) rfl rfl (r_move rfl) ?_
  refine s_fin ?_
  exact WL_mk (l := [(3, (.pointer y13)), (6, (Sl.v l1)), (7, (.int .i64 ((l1.len : Int)))), (8, (.int .i64 (w64 (x3 + 1))))]) H ⟨rfl, rfl, rfl, rfl, trivial⟩
 ·have H := H.2 g14
  refine W_exit (inX_here ?_)
  show W _ _ _ _ _ _ _ _
  refine W_seq ?_
  refine W_region (.pu 0 (.pu 1 .fin)) rfl rfl ?_
  refine sp 16 (.pointer v2) rfl rfl (r_move rfl) ?_
  refine sp 2 (.pointer v2) rfl rfl (r_assign rfl) ?_
  refine s_fin ?_
  refine W_ret ?_
  exact ⟨[(.pointer v2)], ⟨_, _, rfl, rfl, rfl⟩, v2, rfl, H⟩
def finger_deepLeft_F (r : World) (l1 : Sl) (mid2 : Option Addr) (vr3 : Sl) (h : Heap) (R : Option Addr → Heap → Prop) : Prop :=
 Br (decide (0 < ((l1.len : Int)))) (
  finger_deep r l1 mid2 vr3 h fun y4 h1 =>
  R y4 h1) (
  Br (Option.isNone mid2) (
   finger_some r vr3 h fun y5 h2 =>
   R y5 h2) (
   finger_popLeft r mid2 h fun y6 y7 h3 =>
   Ck y6 fun p8 =>
   LdS h3 (Addr.add p8 6) fun x10 =>
   finger_deep r x10 y7 vr3 h3 fun y12 h4 =>
   R y12 h4))
theorem finger_deepLeft_of {r : World} {l1 : Sl} {mid2 : Option Addr} {vr3 : Sl} {h : Heap} {R : Option Addr → Heap → Prop} (H : finger_deepLeft_F r l1 mid2 vr3 h R) : finger_deepLeft r l1 mid2 vr3 h R := by
 unfold finger_deepLeft_F at H
 refine calls_of 32 [.tmp 6] Tryz.func105 rfl rfl rfl rfl rfl ?_
 refine W_seq ?_
 refine W_region (.pu 0 .fin) rfl rfl ?_
 refine sp 6 (.pointer none) rfl rfl (r_assign rfl) ?_
 refine s_fin ?_
 refine W_seq ?_
 refine W_seq ?_
 refine W_region (.pu 0 (.pu 1 (.pu 2 .fin))) rfl rfl ?_
 refine sp 9 (Sl.v l1) rfl rfl (r_move rfl) ?_
 refine sp 10 (.int .i64 ((l1.len : Int))) rfl rfl (r_len Tryz.underlying113 rfl) ?_
 refine sp 11 (.bool (decide (0 < ((l1.len : Int))))) rfl rfl (r_gtr rfl rfl) ?_
 refine s_fin ?_
 refine W_if (decide (0 < ((l1.len : Int)))) rfl (fun g14 => ?_) (fun g14 => ?_)
 ·have H := H.1 g14
  refine W_seq ?_
  refine W_region (.pu 0 (.pu 1 (.pu 2 (.ef 3 [] (.pu 4 .fin) .no)))) rfl rfl ?_
  refine sp 12 (Sl.v l1) rfl rfl (r_move rfl) ?_
  refine sp 13 (.pointer mid2) rfl rfl (r_move rfl) ?_
  refine sp 14 (Sl.v vr3) rfl rfl (r_move rfl) ?_
  refine sc 15 rfl rfl (fun dr => r_call Tryz.call98 rfl rfl H) ?_
  rintro _ h1 ⟨y4, rfl, H⟩
  refine sp 6 (.pointer y4) rfl rfl (r_assign rfl) ?_
  refine s_fin ?_
  refine W_ret ?_
  exact ⟨[(.pointer y4)], ⟨_, _, rfl, rfl, rfl⟩, y4, rfl, H⟩
 ·have H := H.2 g14
  refine W_skip ?_
  show W _ _ _ _ _ _ _ _
  refine W_seq ?_
  refine W_seq ?_
  refine W_region (.pu 0 (.pu 1 .fin)) rfl rfl ?_
  refine sp 16 (.pointer mid2) rfl rfl (r_move rfl) ?_
  refine sp 17 (.bool (Option.isNone mid2)) rfl rfl (r_nilP Tryz.underlying37 rfl rfl) ?_
  refine s_fin ?_
  refine W_if (Option.isNone mid2) rfl (fun g13 => ?_) (fun g13 => ?_)
  ·have H := H.1 g13
   refine W_seq ?_
   refine W_region (.pu 0 (.ef 1 [] (.pu 2 .fin) .no)) rfl rfl ?_
   refine sp 18 (Sl.v vr3) rfl rfl (r_move rfl) ?_
   refine sc 19 rfl rfl (fun dr => r_call Tryz.call122 rfl rfl H) ?_
   rintro _ h2 ⟨y5, rfl, H⟩
   refine sp 6 (.pointer y5) rfl rfl (r_assign rfl) ?_
   refine s_fin ?_
   refine W_ret ?_
   exact ⟨[(.pointer y5)], ⟨_, _, rfl, rfl, rfl⟩, y5, rfl, H⟩
  ·have H := H.2 g13
   refine W_skip ?_
   show W _ _ _ _ _ _ _ _
   refine W_seq ?_
   refine W_region (.pu 0 (.ef 1 [] (.pu 2 (.pu 3 (.pu 4 (.pu 5 (.pu 6 .fin))))) .no)) rfl rfl ?_
   refine sp 21 (.pointer mid2) rfl rfl (r_move rfl) ?_
   refine sc 22 rfl rfl (fun dr => r_call Tryz.call71 rfl rfl H) ?_
   rintro _ h3 ⟨y6, y7, rfl, H⟩
   refine sp 20 (.tuple #[(.pointer y6), (.pointer y7)]) rfl rfl (r_move rfl) ?_
   refine sp 23 (.pointer y6) rfl rfl (r_extract rfl rfl) ?_
   refine sp 24 (.pointer y7) rfl rfl (r_extract rfl rfl) ?_
   refine sp 7 (.pointer y6) rfl rfl (r_assign rfl) ?_
   refine sp 8 (.pointer y7) rfl rfl (r_assign rfl) ?_
   refine s_fin ?_
   refine W_seq ?_
   refine W_region (.pu 0 (.pu 1 (.pu 2 (.rl 3 (.pu 4 (.pu 5 (.ef 6 [] (.pu 7 .fin) .no))))))) rfl rfl ?_
   refine sp 25 (.pointer y6) rfl rfl (r_move rfl) ?_
   obtain ⟨p8, e9, H⟩ := H
   refine sp 26 (.pointer (some p8)) rfl rfl (r_nilCheck rfl e9) ?_
   refine sp 27 (.pointer (some (Addr.add p8 6))) rfl rfl (r_fieldAddr Tryz.underlying115 Tryz.sizeOf113 rfl rfl rfl) ?_
   obtain ⟨x10, e11, H⟩ := H
   refine sl 28 (Sl.v x10) rfl rfl (fun dr => r_load1 Tryz.isAgg113 rfl e11) ?_
   refine sp 29 (.pointer y7) rfl rfl (r_move rfl) ?_
   refine sp 30 (Sl.v vr3) rfl rfl (r_move rfl) ?_
   refine sc 31 rfl rfl (fun dr => r_call Tryz.call98 rfl rfl H) ?_
   rintro _ h4 ⟨y12, rfl, H⟩
   refine sp 6 (.pointer y12) rfl rfl (r_assign rfl) ?_
   refine s_fin ?_
   refine W_ret ?_
   exact ⟨[(.pointer y12)], ⟨_, _, rfl, rfl, rfl⟩, y12, rfl, H⟩
def finger_deepRight_F (r : World) (l1 : Sl) (mid2 : Option Addr) (vr3 : Sl) (h : Heap) (R : Option Addr → Heap → Prop) : Prop :=
 Br (decide (0 < ((vr3.len : Int)))) (
  finger_deep r l1 mid2 vr3 h fun y4 h1 =>
  R y4 h1) (
  Br (Option.isNone mid2) (
   finger_some r l1 h fun y5 h2 =>
   R y5 h2) (
   finger_popRight r mid2 h fun y6 y7 h3 =>
   Ck y6 fun p8 =>
   LdS h3 (Addr.add p8 6) fun x10 =>
   finger_deep r l1 y7 x10 h3 fun y12 h4 =>
   R y12 h4))
theorem finger_deepRight_of {r : World} {l1 : Sl} {mid2 : Option Addr} {vr3 : Sl} {h : Heap} {R : Option Addr → Heap → Prop} (H : finger_deepRight_F r l1 mid2 vr3 h R) : finger_deepRight r l1 mid2 vr3 h R := by
 unfold finger_deepRight_F at H
 refine calls_of 32 [.tmp 6] Tryz.func123 rfl rfl rfl rfl rfl ?_
 refine W_seq ?_
 refine W_region (.pu 0 .fin) rfl rfl ?_
 refine sp 6 (.pointer none) rfl rfl (r_assign rfl) ?_
 refine s_fin ?_
 refine W_seq ?_
 refine W_seq ?_
 refine W_region (.pu 0 (.pu 1 (.pu 2 .fin))) rfl rfl ?_
 refine sp 9 (Sl.v vr3) rfl rfl (r_move rfl) ?_
 refine sp 10 (.int .i64 ((vr3.len : Int))) rfl rfl (r_len Tryz.underlying113 rfl) ?_
 refine sp 11 (.bool (decide (0 < ((vr3.len : Int))))) rfl rfl (r_gtr rfl rfl) ?_
 refine s_fin ?_
 refine W_if (decide (0 < ((vr3.len : Int)))) rfl (fun g14 => ?_) (fun g14 => ?_)
 ·have H := H.1 g14
  refine W_seq ?_
  refine W_region (.pu 0 (.pu 1 (.pu 2 (.ef 3 [] (.pu 4 .fin) .no)))) rfl rfl ?_
  refine sp 12 (Sl.v l1) rfl rfl (r_move rfl) ?_
  refine sp 13 (.pointer mid2) rfl rfl (r_move rfl) ?_
  refine sp 14 (Sl.v vr3) rfl rfl (r_move rfl) ?_
  refine sc 15 rfl rfl (fun dr => r_call Tryz.call98 rfl rfl H) ?_
  rintro _ h1 ⟨y4, rfl, H⟩
  refine sp 6 (.pointer y4) rfl rfl (r_assign rfl) ?_
  refine s_fin ?_
  refine W_ret ?_
  exact ⟨[(.pointer y4)], ⟨_, _, rfl, rfl, rfl⟩, y4, rfl, H⟩
 ·have H := H.2 g14
  refine W_skip ?_
  show W _ _ _ _ _ _ _ _
  refine W_seq ?_
  refine W_seq ?_
  refine W_region (.pu 0 (.pu 1 .fin)) rfl rfl ?_
  refine sp 16 (.pointer mid2) rfl rfl (r_move rfl) ?_
  refine sp 17 (.bool (Option.isNone mid2)) rfl rfl (r_nilP Tryz.underlying37 rfl rfl) ?_
  refine s_fin ?_
  refine W_if (Option.isNone mid2) rfl (fun g13 => ?_) (fun g13 => ?_)
  ·have H := H.1 g13
   refine W_seq ?_
   refine W_region (.pu 0 (.ef 1 [] (.pu 2 .fin) .no)) rfl rfl ?_
   refine sp 18 (Sl.v l1) rfl rfl (r_move rfl) ?_
   refine sc 19 rfl rfl (fun dr => r_call Tryz.call122 rfl rfl H) ?_
   rintro _ h2 ⟨y5, rfl, H⟩
   refine sp 6 (.pointer y5) rfl rfl (r_assign rfl) ?_
   refine s_fin ?_
   refine W_ret ?_
   exact ⟨[(.pointer y5)], ⟨_, _, rfl, rfl, rfl⟩, y5, rfl, H⟩
  ·have H := H.2 g13
   refine W_skip ?_
   show W _ _ _ _ _ _ _ _
   refine W_seq ?_
   refine W_region (.pu 0 (.ef 1 [] (.pu 2 (.pu 3 (.pu 4 (.pu 5 (.pu 6 .fin))))) .no)) rfl rfl ?_
   refine sp 21 (.pointer mid2) rfl rfl (r_move rfl) ?_
   refine sc 22 rfl rfl (fun dr => r_call Tryz.call137 rfl rfl H) ?_
   rintro _ h3 ⟨y6, y7, rfl, H⟩
   refine sp 20 (.tuple #[(.pointer y6), (.pointer y7)]) rfl rfl (r_move rfl) ?_
   refine sp 23 (.pointer y6) rfl rfl (r_extract rfl rfl) ?_
   refine sp 24 (.pointer y7) rfl rfl (r_extract rfl rfl) ?_
   refine sp 7 (.pointer y6) rfl rfl (r_assign rfl) ?_
   refine sp 8 (.pointer y7) rfl rfl (r_assign rfl) ?_
   refine s_fin ?_
   refine W_seq ?_
   refine W_region (.pu 0 (.pu 1 (.pu 2 (.pu 3 (.pu 4 (.rl 5 (.ef 6 [] (.pu 7 .fin) .no))))))) rfl rfl ?_
   refine sp 25 (Sl.v l1) rfl rfl (r_move rfl) ?_
   refine sp 26 (.pointer y7) rfl rfl (r_move rfl) ?_
   refine sp 27 (.pointer y6) rfl rfl (r_move rfl) ?_
   obtain ⟨p8, e9, H⟩ := H
   refine sp 28 (.pointer (some p8)) rfl rfl (r_nilCheck rfl e9) ?_
   refine sp 29 (.pointer (some (Addr.add p8 6))) rfl rfl (r_fieldAddr Tryz.underlying115 Tryz.sizeOf113 rfl rfl rfl) ?_
   obtain ⟨x10, e11, H⟩ := H
   refine sl 30 (Sl.v x10) rfl rfl (fun dr => r_load1 Tryz.isAgg113 rfl e11) ?_
   refine sc 31 rfl rfl (fun dr => r_call Tryz.call98 rfl rfl H) ?_
   rintro _ h4 ⟨y12, rfl, H⟩
   refine sp 6 (.pointer y12) rfl rfl (r_assign rfl) ?_
   refine s_fin ?_
   refine W_ret ?_
   exact ⟨[(.pointer y12)], ⟨_, _, rfl, rfl, rfl⟩, y12, rfl, H⟩
def finger_popLeft_F (r : World) (v1 : Option Addr) (h : Heap) (R : Option Addr → Option Addr → Heap → Prop) : Prop :=
 Ck v1 fun p2 =>
 LdS h (Addr.add p2 6) fun x4 =>
 Br (Option.isNone x4.a) (
  Ck v1 fun p6 =>
  LdS h (Addr.add p6 5) fun x8 =>
  Ix x8 0 1 fun q14 =>
  LdP h q14 fun x16 =>
  R x16 none h) (
  Ck v1 fun p18 =>
  LdS h (Addr.add p18 5) fun x20 =>
  Ix x20 0 1 fun q26 =>
  LdP h q26 fun x28 =>
  Ck v1 fun p30 =>
  LdS h (Addr.add p30 5) fun x32 =>
  Sub x32 1 ((x32.len : Int)) ((x32.cap : Int)) 1 fun s34 =>
  Ck v1 fun p40 =>
  LdP h (Addr.add p40 7) fun x42 =>
  Ck v1 fun p44 =>
  LdS h (Addr.add p44 6) fun x46 =>
  finger_deepLeft r s34 x42 x46 h fun y48 h1 =>
  (hcell h1 q26 = some (.pointer x28)) ∧
  (hcell h1 (Addr.add p18 5) = some (Sl.v x20)) ∧
  R x28 y48 h1)
theorem finger_popLeft_of {r : World} {v1 : Option Addr} {h : Heap} {R : Option Addr → Option Addr → Heap → Prop} (H : finger_popLeft_F r v1 h R) : finger_popLeft r v1 h R := by
 unfold finger_popLeft_F at H
 refine calls_of 35 [.tmp 2, .tmp 3] Tryz.func71 rfl rfl rfl rfl rfl ?_
 refine W_seq ?_
 refine W_region (.pu 0 (.pu 1 .fin)) rfl rfl ?_
 refine sp 2 (.pointer none) rfl rfl (r_assign rfl) ?_
 refine sp 3 (.pointer none) rfl rfl (r_assign rfl) ?_
 refine s_fin ?_
 refine W_seq ?_
 refine W_seq ?_
 refine W_region (.pu 0 (.pu 1 (.pu 2 (.rl 3 (.pu 4 .fin))))) rfl rfl ?_
 refine sp 4 (.pointer v1) rfl rfl (r_move rfl) ?_
 obtain ⟨p2, e3, H⟩ := H
 refine sp 5 (.pointer (some p2)) rfl rfl (r_nilCheck rfl e3) ?_
 refine sp 6 (.pointer (some (Addr.add p2 6))) rfl rfl (r_fieldAddr Tryz.underlying127 Tryz.sizeOf113 rfl rfl rfl) ?_
 obtain ⟨x4, e5, H⟩ := H
 refine sl 7 (Sl.v x4) rfl rfl (fun dr => r_load1 Tryz.isAgg113 rfl e5) ?_
 refine sp 8 (.bool (Option.isNone x4.a)) rfl rfl (r_nilS Tryz.underlying113 rfl rfl) ?_
 refine s_fin ?_
 refine W_if (Option.isNone x4.a) rfl (fun g51 => ?_) (fun g51 => ?_)
 ·have H := H.1 g51
  refine W_seq ?_
  refine W_region (.pu 0 (.pu 1 (.pu 2 (.rl 3 (.pu 4 (.rl 5 (.pu 6 (.pu 7 .fin)))))))) rfl rfl ?_
  refine sp 9 (.pointer v1) rfl rfl (r_move rfl) ?_
  obtain ⟨p6, e7, H⟩ := H
  refine sp 10 (.pointer (some p6)) rfl rfl (r_nilCheck rfl e7) ?_
  refine sp 11 (.pointer (some (Addr.add p6 5))) rfl rfl (r_fieldAddr Tryz.underlying127 Tryz.sizeOf113 rfl rfl rfl) ?_
  obtain ⟨x8, e9, H⟩ := H
  refine sl 12 (Sl.v x8) rfl rfl (fun dr => r_load1 Tryz.isAgg113 rfl e9) ?_
  obtain ⟨p10, e11, e12, e13, H⟩ := H
  obtain ⟨q14, e15⟩ : ∃ q : Addr, q = Addr.add p10 (Int.toNat 0 * 1) := ⟨_, rfl⟩
  rw [← e15] at H
  refine sp 13 (.pointer (some q14)) rfl rfl (fun w => (r_indexAddr Tryz.underlying113 Tryz.sizeOf108 rfl rfl e11 e12 e13 w).trans (by rw [e15])) ?_
  obtain ⟨x16, e17, H⟩ := H
  refine sl 14 (.pointer x16) rfl rfl (fun dr => r_load1 Tryz.isAgg108 rfl e17) ?_
  refine sp 2 (.pointer x16) rfl rfl (r_assign rfl) ?_
  refine sp 3 (.pointer none) rfl rfl (r_assign rfl) ?_
  refine s_fin ?_
  refine W_ret ?_
  exact ⟨[(.pointer x16), (.pointer none)], ⟨_, _, rfl, rfl, ⟨_, _, rfl, rfl, rfl⟩⟩, x16, none, rfl, H⟩
 ·have H := H.2 g51
  refine W_skip ?_
  show W _ _ _ _ _ _ _ _
  refine W_seq ?_
  refine W_draw [0, 1, 3, 7, 15, 31, 0, 64, 192, 448, 960, 0, 2048, 6144, 14336, 0, 32768, 98304, 229376, 524224, 1048575, 2097151] (.pu 0 (.pu 1 (.pu 2 (.rd 3 (.pu 4 (.rd 5 (.pu 6 (.pu 7 (.pu 8 (.rd 9 (.pu 10 (.pu 11 (.pu 12 (.pu 13 (.rd 14 (.pu 15 (.pu 16 (.pu 17 (.rd 18 (.ef 19 [9, 14, 18] (.pu 20 (.pu 21 .fin)) .no)))))))))))))))))))) (by kernel_rfl) (by kernel_rfl) ?_
  refine sp 15 (.pointer v1) rfl rfl (r_move rfl) ?_
  obtain ⟨p18, e19, H⟩ := H
  refine sp 16 (.pointer (some p18)) rfl rfl (r_nilCheck rfl e19) ?_
  refine sp 17 (.pointer (some (Addr.add p18 5))) rfl rfl (r_fieldAddr Tryz.underlying127 Tryz.sizeOf113 rfl rfl rfl) ?_
  obtain ⟨x20, e21, H⟩ := H
  refine s_rd (d := some 18) (v := (Sl.v x20)) rfl rfl rfl (fun dr => r_load1 Tryz.isAgg113 rfl e21) ?_
  obtain ⟨p22, e23, e24, e25, H⟩ := H
  obtain ⟨q26, e27⟩ : ∃ q : Addr, q = Addr.add p22 (Int.toNat 0 * 1) := ⟨_, rfl⟩
  rw [← e27] at H
  refine sp 19 (.pointer (some q26)) rfl rfl (fun w => (r_indexAddr Tryz.underlying113 Tryz.sizeOf108 rfl rfl e23 e24 e25 w).trans (by rw [e27])) ?_
  obtain ⟨x28, e29, H⟩ := H
  refine s_rd (d := some 20) (v := (.pointer x28)) rfl rfl rfl (fun dr => r_load1 Tryz.isAgg108 rfl e29) ?_
  refine sp 21 (.pointer v1) rfl rfl (r_move rfl) ?_
  obtain ⟨p30, e31, H⟩ := H
  refine sp 22 (.pointer (some p30)) rfl rfl (r_nilCheck rfl e31) ?_
  refine sp 23 (.pointer (some (Addr.add p30 5))) rfl rfl (r_fieldAddr Tryz.underlying127 Tryz.sizeOf113 rfl rfl rfl) ?_
  obtain ⟨x32, e33, H⟩ := H
  refine s_rd (d := some 24) (v := (Sl.v x32)) rfl rfl rfl (fun dr => r_load1 Tryz.isAgg113 rfl e33) ?_
  obtain ⟨e35, e36, e37, e38, H⟩ := H
  obtain ⟨s34, e39⟩ : ∃ t : Sl, t = ⟨sliceA x32.a (Int.toNat ((x32.cap : Int))) (Int.toNat 1) 1, Int.toNat ((x32.len : Int)) - Int.toNat 1, Int.toNat ((x32.cap : Int)) - Int.toNat 1⟩ := ⟨_, rfl⟩
  have H := H s34 e39
  refine sp 25 (Sl.v s34) rfl rfl (fun w => (r_slice (lo := (.some (.const (.int .i64 1)))) (hi := .none) (mx := .none) Tryz.underlying113 Tryz.sizeOf108 rfl ((x32.cap : Int)) ((x32.len : Int)) 1 rfl ⟨rfl, rfl⟩ ⟨_, rfl⟩ e35 e36 (.inl rfl) e38 w).trans (by rw [e39]; rfl)) ?_
  refine sp 26 (.pointer v1) rfl rfl (r_move rfl) ?_
  obtain ⟨p40, e41, H⟩ := H
  refine sp 27 (.pointer (some p40)) rfl rfl (r_nilCheck rfl e41) ?_
  refine sp 28 (.pointer (some (Addr.add p40 7))) rfl rfl (r_fieldAddr Tryz.underlying127 Tryz.sizeOf37 rfl rfl rfl) ?_
  obtain ⟨x42, e43, H⟩ := H
  refine s_rd (d := some 29) (v := (.pointer x42)) rfl rfl rfl (fun dr => r_load1 Tryz.isAgg37 rfl e43) ?_
  refine sp 30 (.pointer v1) rfl rfl (r_move rfl) ?_
  obtain ⟨p44, e45, H⟩ := H
  refine sp 31 (.pointer (some p44)) rfl rfl (r_nilCheck rfl e45) ?_
  refine sp 32 (.pointer (some (Addr.add p44 6))) rfl rfl (r_fieldAddr Tryz.underlying127 Tryz.sizeOf113 rfl rfl rfl) ?_
  obtain ⟨x46, e47, H⟩ := H
  refine s_rd (d := some 33) (v := (Sl.v x46)) rfl rfl rfl (fun dr => r_load1 Tryz.isAgg113 rfl e47) ?_
  refine s_ef (d := some 34) rfl rfl rfl (fun dr => r_call Tryz.call105 rfl rfl H) ?_ trivial
  rintro _ h1 ⟨y48, rfl, H⟩
  obtain ⟨e49, H⟩ := H
  obtain ⟨e50, H⟩ := H
  refine ⟨⟨trivial, trivial, trivial, (.inl ⟨rfl, fun dr => r_load1 Tryz.isAgg108 rfl e49⟩), (.inl ⟨rfl, fun dr => r_load1 Tryz.isAgg113 rfl e50⟩), trivial⟩, ?_⟩
  refine sp 2 (.pointer x28) rfl rfl (r_assign rfl) ?_
  refine sp 3 (.pointer y48) rfl rfl (r_assign rfl) ?_
  refine s_fin ?_
  refine W_ret ?_
  exact ⟨[(.pointer x28), (.pointer y48)], ⟨_, _, rfl, rfl, ⟨_, _, rfl, rfl, rfl⟩⟩, x28, y48, rfl, H⟩
def finger_popRight_F (r : World) (v1 : Option Addr) (h : Heap) (R : Option Addr → Option Addr → Heap → Prop) : Prop :=
 Ck v1 fun p2 =>
 LdS h (Addr.add p2 6) fun x4 =>
 Br (Option.isNone x4.a) (
  Ck v1 fun p6 =>
  LdS h (Addr.add p6 5) fun x8 =>
  Ix x8 0 1 fun q14 =>
  LdP h q14 fun x16 =>
  R x16 none h) (
  Ck v1 fun p18 =>
  LdS h (Addr.add p18 6) fun x20 =>
  Ck v1 fun p22 =>
  LdS h (Addr.add p22 6) fun x24 =>
  Ix x24 (w64 (((x20.len : Int)) - 1)) 1 fun q30 =>
  LdP h q30 fun x32 =>
  Ck v1 fun p34 =>
  LdS h (Addr.add p34 5) fun x36 =>
  Ck v1 fun p38 =>
  LdP h (Addr.add p38 7) fun x40 =>
  Ck v1 fun p42 =>
  LdS h (Addr.add p42 6) fun x44 =>
  Sub x44 0 (w64 (((x20.len : Int)) - 1)) ((x44.cap : Int)) 1 fun s46 =>
  finger_deepRight r x36 x40 s46 h fun y52 h1 =>
  (hcell h1 q30 = some (.pointer x32)) ∧
  (hcell h1 (Addr.add p22 6) = some (Sl.v x24)) ∧
  R x32 y52 h1)
theorem finger_popRight_of {r : World} {v1 : Option Addr} {h : Heap} {R : Option Addr → Option Addr → Heap → Prop} (H : finger_popRight_F r v1 h R) : finger_popRight r v1 h R := by
 unfold finger_popRight_F at H
 refine calls_of 44 [.tmp 2, .tmp 3] Tryz.func137 rfl rfl rfl rfl rfl ?_
 refine W_seq ?_
 refine W_region (.pu 0 (.pu 1 .fin)) rfl rfl ?_
 refine sp 2 (.pointer none) rfl rfl (r_assign rfl) ?_
 refine sp 3 (.pointer none) rfl rfl (r_assign rfl) ?_
 refine s_fin ?_
 refine W_seq ?_
 refine W_seq ?_
 refine W_region (.pu 0 (.pu 1 (.pu 2 (.rl 3 (.pu 4 .fin))))) rfl rfl ?_
 refine sp 5 (.pointer v1) rfl rfl (r_move rfl) ?_
 obtain ⟨p2, e3, H⟩ := H
 refine sp 6 (.pointer (some p2)) rfl rfl (r_nilCheck rfl e3) ?_
 refine sp 7 (.pointer (some (Addr.add p2 6))) rfl rfl (r_fieldAddr Tryz.underlying127 Tryz.sizeOf113 rfl rfl rfl) ?_
 obtain ⟨x4, e5, H⟩ := H
 refine sl 8 (Sl.v x4) rfl rfl (fun dr => r_load1 Tryz.isAgg113 rfl e5) ?_
 refine sp 9 (.bool (Option.isNone x4.a)) rfl rfl (r_nilS Tryz.underlying113 rfl rfl) ?_
 refine s_fin ?_
 refine W_if (Option.isNone x4.a) rfl (fun g55 => ?_) (fun g55 => ?_)
 ·have H := H.1 g55
  refine W_seq ?_
  refine W_region (.pu 0 (.pu 1 (.pu 2 (.rl 3 (.pu 4 (.rl 5 (.pu 6 (.pu 7 .fin)))))))) rfl rfl ?_
  refine sp 10 (.pointer v1) rfl rfl (r_move rfl) ?_
  obtain ⟨p6, e7, H⟩ := H
  refine sp 11 (.pointer (some p6)) rfl rfl (r_nilCheck rfl e7) ?_
  refine sp 12 (.pointer (some (Addr.add p6 5))) rfl rfl (r_fieldAddr Tryz.underlying127 Tryz.sizeOf113 rfl rfl rfl) ?_
  obtain ⟨x8, e9, H⟩ := H
  refine sl 13 (Sl.v x8) rfl rfl (fun dr => r_load1 Tryz.isAgg113 rfl e9) ?_
  obtain ⟨p10, e11, e12, e13, H⟩ := H
  obtain ⟨q14, e15⟩ : ∃ q : Addr, q = Addr.add p10 (Int.toNat 0 * 1) := ⟨_, rfl⟩
  rw [← e15] at H
  refine sp 14 (.pointer (some q14)) rfl rfl (fun w => (r_indexAddr Tryz.underlying113 Tryz.sizeOf108 rfl rfl e11 e12 e13 w).trans (by rw [e15])) ?_
  obtain ⟨x16, e17, H⟩ := H
  refine sl 15 (.pointer x16) rfl rfl (fun dr => r_load1 Tryz.isAgg108 rfl e17) ?_
  refine sp 2 (.pointer x16) rfl rfl (r_assign rfl) ?_
  refine sp 3 (.pointer none) rfl rfl (r_assign rfl) ?_
  refine s_fin ?_
  refine W_ret ?_
  exact ⟨[(.pointer x16), (.pointer none)], ⟨_, _, rfl, rfl, ⟨_, _, rfl, rfl, rfl⟩⟩, x16, none, rfl, H⟩
 ·have H := H.2 g55
  refine W_skip ?_
  show W _ _ _ _ _ _ _ _
  refine W_seq ?_
  refine W_region (.pu 0 (.pu 1 (.pu 2 (.rl 3 (.pu 4 (.pu 5 (.pu 6 .fin))))))) rfl rfl ?_
  refine sp 16 (.pointer v1) rfl rfl (r_move rfl) ?_
  obtain ⟨p18, e19, H⟩ := H
  refine sp 17 (.pointer (some p18)) rfl rfl (r_nilCheck rfl e19) ?_
  refine sp 18 (.pointer (some (Addr.add p18 6))) rfl rfl (r_fieldAddr Tryz.underlying127 Tryz.sizeOf113 rfl rfl rfl) ?_
  obtain ⟨x20, e21, H⟩ := H
  refine sl 19 (Sl.v x20) rfl rfl (fun dr => r_load1 Tryz.isAgg113 rfl e21) ?_
  refine sp 20 (.int .i64 ((x20.len : Int))) rfl rfl (r_len Tryz.underlying113 rfl) ?_
  refine sp 21 (.int .i64 (w64 (((x20.len : Int)) - 1))) rfl rfl (r_sub rfl rfl) ?_
  refine sp 4 (.int .i64 (w64 (((x20.len : Int)) - 1))) rfl rfl (r_assign rfl) ?_
  refine s_fin ?_
  refine W_seq ?_
  refine W_draw [0, 1, 3, 7, 0, 31, 63, 0, 128, 384, 896, 0, 2048, 6144, 14336, 0, 32768, 98304, 229376, 0, 1015808, 2097024, 4194303, 8388607] (.pu 0 (.pu 1 (.pu 2 (.rd 3 (.pu 4 (.pu 5 (.rd 6 (.pu 7 (.pu 8 (.pu 9 (.rd 10 (.pu 11 (.pu 12 (.pu 13 (.rd 14 (.pu 15 (.pu 16 (.pu 17 (.rd 18 (.pu 19 (.pu 20 (.ef 21 [10, 14, 18] (.pu 22 (.pu 23 .fin)) .no)))))))))))))))))))))) (by kernel_rfl) (by kernel_rfl) ?_
  refine sp 22 (.pointer v1) rfl rfl (r_move rfl) ?_
  obtain ⟨p22, e23, H⟩ := H
  refine sp 23 (.pointer (some p22)) rfl rfl (r_nilCheck rfl e23) ?_
  refine sp 24 (.pointer (some (Addr.add p22 6))) rfl rfl (r_fieldAddr Tryz.underlying127 Tryz.sizeOf113 rfl rfl rfl) ?_
  obtain ⟨x24, e25, H⟩ := H
  refine s_rd (d := some 25) (v := (Sl.v x24)) rfl rfl rfl (fun dr => r_load1 Tryz.isAgg113 rfl e25) ?_
  refine sp 26 (.int .i64 (w64 (((x20.len : Int)) - 1))) rfl rfl (r_move rfl) ?_
  obtain ⟨p26, e27, e28, e29, H⟩ := H
  obtain ⟨q30, e31⟩ : ∃ q : Addr, q = Addr.add p26 (Int.toNat (w64 (((x20.len : Int)) - 1)) * 1) := ⟨_, rfl⟩
  rw [← e31] at H
  refine sp 27 (.pointer (some q30)) rfl rfl (fun w => (r_indexAddr Tryz.underlying113 Tryz.sizeOf108 rfl rfl e27 e28 e29 w).trans (by rw [e31])) ?_
  obtain ⟨x32, e33, H⟩ := H
  refine s_rd (d := some 28) (v := (.pointer x32)) rfl rfl rfl (fun dr => r_load1 Tryz.isAgg108 rfl e33) ?_
  refine sp 29 (.pointer v1) rfl rfl (r_move rfl) ?_
  obtain ⟨p34, e35, H⟩ := H
  refine sp 30 (.pointer (some p34)) rfl rfl (r_nilCheck rfl e35) ?_
  refine sp 31 (.pointer (some (Addr.add p34 5))) rfl rfl (r_fieldAddr Tryz.underlying127 Tryz.sizeOf113 rfl rfl rfl) ?_
  obtain ⟨x36, e37, H⟩ := H
  refine s_rd (d := some 32) (v := (Sl.v x36)) rfl rfl rfl (fun dr => r_load1 Tryz.isAgg113 rfl e37) ?_
  refine sp 33 (.pointer v1) rfl rfl (r_move rfl) ?_
  obtain ⟨p38, e39, H⟩ := H
  refine sp 34 (.pointer (some p38)) rfl rfl (r_nilCheck rfl e39) ?_
  refine sp 35 (.pointer (some (Addr.add p38 7))) rfl rfl (r_fieldAddr Tryz.underlying127 Tryz.sizeOf37 rfl rfl rfl) ?_
  obtain ⟨x40, e41, H⟩ := H
  refine s_rd (d := some 36) (v := (.pointer x40)) rfl rfl rfl (fun dr => r_load1 Tryz.isAgg37 rfl e41) ?_
  refine sp 37 (.pointer v1) rfl rfl (r_move rfl) ?_
  obtain ⟨p42, e43, H⟩ := H
  refine sp 38 (.pointer (some p42)) rfl rfl (r_nilCheck rfl e43) ?_
  refine sp 39 (.pointer (some (Addr.add p42 6))) rfl rfl (r_fieldAddr Tryz.underlying127 Tryz.sizeOf113 rfl rfl rfl) ?_
  obtain ⟨x44, e45, H⟩ := H
  refine s_rd (d := some 40) (v := (Sl.v x44)) rfl rfl rfl (fun dr => r_load1 Tryz.isAgg113 rfl e45) ?_
  refine sp 41 (.int .i64 (w64 (((x20.len : Int)) - 1))) rfl rfl (r_move rfl) ?_
  obtain ⟨e47, e48, e49, e50, H⟩ := H
  obtain ⟨s46, e51⟩ : ∃ t : Sl, t = ⟨sliceA x44.a (Int.toNat ((x44.cap : Int))) (Int.toNat 0) 1, Int.toNat (w64 (((x20.len : Int)) - 1)) - Int.toNat 0, Int.toNat ((x44.cap : Int)) - Int.toNat 0⟩ := ⟨_, rfl⟩
  have H := H s46 e51
  refine sp 42 (Sl.v s46) rfl rfl (fun w => (r_slice (lo := .none) (hi := (.some (.tmp 41))) (mx := .none) Tryz.underlying113 Tryz.sizeOf108 rfl ((x44.cap : Int)) (w64 (((x20.len : Int)) - 1)) 0 rfl ⟨_, rfl⟩ rfl e47 e48 (.inr e49) e50 w).trans (by rw [e51]; rfl)) ?_
  refine s_ef (d := some 43) rfl rfl rfl (fun dr => r_call Tryz.call123 rfl rfl H) ?_ trivial
  rintro _ h1 ⟨y52, rfl, H⟩
  obtain ⟨e53, H⟩ := H
  obtain ⟨e54, H⟩ := H
  refine ⟨⟨trivial, trivial, trivial, (.inl ⟨rfl, fun dr => r_load1 Tryz.isAgg108 rfl e53⟩), (.inl ⟨rfl, fun dr => r_load1 Tryz.isAgg113 rfl e54⟩), trivial⟩, ?_⟩
  refine sp 2 (.pointer x32) rfl rfl (r_assign rfl) ?_
  refine sp 3 (.pointer y52) rfl rfl (r_assign rfl) ?_
  refine s_fin ?_
  refine W_ret ?_
  exact ⟨[(.pointer x32), (.pointer y52)], ⟨_, _, rfl, rfl, ⟨_, _, rfl, rfl, rfl⟩⟩, x32, y52, rfl, H⟩
def finger_groups_F (r : World) (l1 : Sl) (h : Heap) (R : Sl → Heap → Prop) : Prop :=
 ∀ X4 : Sl → Sl → Heap → Prop, (∀ (l2 : Sl) (out3 : Sl) (h1 : Heap),
  (Br ((decide (4 < ((l2.len : Int)))) || (decide (((l2.len : Int)) = 3))) (
   Sub l2 0 3 ((l2.cap : Int)) 1 fun s8 =>
   finger_group r s8 h1 fun y14 h2 =>
   New h2 (.cells #[(.pointer y14)] 108) fun p15 h3 =>
   App 108 1 8 (.pointer none) out3 ((⟨some p15, 1, 1⟩ : Sl)) h3 fun s18 h4 =>
   Sub l2 3 ((l2.len : Int)) ((l2.cap : Int)) 1 fun s19 =>
   X4 s19 s18 h4) (
   ∀ X27 : Sl → Sl → Heap → Prop, (∀ (l25 : Sl) (out26 : Sl) (h5 : Heap),
    (Br (decide (1 < ((l25.len : Int)))) (
     Sub l25 0 2 ((l25.cap : Int)) 1 fun s28 =>
     finger_group r s28 h5 fun y34 h6 =>
     New h6 (.cells #[(.pointer y34)] 108) fun p35 h7 =>
     App 108 1 8 (.pointer none) out26 ((⟨some p35, 1, 1⟩ : Sl)) h7 fun s38 h8 =>
     Sub l25 2 ((l25.len : Int)) ((l25.cap : Int)) 1 fun s39 =>
     X27 s39 s38 h8) (
     R out26 h5)) →
    X27 l25 out26 h5) →
   X27 l2 out3 h1)) →
  X4 l2 out3 h1) →
 X4 l1 Sl.nil h
theorem finger_groups_of {r : World} {l1 : Sl} {h : Heap} {R : Sl → Heap → Prop} (H : finger_groups_F r l1 h R) : finger_groups r l1 h R := by
 unfold finger_groups_F at H
 refine calls_of 32 [.tmp 2] Tryz.func103 rfl rfl rfl rfl rfl ?_
 refine W_seq ?_
 refine W_region (.pu 0 .fin) rfl rfl ?_
 refine sp 2 (Sl.v Sl.nil) rfl rfl (r_assign rfl) ?_
 refine s_fin ?_
 refine W_seq ?_
 refine W_region (.pu 0 .fin) rfl rfl ?_
 refine sp 3 (Sl.v Sl.nil) rfl rfl (r_assign rfl) ?_
 refine s_fin ?_
 refine W_seq ?_
 refine W_block ?_
 refine W_loop (WL_mk (l := [(0, (Sl.v l1)), (3, (Sl.v Sl.nil))]) ?_ ⟨rfl, rfl, trivial⟩)
 refine H (fun (l2 : Sl) (out3 : Sl) (h1 : Heap) => ∀ b, WL _ _ _ _ _ _ (mkE [(0, (Sl.v l2)), (3, (Sl.v out3))] b) h1) ?_
 intro l2 out3 h1 H b
 refine WL_round ?_
 refine W_seq ?_
 refine W_seq ?_
 refine W_region (.pu 0 (.pu 1 (.pu 2 (.pu 3 (.pu 4 (.pu 5 (.pu 6 (.pu 7 .fin)))))))) rfl rfl ?_
 refine sp 4 (Sl.v l2) rfl rfl (r_move rfl) ?_
 refine sp 5 (.int .i64 ((l2.len : Int))) rfl rfl (r_len Tryz.underlying113 rfl) ?_
 refine sp 6 (.bool (decide (4 < ((l2.len : Int))))) rfl rfl (r_gtr rfl rfl) ?_
 refine sp 7 (.bool (decide (4 < ((l2.len : Int))))) rfl rfl (r_move rfl) ?_
 refine S_meet (l := [(0, (Sl.v l2)), (3, (Sl.v out3)), (11, (.bool ((decide (4 < ((l2.len : Int)))) || (decide (((l2.len : Int)) = 3)))))]) (i := 4) ?_ (fun HJ => ?_)
 ·intro b
  show S _ _ _ _ _ _
  refine s_fin ?_
  refine W_if ((decide (4 < ((l2.len : Int)))) || (decide (((l2.len : Int)) = 3))) rfl (fun g46 => ?_) (fun g46 => ?_)
  ·have H := H.1 g46
   refine W_skip ?_
   show W _ _ _ _ _ _ _ _
   refine W_block ?_
   refine W_seq ?_
   refine W_region (.pu 0 (.pu 1 (.pu 2 (.ef 3 [] (.ef 4 [] (.ef 5 [] (.pu 6 .fin) .no) .no) .no)))) rfl rfl ?_
   refine sp 12 (Sl.v out3) rfl rfl (r_move rfl) ?_
   refine sp 13 (Sl.v l2) rfl rfl (r_move rfl) ?_
   obtain ⟨e9, e10, e11, e12, H⟩ := H
   obtain ⟨s8, e13⟩ : ∃ t : Sl, t = ⟨sliceA l2.a (Int.toNat ((l2.cap : Int))) (Int.toNat 0) 1, Int.toNat 3 - Int.toNat 0, Int.toNat ((l2.cap : Int)) - Int.toNat 0⟩ := ⟨_, rfl⟩
   have H := H s8 e13
   refine sp 14 (Sl.v s8) rfl rfl (fun w => (r_slice (lo := .none) (hi := (.some (.const (.int .i64 3)))) (mx := .none) Tryz.underlying113 Tryz.sizeOf108 rfl ((l2.cap : Int)) 3 0 rfl ⟨_, rfl⟩ rfl e9 e10 (.inr e11) e12 w).trans (by rw [e13]; rfl)) ?_
   refine sc 15 rfl rfl (fun dr => r_call Tryz.call100 rfl rfl H) ?_
   rintro _ h2 ⟨y14, rfl, H⟩
   obtain ⟨p15, e16⟩ : ∃ p : Addr, p = ⟨h2.size, 0, none⟩ := ⟨_, rfl⟩
   obtain ⟨h3, e17⟩ : ∃ hh : Heap, hh = h2.push (.cells #[(.pointer y14)] 108) := ⟨_, rfl⟩
   have H := H p15 h3 e16 e17
   refine s_ef1 (d := some 16) (v := (Sl.v ((⟨some p15, 1, 1⟩ : Sl)))) (h' := h3) rfl rfl rfl (fun dr => (slFGFing_113.build (cells := #[(.pointer y14)]) (by decide) rfl (by kernel_rfl)).trans (by rw [e16, e17]; rfl)) trivial ?_ trivial
   refine s_ef (d := some 17) rfl rfl rfl (fun dr => slFGFing_113.append rfl rfl H) ?_ trivial
   rintro _ h4 ⟨s18, rfl, H⟩
   refine ⟨trivial, ?_⟩
   refine sp 3 (Sl.v s18) rfl rfl (r_assign rfl) ?_
   refine s_fin ?_
   refine W_region (.pu 0 (.pu 1 (.pu 2 .fin))) rfl rfl ?_
   refine sp 18 (Sl.v l2) rfl rfl (r_move rfl) ?_
   obtain ⟨e20, e21, e22, e23, H⟩ := H
   obtain ⟨s19, e24⟩ : ∃ t : Sl, t = ⟨sliceA l2.a (Int.toNat ((l2.cap : Int))) (Int.toNat 3) 1, Int.toNat ((l2.len : Int)) - Int.toNat 3, Int.toNat ((l2.cap : Int)) - Int.toNat 3⟩ := ⟨_, rfl⟩
   have H := H s19 e24
   refine sp 19 (Sl.v s19) rfl rfl (fun w => (r_slice (lo := (.some (.const (.int .i64 3)))) (hi := .none) (mx := .none) Tryz.underlying113 Tryz.sizeOf108 rfl ((l2.cap : Int)) ((l2.len : Int)) 3 rfl ⟨rfl, rfl⟩ ⟨_, rfl⟩ e20 e21 (.inl rfl) e23 w).trans (by rw [e24]; rfl)) ?_
   refine sp 0 (Sl.v s19) rfl rfl (r_assign rfl) ?_
   refine s_fin ?_
   exact WL_mk (l := [(0, (Sl.v s19)), (3, (Sl.v s18))]) H ⟨rfl, rfl, trivial⟩
  ·have H := H.2 g46
   refine W_exit (inX_here ?_)
   show W _ _ _ _ _ _ _ _
   refine W_seq ?_
   refine W_block ?_
   refine W_loop (WL_mk (l := [(0, (Sl.v l2)), (3, (Sl.v out3))]) ?_ ⟨rfl, rfl, trivial⟩)
   refine H (fun (l25 : Sl) (out26 : Sl) (h5 : Heap) => ∀ b, WL _ _ _ _ _ _ (mkE [(0, (Sl.v l25)), (3, (Sl.v out26))] b) h5) ?_
   intro l25 out26 h5 H b
   refine WL_round ?_
   refine W_seq ?_
   refine W_seq ?_
   refine W_region (.pu 0 (.pu 1 (.pu 2 .fin))) rfl rfl ?_
   refine sp 20 (Sl.v l25) rfl rfl (r_move rfl) ?_
   refine sp 21 (.int .i64 ((l25.len : Int))) rfl rfl (r_len Tryz.underlying113 rfl) ?_
   refine sp 22 (.bool (decide (1 < ((l25.len : Int))))) rfl rfl (r_gtr rfl rfl) ?_
   refine s_fin ?_
   refine W_if (decide (1 < ((l25.len : Int)))) rfl (fun g45 => ?_) (fun g45 => ?_)
   ·have H := H.1 g45
    refine W_skip ?_
    show W _ _ _ _ _ _ _ _
    refine W_block ?_
    refine W_seq ?_
    refine W_region (.pu 0 (.pu 1 (.pu 2 (.ef 3 [] (.ef 4 [] (.ef 5 [] (.pu 6 .fin) .no) .no) .no)))) rfl rfl ?_
    refine sp 23 (Sl.v out26) rfl rfl (r_move rfl) ?_
    refine sp 24 (Sl.v l25) rfl rfl (r_move rfl) ?_
    obtain ⟨e29, e30, e31, e32, H⟩ := H
    obtain ⟨s28, e33⟩ : ∃ t : Sl, t = ⟨sliceA l25.a (Int.toNat ((l25.cap : Int))) (Int.toNat 0) 1, Int.toNat 2 - Int.toNat 0, Int.toNat ((l25.cap : Int)) - Int.toNat 0⟩ := ⟨_, rfl⟩
    have H := H s28 e33
    refine sp 25 (Sl.v s28) rfl rfl (fun w => (r_slice (lo := .none) (hi := (.some (.const (.int .i64 2)))) (mx := .none) Tryz.underlying113 Tryz.sizeOf108 rfl ((l25.cap : Int)) 2 0 rfl ⟨_, rfl⟩ rfl e29 e30 (.inr e31) e32 w).trans (by rw [e33]; rfl)) ?_
    refine sc 26 rfl rfl (fun dr => r_call Tryz.call100 rfl rfl H) ?_
    rintro _ h6 ⟨y34, rfl, H⟩
    obtain ⟨p35, e36⟩ : ∃ p : Addr, p = ⟨h6.size, 0, none⟩ := ⟨_, rfl⟩
    obtain ⟨h7, e37⟩ : ∃ hh : Heap, hh = h6.push (.cells #[(.pointer y34)] 108) := ⟨_, rfl⟩
    have H := H p35 h7 e36 e37
    refine s_ef1 (d := some 27) (v := (Sl.v ((⟨some p35, 1, 1⟩ : Sl)))) (h' := h7) rfl rfl rfl (fun dr => (slFGFing_113.build (cells := #[(.pointer y34)]) (by decide) rfl (by kernel_rfl)).trans (by rw [e36, e37]; rfl)) trivial ?_ trivial
    refine s_ef (d := some 28) rfl rfl rfl (fun dr => slFGFing_113.append rfl rfl H) ?_ trivial
    rintro _ h8 ⟨s38, rfl, H⟩
    refine ⟨trivial, ?_⟩
    refine sp 3 (Sl.v s38) rfl rfl (r_assign rfl) ?_
    refine s_fin ?_
    refine W_region (.pu 0 (.pu 1 (.pu 2 .fin))) rfl rfl ?_
    refine sp 29 (Sl.v l25) rfl rfl (r_move rfl) ?_
    obtain ⟨e40, e41, e42, e43, H⟩ := H
    obtain ⟨s39, e44⟩ : ∃ t : Sl, t = ⟨sliceA l25.a (Int.toNat ((l25.cap : Int))) (Int.toNat 2) 1, Int.toNat ((l25.len : Int)) - Int.toNat 2, Int.toNat ((l25.cap : Int)) - Int.toNat 2⟩ := ⟨_, rfl⟩
    have H := H s39 e44
    refine sp 30 (Sl.v s39) rfl rfl (fun w => (r_slice (lo := (.some (.const (.int .i64 2)))) (hi := .none) (mx := .none) Tryz.underlying113 Tryz.sizeOf108 rfl ((l25.cap : Int)) ((l25.len : Int)) 2 rfl ⟨rfl, rfl⟩ ⟨_, rfl⟩ e40 e41 (.inl rfl) e43 w).trans (by rw [e44]; rfl)) ?_
    refine sp 0 (Sl.v s39) rfl rfl (r_assign rfl) ?_
    refine s_fin ?_
    exact WL_mk (l := [(0, (Sl.v s39)), (3, (Sl.v s38))]) H ⟨rfl, rfl, trivial⟩
   ·have H := H.2 g45
    refine W_exit (inX_here ?_)
    show W _ _ _ _ _ _ _ _
    refine W_seq ?_
    refine W_region (.pu 0 (.pu 1 .fin)) rfl rfl ?_
    refine sp 31 (Sl.v out26) rfl rfl (r_move rfl) ?_
    refine sp 2 (Sl.v out26) rfl rfl (r_assign rfl) ?_
    refine s_fin ?_
    refine W_ret ?_
    exact ⟨[(Sl.v out26)], ⟨_, _, rfl, rfl, rfl⟩, out26, rfl, H⟩
 ·rcases Bool.eq_false_or_eq_true (decide (4 < ((l2.len : Int)))) with g5 | g5
  ·refine s_sk (d := some 8) rfl rfl (wants_no rfl rfl rfl rfl g5) ?_
   refine s_sk (d := some 9) rfl rfl (wants_no rfl rfl rfl rfl g5) ?_
   refine s_sk (d := some 10) rfl rfl (wants_no rfl rfl rfl rfl g5) ?_
   refine sp 11 (.bool true) rfl rfl (r_pick1 rfl g5 rfl) ?_
   exact S_mk (l := [(0, (Sl.v l2)), (3, (Sl.v out3)), (11, (.bool ((decide (4 < ((l2.len : Int)))) || (decide (((l2.len : Int)) = 3)))))]) HJ ⟨rfl, rfl, (by rw [g5]; rfl), trivial⟩
  ·refine s_pu (d := some 8) (v := (Sl.v l2)) rfl rfl (wants_yes rfl rfl rfl rfl g5) (r_move rfl) ?_
   refine s_pu (d := some 9) (v := (.int .i64 ((l2.len : Int)))) rfl rfl (wants_yes rfl rfl rfl rfl g5) (r_len Tryz.underlying113 rfl) ?_
   refine s_pu (d := some 10) (v := (.bool (decide (((l2.len : Int)) = 3)))) rfl rfl (wants_yes rfl rfl rfl rfl g5) (r_eql rfl rfl) ?_
   refine sp 11 (.bool (decide (((l2.len : Int)) = 3))) rfl rfl (r_pick0 rfl g5 rfl) ?_
   exact S_mk (l := [(0, (Sl.v l2)), (3, (Sl.v out3)), (11, (.bool ((decide (4 < ((l2.len : Int)))) || (decide (((l2.len : Int)) = 3)))))]) HJ ⟨rfl, rfl, (by rw [g5]; rfl), trivial⟩
def slices_Concat_finger_thing_finger_thing_F (r : World) (slices1 : Sl) (h : Heap) (R : Sl → Heap → Prop) : Prop :=
 ∀ X4 : Int → Int → Heap → Prop, (∀ (size2 : Int) (x3 : Int) (h1 : Heap),
  (Br (decide (x3 < ((slices1.len : Int)))) (
   ∀ J6 : Int → Heap → Prop, (∀ (size5 : Int) (h2 : Heap),
    (X4 size5 (w64 (x3 + 1)) h2) →
    J6 size5 h2) →
   Ix slices1 x3 1 fun q12 =>
   LdS h1 q12 fun x14 =>
   Br (decide ((w64 (size2 + ((x14.len : Int)))) < 0)) (
    False) (
    J6 (w64 (size2 + ((x14.len : Int)))) h1)) (
   slices_Grow_finger_thing_finger_thing r Sl.nil size2 h1 fun y17 h3 =>
   ∀ X20 : Sl → Int → Heap → Prop, (∀ (newslice18 : Sl) (x19 : Int) (h4 : Heap),
    (Br (decide (x19 < ((slices1.len : Int)))) (
     Ix slices1 x19 1 fun q25 =>
     LdS h4 q25 fun x27 =>
     App 108 1 8 (.pointer none) newslice18 x27 h4 fun s29 h5 =>
     X20 s29 (w64 (x19 + 1)) h5) (
     R newslice18 h4)) →
    X20 newslice18 x19 h4) →
   X20 y17 0 h3)) →
  X4 size2 x3 h1) →
 X4 0 0 h
theorem slices_Concat_finger_thing_finger_thing_of {r : World} {slices1 : Sl} {h : Heap} {R : Sl → Heap → Prop} (H : slices_Concat_finger_thing_finger_thing_F r slices1 h R) : slices_Concat_finger_thing_finger_thing r slices1 h R := by
 unfold slices_Concat_finger_thing_finger_thing_F at H
 refine calls_of 36 [.tmp 2] Tryz.func104 rfl rfl rfl rfl rfl ?_
 refine W_seq ?_
 refine W_region (.pu 0 .fin) rfl rfl ?_
 refine sp 2 (Sl.v Sl.nil) rfl rfl (r_assign rfl) ?_
 refine s_fin ?_
 refine W_seq ?_
 refine W_region (.pu 0 .fin) rfl rfl ?_
 refine sp 3 (.int .i64 0) rfl rfl (r_assign rfl) ?_
 refine s_fin ?_
 refine W_seq ?_
 refine W_seq ?_
 refine W_region (.pu 0 (.pu 1 (.pu 2 .fin))) rfl rfl ?_
 refine sp 9 (Sl.v slices1) rfl rfl (r_move rfl) ?_
 refine sp 10 (.int .i64 ((slices1.len : Int))) rfl rfl (r_len Tryz.underlying173 rfl) ?_
 refine sp 11 (.int .i64 0) rfl rfl (r_move rfl) ?_
 refine s_fin ?_
 refine W_block ?_
 refine W_loop (WL_mk (l := [(0, (Sl.v slices1)), (3, (.int .i64 0)), (9, (Sl.v slices1)), (10, (.int .i64 ((slices1.len : Int)))), (11, (.int .i64 0))]) ?_ ⟨rfl, rfl, rfl, rfl, rfl, trivial⟩)
 refine H (fun (size2 : Int) (x3 : Int) (h1 : Heap) => ∀ b, WL _ _ _ _ _ _ (mkE [(0, (Sl.v slices1)), (3, (.int .i64 size2)), (9, (Sl.v slices1)), (10, (.int .i64 ((slices1.len : Int)))), (11, (.int .i64 x3))] b) h1) ?_
 intro size2 x3 h1 H b
 refine WL_round ?_
 refine W_seq ?_
 refine W_region (.pu 0 .fin) rfl rfl ?_
 refine sp 12 (.bool (decide (x3 < ((slices1.len : Int))))) rfl rfl (r_lss rfl rfl) ?_
 refine s_fin ?_
 refine W_seq ?_
 refine W_if (decide (x3 < ((slices1.len : Int)))) rfl (fun g31 => ?_) (fun g31 => ?_)
 ·have H := H.1 g31
  refine W_skip ?_
  show W _ _ _ _ _ _ _ _
  refine W_seq ?_
  refine W_set ?_
  intro N7 eN7
  have H := H (fun (size5 : Int) (h2 : Heap) => ∀ b, N7 [] (mkE [(0, (Sl.v slices1)), (3, (.int .i64 size5)), (9, (Sl.v slices1)), (10, (.int .i64 ((slices1.len : Int)))), (11, (.int .i64 x3))] b) h2) (by
   intro size5 h2 H b
   rw [eN7]
   show W _ _ _ _ _ _ _ _
   refine W_region (.pu 0 (.pu 1 .fin)) rfl rfl ?_
   refine sp 22 (.int .i64 (w64 (x3 + 1))) rfl rfl (r_add rfl rfl) ?_
   refine sp 11 (.int .i64 (w64 (x3 + 1))) rfl rfl (r_move rfl) ?_
   refine s_fin ?_
   exact WL_mk (l := [(0, (Sl.v slices1)), (3, (.int .i64 size5)), (9, (Sl.v slices1)), (10, (.int .i64 ((slices1.len : Int)))), (11, (.int .i64 (w64 (x3 + 1))))]) H ⟨rfl, rfl, rfl, rfl, rfl, trivial⟩)
  clear eN7
  refine W_block ?_
  refine W_seq ?_
  refine W_region (.pu 0 (.rl 1 (.pu 2 .fin))) rfl rfl ?_
  obtain ⟨p8, e9, e10, e11, H⟩ := H
  obtain ⟨q12, e13⟩ : ∃ q : Addr, q = Addr.add p8 (Int.toNat x3 * 1) := ⟨_, rfl⟩
  rw [← e13] at H
  refine sp 13 (.pointer (some q12)) rfl rfl (fun w => (r_indexAddr Tryz.underlying173 Tryz.sizeOf113 rfl rfl e9 e10 e11 w).trans (by rw [e13])) ?_
  obtain ⟨x14, e15, H⟩ := H
  refine sl 14 (Sl.v x14) rfl rfl (fun dr => r_load1 Tryz.isAgg113 rfl e15) ?_
  refine sp 5 (Sl.v x14) rfl rfl (r_assign rfl) ?_
  refine s_fin ?_
  refine W_seq ?_
  refine W_region (.pu 0 (.pu 1 (.pu 2 (.pu 3 (.pu 4 .fin))))) rfl rfl ?_
  refine sp 15 (.int .i64 size2) rfl rfl (r_move rfl) ?_
  refine sp 16 (Sl.v x14) rfl rfl (r_move rfl) ?_
  refine sp 17 (.int .i64 ((x14.len : Int))) rfl rfl (r_len Tryz.underlying113 rfl) ?_
  refine sp 18 (.int .i64 (w64 (size2 + ((x14.len : Int))))) rfl rfl (r_add rfl rfl) ?_
  refine sp 3 (.int .i64 (w64 (size2 + ((x14.len : Int))))) rfl rfl (r_assign rfl) ?_
  refine s_fin ?_
  refine W_seq ?_
  refine W_region (.pu 0 (.pu 1 .fin)) rfl rfl ?_
  refine sp 19 (.int .i64 (w64 (size2 + ((x14.len : Int))))) rfl rfl (r_move rfl) ?_
  refine sp 20 (.bool (decide ((w64 (size2 + ((x14.len : Int)))) < 0))) rfl rfl (r_lss rfl rfl) ?_
  refine s_fin ?_
  refine W_if (decide ((w64 (size2 + ((x14.len : Int)))) < 0)) rfl (fun g16 => ?_) (fun g16 => ?_)
  ·have H := H.1 g16
   refine W_region (.pu 0 (.ef 1 [] .fin .no)) rfl rfl ?_
   refine sp 21 ((.iface 9 (.string txtGFing1))) rfl rfl (r_iface Tryz.underlying9 rfl rfl) ?_
   exact H.elim
  ·have H := H.2 g16
   refine W_skip ?_
   exact N_mk (l := [(0, (Sl.v slices1)), (3, (.int .i64 (w64 (size2 + ((x14.len : Int)))))), (9, (Sl.v slices1)), (10, (.int .i64 ((slices1.len : Int)))), (11, (.int .i64 x3))]) H ⟨rfl, rfl, rfl, rfl, rfl, trivial⟩
 ·have H := H.2 g31
  refine W_exit (inX_here ?_)
  show W _ _ _ _ _ _ _ _
  refine W_seq ?_
  refine W_region (.pu 0 (.ef 1 [] (.pu 2 .fin) .no)) rfl rfl ?_
  refine sp 23 (.int .i64 size2) rfl rfl (r_move rfl) ?_
  refine sc 24 rfl rfl (fun dr => r_call Tryz.call126 rfl rfl H) ?_
  rintro _ h3 ⟨y17, rfl, H⟩
  refine sp 6 (Sl.v y17) rfl rfl (r_assign rfl) ?_
  refine s_fin ?_
  refine W_seq ?_
  refine W_seq ?_
  refine W_region (.pu 0 (.pu 1 (.pu 2 .fin))) rfl rfl ?_
  refine sp 25 (Sl.v slices1) rfl rfl (r_move rfl) ?_
  refine sp 26 (.int .i64 ((slices1.len : Int))) rfl rfl (r_len Tryz.underlying173 rfl) ?_
  refine sp 27 (.int .i64 0) rfl rfl (r_move rfl) ?_
  refine s_fin ?_
  refine W_block ?_
  refine W_loop (WL_mk (l := [(6, (Sl.v y17)), (25, (Sl.v slices1)), (26, (.int .i64 ((slices1.len : Int)))), (27, (.int .i64 0))]) ?_ ⟨rfl, rfl, rfl, rfl, trivial⟩)
  refine H (fun (newslice18 : Sl) (x19 : Int) (h4 : Heap) => ∀ b, WL _ _ _ _ _ _ (mkE [(6, (Sl.v newslice18)), (25, (Sl.v slices1)), (26, (.int .i64 ((slices1.len : Int)))), (27, (.int .i64 x19))] b) h4) ?_
  intro newslice18 x19 h4 H b
  refine WL_round ?_
  refine W_seq ?_
  refine W_region (.pu 0 .fin) rfl rfl ?_
  refine sp 28 (.bool (decide (x19 < ((slices1.len : Int))))) rfl rfl (r_lss rfl rfl) ?_
  refine s_fin ?_
  refine W_seq ?_
  refine W_if (decide (x19 < ((slices1.len : Int)))) rfl (fun g30 => ?_) (fun g30 => ?_)
  ·have H := H.1 g30
   refine W_skip ?_
   show W _ _ _ _ _ _ _ _
   refine W_seq ?_
   refine W_block ?_
   refine W_seq ?_
   refine W_region (.pu 0 (.rl 1 (.pu 2 .fin))) rfl rfl ?_
   obtain ⟨p21, e22, e23, e24, H⟩ := H
   obtain ⟨q25, e26⟩ : ∃ q : Addr, q = Addr.add p21 (Int.toNat x19 * 1) := ⟨_, rfl⟩
   rw [← e26] at H
   refine sp 29 (.pointer (some q25)) rfl rfl (fun w => (r_indexAddr Tryz.underlying173 Tryz.sizeOf113 rfl rfl e22 e23 e24 w).trans (by rw [e26])) ?_
   obtain ⟨x27, e28, H⟩ := H
   refine sl 30 (Sl.v x27) rfl rfl (fun dr => r_load1 Tryz.isAgg113 rfl e28) ?_
   refine sp 8 (Sl.v x27) rfl rfl (r_assign rfl) ?_
   refine s_fin ?_
   refine W_region (.pu 0 (.pu 1 (.ef 2 [] (.pu 3 .fin) .no))) rfl rfl ?_
   refine sp 31 (Sl.v newslice18) rfl rfl (r_move rfl) ?_
   refine sp 32 (Sl.v x27) rfl rfl (r_move rfl) ?_
   refine s_ef (d := some 33) rfl rfl rfl (fun dr => slFGFing_113.append rfl rfl H) ?_ trivial
   rintro _ h5 ⟨s29, rfl, H⟩
   refine ⟨trivial, ?_⟩
   refine sp 6 (Sl.v s29) rfl rfl (r_assign rfl) ?_
   refine s_fin ?_
   refine W_region (.pu 0 (.pu 1 .fin)) rfl rfl ?_
   refine sp 34 (.int .i64 (w64 (x19 + 1))) rfl rfl (r_add rfl rfl) ?_
   refine sp 27 (.int .i64 (w64 (x19 + 1))) rfl rfl (r_move rfl) ?_
   refine s_fin ?_
   exact WL_mk (l := [(6, (Sl.v s29)), (25, (Sl.v slices1)), (26, (.int .i64 ((slices1.len : Int)))), (27, (.int .i64 (w64 (x19 + 1))))]) H ⟨rfl, rfl, rfl, rfl, trivial⟩
  ·have H := H.2 g30
   refine W_exit (inX_here ?_)
   show W _ _ _ _ _ _ _ _
   refine W_seq ?_
   refine W_region (.pu 0 (.pu 1 .fin)) rfl rfl ?_
   refine sp 35 (Sl.v newslice18) rfl rfl (r_move rfl) ?_
   refine sp 2 (Sl.v newslice18) rfl rfl (r_assign rfl) ?_
   refine s_fin ?_
   refine W_ret ?_
   exact ⟨[(Sl.v newslice18)], ⟨_, _, rfl, rfl, rfl⟩, newslice18, rfl, H⟩
def slices_Grow_finger_thing_finger_thing_F (r : World) (s1 : Sl) (n2 : Int) (h : Heap) (R : Sl → Heap → Prop) : Prop :=
 ∀ J3 : Heap → Prop, (∀ (h1 : Heap),
  (∀ x5 : Int, x5 = (w64 (n2 - (w64 (((s1.cap : Int)) - ((s1.len : Int)))))) →
  ∀ J8 : Sl → Heap → Prop, (∀ (s7 : Sl) (h2 : Heap),
   (R s7 h2) →
   J8 s7 h2) →
  Br (decide (0 < x5)) (
   Sub s1 0 ((s1.cap : Int)) ((s1.cap : Int)) 1 fun s10 =>
   AppZ 108 1 8 (.pointer none) s10 x5 h1 fun s16 h3 =>
   Sub s16 0 ((s1.len : Int)) ((s16.cap : Int)) 1 fun s17 =>
   J8 s17 h3) (
   J8 s1 h1)) →
  J3 h1) →
 Br (decide (n2 < 0)) (
  False) (
  J3 h)
theorem slices_Grow_finger_thing_finger_thing_of {r : World} {s1 : Sl} {n2 : Int} {h : Heap} {R : Sl → Heap → Prop} (H : slices_Grow_finger_thing_finger_thing_F r s1 n2 h R) : slices_Grow_finger_thing_finger_thing r s1 n2 h R := by
 unfold slices_Grow_finger_thing_finger_thing_F at H
 refine calls_of 27 [.tmp 4] Tryz.func126 rfl rfl rfl rfl rfl ?_
 refine W_seq ?_
 refine W_region (.pu 0 .fin) rfl rfl ?_
 refine sp 4 (Sl.v Sl.nil) rfl rfl (r_assign rfl) ?_
 refine s_fin ?_
 refine W_seq ?_
 refine W_seq ?_
 refine W_region (.pu 0 (.pu 1 .fin)) rfl rfl ?_
 refine sp 5 (.int .i64 n2) rfl rfl (r_move rfl) ?_
 refine sp 6 (.bool (decide (n2 < 0))) rfl rfl (r_lss rfl rfl) ?_
 refine s_fin ?_
 refine W_set ?_
 intro N4 eN4
 have H := H (fun (h1 : Heap) => ∀ b, N4 [] (mkE [(0, (Sl.v s1)), (1, (.int .i64 n2))] b) h1) (by
  intro h1 H b
  rw [eN4]
  show W _ _ _ _ _ _ _ _
  refine W_seq ?_
  refine W_seq ?_
  refine W_region (.pu 0 (.pu 1 (.pu 2 (.pu 3 (.pu 4 (.pu 5 (.pu 6 (.pu 7 .fin)))))))) rfl rfl ?_
  refine sp 8 (.int .i64 n2) rfl rfl (r_move rfl) ?_
  refine sp 9 (Sl.v s1) rfl rfl (r_move rfl) ?_
  refine sp 10 (.int .i64 ((s1.cap : Int))) rfl rfl (r_cap Tryz.underlying113 rfl) ?_
  refine sp 11 (Sl.v s1) rfl rfl (r_move rfl) ?_
  refine sp 12 (.int .i64 ((s1.len : Int))) rfl rfl (r_len Tryz.underlying113 rfl) ?_
  refine sp 13 (.int .i64 (w64 (((s1.cap : Int)) - ((s1.len : Int))))) rfl rfl (r_sub rfl rfl) ?_
  refine sp 14 (.int .i64 (w64 (n2 - (w64 (((s1.cap : Int)) - ((s1.len : Int))))))) rfl rfl (r_sub rfl rfl) ?_
  obtain ⟨x5, e6⟩ : ∃ x : Int, x = (w64 (n2 - (w64 (((s1.cap : Int)) - ((s1.len : Int)))))) := ⟨_, rfl⟩
  have H := H x5 e6
  refine sp 1 (.int .i64 x5) rfl rfl (r_assign (congrArg (Value.int .i64) e6.symm)) ?_
  refine s_fin ?_
  refine W_seq ?_
  refine W_region (.pu 0 (.pu 1 .fin)) rfl rfl ?_
  refine sp 15 (.int .i64 x5) rfl rfl (r_move rfl) ?_
  refine sp 16 (.bool (decide (0 < x5))) rfl rfl (r_gtr rfl rfl) ?_
  refine s_fin ?_
  refine W_set ?_
  intro N9 eN9
  have H := H (fun (s7 : Sl) (h2 : Heap) => ∀ b, N9 [] (mkE [(0, (Sl.v s7))] b) h2) (by
   intro s7 h2 H b
   rw [eN9]
   show W _ _ _ _ _ _ _ _
   refine W_seq ?_
   refine W_region (.pu 0 (.pu 1 .fin)) rfl rfl ?_
   refine sp 26 (Sl.v s7) rfl rfl (r_move rfl) ?_
   refine sp 4 (Sl.v s7) rfl rfl (r_assign rfl) ?_
   refine s_fin ?_
   refine W_ret ?_
   exact ⟨[(Sl.v s7)], ⟨_, _, rfl, rfl, rfl⟩, s7, rfl, H⟩)
  clear eN9
  refine W_if (decide (0 < x5)) rfl (fun g23 => ?_) (fun g23 => ?_)
  ·have H := H.1 g23
   refine W_region (.pu 0 (.pu 1 (.pu 2 (.pu 3 (.pu 4 (.ef 5 [] (.pu 6 (.pu 7 (.pu 8 (.pu 9 .fin)))) .no)))))) rfl rfl ?_
   refine sp 17 (Sl.v s1) rfl rfl (r_move rfl) ?_
   refine sp 18 (Sl.v s1) rfl rfl (r_move rfl) ?_
   refine sp 19 (.int .i64 ((s1.cap : Int))) rfl rfl (r_cap Tryz.underlying113 rfl) ?_
   obtain ⟨e11, e12, e13, e14, H⟩ := H
   obtain ⟨s10, e15⟩ : ∃ t : Sl, t = ⟨sliceA s1.a (Int.toNat ((s1.cap : Int))) (Int.toNat 0) 1, Int.toNat ((s1.cap : Int)) - Int.toNat 0, Int.toNat ((s1.cap : Int)) - Int.toNat 0⟩ := ⟨_, rfl⟩
   have H := H s10 e15
   refine sp 20 (Sl.v s10) rfl rfl (fun w => (r_slice (lo := .none) (hi := (.some (.tmp 19))) (mx := .none) Tryz.underlying113 Tryz.sizeOf108 rfl ((s1.cap : Int)) ((s1.cap : Int)) 0 rfl ⟨_, rfl⟩ rfl e11 e12 (.inr e13) e14 w).trans (by rw [e15]; rfl)) ?_
   refine sp 21 (.int .i64 x5) rfl rfl (r_move rfl) ?_
   refine s_ef (d := some 22) rfl rfl rfl (fun dr => slFGFing_113.appendZ rfl Tryz.underlying3 rfl rfl H) ?_ trivial
   rintro _ h3 ⟨s16, rfl, H⟩
   refine ⟨trivial, ?_⟩
   refine sp 23 (Sl.v s1) rfl rfl (r_move rfl) ?_
   refine sp 24 (.int .i64 ((s1.len : Int))) rfl rfl (r_len Tryz.underlying113 rfl) ?_
   obtain ⟨e18, e19, e20, e21, H⟩ := H
   obtain ⟨s17, e22⟩ : ∃ t : Sl, t = ⟨sliceA s16.a (Int.toNat ((s16.cap : Int))) (Int.toNat 0) 1, Int.toNat ((s1.len : Int)) - Int.toNat 0, Int.toNat ((s16.cap : Int)) - Int.toNat 0⟩ := ⟨_, rfl⟩
   have H := H s17 e22
   refine sp 25 (Sl.v s17) rfl rfl (fun w => (r_slice (lo := .none) (hi := (.some (.tmp 24))) (mx := .none) Tryz.underlying113 Tryz.sizeOf108 rfl ((s16.cap : Int)) ((s1.len : Int)) 0 rfl ⟨_, rfl⟩ rfl e18 e19 (.inr e20) e21 w).trans (by rw [e22]; rfl)) ?_
   refine sp 0 (Sl.v s17) rfl rfl (r_assign rfl) ?_
   refine s_fin ?_
   exact N_mk (l := [(0, (Sl.v s17))]) H ⟨rfl, trivial⟩
  ·have H := H.2 g23
   refine W_skip ?_
   exact N_mk (l := [(0, (Sl.v s1))]) H ⟨rfl, trivial⟩)
 clear eN4
 refine W_if (decide (n2 < 0)) rfl (fun g24 => ?_) (fun g24 => ?_)
 ·have H := H.1 g24
  refine W_region (.pu 0 (.ef 1 [] .fin .no)) rfl rfl ?_
  refine sp 7 ((.iface 9 (.string txtGFing2))) rfl rfl (r_iface Tryz.underlying9 rfl rfl) ?_
  exact H.elim
 ·have H := H.2 g24
  refine W_skip ?_
  exact N_mk (l := [(0, (Sl.v s1)), (1, (.int .i64 n2))]) H ⟨rfl, rfl, trivial⟩
def slices_Backward_finger_thing_finger_thing_F (r : World) (s1 : Sl) (h : Heap) (R : Value → Heap → Prop) : Prop :=
 New h (.cells #[(Sl.v s1)] 113) fun p2 h1 =>
 R ((.func (.func 125) #[] #[(.pointer (some p2))])) h1
theorem slices_Backward_finger_thing_finger_thing_of {r : World} {s1 : Sl} {h : Heap} {R : Value → Heap → Prop} (H : slices_Backward_finger_thing_finger_thing_F r s1 h R) : slices_Backward_finger_thing_finger_thing r s1 h R := by
 unfold slices_Backward_finger_thing_finger_thing_F at H
 refine calls_of 4 [.tmp 2] Tryz.func102 rfl rfl rfl rfl rfl ?_
 refine W_seq ?_
 refine W_region (.ef 0 [] (.pu 1 .fin) .no) rfl rfl ?_
 obtain ⟨p2, e3⟩ : ∃ p : Addr, p = ⟨h.size, 0, none⟩ := ⟨_, rfl⟩
 obtain ⟨h1, e4⟩ : ∃ hh : Heap, hh = h.push (.cells #[(Sl.v s1)] 113) := ⟨_, rfl⟩
 have H := H p2 h1 e3 e4
 refine s_ef1 (d := some 1) (v := (.pointer (some p2))) (h' := h1) rfl rfl rfl (fun dr => (r_box (v := (Sl.v s1)) rfl).trans (by rw [e3, e4]; rfl)) trivial ?_ trivial
 refine sp 2 .nilFunc rfl rfl (r_assign rfl) ?_
 refine s_fin ?_
 refine W_seq ?_
 refine W_region (.pu 0 (.pu 1 .fin)) rfl rfl ?_
 refine sp 3 ((.func (.func 125) #[] #[(.pointer (some p2))])) rfl rfl (r_makeFunc rfl rfl) ?_
 refine sp 2 ((.func (.func 125) #[] #[(.pointer (some p2))])) rfl rfl (r_assign rfl) ?_
 refine s_fin ?_
 refine W_ret ?_
 exact ⟨[((.func (.func 125) #[] #[(.pointer (some p2))]))], ⟨_, _, rfl, rfl, rfl⟩, H⟩
def slices_Backward_finger_thing_finger_thing_1_F (r : World) (yield1 : Value) (c2 : Addr) (h : Heap) (R : Heap → Prop) : Prop :=
 LdS h c2 fun x3 =>
 ∀ X6 : Int → Heap → Prop, (∀ (i5 : Int) (h1 : Heap),
  (Br (decide (0 ≤ i5)) (
   LdS h1 c2 fun x7 =>
   Ix x7 i5 1 fun q13 =>
   LdP h1 q13 fun x15 =>
   CallV Tryz.prog r yield1 [(.int .i64 i5), (.pointer x15)] h1 fun v19 h2 => ∃ (y17 : Bool), v19 = (.bool y17) ∧
   Br (!y17) (
    R h2) (
    X6 (w64 (i5 - 1)) h2)) (
   R h1)) →
  X6 i5 h1) →
 X6 (w64 (((x3.len : Int)) - 1)) h
theorem slices_Backward_finger_thing_finger_thing_1_of {r : World} {yield1 : Value} {c2 : Addr} {h : Heap} {R : Heap → Prop} (H : slices_Backward_finger_thing_finger_thing_1_F r yield1 c2 h R) : slices_Backward_finger_thing_finger_thing_1 r yield1 c2 h R := by
 unfold slices_Backward_finger_thing_finger_thing_1_F at H
 refine calls_of 19 [] Tryz.func125 rfl rfl rfl rfl rfl ?_
 refine W_seq ?_
 refine W_region (.rl 0 (.pu 1 (.pu 2 (.pu 3 .fin)))) rfl rfl ?_
 obtain ⟨x3, e4, H⟩ := H
 refine sl 4 (Sl.v x3) rfl rfl (fun dr => r_load1 Tryz.isAgg113 rfl e4) ?_
 refine sp 5 (.int .i64 ((x3.len : Int))) rfl rfl (r_len Tryz.underlying113 rfl) ?_
 refine sp 6 (.int .i64 (w64 (((x3.len : Int)) - 1))) rfl rfl (r_sub rfl rfl) ?_
 refine sp 3 (.int .i64 (w64 (((x3.len : Int)) - 1))) rfl rfl (r_assign rfl) ?_
 refine s_fin ?_
 refine W_block ?_
 refine W_loop (WL_mk (l := [(0, yield1), (1, (.pointer (some c2))), (3, (.int .i64 (w64 (((x3.len : Int)) - 1))))]) ?_ ⟨rfl, rfl, rfl, trivial⟩)
 refine H (fun (i5 : Int) (h1 : Heap) => ∀ b, WL _ _ _ _ _ _ (mkE [(0, yield1), (1, (.pointer (some c2))), (3, (.int .i64 i5))] b) h1) ?_
 intro i5 h1 H b
 refine WL_round ?_
 refine W_seq ?_
 refine W_seq ?_
 refine W_region (.pu 0 (.pu 1 .fin)) rfl rfl ?_
 refine sp 7 (.int .i64 i5) rfl rfl (r_move rfl) ?_
 refine sp 8 (.bool (decide (0 ≤ i5))) rfl rfl (r_geq rfl rfl) ?_
 refine s_fin ?_
 refine W_if (decide (0 ≤ i5)) rfl (fun g20 => ?_) (fun g20 => ?_)
 ·have H := H.1 g20
  refine W_skip ?_
  show W _ _ _ _ _ _ _ _
  refine W_seq ?_
  refine W_block ?_
  refine W_seq ?_
  refine W_region (.pu 0 (.pu 1 (.rl 2 (.pu 3 (.pu 4 (.rl 5 (.ef 6 [] (.pu 7 .fin) .no))))))) rfl rfl ?_
  refine sp 11 yield1 rfl rfl (r_move rfl) ?_
  refine sp 12 (.int .i64 i5) rfl rfl (r_move rfl) ?_
  obtain ⟨x7, e8, H⟩ := H
  refine sl 13 (Sl.v x7) rfl rfl (fun dr => r_load1 Tryz.isAgg113 rfl e8) ?_
  refine sp 14 (.int .i64 i5) rfl rfl (r_move rfl) ?_
  obtain ⟨p9, e10, e11, e12, H⟩ := H
  obtain ⟨q13, e14⟩ : ∃ q : Addr, q = Addr.add p9 (Int.toNat i5 * 1) := ⟨_, rfl⟩
  rw [← e14] at H
  refine sp 15 (.pointer (some q13)) rfl rfl (fun w => (r_indexAddr Tryz.underlying113 Tryz.sizeOf108 rfl rfl e10 e11 e12 w).trans (by rw [e14])) ?_
  obtain ⟨x15, e16, H⟩ := H
  refine sl 16 (.pointer x15) rfl rfl (fun dr => r_load1 Tryz.isAgg108 rfl e16) ?_
  refine s_ef (d := some 17) rfl rfl rfl (fun dr => r_callV rfl rfl H) ?_ trivial
  rintro _ h2 ⟨y17, rfl, H⟩
  refine ⟨trivial, ?_⟩
  refine sp 18 (.bool (!y17)) rfl rfl (r_not rfl) ?_
  refine s_fin ?_
  refine W_if (!y17) rfl (fun g18 => ?_) (fun g18 => ?_)
  ·have H := H.1 g18
   refine W_ret ?_
   exact ⟨[], rfl, rfl, H⟩
  ·have H := H.2 g18
   refine W_skip ?_
   show W _ _ _ _ _ _ _ _
   refine W_region (.pu 0 (.pu 1 (.pu 2 .fin))) rfl rfl ?_
   refine sp 9 (.int .i64 i5) rfl rfl (r_move rfl) ?_
   refine sp 10 (.int .i64 (w64 (i5 - 1))) rfl rfl (r_sub rfl rfl) ?_
   refine sp 3 (.int .i64 (w64 (i5 - 1))) rfl rfl (r_assign rfl) ?_
   refine s_fin ?_
   exact WL_mk (l := [(0, yield1), (1, (.pointer (some c2))), (3, (.int .i64 (w64 (i5 - 1))))]) H ⟨rfl, rfl, rfl, trivial⟩
 ·have H := H.2 g20
  refine W_exit (inX_here ?_)
  exact ⟨[], rfl, rfl, H⟩
def finger_joined_F (r : World) (a1 : Option Addr) (l2 : Sl) (vb3 : Option Addr) (h : Heap) (R : Option Addr → Heap → Prop) : Prop :=
 New h (.cells #[(.pointer vb3)] 37) fun p4 h1 =>
 ∀ J8 : Bool → Prop, (∀ (x7 : Bool),
  (Br x7 (
   ∀ J11 : Sl → Heap → Prop, (∀ (l10 : Sl) (h2 : Heap),
    (slices_Backward_finger_thing_finger_thing r l10 h2 fun y13 h3 =>
    ∀ (D14 : Nat) (o15 : Obj) (h4 : Heap), D14 = Array.size h3 → h4 = (h3.push (.deferred (some []))).push o15 → notCells o15 = true →
     (∀ (a24 : Int) (a25 : Option Addr) (h5 : Heap) (K16 : Value → Heap → Prop), (h5[D14 + 1]? = some o15) →
      (∀ h8 : Heap, h8 = hput h5 (D14 + 1) (busyO o15) →
       LdP h8 p4 fun x26 =>
       finger_pushLeft r a25 x26 h8 fun y28 h9 =>
       St h9 p4 1 [(.pointer y28)] fun h10 =>
       (h10[D14 + 1]? = some (busyO o15)) ∧ K16 (.bool true) (hput h10 (D14 + 1) o15)) →
      YieldH Tryz.prog r (D14 + 1) [(.int .i64 a24), (.pointer a25)] h5 K16) →
    CallF Tryz.prog r y13 [.func (.yield (D14 + 1)) #[] #[]] h4 fun _ h6 => (h6[D14 + 1]? = some o15) ∧ ∀ (o23 : Obj) (h7 : Heap), h7 = hput h6 (D14 + 1) o23 →
    LdP h7 p4 fun x31 =>
    (h7[D14]? = some (.deferred (some []))) ∧ ∀ h11 : Heap, h11 = hput h7 D14 (.deferred none) →
    R x31 h11) →
    J11 l10 h2) →
   Br (!(Option.isNone a1)) (
    Ck a1 fun p35 =>
    LdS h1 (Addr.add p35 5) fun x37 =>
    Ix x37 0 1 fun q43 =>
    LdP h1 q43 fun x45 =>
    New h1 (.cells #[(.pointer x45)] 108) fun p47 h12 =>
    App 108 1 8 (.pointer none) ((⟨some p47, 1, 1⟩ : Sl)) l2 h12 fun s50 h13 =>
    J11 s50 h13) (
    J11 l2 h1)) (
   ∀ J53 : Bool → Prop, (∀ (x52 : Bool),
    (Br x52 (
     LdP h1 p4 fun x55 =>
     ∀ J58 : Sl → Heap → Prop, (∀ (l57 : Sl) (h14 : Heap),
      (∀ X62 : Option Addr → Int → Heap → Prop, (∀ (a60 : Option Addr) (x61 : Int) (h15 : Heap),
       (Br (decide (x61 < ((l57.len : Int)))) (
        Ix l57 x61 1 fun q67 =>
        LdP h15 q67 fun x69 =>
        finger_pushRight r a60 x69 h15 fun y71 h16 =>
        X62 y71 (w64 (x61 + 1)) h16) (
        R a60 h15)) →
       X62 a60 x61 h15) →
      X62 a1 0 h14) →
      J58 l57 h14) →
     Br (!(Option.isNone x55)) (
      LdP h1 p4 fun x73 =>
      Ck x73 fun p75 =>
      LdS h1 (Addr.add p75 5) fun x77 =>
      Ix x77 0 1 fun q83 =>
      LdP h1 q83 fun x85 =>
      (slices_Clone_finger_thing_finger_thing r l2 h1 fun y87 h17 =>
      (hcell h17 q83 = some (.pointer x85)) ∧
      (hcell h17 (Addr.add p75 5) = some (Sl.v x77)) ∧
      (hcell h17 p4 = some (.pointer x73)) ∧
      New h17 (.cells #[(.pointer x85)] 108) fun p91 h18 =>
      App 108 1 8 (.pointer none) y87 ((⟨some p91, 1, 1⟩ : Sl)) h18 fun s94 h19 =>
      J58 s94 h19) ∧
      (New h1 (.cells #[(.pointer x85)] 108) fun p95 h20 =>
      slices_Clone_finger_thing_finger_thing r l2 h20 fun y98 h21 =>
      (hcell h21 q83 = some (.pointer x85)) ∧
      (hcell h21 (Addr.add p75 5) = some (Sl.v x77)) ∧
      (hcell h21 p4 = some (.pointer x73)) ∧
      App 108 1 8 (.pointer none) y98 ((⟨some p95, 1, 1⟩ : Sl)) h21 fun s102 h22 =>
      J58 s102 h22)) (
      J58 l2 h1)) (
     Ck a1 fun p104 =>
     LdS h1 (Addr.add p104 5) fun x106 =>
     Ck a1 fun p108 =>
     LdP h1 (Addr.add p108 7) fun x110 =>
     Ck a1 fun p112 =>
     LdS h1 (Addr.add p112 6) fun x114 =>
     LdP h1 p4 fun x116 =>
     Ck x116 fun p118 =>
     LdS h1 (Addr.add p118 5) fun x120 =>
     LdP h1 p4 fun x122 =>
     Ck x122 fun p124 =>
     LdP h1 (Addr.add p124 7) fun x126 =>
     LdP h1 p4 fun x128 =>
     Ck x128 fun p130 =>
     LdS h1 (Addr.add p130 6) fun x132 =>
     New h1 (.cells #[(Sl.v x114), (Sl.v l2), (Sl.v x120)] 113) fun p134 h23 =>
     (hcell h23 (Addr.add p130 6) = some (Sl.v x132)) ∧
     (hcell h23 p4 = some (.pointer x128)) ∧
     (hcell h23 (Addr.add p124 7) = some (.pointer x126)) ∧
     (hcell h23 p4 = some (.pointer x122)) ∧
     (hcell h23 (Addr.add p108 7) = some (.pointer x110)) ∧
     (hcell h23 (Addr.add p104 5) = some (Sl.v x106)) ∧
     slices_Concat_finger_thing_finger_thing r ((⟨some p134, 3, 3⟩ : Sl)) h23 fun y143 h24 =>
     (hcell h24 (Addr.add p130 6) = some (Sl.v x132)) ∧
     (hcell h24 p4 = some (.pointer x128)) ∧
     (hcell h24 (Addr.add p124 7) = some (.pointer x126)) ∧
     (hcell h24 p4 = some (.pointer x122)) ∧
     (hcell h24 (Addr.add p108 7) = some (.pointer x110)) ∧
     (hcell h24 (Addr.add p104 5) = some (Sl.v x106)) ∧
     finger_groups r y143 h24 fun y150 h25 =>
     (hcell h25 (Addr.add p130 6) = some (Sl.v x132)) ∧
     (hcell h25 p4 = some (.pointer x128)) ∧
     (hcell h25 (Addr.add p124 7) = some (.pointer x126)) ∧
     (hcell h25 p4 = some (.pointer x122)) ∧
     (hcell h25 (Addr.add p108 7) = some (.pointer x110)) ∧
     (hcell h25 (Addr.add p104 5) = some (Sl.v x106)) ∧
     finger_joined r x110 y150 x126 h25 fun y157 h26 =>
     (hcell h26 (Addr.add p130 6) = some (Sl.v x132)) ∧
     (hcell h26 p4 = some (.pointer x128)) ∧
     (hcell h26 (Addr.add p104 5) = some (Sl.v x106)) ∧
     finger_deep r x106 y157 x132 h26 fun y161 h27 =>
     R y161 h27)) →
    J53 x52) →
   LdP h1 p4 fun x163 =>
   Br (Option.isNone x163) (
    J53 true) (
    LdP h1 p4 fun x166 =>
    Ck x166 fun p168 =>
    LdS h1 (Addr.add p168 6) fun x170 =>
    J53 (Option.isNone x170.a)))) →
  J8 x7) →
 Br (Option.isNone a1) (
  J8 true) (
  Ck a1 fun p174 =>
  LdS h1 (Addr.add p174 6) fun x176 =>
  J8 (Option.isNone x176.a))
theorem finger_joined_of {r : World} {a1 : Option Addr} {l2 : Sl} {vb3 : Option Addr} {h : Heap} {R : Option Addr → Heap → Prop} (H : finger_joined_F r a1 l2 vb3 h R) : finger_joined r a1 l2 vb3 h R := by
 unfold finger_joined_F at H
 refine calls_of 103 [.tmp 6] Tryz.func70 rfl rfl rfl rfl rfl ?_
 refine W_seq ?_
 refine W_region (.ef 0 [] (.pu 1 .fin) .no) rfl rfl ?_
 obtain ⟨p4, e5⟩ : ∃ p : Addr, p = ⟨h.size, 0, none⟩ := ⟨_, rfl⟩
 obtain ⟨h1, e6⟩ : ∃ hh : Heap, hh = h.push (.cells #[(.pointer vb3)] 37) := ⟨_, rfl⟩
 have H := H p4 h1 e5 e6
 refine s_ef1 (d := some 5) (v := (.pointer (some p4))) (h' := h1) rfl rfl rfl (fun dr => (r_box (v := (.pointer vb3)) rfl).trans (by rw [e5, e6]; rfl)) trivial ?_ trivial
 refine sp 6 (.pointer none) rfl rfl (r_assign rfl) ?_
 refine s_fin ?_
 refine W_seq ?_
 refine W_block ?_
 refine W_seq ?_
 refine W_set ?_
 intro N9 eN9
 have H := H (fun (x7 : Bool) => ∀ b, N9 [] (mkE [(0, (.pointer a1)), (1, (Sl.v l2)), (5, (.pointer (some p4))), (11, (.bool x7))] b) h1) (by
  intro x7 H b
  rw [eN9]
  show W _ _ _ _ _ _ _ _
  refine W_if x7 rfl (fun g172 => ?_) (fun g172 => ?_)
  ·have H := H.1 g172
   refine W_seq ?_
   refine W_seq ?_
   refine W_region (.pu 0 (.pu 1 .fin)) rfl rfl ?_
   refine sp 21 (.pointer a1) rfl rfl (r_move rfl) ?_
   refine sp 22 (.bool (!(Option.isNone a1))) rfl rfl (r_notNilP Tryz.underlying37 rfl rfl) ?_
   refine s_fin ?_
   refine W_set ?_
   intro N12 eN12
   have H := H (fun (l10 : Sl) (h2 : Heap) => ∀ b, N12 [] (mkE [(1, (Sl.v l10)), (5, (.pointer (some p4)))] b) h2) (by
    intro l10 h2 H b
    rw [eN12]
    show W _ _ _ _ _ _ _ _
    refine W_seq ?_
    refine W_seq ?_
    refine W_region (.pu 0 (.ef 1 [] .fin .no)) rfl rfl ?_
    refine sp 32 (Sl.v l10) rfl rfl (r_move rfl) ?_
    refine sc 33 rfl rfl (fun dr => r_call Tryz.call102 rfl rfl H) ?_
    rintro y13 h3 H
    refine s_fin ?_
    refine W_block ?_
    refine W_rangeFunc rfl (fun fn o15 e17 => ?_)
    obtain ⟨D14, e18⟩ : ∃ D : Nat, D = Array.size h3 := ⟨_, rfl⟩
    rw [← e18] at e17 ⊢
    obtain ⟨h4, e19⟩ : ∃ hh : Heap, hh = (h3.push (.deferred (some []))).push o15 := ⟨_, rfl⟩
    rw [← e19]
    have H := H D14 o15 h4 e18 e19 (by rw [e17]; rfl) (by
     intro a24 a25 h5 K16 e22 H
     refine round_of e17 e22 rfl ?_
     refine W_region (.pu 0 .fin) rfl rfl ?_
     refine sp 8 (.pointer a25) rfl rfl (r_assign rfl) ?_
     refine s_fin ?_
     refine ⟨rfl, ?_⟩
     obtain ⟨h8, e20⟩ : ∃ hh : Heap, hh = hput h5 (D14 + 1) (busyO o15) := ⟨_, rfl⟩
     rw [← e20]
     have H := H h8 e20
     refine W_block ?_
     refine W_region (.pu 0 (.rl 1 (.ef 2 [] (.ef 3 [] .fin .no) .no))) rfl rfl ?_
     refine sp 36 (.pointer a25) rfl rfl (r_move rfl) ?_
     obtain ⟨x26, e27, H⟩ := H
     refine sl 37 (.pointer x26) rfl rfl (fun dr => r_load1 Tryz.isAgg37 rfl e27) ?_
     refine sc 38 rfl rfl (fun dr => r_call Tryz.call96 rfl rfl H) ?_
     rintro _ h9 ⟨y28, rfl, H⟩
     obtain ⟨e30, H⟩ := H
     obtain ⟨h10, e29⟩ : ∃ hh : Heap, hh = hsets h9 p4 0 [(.pointer y28)] := ⟨_, rfl⟩
     have H := H h10 e29
     refine s_st (d := none) (h' := h10) rfl rfl rfl (fun dr => (r_store (v := (.pointer y28)) Tryz.sizeOf37 rfl rfl rfl (one_all rfl) e30).trans (by rw [e29]; rfl)) trivial ?_ trivial
     refine s_fin ?_
     exact H)
    refine CallF.mono H (fun _ h6 hx => ?_)
    obtain ⟨e22, H⟩ := hx
    refine ⟨e22, fun o23 => ?_⟩
    obtain ⟨h7, e21⟩ : ∃ hh : Heap, hh = hput h6 (D14 + 1) o23 := ⟨_, rfl⟩
    rw [← e21]
    have H := H o23 h7 e21
    show W _ _ _ _ _ _ _ _
    refine W_seq ?_
    refine W_region (.rl 0 (.pu 1 .fin)) rfl rfl ?_
    obtain ⟨x31, e32, H⟩ := H
    refine sl 39 (.pointer x31) rfl rfl (fun dr => r_load1 Tryz.isAgg37 rfl e32) ?_
    refine sp 6 (.pointer x31) rfl rfl (r_assign rfl) ?_
    refine s_fin ?_
    refine W_ret ?_
    obtain ⟨e34, H⟩ := H
    obtain ⟨h11, e33⟩ : ∃ hh : Heap, hh = hput h7 D14 (.deferred none) := ⟨_, rfl⟩
    have H := H h11 e33
    refine ⟨D14, rfl, e34, ?_⟩
    rw [← e33]
    exact ⟨[(.pointer x31)], ⟨_, _, rfl, rfl, rfl⟩, x31, rfl, H⟩)
   clear eN12
   refine W_if (!(Option.isNone a1)) rfl (fun g51 => ?_) (fun g51 => ?_)
   ·have H := H.1 g51
    refine W_region (.pu 0 (.pu 1 (.pu 2 (.rl 3 (.pu 4 (.rl 5 (.ef 6 [] (.pu 7 (.ef 8 [] (.pu 9 .fin) .no)) .no))))))) rfl rfl ?_
    refine sp 23 (.pointer a1) rfl rfl (r_move rfl) ?_
    obtain ⟨p35, e36, H⟩ := H
    refine sp 24 (.pointer (some p35)) rfl rfl (r_nilCheck rfl e36) ?_
    refine sp 25 (.pointer (some (Addr.add p35 5))) rfl rfl (r_fieldAddr Tryz.underlying127 Tryz.sizeOf113 rfl rfl rfl) ?_
    obtain ⟨x37, e38, H⟩ := H
    refine sl 26 (Sl.v x37) rfl rfl (fun dr => r_load1 Tryz.isAgg113 rfl e38) ?_
    obtain ⟨p39, e40, e41, e42, H⟩ := H
    obtain ⟨q43, e44⟩ : ∃ q : Addr, q = Addr.add p39 (Int.toNat 0 * 1) := ⟨_, rfl⟩
    rw [← e44] at H
    refine sp 27 (.pointer (some q43)) rfl rfl (fun w => (r_indexAddr Tryz.underlying113 Tryz.sizeOf108 rfl rfl e40 e41 e42 w).trans (by rw [e44])) ?_
    obtain ⟨x45, e46, H⟩ := H
    refine sl 28 (.pointer x45) rfl rfl (fun dr => r_load1 Tryz.isAgg108 rfl e46) ?_
    obtain ⟨p47, e48⟩ : ∃ p : Addr, p = ⟨h1.size, 0, none⟩ := ⟨_, rfl⟩
    obtain ⟨h12, e49⟩ : ∃ hh : Heap, hh = h1.push (.cells #[(.pointer x45)] 108) := ⟨_, rfl⟩
    have H := H p47 h12 e48 e49
    refine s_ef1 (d := some 29) (v := (Sl.v ((⟨some p47, 1, 1⟩ : Sl)))) (h' := h12) rfl rfl rfl (fun dr => (slFGFing_113.build (cells := #[(.pointer x45)]) (by decide) rfl (by kernel_rfl)).trans (by rw [e48, e49]; rfl)) trivial ?_ trivial
    refine sp 30 (Sl.v l2) rfl rfl (r_move rfl) ?_
    refine s_ef (d := some 31) rfl rfl rfl (fun dr => slFGFing_113.append rfl rfl H) ?_ trivial
    rintro _ h13 ⟨s50, rfl, H⟩
    refine ⟨trivial, ?_⟩
    refine sp 1 (Sl.v s50) rfl rfl (r_assign rfl) ?_
    refine s_fin ?_
    exact N_mk (l := [(1, (Sl.v s50)), (5, (.pointer (some p4)))]) H ⟨rfl, rfl, trivial⟩
   ·have H := H.2 g51
    refine W_skip ?_
    exact N_mk (l := [(1, (Sl.v l2)), (5, (.pointer (some p4)))]) H ⟨rfl, rfl, trivial⟩
  ·have H := H.2 g172
   refine W_seq ?_
   refine W_set ?_
   intro N54 eN54
   have H := H (fun (x52 : Bool) => ∀ b, N54 [] (mkE [(0, (.pointer a1)), (1, (Sl.v l2)), (5, (.pointer (some p4))), (40, (.bool x52))] b) h1) (by
    intro x52 H b
    rw [eN54]
    show W _ _ _ _ _ _ _ _
    refine W_if x52 rfl (fun g162 => ?_) (fun g162 => ?_)
    ·have H := H.1 g162
     refine W_seq ?_
     refine W_seq ?_
     refine W_region (.rl 0 (.pu 1 .fin)) rfl rfl ?_
     obtain ⟨x55, e56, H⟩ := H
     refine sl 50 (.pointer x55) rfl rfl (fun dr => r_load1 Tryz.isAgg37 rfl e56) ?_
     refine sp 51 (.bool (!(Option.isNone x55))) rfl rfl (r_notNilP Tryz.underlying37 rfl rfl) ?_
     refine s_fin ?_
     refine W_set ?_
     intro N59 eN59
     have H := H (fun (l57 : Sl) (h14 : Heap) => ∀ b, N59 [] (mkE [(0, (.pointer a1)), (1, (Sl.v l57))] b) h14) (by
      intro l57 h14 H b
      rw [eN59]
      show W _ _ _ _ _ _ _ _
      refine W_seq ?_
      refine W_seq ?_
      refine W_region (.pu 0 (.pu 1 (.pu 2 .fin))) rfl rfl ?_
      refine sp 62 (Sl.v l57) rfl rfl (r_move rfl) ?_
      refine sp 63 (.int .i64 ((l57.len : Int))) rfl rfl (r_len Tryz.underlying113 rfl) ?_
      refine sp 64 (.int .i64 0) rfl rfl (r_move rfl) ?_
      refine s_fin ?_
      refine W_block ?_
      refine W_loop (WL_mk (l := [(0, (.pointer a1)), (62, (Sl.v l57)), (63, (.int .i64 ((l57.len : Int)))), (64, (.int .i64 0))]) ?_ ⟨rfl, rfl, rfl, rfl, trivial⟩)
      refine H (fun (a60 : Option Addr) (x61 : Int) (h15 : Heap) => ∀ b, WL _ _ _ _ _ _ (mkE [(0, (.pointer a60)), (62, (Sl.v l57)), (63, (.int .i64 ((l57.len : Int)))), (64, (.int .i64 x61))] b) h15) ?_
      intro a60 x61 h15 H b
      refine WL_round ?_
      refine W_seq ?_
      refine W_region (.pu 0 .fin) rfl rfl ?_
      refine sp 65 (.bool (decide (x61 < ((l57.len : Int))))) rfl rfl (r_lss rfl rfl) ?_
      refine s_fin ?_
      refine W_seq ?_
      refine W_if (decide (x61 < ((l57.len : Int)))) rfl (fun g72 => ?_) (fun g72 => ?_)
      ·have H := H.1 g72
       refine W_skip ?_
       show W _ _ _ _ _ _ _ _
       refine W_seq ?_
       refine W_block ?_
       refine W_seq ?_
       refine W_region (.pu 0 (.rl 1 (.pu 2 .fin))) rfl rfl ?_
       obtain ⟨p63, e64, e65, e66, H⟩ := H
       obtain ⟨q67, e68⟩ : ∃ q : Addr, q = Addr.add p63 (Int.toNat x61 * 1) := ⟨_, rfl⟩
       rw [← e68] at H
       refine sp 66 (.pointer (some q67)) rfl rfl (fun w => (r_indexAddr Tryz.underlying113 Tryz.sizeOf108 rfl rfl e64 e65 e66 w).trans (by rw [e68])) ?_
       obtain ⟨x69, e70, H⟩ := H
       refine sl 67 (.pointer x69) rfl rfl (fun dr => r_load1 Tryz.isAgg108 rfl e70) ?_
       refine sp 10 (.pointer x69) rfl rfl (r_assign rfl) ?_
       refine s_fin ?_
       refine W_region (.pu 0 (.pu 1 (.ef 2 [] (.pu 3 .fin) .no))) rfl rfl ?_
       refine sp 68 (.pointer a60) rfl rfl (r_move rfl) ?_
       refine sp 69 (.pointer x69) rfl rfl (r_move rfl) ?_
       refine sc 70 rfl rfl (fun dr => r_call Tryz.call68 rfl rfl H) ?_
       rintro _ h16 ⟨y71, rfl, H⟩
       refine sp 0 (.pointer y71) rfl rfl (r_assign rfl) ?_
       refine s_fin ?_
       refine W_region (.pu 0 (.pu 1 .fin)) rfl rfl ?_
       refine sp 71 (.int .i64 (w64 (x61 + 1))) rfl rfl (r_add rfl rfl) ?_
       refine sp 64 (.int .i64 (w64 (x61 + 1))) rfl rfl (r_move rfl) ?_
       refine s_fin ?_
       exact WL_mk (l := [(0, (.pointer y71)), (62, (Sl.v l57)), (63, (.int .i64 ((l57.len : Int)))), (64, (.int .i64 (w64 (x61 + 1))))]) H ⟨rfl, rfl, rfl, rfl, trivial⟩
      ·have H := H.2 g72
       refine W_exit (inX_here ?_)
       show W _ _ _ _ _ _ _ _
       refine W_seq ?_
       refine W_region (.pu 0 (.pu 1 .fin)) rfl rfl ?_
       refine sp 72 (.pointer a60) rfl rfl (r_move rfl) ?_
       refine sp 6 (.pointer a60) rfl rfl (r_assign rfl) ?_
       refine s_fin ?_
       refine W_ret ?_
       exact ⟨[(.pointer a60)], ⟨_, _, rfl, rfl, rfl⟩, a60, rfl, H⟩)
     clear eN59
     refine W_if (!(Option.isNone x55)) rfl (fun g103 => ?_) (fun g103 => ?_)
     ·have H := H.1 g103
      refine W_draw [0, 1, 0, 4, 12, 28, 60, 124, 252, 511, 1023] (.pu 0 (.rd 2 (.pu 3 (.pu 4 (.rd 5 (.pu 6 (.rd 7 (.ef 1 [] (.ef 8 [2, 5, 7] (.ef 9 [2, 5, 7] (.pu 10 .fin) .no) .no) (.ef 8 [2, 5, 7] (.ef 1 [] (.ef 9 [2, 5, 7] (.pu 10 .fin) .no) .no) .no))))))))) (by kernel_rfl) (by kernel_rfl) ?_
      refine sp 52 (Sl.v l2) rfl rfl (r_move rfl) ?_
      obtain ⟨x73, e74, H⟩ := H
      refine s_rd (d := some 54) (v := (.pointer x73)) rfl rfl rfl (fun dr => r_load1 Tryz.isAgg37 rfl e74) ?_
      obtain ⟨p75, e76, H⟩ := H
      refine sp 55 (.pointer (some p75)) rfl rfl (r_nilCheck rfl e76) ?_
      refine sp 56 (.pointer (some (Addr.add p75 5))) rfl rfl (r_fieldAddr Tryz.underlying127 Tryz.sizeOf113 rfl rfl rfl) ?_
      obtain ⟨x77, e78, H⟩ := H
      refine s_rd (d := some 57) (v := (Sl.v x77)) rfl rfl rfl (fun dr => r_load1 Tryz.isAgg113 rfl e78) ?_
      obtain ⟨p79, e80, e81, e82, H⟩ := H
      obtain ⟨q83, e84⟩ : ∃ q : Addr, q = Addr.add p79 (Int.toNat 0 * 1) := ⟨_, rfl⟩
      rw [← e84] at H
      refine sp 58 (.pointer (some q83)) rfl rfl (fun w => (r_indexAddr Tryz.underlying113 Tryz.sizeOf108 rfl rfl e80 e81 e82 w).trans (by rw [e84])) ?_
      obtain ⟨x85, e86, H⟩ := H
      refine s_rd (d := some 59) (v := (.pointer x85)) rfl rfl rfl (fun dr => r_load1 Tryz.isAgg108 rfl e86) ?_
      refine s_or ?_ ?_
      ·have H := H.1
       refine s_ef (d := some 53) rfl rfl rfl (fun dr => r_call Tryz.call99 rfl rfl H) ?_ trivial
       rintro _ h17 ⟨y87, rfl, H⟩
       obtain ⟨e88, H⟩ := H
       obtain ⟨e89, H⟩ := H
       obtain ⟨e90, H⟩ := H
       refine ⟨⟨(.inl ⟨rfl, fun dr => r_load1 Tryz.isAgg108 rfl e88⟩), (.inl ⟨rfl, fun dr => r_load1 Tryz.isAgg113 rfl e89⟩), (.inl ⟨rfl, fun dr => r_load1 Tryz.isAgg37 rfl e90⟩), trivial⟩, ?_⟩
       obtain ⟨p91, e92⟩ : ∃ p : Addr, p = ⟨h17.size, 0, none⟩ := ⟨_, rfl⟩
       obtain ⟨h18, e93⟩ : ∃ hh : Heap, hh = h17.push (.cells #[(.pointer x85)] 108) := ⟨_, rfl⟩
       have H := H p91 h18 e92 e93
       refine s_ef1 (d := some 60) (v := (Sl.v ((⟨some p91, 1, 1⟩ : Sl)))) (h' := h18) rfl rfl rfl (fun dr => (slFGFing_113.build (cells := #[(.pointer x85)]) (by decide) rfl (by kernel_rfl)).trans (by rw [e92, e93]; rfl)) ⟨trivial, trivial, trivial, trivial⟩ ?_ trivial
       refine s_ef (d := some 61) rfl rfl rfl (fun dr => slFGFing_113.append rfl rfl H) ?_ trivial
       rintro _ h19 ⟨s94, rfl, H⟩
       refine ⟨⟨trivial, trivial, trivial, trivial⟩, ?_⟩
       refine sp 1 (Sl.v s94) rfl rfl (r_assign rfl) ?_
       refine s_fin ?_
       exact N_mk (l := [(0, (.pointer a1)), (1, (Sl.v s94))]) H ⟨rfl, rfl, trivial⟩
      ·have H := H.2
       obtain ⟨p95, e96⟩ : ∃ p : Addr, p = ⟨h1.size, 0, none⟩ := ⟨_, rfl⟩
       obtain ⟨h20, e97⟩ : ∃ hh : Heap, hh = h1.push (.cells #[(.pointer x85)] 108) := ⟨_, rfl⟩
       have H := H p95 h20 e96 e97
       refine s_ef1 (d := some 60) (v := (Sl.v ((⟨some p95, 1, 1⟩ : Sl)))) (h' := h20) rfl rfl rfl (fun dr => (slFGFing_113.build (cells := #[(.pointer x85)]) (by decide) rfl (by kernel_rfl)).trans (by rw [e96, e97]; rfl)) ⟨trivial, trivial, trivial, trivial⟩ ?_ trivial
       refine s_ef (d := some 53) rfl rfl rfl (fun dr => r_call Tryz.call99 rfl rfl H) ?_ trivial
       rintro _ h21 ⟨y98, rfl, H⟩
       obtain ⟨e99, H⟩ := H
       obtain ⟨e100, H⟩ := H
       obtain ⟨e101, H⟩ := H
       refine ⟨⟨(.inl ⟨rfl, fun dr => r_load1 Tryz.isAgg108 rfl e99⟩), (.inl ⟨rfl, fun dr => r_load1 Tryz.isAgg113 rfl e100⟩), (.inl ⟨rfl, fun dr => r_load1 Tryz.isAgg37 rfl e101⟩), trivial⟩, ?_⟩
       refine s_ef (d := some 61) rfl rfl rfl (fun dr => slFGFing_113.append rfl rfl H) ?_ trivial
       rintro _ h22 ⟨s102, rfl, H⟩
       refine ⟨⟨trivial, trivial, trivial, trivial⟩, ?_⟩
       refine sp 1 (Sl.v s102) rfl rfl (r_assign rfl) ?_
       refine s_fin ?_
       exact N_mk (l := [(0, (.pointer a1)), (1, (Sl.v s102))]) H ⟨rfl, rfl, trivial⟩
     ·have H := H.2 g103
      refine W_skip ?_
      exact N_mk (l := [(0, (.pointer a1)), (1, (Sl.v l2))]) H ⟨rfl, rfl, trivial⟩
    ·have H := H.2 g162
     refine W_skip ?_
     show W _ _ _ _ _ _ _ _
     refine W_seq ?_
     refine W_draw [0, 1, 3, 7, 0, 16, 48, 112, 0, 256, 768, 1792, 0, 0, 8192, 24576, 57344, 130816, 261888, 524032, 0, 1048576, 3145728, 7340032, 16777200, 0, 33554432, 100663296, 234881024, 536870911, 1073741823] (.pu 0 (.pu 1 (.pu 2 (.rd 3 (.pu 4 (.pu 5 (.pu 6 (.rd 7 (.pu 8 (.pu 9 (.pu 10 (.rd 11 (.pu 12 (.rd 13 (.pu 14 (.pu 15 (.rd 16 (.rd 20 (.pu 21 (.pu 22 (.rd 23 (.rd 25 (.pu 26 (.pu 27 (.rd 28 (.ef 17 [11, 13, 16] (.ef 18 [11, 13, 16] (.ef 19 [11, 13, 16] (.ef 24 [7, 11, 13, 16, 20, 23] (.ef 29 [3, 7, 11, 13, 16, 20, 23, 25, 28] (.pu 30 .fin) .no) .no) .no) .no) .no)))))))))))))))))))))))))) (by kernel_rfl) (by kernel_rfl) ?_
     refine sp 73 (.pointer a1) rfl rfl (r_move rfl) ?_
     obtain ⟨p104, e105, H⟩ := H
     refine sp 74 (.pointer (some p104)) rfl rfl (r_nilCheck rfl e105) ?_
     refine sp 75 (.pointer (some (Addr.add p104 5))) rfl rfl (r_fieldAddr Tryz.underlying127 Tryz.sizeOf113 rfl rfl rfl) ?_
     obtain ⟨x106, e107, H⟩ := H
     refine s_rd (d := some 76) (v := (Sl.v x106)) rfl rfl rfl (fun dr => r_load1 Tryz.isAgg113 rfl e107) ?_
     refine sp 77 (.pointer a1) rfl rfl (r_move rfl) ?_
     obtain ⟨p108, e109, H⟩ := H
     refine sp 78 (.pointer (some p108)) rfl rfl (r_nilCheck rfl e109) ?_
     refine sp 79 (.pointer (some (Addr.add p108 7))) rfl rfl (r_fieldAddr Tryz.underlying127 Tryz.sizeOf37 rfl rfl rfl) ?_
     obtain ⟨x110, e111, H⟩ := H
     refine s_rd (d := some 80) (v := (.pointer x110)) rfl rfl rfl (fun dr => r_load1 Tryz.isAgg37 rfl e111) ?_
     refine sp 81 (.pointer a1) rfl rfl (r_move rfl) ?_
     obtain ⟨p112, e113, H⟩ := H
     refine sp 82 (.pointer (some p112)) rfl rfl (r_nilCheck rfl e113) ?_
     refine sp 83 (.pointer (some (Addr.add p112 6))) rfl rfl (r_fieldAddr Tryz.underlying127 Tryz.sizeOf113 rfl rfl rfl) ?_
     obtain ⟨x114, e115, H⟩ := H
     refine s_rd (d := some 84) (v := (Sl.v x114)) rfl rfl rfl (fun dr => r_load1 Tryz.isAgg113 rfl e115) ?_
     refine sp 85 (Sl.v l2) rfl rfl (r_move rfl) ?_
     obtain ⟨x116, e117, H⟩ := H
     refine s_rd (d := some 86) (v := (.pointer x116)) rfl rfl rfl (fun dr => r_load1 Tryz.isAgg37 rfl e117) ?_
     obtain ⟨p118, e119, H⟩ := H
     refine sp 87 (.pointer (some p118)) rfl rfl (r_nilCheck rfl e119) ?_
     refine sp 88 (.pointer (some (Addr.add p118 5))) rfl rfl (r_fieldAddr Tryz.underlying127 Tryz.sizeOf113 rfl rfl rfl) ?_
     obtain ⟨x120, e121, H⟩ := H
     refine s_rd (d := some 89) (v := (Sl.v x120)) rfl rfl rfl (fun dr => r_load1 Tryz.isAgg113 rfl e121) ?_
     obtain ⟨x122, e123, H⟩ := H
     refine s_rd (d := some 93) (v := (.pointer x122)) rfl rfl rfl (fun dr => r_load1 Tryz.isAgg37 rfl e123) ?_
     obtain ⟨p124, e125, H⟩ := H
     refine sp 94 (.pointer (some p124)) rfl rfl (r_nilCheck rfl e125) ?_
     refine sp 95 (.pointer (some (Addr.add p124 7))) rfl rfl (r_fieldAddr Tryz.underlying127 Tryz.sizeOf37 rfl rfl rfl) ?_
     obtain ⟨x126, e127, H⟩ := H
     refine s_rd (d := some 96) (v := (.pointer x126)) rfl rfl rfl (fun dr => r_load1 Tryz.isAgg37 rfl e127) ?_
     obtain ⟨x128, e129, H⟩ := H
     refine s_rd (d := some 98) (v := (.pointer x128)) rfl rfl rfl (fun dr => r_load1 Tryz.isAgg37 rfl e129) ?_
     obtain ⟨p130, e131, H⟩ := H
     refine sp 99 (.pointer (some p130)) rfl rfl (r_nilCheck rfl e131) ?_
     refine sp 100 (.pointer (some (Addr.add p130 6))) rfl rfl (r_fieldAddr Tryz.underlying127 Tryz.sizeOf113 rfl rfl rfl) ?_
     obtain ⟨x132, e133, H⟩ := H
     refine s_rd (d := some 101) (v := (Sl.v x132)) rfl rfl rfl (fun dr => r_load1 Tryz.isAgg113 rfl e133) ?_
     obtain ⟨p134, e135⟩ : ∃ p : Addr, p = ⟨h1.size, 0, none⟩ := ⟨_, rfl⟩
     obtain ⟨h23, e136⟩ : ∃ hh : Heap, hh = h1.push (.cells #[(Sl.v x114), (Sl.v l2), (Sl.v x120)] 113) := ⟨_, rfl⟩
     have H := H p134 h23 e135 e136
     obtain ⟨e137, H⟩ := H
     obtain ⟨e138, H⟩ := H
     obtain ⟨e139, H⟩ := H
     obtain ⟨e140, H⟩ := H
     obtain ⟨e141, H⟩ := H
     obtain ⟨e142, H⟩ := H
     refine s_ef1 (d := some 90) (v := (Sl.v ((⟨some p134, 3, 3⟩ : Sl)))) (h' := h23) rfl rfl rfl (fun dr => (slFGFing_173.build (cells := #[(Sl.v x114), (Sl.v l2), (Sl.v x120)]) (by decide) rfl (by kernel_rfl)).trans (by rw [e135, e136]; rfl)) ⟨(.inl ⟨rfl, fun dr => r_load1 Tryz.isAgg113 rfl e137⟩), (.inl ⟨rfl, fun dr => r_load1 Tryz.isAgg37 rfl e138⟩), (.inl ⟨rfl, fun dr => r_load1 Tryz.isAgg37 rfl e139⟩), (.inl ⟨rfl, fun dr => r_load1 Tryz.isAgg37 rfl e140⟩), trivial, trivial, trivial, (.inl ⟨rfl, fun dr => r_load1 Tryz.isAgg37 rfl e141⟩), (.inl ⟨rfl, fun dr => r_load1 Tryz.isAgg113 rfl e142⟩), trivial⟩ ?_ trivial
     refine s_ef (d := some 91) rfl rfl rfl (fun dr => r_call Tryz.call104 rfl rfl H) ?_ trivial
     rintro _ h24 ⟨y143, rfl, H⟩
     obtain ⟨e144, H⟩ := H
     obtain ⟨e145, H⟩ := H
     obtain ⟨e146, H⟩ := H
     obtain ⟨e147, H⟩ := H
     obtain ⟨e148, H⟩ := H
     obtain ⟨e149, H⟩ := H
     refine ⟨⟨(.inl ⟨rfl, fun dr => r_load1 Tryz.isAgg113 rfl e144⟩), (.inl ⟨rfl, fun dr => r_load1 Tryz.isAgg37 rfl e145⟩), (.inl ⟨rfl, fun dr => r_load1 Tryz.isAgg37 rfl e146⟩), (.inl ⟨rfl, fun dr => r_load1 Tryz.isAgg37 rfl e147⟩), trivial, trivial, trivial, (.inl ⟨rfl, fun dr => r_load1 Tryz.isAgg37 rfl e148⟩), (.inl ⟨rfl, fun dr => r_load1 Tryz.isAgg113 rfl e149⟩), trivial⟩, ?_⟩
     refine s_ef (d := some 92) rfl rfl rfl (fun dr => r_call Tryz.call103 rfl rfl H) ?_ trivial
     rintro _ h25 ⟨y150, rfl, H⟩
     obtain ⟨e151, H⟩ := H
     obtain ⟨e152, H⟩ := H
     obtain ⟨e153, H⟩ := H
     obtain ⟨e154, H⟩ := H
     obtain ⟨e155, H⟩ := H
     obtain ⟨e156, H⟩ := H
     refine ⟨⟨(.inl ⟨rfl, fun dr => r_load1 Tryz.isAgg113 rfl e151⟩), (.inl ⟨rfl, fun dr => r_load1 Tryz.isAgg37 rfl e152⟩), (.inl ⟨rfl, fun dr => r_load1 Tryz.isAgg37 rfl e153⟩), (.inl ⟨rfl, fun dr => r_load1 Tryz.isAgg37 rfl e154⟩), trivial, trivial, trivial, (.inl ⟨rfl, fun dr => r_load1 Tryz.isAgg37 rfl e155⟩), (.inl ⟨rfl, fun dr => r_load1 Tryz.isAgg113 rfl e156⟩), trivial⟩, ?_⟩
     refine s_ef (d := some 97) rfl rfl rfl (fun dr => r_call Tryz.call70 rfl rfl H) ?_ trivial
     rintro _ h26 ⟨y157, rfl, H⟩
     obtain ⟨e158, H⟩ := H
     obtain ⟨e159, H⟩ := H
     obtain ⟨e160, H⟩ := H
     refine ⟨⟨(.inl ⟨rfl, fun dr => r_load1 Tryz.isAgg113 rfl e158⟩), (.inl ⟨rfl, fun dr => r_load1 Tryz.isAgg37 rfl e159⟩), trivial, trivial, trivial, trivial, trivial, trivial, (.inl ⟨rfl, fun dr => r_load1 Tryz.isAgg113 rfl e160⟩), trivial⟩, ?_⟩
     refine s_ef (d := some 102) rfl rfl rfl (fun dr => r_call Tryz.call98 rfl rfl H) ?_ trivial
     rintro _ h27 ⟨y161, rfl, H⟩
     refine ⟨⟨trivial, trivial, trivial, trivial, trivial, trivial, trivial, trivial, trivial, trivial⟩, ?_⟩
     refine sp 6 (.pointer y161) rfl rfl (r_assign rfl) ?_
     refine s_fin ?_
     refine W_ret ?_
     exact ⟨[(.pointer y161)], ⟨_, _, rfl, rfl, rfl⟩, y161, rfl, H⟩)
   clear eN54
   refine W_region (.rl 0 (.pu 1 (.pu 2 (.rl 3 (.pu 4 (.pu 5 (.rl 6 (.pu 7 (.pu 8 (.pu 9 .fin)))))))))) rfl rfl ?_
   obtain ⟨x163, e164, H⟩ := H
   refine sl 41 (.pointer x163) rfl rfl (fun dr => r_load1 Tryz.isAgg37 rfl e164) ?_
   refine sp 42 (.bool (Option.isNone x163)) rfl rfl (r_nilP Tryz.underlying37 rfl rfl) ?_
   refine sp 43 (.bool (Option.isNone x163)) rfl rfl (r_move rfl) ?_
   rcases Bool.eq_false_or_eq_true (Option.isNone x163) with g165 | g165
   ·have H := H.1 g165
    refine s_skl (d := some 44) rfl rfl (wants_no rfl rfl rfl rfl g165) ?_
    refine s_sk (d := some 45) rfl rfl (wants_no rfl rfl rfl rfl g165) ?_
    refine s_sk (d := some 46) rfl rfl (wants_no rfl rfl rfl rfl g165) ?_
    refine s_skl (d := some 47) rfl rfl (wants_no rfl rfl rfl rfl g165) ?_
    refine s_sk (d := some 48) rfl rfl (wants_no rfl rfl rfl rfl g165) ?_
    refine sp 49 (.bool true) rfl rfl (r_pick1 rfl g165 rfl) ?_
    refine sp 40 (.bool true) rfl rfl (r_assign rfl) ?_
    refine s_fin ?_
    exact N_mk (l := [(0, (.pointer a1)), (1, (Sl.v l2)), (5, (.pointer (some p4))), (40, (.bool true))]) H ⟨rfl, rfl, rfl, rfl, trivial⟩
   ·have H := H.2 g165
    obtain ⟨x166, e167, H⟩ := H
    refine s_rl (d := some 44) (v := (.pointer x166)) rfl rfl (wants_yes rfl rfl rfl rfl g165) (fun dr => r_load1 Tryz.isAgg37 rfl e167) ?_
    obtain ⟨p168, e169, H⟩ := H
    refine s_pu (d := some 45) (v := (.pointer (some p168))) rfl rfl (wants_yes rfl rfl rfl rfl g165) (r_nilCheck rfl e169) ?_
    refine s_pu (d := some 46) (v := (.pointer (some (Addr.add p168 6)))) rfl rfl (wants_yes rfl rfl rfl rfl g165) (r_fieldAddr Tryz.underlying127 Tryz.sizeOf113 rfl rfl rfl) ?_
    obtain ⟨x170, e171, H⟩ := H
    refine s_rl (d := some 47) (v := (Sl.v x170)) rfl rfl (wants_yes rfl rfl rfl rfl g165) (fun dr => r_load1 Tryz.isAgg113 rfl e171) ?_
    refine s_pu (d := some 48) (v := (.bool (Option.isNone x170.a))) rfl rfl (wants_yes rfl rfl rfl rfl g165) (r_nilS Tryz.underlying113 rfl rfl) ?_
    refine sp 49 (.bool (Option.isNone x170.a)) rfl rfl (r_pick0 rfl g165 rfl) ?_
    refine sp 40 (.bool (Option.isNone x170.a)) rfl rfl (r_assign rfl) ?_
    refine s_fin ?_
    exact N_mk (l := [(0, (.pointer a1)), (1, (Sl.v l2)), (5, (.pointer (some p4))), (40, (.bool (Option.isNone x170.a)))]) H ⟨rfl, rfl, rfl, rfl, trivial⟩)
 clear eN9
 refine W_region (.pu 0 (.pu 1 (.pu 2 (.pu 3 (.pu 4 (.pu 5 (.rl 6 (.pu 7 (.pu 8 (.pu 9 .fin)))))))))) rfl rfl ?_
 refine sp 12 (.pointer a1) rfl rfl (r_move rfl) ?_
 refine sp 13 (.bool (Option.isNone a1)) rfl rfl (r_nilP Tryz.underlying37 rfl rfl) ?_
 refine sp 14 (.bool (Option.isNone a1)) rfl rfl (r_move rfl) ?_
 rcases Bool.eq_false_or_eq_true (Option.isNone a1) with g173 | g173
 ·have H := H.1 g173
  refine s_sk (d := some 15) rfl rfl (wants_no rfl rfl rfl rfl g173) ?_
  refine s_sk (d := some 16) rfl rfl (wants_no rfl rfl rfl rfl g173) ?_
  refine s_sk (d := some 17) rfl rfl (wants_no rfl rfl rfl rfl g173) ?_
  refine s_skl (d := some 18) rfl rfl (wants_no rfl rfl rfl rfl g173) ?_
  refine s_sk (d := some 19) rfl rfl (wants_no rfl rfl rfl rfl g173) ?_
  refine sp 20 (.bool true) rfl rfl (r_pick1 rfl g173 rfl) ?_
  refine sp 11 (.bool true) rfl rfl (r_assign rfl) ?_
  refine s_fin ?_
  exact N_mk (l := [(0, (.pointer a1)), (1, (Sl.v l2)), (5, (.pointer (some p4))), (11, (.bool true))]) H ⟨rfl, rfl, rfl, rfl, trivial⟩
 ·have H := H.2 g173
  refine s_pu (d := some 15) (v := (.pointer a1)) rfl rfl (wants_yes rfl rfl rfl rfl g173) (r_move rfl) ?_
  obtain ⟨p174, e175, H⟩ := H
  refine s_pu (d := some 16) (v := (.pointer (some p174))) rfl rfl (wants_yes rfl rfl rfl rfl g173) (r_nilCheck rfl e175) ?_
  refine s_pu (d := some 17) (v := (.pointer (some (Addr.add p174 6)))) rfl rfl (wants_yes rfl rfl rfl rfl g173) (r_fieldAddr Tryz.underlying127 Tryz.sizeOf113 rfl rfl rfl) ?_
  obtain ⟨x176, e177, H⟩ := H
  refine s_rl (d := some 18) (v := (Sl.v x176)) rfl rfl (wants_yes rfl rfl rfl rfl g173) (fun dr => r_load1 Tryz.isAgg113 rfl e177) ?_
  refine s_pu (d := some 19) (v := (.bool (Option.isNone x176.a))) rfl rfl (wants_yes rfl rfl rfl rfl g173) (r_nilS Tryz.underlying113 rfl rfl) ?_
  refine sp 20 (.bool (Option.isNone x176.a)) rfl rfl (r_pick0 rfl g173 rfl) ?_
  refine sp 11 (.bool (Option.isNone x176.a)) rfl rfl (r_assign rfl) ?_
  refine s_fin ?_
  exact N_mk (l := [(0, (.pointer a1)), (1, (Sl.v l2)), (5, (.pointer (some p4))), (11, (.bool (Option.isNone x176.a)))]) H ⟨rfl, rfl, rfl, rfl, trivial⟩
end Go.Proofs.YthkimbiknhebeaaGreatDoor
