/- Typed words of functions, and that they hold: printed by gen.py (an own tool of this claim) off the model's own form of each function. -/
import Derived.Test.YthkimbiknhebeaaGreatDoorProg
import Derived.Test.YthkimbiknhebeaaGreatDoorTwB
namespace Go.Proofs.YthkimbiknhebeaaGreatDoor
open Go Go.RowKit Go.Tw
set_option linter.unusedVariables false
set_option maxRecDepth 100000
theorem slFGMono_26 : SlF Tryz.prog 26 3 1 8 (.int .i64 0) := ⟨Tryz.underlying26, ⟨Tryz.t3, by kernel_rfl, rfl, rfl, rfl⟩, rfl, Tryz.sizeOf3, Tryz.zeroValue3⟩
abbrev mono_mod (r : World) (n1 : Int) (h : Heap) (R : Int → Heap → Prop) : Prop :=
 CallsH Tryz.prog r 124 [(.int .i64 n1)] h fun v h' => ∃ (y2 : Int), v = (.int .i64 y2) ∧ R y2 h'
abbrev mono_power (r : World) (n1 : Int) (h : Heap) (R : Int → Heap → Prop) : Prop :=
 CallsH Tryz.prog r 136 [(.int .i64 n1)] h fun v h' => ∃ (y2 : Int), v = (.int .i64 y2) ∧ R y2 h'
abbrev mono_None (r : World)  (h : Heap) (R : Int → Int → Int → Int → Int → Heap → Prop) : Prop :=
 CallsH Tryz.prog r 94 [] h fun v h' => ∃ (y1 : Int) (y2 : Int) (y3 : Int) (y4 : Int) (y5 : Int), v = (.agg #[(.int .i64 y1), (.int .i64 y2), (.int .i64 y3), (.int .i64 y4), (.int .i64 y5)]) ∧ R y1 y2 y3 y4 y5 h'
abbrev mono_One (r : World) (x1 : Int) (h : Heap) (R : Int → Int → Int → Int → Int → Heap → Prop) : Prop :=
 CallsH Tryz.prog r 101 [(.int .i64 x1)] h fun v h' => ∃ (y2 : Int) (y3 : Int) (y4 : Int) (y5 : Int) (y6 : Int), v = (.agg #[(.int .i64 y2), (.int .i64 y3), (.int .i64 y4), (.int .i64 y5), (.int .i64 y6)]) ∧ R y2 y3 y4 y5 y6 h'
abbrev mono_Join (r : World) (a1 : Int) (a2 : Int) (a3 : Int) (a4 : Int) (a5 : Int) (vb6 : Int) (vb7 : Int) (vb8 : Int) (vb9 : Int) (vb10 : Int) (h : Heap) (R : Int → Int → Int → Int → Int → Heap → Prop) : Prop :=
 CallsH Tryz.prog r 119 [(.agg #[(.int .i64 a1), (.int .i64 a2), (.int .i64 a3), (.int .i64 a4), (.int .i64 a5)]), (.agg #[(.int .i64 vb6), (.int .i64 vb7), (.int .i64 vb8), (.int .i64 vb9), (.int .i64 vb10)])] h fun v h' => ∃ (y11 : Int) (y12 : Int) (y13 : Int) (y14 : Int) (y15 : Int), v = (.agg #[(.int .i64 y11), (.int .i64 y12), (.int .i64 y13), (.int .i64 y14), (.int .i64 y15)]) ∧ R y11 y12 y13 y14 y15 h'
abbrev ref1_SumOf (r : World) (l1 : Sl) (h : Heap) (R : Int → Heap → Prop) : Prop :=
 CallsH Tryz.prog r 17 [(Sl.v l1)] h fun v h' => ∃ (y2 : Int), v = (.int .i64 y2) ∧ R y2 h'
abbrev ref1_Cat (r : World) (a1 : Sl) (vb2 : Sl) (h : Heap) (R : Sl → Heap → Prop) : Prop :=
 CallsH Tryz.prog r 37 [(Sl.v a1), (Sl.v vb2)] h fun v h' => ∃ (y3 : Sl), v = (Sl.v y3) ∧ R y3 h'
abbrev ref1_Below (r : World) (l1 : Sl) (x2 : Int) (h : Heap) (R : Int → Heap → Prop) : Prop :=
 CallsH Tryz.prog r 35 [(Sl.v l1), (.int .i64 x2)] h fun v h' => ∃ (y3 : Int), v = (.int .i64 y3) ∧ R y3 h'
abbrev ref1_Often (r : World) (l1 : Sl) (x2 : Int) (h : Heap) (R : Int → Heap → Prop) : Prop :=
 CallsH Tryz.prog r 59 [(Sl.v l1), (.int .i64 x2)] h fun v h' => ∃ (y3 : Int), v = (.int .i64 y3) ∧ R y3 h'
abbrev ref1_Without (r : World) (l1 : Sl) (i2 : Int) (h : Heap) (R : Sl → Heap → Prop) : Prop :=
 CallsH Tryz.prog r 39 [(Sl.v l1), (.int .i64 i2)] h fun v h' => ∃ (y3 : Sl), v = (Sl.v y3) ∧ R y3 h'
abbrev ref1_With (r : World) (l1 : Sl) (i2 : Int) (x3 : Int) (h : Heap) (R : Sl → Heap → Prop) : Prop :=
 CallsH Tryz.prog r 15 [(Sl.v l1), (.int .i64 i2), (.int .i64 x3)] h fun v h' => ∃ (y4 : Sl), v = (Sl.v y4) ∧ R y4 h'
abbrev ref1_Sifted (r : World) (l1 : Sl) (vb2 : Sl) (want3 : Bool) (h : Heap) (R : Sl → Heap → Prop) : Prop :=
 CallsH Tryz.prog r 38 [(Sl.v l1), (Sl.v vb2), (.bool want3)] h fun v h' => ∃ (y4 : Sl), v = (Sl.v y4) ∧ R y4 h'
abbrev ref1_Once (r : World) (l1 : Sl) (h : Heap) (R : Sl → Heap → Prop) : Prop :=
 CallsH Tryz.prog r 36 [(Sl.v l1)] h fun v h' => ∃ (y2 : Sl), v = (Sl.v y2) ∧ R y2 h'
def mono_mod_F (r : World) (n1 : Int) (h : Heap) (R : Int → Heap → Prop) : Prop :=
 ∀ J3 : Int → Prop, (∀ (n2 : Int),
  (R n2 h) →
  J3 n2) →
 Br (decide ((Int.tmod n1 2147483647) < 0)) (
  J3 (w64 ((Int.tmod n1 2147483647) + 2147483647))) (
  J3 (Int.tmod n1 2147483647))
theorem mono_mod_of {r : World} {n1 : Int} {h : Heap} {R : Int → Heap → Prop} (H : mono_mod_F r n1 h R) : mono_mod r n1 h R := by
 unfold mono_mod_F at H
 refine calls_of 10 [.tmp 2] Tryz.func124 rfl rfl rfl rfl rfl ?_
 refine W_seq ?_
 refine W_region (.pu 0 .fin) rfl rfl ?_
 refine sp 2 (.int .i64 0) rfl rfl (r_assign rfl) ?_
 refine s_fin ?_
 refine W_seq ?_
 refine W_seq ?_
 refine W_region (.pu 0 (.pu 1 (.pu 2 .fin))) rfl rfl ?_
 refine sp 3 (.int .i64 n1) rfl rfl (r_move rfl) ?_
 refine sp 4 (.int .i64 (Int.tmod n1 2147483647)) rfl rfl (r_rem rfl rfl (by decide)) ?_
 refine sp 0 (.int .i64 (Int.tmod n1 2147483647)) rfl rfl (r_assign rfl) ?_
 refine s_fin ?_
 refine W_seq ?_
 refine W_region (.pu 0 (.pu 1 .fin)) rfl rfl ?_
 refine sp 5 (.int .i64 (Int.tmod n1 2147483647)) rfl rfl (r_move rfl) ?_
 refine sp 6 (.bool (decide ((Int.tmod n1 2147483647) < 0))) rfl rfl (r_lss rfl rfl) ?_
 refine s_fin ?_
 refine W_set ?_
 intro N4 eN4
 have H := H (fun (n2 : Int) => ∀ b, N4 [] (mkE [(0, (.int .i64 n2))] b) h) (by
  intro n2 H b
  rw [eN4]
  show W _ _ _ _ _ _ _ _
  refine W_seq ?_
  refine W_region (.pu 0 (.pu 1 .fin)) rfl rfl ?_
  refine sp 9 (.int .i64 n2) rfl rfl (r_move rfl) ?_
  refine sp 2 (.int .i64 n2) rfl rfl (r_assign rfl) ?_
  refine s_fin ?_
  refine W_ret ?_
  exact ⟨[(.int .i64 n2)], ⟨_, _, rfl, rfl, rfl⟩, n2, rfl, H⟩)
 clear eN4
 refine W_if (decide ((Int.tmod n1 2147483647) < 0)) rfl (fun g5 => ?_) (fun g5 => ?_)
 ·have H := H.1 g5
  refine W_region (.pu 0 (.pu 1 (.pu 2 .fin))) rfl rfl ?_
  refine sp 7 (.int .i64 (Int.tmod n1 2147483647)) rfl rfl (r_move rfl) ?_
  refine sp 8 (.int .i64 (w64 ((Int.tmod n1 2147483647) + 2147483647))) rfl rfl (r_add rfl rfl) ?_
  refine sp 0 (.int .i64 (w64 ((Int.tmod n1 2147483647) + 2147483647))) rfl rfl (r_assign rfl) ?_
  refine s_fin ?_
  exact N_mk (l := [(0, (.int .i64 (w64 ((Int.tmod n1 2147483647) + 2147483647))))]) H ⟨rfl, trivial⟩
 ·have H := H.2 g5
  refine W_skip ?_
  exact N_mk (l := [(0, (.int .i64 (Int.tmod n1 2147483647)))]) H ⟨rfl, trivial⟩
def mono_power_F (r : World) (n1 : Int) (h : Heap) (R : Int → Heap → Prop) : Prop :=
 ∀ X5 : Int → Int → Int → Prop, (∀ (n2 : Int) (out3 : Int) (vb4 : Int),
  (Br (decide (0 < n2)) (
   ∀ J7 : Int → Prop, (∀ (out6 : Int),
    (X5 (sShr .i64 n2 1) out6 (Int.tmod (w64 (vb4 * vb4)) 2147483647)) →
    J7 out6) →
   Br (decide (0 < (bAnd .i64 n2 1))) (
    J7 (Int.tmod (w64 (out3 * vb4)) 2147483647)) (
    J7 out3)) (
   R out3 h)) →
  X5 n2 out3 vb4) →
 X5 n1 1 131
theorem mono_power_of {r : World} {n1 : Int} {h : Heap} {R : Int → Heap → Prop} (H : mono_power_F r n1 h R) : mono_power r n1 h R := by
 unfold mono_power_F at H
 refine calls_of 21 [.tmp 2] Tryz.func136 rfl rfl rfl rfl rfl ?_
 refine W_seq ?_
 refine W_region (.pu 0 .fin) rfl rfl ?_
 refine sp 2 (.int .i64 0) rfl rfl (r_assign rfl) ?_
 refine s_fin ?_
 refine W_seq ?_
 refine W_region (.pu 0 (.pu 1 .fin)) rfl rfl ?_
 refine sp 3 (.int .i64 1) rfl rfl (r_assign rfl) ?_
 refine sp 4 (.int .i64 131) rfl rfl (r_assign rfl) ?_
 refine s_fin ?_
 refine W_seq ?_
 refine W_block ?_
 refine W_loop (WL_mk (l := [(0, (.int .i64 n1)), (3, (.int .i64 1)), (4, (.int .i64 131))]) ?_ ⟨rfl, rfl, rfl, trivial⟩)
 refine H (fun (n2 : Int) (out3 : Int) (vb4 : Int) => ∀ b, WL _ _ _ _ _ _ (mkE [(0, (.int .i64 n2)), (3, (.int .i64 out3)), (4, (.int .i64 vb4))] b) h) ?_
 intro n2 out3 vb4 H b
 refine WL_round ?_
 refine W_seq ?_
 refine W_seq ?_
 refine W_region (.pu 0 (.pu 1 .fin)) rfl rfl ?_
 refine sp 5 (.int .i64 n2) rfl rfl (r_move rfl) ?_
 refine sp 6 (.bool (decide (0 < n2))) rfl rfl (r_gtr rfl rfl) ?_
 refine s_fin ?_
 refine W_if (decide (0 < n2)) rfl (fun g10 => ?_) (fun g10 => ?_)
 ·have H := H.1 g10
  refine W_skip ?_
  show W _ _ _ _ _ _ _ _
  refine W_seq ?_
  refine W_block ?_
  refine W_seq ?_
  refine W_seq ?_
  refine W_region (.pu 0 (.pu 1 (.pu 2 .fin))) rfl rfl ?_
  refine sp 9 (.int .i64 n2) rfl rfl (r_move rfl) ?_
  refine sp 10 (.int .i64 (bAnd .i64 n2 1)) rfl rfl (r_and rfl rfl) ?_
  refine sp 11 (.bool (decide (0 < (bAnd .i64 n2 1)))) rfl rfl (r_gtr rfl rfl) ?_
  refine s_fin ?_
  refine W_set ?_
  intro N8 eN8
  have H := H (fun (out6 : Int) => ∀ b, N8 [] (mkE [(0, (.int .i64 n2)), (3, (.int .i64 out6)), (4, (.int .i64 vb4))] b) h) (by
   intro out6 H b
   rw [eN8]
   show W _ _ _ _ _ _ _ _
   refine W_region (.pu 0 (.pu 1 (.pu 2 (.pu 3 (.pu 4 .fin))))) rfl rfl ?_
   refine sp 16 (.int .i64 vb4) rfl rfl (r_move rfl) ?_
   refine sp 17 (.int .i64 vb4) rfl rfl (r_move rfl) ?_
   refine sp 18 (.int .i64 (w64 (vb4 * vb4))) rfl rfl (r_mul rfl rfl) ?_
   refine sp 19 (.int .i64 (Int.tmod (w64 (vb4 * vb4)) 2147483647)) rfl rfl (r_rem rfl rfl (by decide)) ?_
   refine sp 4 (.int .i64 (Int.tmod (w64 (vb4 * vb4)) 2147483647)) rfl rfl (r_assign rfl) ?_
   refine s_fin ?_
   refine W_region (.pu 0 (.pu 1 (.pu 2 .fin))) rfl rfl ?_
   refine sp 7 (.int .i64 n2) rfl rfl (r_move rfl) ?_
   refine sp 8 (.int .i64 (sShr .i64 n2 1)) rfl rfl (r_shr rfl rfl (by decide)) ?_
   refine sp 0 (.int .i64 (sShr .i64 n2 1)) rfl rfl (r_assign rfl) ?_
   refine s_fin ?_
   exact WL_mk (l := [(0, (.int .i64 (sShr .i64 n2 1))), (3, (.int .i64 out6)), (4, (.int .i64 (Int.tmod (w64 (vb4 * vb4)) 2147483647)))]) H ⟨rfl, rfl, rfl, trivial⟩)
  clear eN8
  refine W_if (decide (0 < (bAnd .i64 n2 1))) rfl (fun g9 => ?_) (fun g9 => ?_)
  ·have H := H.1 g9
   refine W_region (.pu 0 (.pu 1 (.pu 2 (.pu 3 (.pu 4 .fin))))) rfl rfl ?_
   refine sp 12 (.int .i64 out3) rfl rfl (r_move rfl) ?_
   refine sp 13 (.int .i64 vb4) rfl rfl (r_move rfl) ?_
   refine sp 14 (.int .i64 (w64 (out3 * vb4))) rfl rfl (r_mul rfl rfl) ?_
   refine sp 15 (.int .i64 (Int.tmod (w64 (out3 * vb4)) 2147483647)) rfl rfl (r_rem rfl rfl (by decide)) ?_
   refine sp 3 (.int .i64 (Int.tmod (w64 (out3 * vb4)) 2147483647)) rfl rfl (r_assign rfl) ?_
   refine s_fin ?_
   exact N_mk (l := [(0, (.int .i64 n2)), (3, (.int .i64 (Int.tmod (w64 (out3 * vb4)) 2147483647))), (4, (.int .i64 vb4))]) H ⟨rfl, rfl, rfl, trivial⟩
  ·have H := H.2 g9
   refine W_skip ?_
   exact N_mk (l := [(0, (.int .i64 n2)), (3, (.int .i64 out3)), (4, (.int .i64 vb4))]) H ⟨rfl, rfl, rfl, trivial⟩
 ·have H := H.2 g10
  refine W_exit (inX_here ?_)
  show W _ _ _ _ _ _ _ _
  refine W_seq ?_
  refine W_region (.pu 0 (.pu 1 .fin)) rfl rfl ?_
  refine sp 20 (.int .i64 out3) rfl rfl (r_move rfl) ?_
  refine sp 2 (.int .i64 out3) rfl rfl (r_assign rfl) ?_
  refine s_fin ?_
  refine W_ret ?_
  exact ⟨[(.int .i64 out3)], ⟨_, _, rfl, rfl, rfl⟩, out3, rfl, H⟩
def mono_None_F (r : World)  (h : Heap) (R : Int → Int → Int → Int → Int → Heap → Prop) : Prop :=
 New h (.cells #[(.int .i64 0), (.int .i64 0), (.int .i64 0), (.int .i64 0), (.int .i64 0)] 66) fun p1 h1 =>
 St h1 p1 5 [(.int .i64 0), (.int .i64 0), (.int .i64 9223372036854775807), (.int .i64 ((-9223372036854775808))), (.int .i64 0)] fun h2 =>
 LdI h2 (Addr.add p1 0) fun x6 =>
 LdI h2 (Addr.add p1 1) fun x8 =>
 LdI h2 (Addr.add p1 2) fun x10 =>
 LdI h2 (Addr.add p1 3) fun x12 =>
 LdI h2 (Addr.add p1 4) fun x14 =>
 R x6 x8 x10 x12 x14 h2
theorem mono_None_of {r : World}  {h : Heap} {R : Int → Int → Int → Int → Int → Heap → Prop} (H : mono_None_F r  h R) : mono_None r  h R := by
 unfold mono_None_F at H
 refine calls_of 2 [.cell 0 66] Tryz.func94 rfl rfl rfl rfl rfl ?_
 refine W_seq ?_
 refine W_region (.ef 0 [] .fin .no) rfl rfl ?_
 obtain ⟨p1, e2⟩ : ∃ p : Addr, p = ⟨h.size, 0, none⟩ := ⟨_, rfl⟩
 obtain ⟨h1, e3⟩ : ∃ hh : Heap, hh = h.push (.cells #[(.int .i64 0), (.int .i64 0), (.int .i64 0), (.int .i64 0), (.int .i64 0)] 66) := ⟨_, rfl⟩
 have H := H p1 h1 e2 e3
 refine s_ef1 (d := some 0) (v := (.pointer (some p1))) (h' := h1) rfl rfl rfl (fun dr => (r_alloc Tryz.zeroValue66).trans (by rw [e2, e3]; rfl)) trivial ?_ trivial
 refine s_fin ?_
 refine W_seq ?_
 refine W_region (.pu 0 (.ef 1 [] .fin .no)) rfl rfl ?_
 refine sp 1 (.agg #[(.int .i64 0), (.int .i64 0), (.int .i64 9223372036854775807), (.int .i64 ((-9223372036854775808))), (.int .i64 0)]) rfl rfl (fun w => by kernel_rfl) ?_
 obtain ⟨e5, H⟩ := H
 obtain ⟨h2, e4⟩ : ∃ hh : Heap, hh = hsets h1 p1 0 [(.int .i64 0), (.int .i64 0), (.int .i64 9223372036854775807), (.int .i64 ((-9223372036854775808))), (.int .i64 0)] := ⟨_, rfl⟩
 have H := H h2 e4
 refine s_st (d := none) (h' := h2) rfl rfl rfl (fun dr => (r_store (v := (.agg #[(.int .i64 0), (.int .i64 0), (.int .i64 9223372036854775807), (.int .i64 ((-9223372036854775808))), (.int .i64 0)])) Tryz.sizeOf66 rfl rfl rfl (one_all rfl) e5).trans (by rw [e4]; rfl)) trivial ?_ trivial
 refine s_fin ?_
 refine W_ret ?_
 obtain ⟨x6, e7, H⟩ := H
 obtain ⟨x8, e9, H⟩ := H
 obtain ⟨x10, e11, H⟩ := H
 obtain ⟨x12, e13, H⟩ := H
 obtain ⟨x14, e15, H⟩ := H
 exact ⟨[(.agg #[(.int .i64 x6), (.int .i64 x8), (.int .i64 x10), (.int .i64 x12), (.int .i64 x14)])], ⟨_, _, _, rfl, rfl, fun dr => run_loadVarN Tryz.isAgg66 Tryz.sizeOf66 (vs := [(.int .i64 x6), (.int .i64 x8), (.int .i64 x10), (.int .i64 x12), (.int .i64 x14)]) rfl ⟨e7, e9, e11, e13, e15, trivial⟩, rfl⟩, x6, x8, x10, x12, x14, rfl, H⟩
def mono_One_F (r : World) (x1 : Int) (h : Heap) (R : Int → Int → Int → Int → Int → Heap → Prop) : Prop :=
 New h (.cells #[(.int .i64 0), (.int .i64 0), (.int .i64 0), (.int .i64 0), (.int .i64 0)] 66) fun p2 h1 =>
 mono_mod r x1 h1 fun y5 h2 =>
 mono_mod r (w64 (y5 + 1)) h2 fun y6 h3 =>
 St h3 p2 5 [(.int .i64 1), (.int .i64 x1), (.int .i64 x1), (.int .i64 x1), (.int .i64 y6)] fun h4 =>
 LdI h4 (Addr.add p2 0) fun x9 =>
 LdI h4 (Addr.add p2 1) fun x11 =>
 LdI h4 (Addr.add p2 2) fun x13 =>
 LdI h4 (Addr.add p2 3) fun x15 =>
 LdI h4 (Addr.add p2 4) fun x17 =>
 R x9 x11 x13 x15 x17 h4
theorem mono_One_of {r : World} {x1 : Int} {h : Heap} {R : Int → Int → Int → Int → Int → Heap → Prop} (H : mono_One_F r x1 h R) : mono_One r x1 h R := by
 unfold mono_One_F at H
 refine calls_of 11 [.cell 2 66] Tryz.func101 rfl rfl rfl rfl rfl ?_
 refine W_seq ?_
 refine W_region (.ef 0 [] .fin .no) rfl rfl ?_
 obtain ⟨p2, e3⟩ : ∃ p : Addr, p = ⟨h.size, 0, none⟩ := ⟨_, rfl⟩
 obtain ⟨h1, e4⟩ : ∃ hh : Heap, hh = h.push (.cells #[(.int .i64 0), (.int .i64 0), (.int .i64 0), (.int .i64 0), (.int .i64 0)] 66) := ⟨_, rfl⟩
 have H := H p2 h1 e3 e4
 refine s_ef1 (d := some 2) (v := (.pointer (some p2))) (h' := h1) rfl rfl rfl (fun dr => (r_alloc Tryz.zeroValue66).trans (by rw [e3, e4]; rfl)) trivial ?_ trivial
 refine s_fin ?_
 refine W_seq ?_
 refine W_region (.pu 0 (.pu 1 (.pu 2 (.pu 3 (.ef 4 [] (.pu 5 (.ef 6 [] (.pu 7 (.ef 8 [] .fin .no)) .no)) .no))))) rfl rfl ?_
 refine sp 3 (.int .i64 x1) rfl rfl (r_move rfl) ?_
 refine sp 4 (.int .i64 x1) rfl rfl (r_move rfl) ?_
 refine sp 5 (.int .i64 x1) rfl rfl (r_move rfl) ?_
 refine sp 6 (.int .i64 x1) rfl rfl (r_move rfl) ?_
 refine sc 7 rfl rfl (fun dr => r_call Tryz.call124 rfl rfl H) ?_
 rintro _ h2 ⟨y5, rfl, H⟩
 refine sp 8 (.int .i64 (w64 (y5 + 1))) rfl rfl (r_add rfl rfl) ?_
 refine sc 9 rfl rfl (fun dr => r_call Tryz.call124 rfl rfl H) ?_
 rintro _ h3 ⟨y6, rfl, H⟩
 refine sp 10 (.agg #[(.int .i64 1), (.int .i64 x1), (.int .i64 x1), (.int .i64 x1), (.int .i64 y6)]) rfl rfl (fun w => by kernel_rfl) ?_
 obtain ⟨e8, H⟩ := H
 obtain ⟨h4, e7⟩ : ∃ hh : Heap, hh = hsets h3 p2 0 [(.int .i64 1), (.int .i64 x1), (.int .i64 x1), (.int .i64 x1), (.int .i64 y6)] := ⟨_, rfl⟩
 have H := H h4 e7
 refine s_st (d := none) (h' := h4) rfl rfl rfl (fun dr => (r_store (v := (.agg #[(.int .i64 1), (.int .i64 x1), (.int .i64 x1), (.int .i64 x1), (.int .i64 y6)])) Tryz.sizeOf66 rfl rfl rfl (one_all rfl) e8).trans (by rw [e7]; rfl)) trivial ?_ trivial
 refine s_fin ?_
 refine W_ret ?_
 obtain ⟨x9, e10, H⟩ := H
 obtain ⟨x11, e12, H⟩ := H
 obtain ⟨x13, e14, H⟩ := H
 obtain ⟨x15, e16, H⟩ := H
 obtain ⟨x17, e18, H⟩ := H
 exact ⟨[(.agg #[(.int .i64 x9), (.int .i64 x11), (.int .i64 x13), (.int .i64 x15), (.int .i64 x17)])], ⟨_, _, _, rfl, rfl, fun dr => run_loadVarN Tryz.isAgg66 Tryz.sizeOf66 (vs := [(.int .i64 x9), (.int .i64 x11), (.int .i64 x13), (.int .i64 x15), (.int .i64 x17)]) rfl ⟨e10, e12, e14, e16, e18, trivial⟩, rfl⟩, x9, x11, x13, x15, x17, rfl, H⟩
def mono_Join_F (r : World) (a1 : Int) (a2 : Int) (a3 : Int) (a4 : Int) (a5 : Int) (vb6 : Int) (vb7 : Int) (vb8 : Int) (vb9 : Int) (vb10 : Int) (h : Heap) (R : Int → Int → Int → Int → Int → Heap → Prop) : Prop :=
 New h (.cells #[(.int .i64 a1), (.int .i64 a2), (.int .i64 a3), (.int .i64 a4), (.int .i64 a5)] 66) fun p11 h1 =>
 New h1 (.cells #[(.int .i64 vb6), (.int .i64 vb7), (.int .i64 vb8), (.int .i64 vb9), (.int .i64 vb10)] 66) fun p14 h2 =>
 New h2 (.cells #[(.int .i64 0), (.int .i64 0), (.int .i64 0), (.int .i64 0), (.int .i64 0)] 66) fun p17 h3 =>
 LdI h3 (Addr.add p11 0) fun x20 =>
 LdI h3 (Addr.add p14 0) fun x22 =>
 LdI h3 (Addr.add p11 1) fun x24 =>
 LdI h3 (Addr.add p14 1) fun x26 =>
 LdI h3 (Addr.add p11 2) fun x28 =>
 LdI h3 (Addr.add p14 2) fun x30 =>
 LdI h3 (Addr.add p11 3) fun x32 =>
 LdI h3 (Addr.add p14 3) fun x34 =>
 LdI h3 (Addr.add p11 4) fun x36 =>
 LdI h3 (Addr.add p14 0) fun x38 =>
 LdI h3 (Addr.add p14 4) fun x40 =>
 mono_mod r x36 h3 fun y42 h4 =>
 (hcell h4 (Addr.add p14 4) = some (.int .i64 x40)) ∧
 (hcell h4 (Addr.add p14 0) = some (.int .i64 x38)) ∧
 (hcell h4 (Addr.add p14 3) = some (.int .i64 x34)) ∧
 (hcell h4 (Addr.add p11 3) = some (.int .i64 x32)) ∧
 (hcell h4 (Addr.add p14 2) = some (.int .i64 x30)) ∧
 (hcell h4 (Addr.add p11 2) = some (.int .i64 x28)) ∧
 (hcell h4 (Addr.add p14 1) = some (.int .i64 x26)) ∧
 (hcell h4 (Addr.add p11 1) = some (.int .i64 x24)) ∧
 (hcell h4 (Addr.add p14 0) = some (.int .i64 x22)) ∧
 (hcell h4 (Addr.add p11 0) = some (.int .i64 x20)) ∧
 mono_power r x38 h4 fun y53 h5 =>
 (hcell h5 (Addr.add p14 4) = some (.int .i64 x40)) ∧
 (hcell h5 (Addr.add p14 3) = some (.int .i64 x34)) ∧
 (hcell h5 (Addr.add p11 3) = some (.int .i64 x32)) ∧
 (hcell h5 (Addr.add p14 2) = some (.int .i64 x30)) ∧
 (hcell h5 (Addr.add p11 2) = some (.int .i64 x28)) ∧
 (hcell h5 (Addr.add p14 1) = some (.int .i64 x26)) ∧
 (hcell h5 (Addr.add p11 1) = some (.int .i64 x24)) ∧
 (hcell h5 (Addr.add p14 0) = some (.int .i64 x22)) ∧
 (hcell h5 (Addr.add p11 0) = some (.int .i64 x20)) ∧
 mono_mod r x40 h5 fun y63 h6 =>
 (hcell h6 (Addr.add p14 3) = some (.int .i64 x34)) ∧
 (hcell h6 (Addr.add p11 3) = some (.int .i64 x32)) ∧
 (hcell h6 (Addr.add p14 2) = some (.int .i64 x30)) ∧
 (hcell h6 (Addr.add p11 2) = some (.int .i64 x28)) ∧
 (hcell h6 (Addr.add p14 1) = some (.int .i64 x26)) ∧
 (hcell h6 (Addr.add p11 1) = some (.int .i64 x24)) ∧
 (hcell h6 (Addr.add p14 0) = some (.int .i64 x22)) ∧
 (hcell h6 (Addr.add p11 0) = some (.int .i64 x20)) ∧
 St h6 p17 5 [(.int .i64 (w64 (x20 + x22))), (.int .i64 (w64 (x24 + x26))), (.int .i64 (min x28 x30)), (.int .i64 (max x32 x34)), (.int .i64 (Int.tmod (w64 ((w64 (y42 * y53)) + y63)) 2147483647))] fun h7 =>
 LdI h7 (Addr.add p17 0) fun x74 =>
 LdI h7 (Addr.add p17 1) fun x76 =>
 LdI h7 (Addr.add p17 2) fun x78 =>
 LdI h7 (Addr.add p17 3) fun x80 =>
 LdI h7 (Addr.add p17 4) fun x82 =>
 R x74 x76 x78 x80 x82 h7
theorem mono_Join_of {r : World} {a1 : Int} {a2 : Int} {a3 : Int} {a4 : Int} {a5 : Int} {vb6 : Int} {vb7 : Int} {vb8 : Int} {vb9 : Int} {vb10 : Int} {h : Heap} {R : Int → Int → Int → Int → Int → Heap → Prop} (H : mono_Join_F r a1 a2 a3 a4 a5 vb6 vb7 vb8 vb9 vb10 h R) : mono_Join r a1 a2 a3 a4 a5 vb6 vb7 vb8 vb9 vb10 h R := by
 unfold mono_Join_F at H
 refine calls_of 38 [.cell 4 66] Tryz.func119 rfl rfl rfl rfl rfl ?_
 refine W_seq ?_
 refine W_region (.ef 0 [] (.ef 1 [] (.ef 2 [] .fin .no) .no) .no) rfl rfl ?_
 obtain ⟨p11, e12⟩ : ∃ p : Addr, p = ⟨h.size, 0, none⟩ := ⟨_, rfl⟩
 obtain ⟨h1, e13⟩ : ∃ hh : Heap, hh = h.push (.cells #[(.int .i64 a1), (.int .i64 a2), (.int .i64 a3), (.int .i64 a4), (.int .i64 a5)] 66) := ⟨_, rfl⟩
 have H := H p11 h1 e12 e13
 refine s_ef1 (d := some 2) (v := (.pointer (some p11))) (h' := h1) rfl rfl rfl (fun dr => (r_box (v := (.agg #[(.int .i64 a1), (.int .i64 a2), (.int .i64 a3), (.int .i64 a4), (.int .i64 a5)])) rfl).trans (by rw [e12, e13]; rfl)) trivial ?_ trivial
 obtain ⟨p14, e15⟩ : ∃ p : Addr, p = ⟨h1.size, 0, none⟩ := ⟨_, rfl⟩
 obtain ⟨h2, e16⟩ : ∃ hh : Heap, hh = h1.push (.cells #[(.int .i64 vb6), (.int .i64 vb7), (.int .i64 vb8), (.int .i64 vb9), (.int .i64 vb10)] 66) := ⟨_, rfl⟩
 have H := H p14 h2 e15 e16
 refine s_ef1 (d := some 3) (v := (.pointer (some p14))) (h' := h2) rfl rfl rfl (fun dr => (r_box (v := (.agg #[(.int .i64 vb6), (.int .i64 vb7), (.int .i64 vb8), (.int .i64 vb9), (.int .i64 vb10)])) rfl).trans (by rw [e15, e16]; rfl)) trivial ?_ trivial
 obtain ⟨p17, e18⟩ : ∃ p : Addr, p = ⟨h2.size, 0, none⟩ := ⟨_, rfl⟩
 obtain ⟨h3, e19⟩ : ∃ hh : Heap, hh = h2.push (.cells #[(.int .i64 0), (.int .i64 0), (.int .i64 0), (.int .i64 0), (.int .i64 0)] 66) := ⟨_, rfl⟩
 have H := H p17 h3 e18 e19
 refine s_ef1 (d := some 4) (v := (.pointer (some p17))) (h' := h3) rfl rfl rfl (fun dr => (r_alloc Tryz.zeroValue66).trans (by rw [e18, e19]; rfl)) trivial ?_ trivial
 refine s_fin ?_
 refine W_seq ?_
 refine W_draw [0, 1, 0, 4, 15, 0, 32, 0, 128, 480, 0, 1024, 0, 4096, 15360, 0, 32768, 0, 131072, 491520, 0, 1048576, 3145728, 0, 8388608, 32505856, 66060288, 0, 134217728, 468713472, 1072693248, 2146435072, 4294967295, 8589934591] (.pu 0 (.rd 1 (.pu 2 (.rd 3 (.pu 4 (.pu 5 (.rd 6 (.pu 7 (.rd 8 (.pu 9 (.pu 10 (.rd 11 (.pu 12 (.rd 13 (.pu 14 (.pu 15 (.rd 16 (.pu 17 (.rd 18 (.pu 19 (.pu 20 (.rd 21 (.pu 23 (.rd 24 (.pu 27 (.rd 28 (.ef 22 [21] (.ef 25 [21, 24] (.pu 26 (.ef 29 [21, 24, 28] (.pu 30 (.pu 31 (.pu 32 (.ef 33 [1, 3, 6, 8, 11, 13, 16, 18, 21, 24, 28] .fin .no)))) .no)) .no) .no))))))))))))))))))))))))))) (by kernel_rfl) (by kernel_rfl) ?_
 refine sp 5 (.pointer (some (Addr.add p11 0))) rfl rfl (r_fieldAddr Tryz.underlying66 Tryz.sizeOf3 rfl rfl rfl) ?_
 obtain ⟨x20, e21, H⟩ := H
 refine s_rd (d := some 6) (v := (.int .i64 x20)) rfl rfl rfl (fun dr => r_load1 Tryz.isAgg3 rfl e21) ?_
 refine sp 7 (.pointer (some (Addr.add p14 0))) rfl rfl (r_fieldAddr Tryz.underlying66 Tryz.sizeOf3 rfl rfl rfl) ?_
 obtain ⟨x22, e23, H⟩ := H
 refine s_rd (d := some 8) (v := (.int .i64 x22)) rfl rfl rfl (fun dr => r_load1 Tryz.isAgg3 rfl e23) ?_
 refine sp 9 (.int .i64 (w64 (x20 + x22))) rfl rfl (r_add rfl rfl) ?_
 refine sp 10 (.pointer (some (Addr.add p11 1))) rfl rfl (r_fieldAddr Tryz.underlying66 Tryz.sizeOf3 rfl rfl rfl) ?_
 obtain ⟨x24, e25, H⟩ := H
 refine s_rd (d := some 11) (v := (.int .i64 x24)) rfl rfl rfl (fun dr => r_load1 Tryz.isAgg3 rfl e25) ?_
 refine sp 12 (.pointer (some (Addr.add p14 1))) rfl rfl (r_fieldAddr Tryz.underlying66 Tryz.sizeOf3 rfl rfl rfl) ?_
 obtain ⟨x26, e27, H⟩ := H
 refine s_rd (d := some 13) (v := (.int .i64 x26)) rfl rfl rfl (fun dr => r_load1 Tryz.isAgg3 rfl e27) ?_
 refine sp 14 (.int .i64 (w64 (x24 + x26))) rfl rfl (r_add rfl rfl) ?_
 refine sp 15 (.pointer (some (Addr.add p11 2))) rfl rfl (r_fieldAddr Tryz.underlying66 Tryz.sizeOf3 rfl rfl rfl) ?_
 obtain ⟨x28, e29, H⟩ := H
 refine s_rd (d := some 16) (v := (.int .i64 x28)) rfl rfl rfl (fun dr => r_load1 Tryz.isAgg3 rfl e29) ?_
 refine sp 17 (.pointer (some (Addr.add p14 2))) rfl rfl (r_fieldAddr Tryz.underlying66 Tryz.sizeOf3 rfl rfl rfl) ?_
 obtain ⟨x30, e31, H⟩ := H
 refine s_rd (d := some 18) (v := (.int .i64 x30)) rfl rfl rfl (fun dr => r_load1 Tryz.isAgg3 rfl e31) ?_
 refine sp 19 (.int .i64 (min x28 x30)) rfl rfl (r_min rfl rfl) ?_
 refine sp 20 (.pointer (some (Addr.add p11 3))) rfl rfl (r_fieldAddr Tryz.underlying66 Tryz.sizeOf3 rfl rfl rfl) ?_
 obtain ⟨x32, e33, H⟩ := H
 refine s_rd (d := some 21) (v := (.int .i64 x32)) rfl rfl rfl (fun dr => r_load1 Tryz.isAgg3 rfl e33) ?_
 refine sp 22 (.pointer (some (Addr.add p14 3))) rfl rfl (r_fieldAddr Tryz.underlying66 Tryz.sizeOf3 rfl rfl rfl) ?_
 obtain ⟨x34, e35, H⟩ := H
 refine s_rd (d := some 23) (v := (.int .i64 x34)) rfl rfl rfl (fun dr => r_load1 Tryz.isAgg3 rfl e35) ?_
 refine sp 24 (.int .i64 (max x32 x34)) rfl rfl (r_max rfl rfl) ?_
 refine sp 25 (.pointer (some (Addr.add p11 4))) rfl rfl (r_fieldAddr Tryz.underlying66 Tryz.sizeOf3 rfl rfl rfl) ?_
 obtain ⟨x36, e37, H⟩ := H
 refine s_rd (d := some 26) (v := (.int .i64 x36)) rfl rfl rfl (fun dr => r_load1 Tryz.isAgg3 rfl e37) ?_
 refine sp 28 (.pointer (some (Addr.add p14 0))) rfl rfl (r_fieldAddr Tryz.underlying66 Tryz.sizeOf3 rfl rfl rfl) ?_
 obtain ⟨x38, e39, H⟩ := H
 refine s_rd (d := some 29) (v := (.int .i64 x38)) rfl rfl rfl (fun dr => r_load1 Tryz.isAgg3 rfl e39) ?_
 refine sp 32 (.pointer (some (Addr.add p14 4))) rfl rfl (r_fieldAddr Tryz.underlying66 Tryz.sizeOf3 rfl rfl rfl) ?_
 obtain ⟨x40, e41, H⟩ := H
 refine s_rd (d := some 33) (v := (.int .i64 x40)) rfl rfl rfl (fun dr => r_load1 Tryz.isAgg3 rfl e41) ?_
 refine s_ef (d := some 27) rfl rfl rfl (fun dr => r_call Tryz.call124 rfl rfl H) ?_ trivial
 rintro _ h4 ⟨y42, rfl, H⟩
 obtain ⟨e43, H⟩ := H
 obtain ⟨e44, H⟩ := H
 obtain ⟨e45, H⟩ := H
 obtain ⟨e46, H⟩ := H
 obtain ⟨e47, H⟩ := H
 obtain ⟨e48, H⟩ := H
 obtain ⟨e49, H⟩ := H
 obtain ⟨e50, H⟩ := H
 obtain ⟨e51, H⟩ := H
 obtain ⟨e52, H⟩ := H
 refine ⟨⟨(.inl ⟨rfl, fun dr => r_load1 Tryz.isAgg3 rfl e43⟩), (.inl ⟨rfl, fun dr => r_load1 Tryz.isAgg3 rfl e44⟩), trivial, (.inl ⟨rfl, fun dr => r_load1 Tryz.isAgg3 rfl e45⟩), (.inl ⟨rfl, fun dr => r_load1 Tryz.isAgg3 rfl e46⟩), (.inl ⟨rfl, fun dr => r_load1 Tryz.isAgg3 rfl e47⟩), (.inl ⟨rfl, fun dr => r_load1 Tryz.isAgg3 rfl e48⟩), (.inl ⟨rfl, fun dr => r_load1 Tryz.isAgg3 rfl e49⟩), (.inl ⟨rfl, fun dr => r_load1 Tryz.isAgg3 rfl e50⟩), (.inl ⟨rfl, fun dr => r_load1 Tryz.isAgg3 rfl e51⟩), (.inl ⟨rfl, fun dr => r_load1 Tryz.isAgg3 rfl e52⟩), trivial⟩, ?_⟩
 refine s_ef (d := some 30) rfl rfl rfl (fun dr => r_call Tryz.call136 rfl rfl H) ?_ trivial
 rintro _ h5 ⟨y53, rfl, H⟩
 obtain ⟨e54, H⟩ := H
 obtain ⟨e55, H⟩ := H
 obtain ⟨e56, H⟩ := H
 obtain ⟨e57, H⟩ := H
 obtain ⟨e58, H⟩ := H
 obtain ⟨e59, H⟩ := H
 obtain ⟨e60, H⟩ := H
 obtain ⟨e61, H⟩ := H
 obtain ⟨e62, H⟩ := H
 refine ⟨⟨(.inl ⟨rfl, fun dr => r_load1 Tryz.isAgg3 rfl e54⟩), trivial, trivial, (.inl ⟨rfl, fun dr => r_load1 Tryz.isAgg3 rfl e55⟩), (.inl ⟨rfl, fun dr => r_load1 Tryz.isAgg3 rfl e56⟩), (.inl ⟨rfl, fun dr => r_load1 Tryz.isAgg3 rfl e57⟩), (.inl ⟨rfl, fun dr => r_load1 Tryz.isAgg3 rfl e58⟩), (.inl ⟨rfl, fun dr => r_load1 Tryz.isAgg3 rfl e59⟩), (.inl ⟨rfl, fun dr => r_load1 Tryz.isAgg3 rfl e60⟩), (.inl ⟨rfl, fun dr => r_load1 Tryz.isAgg3 rfl e61⟩), (.inl ⟨rfl, fun dr => r_load1 Tryz.isAgg3 rfl e62⟩), trivial⟩, ?_⟩
 refine sp 31 (.int .i64 (w64 (y42 * y53))) rfl rfl (r_mul rfl rfl) ?_
 refine s_ef (d := some 34) rfl rfl rfl (fun dr => r_call Tryz.call124 rfl rfl H) ?_ trivial
 rintro _ h6 ⟨y63, rfl, H⟩
 obtain ⟨e64, H⟩ := H
 obtain ⟨e65, H⟩ := H
 obtain ⟨e66, H⟩ := H
 obtain ⟨e67, H⟩ := H
 obtain ⟨e68, H⟩ := H
 obtain ⟨e69, H⟩ := H
 obtain ⟨e70, H⟩ := H
 obtain ⟨e71, H⟩ := H
 refine ⟨⟨trivial, trivial, trivial, (.inl ⟨rfl, fun dr => r_load1 Tryz.isAgg3 rfl e64⟩), (.inl ⟨rfl, fun dr => r_load1 Tryz.isAgg3 rfl e65⟩), (.inl ⟨rfl, fun dr => r_load1 Tryz.isAgg3 rfl e66⟩), (.inl ⟨rfl, fun dr => r_load1 Tryz.isAgg3 rfl e67⟩), (.inl ⟨rfl, fun dr => r_load1 Tryz.isAgg3 rfl e68⟩), (.inl ⟨rfl, fun dr => r_load1 Tryz.isAgg3 rfl e69⟩), (.inl ⟨rfl, fun dr => r_load1 Tryz.isAgg3 rfl e70⟩), (.inl ⟨rfl, fun dr => r_load1 Tryz.isAgg3 rfl e71⟩), trivial⟩, ?_⟩
 refine sp 35 (.int .i64 (w64 ((w64 (y42 * y53)) + y63))) rfl rfl (r_add rfl rfl) ?_
 refine sp 36 (.int .i64 (Int.tmod (w64 ((w64 (y42 * y53)) + y63)) 2147483647)) rfl rfl (r_rem rfl rfl (by decide)) ?_
 refine sp 37 (.agg #[(.int .i64 (w64 (x20 + x22))), (.int .i64 (w64 (x24 + x26))), (.int .i64 (min x28 x30)), (.int .i64 (max x32 x34)), (.int .i64 (Int.tmod (w64 ((w64 (y42 * y53)) + y63)) 2147483647))]) rfl rfl (fun w => by kernel_rfl) ?_
 obtain ⟨e73, H⟩ := H
 obtain ⟨h7, e72⟩ : ∃ hh : Heap, hh = hsets h6 p17 0 [(.int .i64 (w64 (x20 + x22))), (.int .i64 (w64 (x24 + x26))), (.int .i64 (min x28 x30)), (.int .i64 (max x32 x34)), (.int .i64 (Int.tmod (w64 ((w64 (y42 * y53)) + y63)) 2147483647))] := ⟨_, rfl⟩
 have H := H h7 e72
 refine s_st (d := none) (h' := h7) rfl rfl rfl (fun dr => (r_store (v := (.agg #[(.int .i64 (w64 (x20 + x22))), (.int .i64 (w64 (x24 + x26))), (.int .i64 (min x28 x30)), (.int .i64 (max x32 x34)), (.int .i64 (Int.tmod (w64 ((w64 (y42 * y53)) + y63)) 2147483647))])) Tryz.sizeOf66 rfl rfl rfl (one_all rfl) e73).trans (by rw [e72]; rfl)) ⟨trivial, trivial, trivial, trivial, trivial, trivial, trivial, trivial, trivial, trivial, trivial, trivial⟩ ?_ trivial
 refine s_fin ?_
 refine W_ret ?_
 obtain ⟨x74, e75, H⟩ := H
 obtain ⟨x76, e77, H⟩ := H
 obtain ⟨x78, e79, H⟩ := H
 obtain ⟨x80, e81, H⟩ := H
 obtain ⟨x82, e83, H⟩ := H
 exact ⟨[(.agg #[(.int .i64 x74), (.int .i64 x76), (.int .i64 x78), (.int .i64 x80), (.int .i64 x82)])], ⟨_, _, _, rfl, rfl, fun dr => run_loadVarN Tryz.isAgg66 Tryz.sizeOf66 (vs := [(.int .i64 x74), (.int .i64 x76), (.int .i64 x78), (.int .i64 x80), (.int .i64 x82)]) rfl ⟨e75, e77, e79, e81, e83, trivial⟩, rfl⟩, x74, x76, x78, x80, x82, rfl, H⟩
def ref1_SumOf_F (r : World) (l1 : Sl) (h : Heap) (R : Int → Heap → Prop) : Prop :=
 ∀ X4 : Int → Int → Prop, (∀ (n2 : Int) (i3 : Int),
  (Br (decide (i3 < ((l1.len : Int)))) (
   Ix l1 i3 1 fun q9 =>
   LdI h q9 fun x11 =>
   X4 (w64 (n2 + x11)) (w64 (i3 + 1))) (
   R n2 h)) →
  X4 n2 i3) →
 X4 0 0
theorem ref1_SumOf_of {r : World} {l1 : Sl} {h : Heap} {R : Int → Heap → Prop} (H : ref1_SumOf_F r l1 h R) : ref1_SumOf r l1 h R := by
 unfold ref1_SumOf_F at H
 refine calls_of 18 [.tmp 2] Tryz.func17 rfl rfl rfl rfl rfl ?_
 refine W_seq ?_
 refine W_region (.pu 0 .fin) rfl rfl ?_
 refine sp 2 (.int .i64 0) rfl rfl (r_assign rfl) ?_
 refine s_fin ?_
 refine W_seq ?_
 refine W_region (.pu 0 .fin) rfl rfl ?_
 refine sp 3 (.int .i64 0) rfl rfl (r_assign rfl) ?_
 refine s_fin ?_
 refine W_seq ?_
 refine W_seq ?_
 refine W_region (.pu 0 .fin) rfl rfl ?_
 refine sp 4 (.int .i64 0) rfl rfl (r_assign rfl) ?_
 refine s_fin ?_
 refine W_block ?_
 refine W_loop (WL_mk (l := [(0, (Sl.v l1)), (3, (.int .i64 0)), (4, (.int .i64 0))]) ?_ ⟨rfl, rfl, rfl, trivial⟩)
 refine H (fun (n2 : Int) (i3 : Int) => ∀ b, WL _ _ _ _ _ _ (mkE [(0, (Sl.v l1)), (3, (.int .i64 n2)), (4, (.int .i64 i3))] b) h) ?_
 intro n2 i3 H b
 refine WL_round ?_
 refine W_seq ?_
 refine W_seq ?_
 refine W_region (.pu 0 (.pu 1 (.pu 2 (.pu 3 .fin)))) rfl rfl ?_
 refine sp 5 (.int .i64 i3) rfl rfl (r_move rfl) ?_
 refine sp 6 (Sl.v l1) rfl rfl (r_move rfl) ?_
 refine sp 7 (.int .i64 ((l1.len : Int))) rfl rfl (r_len Tryz.underlying26 rfl) ?_
 refine sp 8 (.bool (decide (i3 < ((l1.len : Int))))) rfl rfl (r_lss rfl rfl) ?_
 refine s_fin ?_
 refine W_if (decide (i3 < ((l1.len : Int)))) rfl (fun g13 => ?_) (fun g13 => ?_)
 ·have H := H.1 g13
  refine W_skip ?_
  show W _ _ _ _ _ _ _ _
  refine W_seq ?_
  refine W_block ?_
  refine W_region (.pu 0 (.pu 1 (.pu 2 (.pu 3 (.rl 4 (.pu 5 (.pu 6 .fin))))))) rfl rfl ?_
  refine sp 11 (.int .i64 n2) rfl rfl (r_move rfl) ?_
  refine sp 12 (Sl.v l1) rfl rfl (r_move rfl) ?_
  refine sp 13 (.int .i64 i3) rfl rfl (r_move rfl) ?_
  obtain ⟨p5, e6, e7, e8, H⟩ := H
  obtain ⟨q9, e10⟩ : ∃ q : Addr, q = Addr.add p5 (Int.toNat i3 * 1) := ⟨_, rfl⟩
  rw [← e10] at H
  refine sp 14 (.pointer (some q9)) rfl rfl (fun w => (r_indexAddr Tryz.underlying26 Tryz.sizeOf3 rfl rfl e6 e7 e8 w).trans (by rw [e10])) ?_
  obtain ⟨x11, e12, H⟩ := H
  refine sl 15 (.int .i64 x11) rfl rfl (fun dr => r_load1 Tryz.isAgg3 rfl e12) ?_
  refine sp 16 (.int .i64 (w64 (n2 + x11))) rfl rfl (r_add rfl rfl) ?_
  refine sp 3 (.int .i64 (w64 (n2 + x11))) rfl rfl (r_assign rfl) ?_
  refine s_fin ?_
  refine W_region (.pu 0 (.pu 1 (.pu 2 .fin))) rfl rfl ?_
  refine sp 9 (.int .i64 i3) rfl rfl (r_move rfl) ?_
  refine sp 10 (.int .i64 (w64 (i3 + 1))) rfl rfl (r_add rfl rfl) ?_
  refine sp 4 (.int .i64 (w64 (i3 + 1))) rfl rfl (r_assign rfl) ?_
  refine s_fin ?_
  exact WL_mk (l := [(0, (Sl.v l1)), (3, (.int .i64 (w64 (n2 + x11)))), (4, (.int .i64 (w64 (i3 + 1))))]) H ⟨rfl, rfl, rfl, trivial⟩
 ·have H := H.2 g13
  refine W_exit (inX_here ?_)
  show W _ _ _ _ _ _ _ _
  refine W_seq ?_
  refine W_region (.pu 0 (.pu 1 .fin)) rfl rfl ?_
  refine sp 17 (.int .i64 n2) rfl rfl (r_move rfl) ?_
  refine sp 2 (.int .i64 n2) rfl rfl (r_assign rfl) ?_
  refine s_fin ?_
  refine W_ret ?_
  exact ⟨[(.int .i64 n2)], ⟨_, _, rfl, rfl, rfl⟩, n2, rfl, H⟩
def ref1_Cat_F (r : World) (a1 : Sl) (vb2 : Sl) (h : Heap) (R : Sl → Heap → Prop) : Prop :=
 App 3 1 8 (.int .i64 0) Sl.nil a1 h fun s3 h1 =>
 App 3 1 8 (.int .i64 0) s3 vb2 h1 fun s4 h2 =>
 R s4 h2
theorem ref1_Cat_of {r : World} {a1 : Sl} {vb2 : Sl} {h : Heap} {R : Sl → Heap → Prop} (H : ref1_Cat_F r a1 vb2 h R) : ref1_Cat r a1 vb2 h R := by
 unfold ref1_Cat_F at H
 refine calls_of 12 [.tmp 4] Tryz.func37 rfl rfl rfl rfl rfl ?_
 refine W_seq ?_
 refine W_region (.pu 0 .fin) rfl rfl ?_
 refine sp 4 (Sl.v Sl.nil) rfl rfl (r_assign rfl) ?_
 refine s_fin ?_
 refine W_seq ?_
 refine W_region (.pu 0 .fin) rfl rfl ?_
 refine sp 5 (Sl.v Sl.nil) rfl rfl (r_assign rfl) ?_
 refine s_fin ?_
 refine W_seq ?_
 refine W_region (.pu 0 (.pu 1 (.ef 2 [] (.pu 3 .fin) .no))) rfl rfl ?_
 refine sp 6 (Sl.v Sl.nil) rfl rfl (r_move rfl) ?_
 refine sp 7 (Sl.v a1) rfl rfl (r_move rfl) ?_
 refine s_ef (d := some 8) rfl rfl rfl (fun dr => slFGMono_26.append rfl rfl H) ?_ trivial
 rintro _ h1 ⟨s3, rfl, H⟩
 refine ⟨trivial, ?_⟩
 refine sp 5 (Sl.v s3) rfl rfl (r_assign rfl) ?_
 refine s_fin ?_
 refine W_seq ?_
 refine W_region (.pu 0 (.pu 1 (.ef 2 [] (.pu 3 .fin) .no))) rfl rfl ?_
 refine sp 9 (Sl.v s3) rfl rfl (r_move rfl) ?_
 refine sp 10 (Sl.v vb2) rfl rfl (r_move rfl) ?_
 refine s_ef (d := some 11) rfl rfl rfl (fun dr => slFGMono_26.append rfl rfl H) ?_ trivial
 rintro _ h2 ⟨s4, rfl, H⟩
 refine ⟨trivial, ?_⟩
 refine sp 4 (Sl.v s4) rfl rfl (r_assign rfl) ?_
 refine s_fin ?_
 refine W_ret ?_
 exact ⟨[(Sl.v s4)], ⟨_, _, rfl, rfl, rfl⟩, s4, rfl, H⟩
def ref1_Below_F (r : World) (l1 : Sl) (x2 : Int) (h : Heap) (R : Int → Heap → Prop) : Prop :=
 ∀ X5 : Int → Int → Prop, (∀ (n3 : Int) (i4 : Int),
  (Br (decide (i4 < ((l1.len : Int)))) (
   ∀ J7 : Int → Prop, (∀ (n6 : Int),
    (X5 n6 (w64 (i4 + 1))) →
    J7 n6) →
   Ix l1 i4 1 fun q13 =>
   LdI h q13 fun x15 =>
   Br (decide (x15 < x2)) (
    J7 (w64 (n3 + 1))) (
    J7 n3)) (
   R n3 h)) →
  X5 n3 i4) →
 X5 0 0
theorem ref1_Below_of {r : World} {l1 : Sl} {x2 : Int} {h : Heap} {R : Int → Heap → Prop} (H : ref1_Below_F r l1 x2 h R) : ref1_Below r l1 x2 h R := by
 unfold ref1_Below_F at H
 refine calls_of 22 [.tmp 4] Tryz.func35 rfl rfl rfl rfl rfl ?_
 refine W_seq ?_
 refine W_region (.pu 0 .fin) rfl rfl ?_
 refine sp 4 (.int .i64 0) rfl rfl (r_assign rfl) ?_
 refine s_fin ?_
 refine W_seq ?_
 refine W_region (.pu 0 .fin) rfl rfl ?_
 refine sp 5 (.int .i64 0) rfl rfl (r_assign rfl) ?_
 refine s_fin ?_
 refine W_seq ?_
 refine W_seq ?_
 refine W_region (.pu 0 .fin) rfl rfl ?_
 refine sp 6 (.int .i64 0) rfl rfl (r_assign rfl) ?_
 refine s_fin ?_
 refine W_block ?_
 refine W_loop (WL_mk (l := [(0, (Sl.v l1)), (1, (.int .i64 x2)), (5, (.int .i64 0)), (6, (.int .i64 0))]) ?_ ⟨rfl, rfl, rfl, rfl, trivial⟩)
 refine H (fun (n3 : Int) (i4 : Int) => ∀ b, WL _ _ _ _ _ _ (mkE [(0, (Sl.v l1)), (1, (.int .i64 x2)), (5, (.int .i64 n3)), (6, (.int .i64 i4))] b) h) ?_
 intro n3 i4 H b
 refine WL_round ?_
 refine W_seq ?_
 refine W_seq ?_
 refine W_region (.pu 0 (.pu 1 (.pu 2 (.pu 3 .fin)))) rfl rfl ?_
 refine sp 7 (.int .i64 i4) rfl rfl (r_move rfl) ?_
 refine sp 8 (Sl.v l1) rfl rfl (r_move rfl) ?_
 refine sp 9 (.int .i64 ((l1.len : Int))) rfl rfl (r_len Tryz.underlying26 rfl) ?_
 refine sp 10 (.bool (decide (i4 < ((l1.len : Int))))) rfl rfl (r_lss rfl rfl) ?_
 refine s_fin ?_
 refine W_if (decide (i4 < ((l1.len : Int)))) rfl (fun g18 => ?_) (fun g18 => ?_)
 ·have H := H.1 g18
  refine W_skip ?_
  show W _ _ _ _ _ _ _ _
  refine W_seq ?_
  refine W_set ?_
  intro N8 eN8
  have H := H (fun (n6 : Int) => ∀ b, N8 [] (mkE [(0, (Sl.v l1)), (1, (.int .i64 x2)), (5, (.int .i64 n6)), (6, (.int .i64 i4))] b) h) (by
   intro n6 H b
   rw [eN8]
   show W _ _ _ _ _ _ _ _
   refine W_region (.pu 0 (.pu 1 (.pu 2 .fin))) rfl rfl ?_
   refine sp 11 (.int .i64 i4) rfl rfl (r_move rfl) ?_
   refine sp 12 (.int .i64 (w64 (i4 + 1))) rfl rfl (r_add rfl rfl) ?_
   refine sp 6 (.int .i64 (w64 (i4 + 1))) rfl rfl (r_assign rfl) ?_
   refine s_fin ?_
   exact WL_mk (l := [(0, (Sl.v l1)), (1, (.int .i64 x2)), (5, (.int .i64 n6)), (6, (.int .i64 (w64 (i4 + 1))))]) H ⟨rfl, rfl, rfl, rfl, trivial⟩)
  clear eN8
  refine W_block ?_
  refine W_seq ?_
  refine W_region (.pu 0 (.pu 1 (.pu 2 (.rl 3 (.pu 4 (.pu 5 .fin)))))) rfl rfl ?_
  refine sp 13 (Sl.v l1) rfl rfl (r_move rfl) ?_
  refine sp 14 (.int .i64 i4) rfl rfl (r_move rfl) ?_
  obtain ⟨p9, e10, e11, e12, H⟩ := H
  obtain ⟨q13, e14⟩ : ∃ q : Addr, q = Addr.add p9 (Int.toNat i4 * 1) := ⟨_, rfl⟩
  rw [← e14] at H
  refine sp 15 (.pointer (some q13)) rfl rfl (fun w => (r_indexAddr Tryz.underlying26 Tryz.sizeOf3 rfl rfl e10 e11 e12 w).trans (by rw [e14])) ?_
  obtain ⟨x15, e16, H⟩ := H
  refine sl 16 (.int .i64 x15) rfl rfl (fun dr => r_load1 Tryz.isAgg3 rfl e16) ?_
  refine sp 17 (.int .i64 x2) rfl rfl (r_move rfl) ?_
  refine sp 18 (.bool (decide (x15 < x2))) rfl rfl (r_lss rfl rfl) ?_
  refine s_fin ?_
  refine W_if (decide (x15 < x2)) rfl (fun g17 => ?_) (fun g17 => ?_)
  ·have H := H.1 g17
   refine W_region (.pu 0 (.pu 1 (.pu 2 .fin))) rfl rfl ?_
   refine sp 19 (.int .i64 n3) rfl rfl (r_move rfl) ?_
   refine sp 20 (.int .i64 (w64 (n3 + 1))) rfl rfl (r_add rfl rfl) ?_
   refine sp 5 (.int .i64 (w64 (n3 + 1))) rfl rfl (r_assign rfl) ?_
   refine s_fin ?_
   exact N_mk (l := [(0, (Sl.v l1)), (1, (.int .i64 x2)), (5, (.int .i64 (w64 (n3 + 1)))), (6, (.int .i64 i4))]) H ⟨rfl, rfl, rfl, rfl, trivial⟩
  ·have H := H.2 g17
   refine W_skip ?_
   exact N_mk (l := [(0, (Sl.v l1)), (1, (.int .i64 x2)), (5, (.int .i64 n3)), (6, (.int .i64 i4))]) H ⟨rfl, rfl, rfl, rfl, trivial⟩
 ·have H := H.2 g18
  refine W_exit (inX_here ?_)
  show W _ _ _ _ _ _ _ _
  refine W_seq ?_
  refine W_region (.pu 0 (.pu 1 .fin)) rfl rfl ?_
  refine sp 21 (.int .i64 n3) rfl rfl (r_move rfl) ?_
  refine sp 4 (.int .i64 n3) rfl rfl (r_assign rfl) ?_
  refine s_fin ?_
  refine W_ret ?_
  exact ⟨[(.int .i64 n3)], ⟨_, _, rfl, rfl, rfl⟩, n3, rfl, H⟩
def ref1_Often_F (r : World) (l1 : Sl) (x2 : Int) (h : Heap) (R : Int → Heap → Prop) : Prop :=
 ∀ X5 : Int → Int → Prop, (∀ (n3 : Int) (i4 : Int),
  (Br (decide (i4 < ((l1.len : Int)))) (
   ∀ J7 : Int → Prop, (∀ (n6 : Int),
    (X5 n6 (w64 (i4 + 1))) →
    J7 n6) →
   Ix l1 i4 1 fun q13 =>
   LdI h q13 fun x15 =>
   Br (decide (x15 = x2)) (
    J7 (w64 (n3 + 1))) (
    J7 n3)) (
   R n3 h)) →
  X5 n3 i4) →
 X5 0 0
theorem ref1_Often_of {r : World} {l1 : Sl} {x2 : Int} {h : Heap} {R : Int → Heap → Prop} (H : ref1_Often_F r l1 x2 h R) : ref1_Often r l1 x2 h R := by
 unfold ref1_Often_F at H
 refine calls_of 22 [.tmp 4] Tryz.func59 rfl rfl rfl rfl rfl ?_
 refine W_seq ?_
 refine W_region (.pu 0 .fin) rfl rfl ?_
 refine sp 4 (.int .i64 0) rfl rfl (r_assign rfl) ?_
 refine s_fin ?_
 refine W_seq ?_
 refine W_region (.pu 0 .fin) rfl rfl ?_
 refine sp 5 (.int .i64 0) rfl rfl (r_assign rfl) ?_
 refine s_fin ?_
 refine W_seq ?_
 refine W_seq ?_
 refine W_region (.pu 0 .fin) rfl rfl ?_
 refine sp 6 (.int .i64 0) rfl rfl (r_assign rfl) ?_
 refine s_fin ?_
 refine W_block ?_
 refine W_loop (WL_mk (l := [(0, (Sl.v l1)), (1, (.int .i64 x2)), (5, (.int .i64 0)), (6, (.int .i64 0))]) ?_ ⟨rfl, rfl, rfl, rfl, trivial⟩)
 refine H (fun (n3 : Int) (i4 : Int) => ∀ b, WL _ _ _ _ _ _ (mkE [(0, (Sl.v l1)), (1, (.int .i64 x2)), (5, (.int .i64 n3)), (6, (.int .i64 i4))] b) h) ?_
 intro n3 i4 H b
 refine WL_round ?_
 refine W_seq ?_
 refine W_seq ?_
 refine W_region (.pu 0 (.pu 1 (.pu 2 (.pu 3 .fin)))) rfl rfl ?_
 refine sp 7 (.int .i64 i4) rfl rfl (r_move rfl) ?_
 refine sp 8 (Sl.v l1) rfl rfl (r_move rfl) ?_
 refine sp 9 (.int .i64 ((l1.len : Int))) rfl rfl (r_len Tryz.underlying26 rfl) ?_
 refine sp 10 (.bool (decide (i4 < ((l1.len : Int))))) rfl rfl (r_lss rfl rfl) ?_
 refine s_fin ?_
 refine W_if (decide (i4 < ((l1.len : Int)))) rfl (fun g18 => ?_) (fun g18 => ?_)
 ·have H := H.1 g18
  refine W_skip ?_
  show W _ _ _ _ _ _ _ _
  refine W_seq ?_
  refine W_set ?_
  intro N8 eN8
  have H := H (fun (n6 : Int) => ∀ b, N8 [] (mkE [(0, (Sl.v l1)), (1, (.int .i64 x2)), (5, (.int .i64 n6)), (6, (.int .i64 i4))] b) h) (by
   intro n6 H b
   rw [eN8]
   show W _ _ _ _ _ _ _ _
   refine W_region (.pu 0 (.pu 1 (.pu 2 .fin))) rfl rfl ?_
   refine sp 11 (.int .i64 i4) rfl rfl (r_move rfl) ?_
   refine sp 12 (.int .i64 (w64 (i4 + 1))) rfl rfl (r_add rfl rfl) ?_
   refine sp 6 (.int .i64 (w64 (i4 + 1))) rfl rfl (r_assign rfl) ?_
   refine s_fin ?_
   exact WL_mk (l := [(0, (Sl.v l1)), (1, (.int .i64 x2)), (5, (.int .i64 n6)), (6, (.int .i64 (w64 (i4 + 1))))]) H ⟨rfl, rfl, rfl, rfl, trivial⟩)
  clear eN8
  refine W_block ?_
  refine W_seq ?_
  refine W_region (.pu 0 (.pu 1 (.pu 2 (.rl 3 (.pu 4 (.pu 5 .fin)))))) rfl rfl ?_
  refine sp 13 (Sl.v l1) rfl rfl (r_move rfl) ?_
  refine sp 14 (.int .i64 i4) rfl rfl (r_move rfl) ?_
  obtain ⟨p9, e10, e11, e12, H⟩ := H
  obtain ⟨q13, e14⟩ : ∃ q : Addr, q = Addr.add p9 (Int.toNat i4 * 1) := ⟨_, rfl⟩
  rw [← e14] at H
  refine sp 15 (.pointer (some q13)) rfl rfl (fun w => (r_indexAddr Tryz.underlying26 Tryz.sizeOf3 rfl rfl e10 e11 e12 w).trans (by rw [e14])) ?_
  obtain ⟨x15, e16, H⟩ := H
  refine sl 16 (.int .i64 x15) rfl rfl (fun dr => r_load1 Tryz.isAgg3 rfl e16) ?_
  refine sp 17 (.int .i64 x2) rfl rfl (r_move rfl) ?_
  refine sp 18 (.bool (decide (x15 = x2))) rfl rfl (r_eql rfl rfl) ?_
  refine s_fin ?_
  refine W_if (decide (x15 = x2)) rfl (fun g17 => ?_) (fun g17 => ?_)
  ·have H := H.1 g17
   refine W_region (.pu 0 (.pu 1 (.pu 2 .fin))) rfl rfl ?_
   refine sp 19 (.int .i64 n3) rfl rfl (r_move rfl) ?_
   refine sp 20 (.int .i64 (w64 (n3 + 1))) rfl rfl (r_add rfl rfl) ?_
   refine sp 5 (.int .i64 (w64 (n3 + 1))) rfl rfl (r_assign rfl) ?_
   refine s_fin ?_
   exact N_mk (l := [(0, (Sl.v l1)), (1, (.int .i64 x2)), (5, (.int .i64 (w64 (n3 + 1)))), (6, (.int .i64 i4))]) H ⟨rfl, rfl, rfl, rfl, trivial⟩
  ·have H := H.2 g17
   refine W_skip ?_
   exact N_mk (l := [(0, (Sl.v l1)), (1, (.int .i64 x2)), (5, (.int .i64 n3)), (6, (.int .i64 i4))]) H ⟨rfl, rfl, rfl, rfl, trivial⟩
 ·have H := H.2 g18
  refine W_exit (inX_here ?_)
  show W _ _ _ _ _ _ _ _
  refine W_seq ?_
  refine W_region (.pu 0 (.pu 1 .fin)) rfl rfl ?_
  refine sp 21 (.int .i64 n3) rfl rfl (r_move rfl) ?_
  refine sp 4 (.int .i64 n3) rfl rfl (r_assign rfl) ?_
  refine s_fin ?_
  refine W_ret ?_
  exact ⟨[(.int .i64 n3)], ⟨_, _, rfl, rfl, rfl⟩, n3, rfl, H⟩
def ref1_Without_F (r : World) (l1 : Sl) (i2 : Int) (h : Heap) (R : Sl → Heap → Prop) : Prop :=
 Sub l1 0 i2 ((l1.cap : Int)) 1 fun s3 =>
 App 3 1 8 (.int .i64 0) Sl.nil s3 h fun s9 h1 =>
 Sub l1 (w64 (i2 + 1)) ((l1.len : Int)) ((l1.cap : Int)) 1 fun s10 =>
 App 3 1 8 (.int .i64 0) s9 s10 h1 fun s16 h2 =>
 R s16 h2
theorem ref1_Without_of {r : World} {l1 : Sl} {i2 : Int} {h : Heap} {R : Sl → Heap → Prop} (H : ref1_Without_F r l1 i2 h R) : ref1_Without r l1 i2 h R := by
 unfold ref1_Without_F at H
 refine calls_of 17 [.tmp 4] Tryz.func39 rfl rfl rfl rfl rfl ?_
 refine W_seq ?_
 refine W_region (.pu 0 .fin) rfl rfl ?_
 refine sp 4 (Sl.v Sl.nil) rfl rfl (r_assign rfl) ?_
 refine s_fin ?_
 refine W_seq ?_
 refine W_region (.pu 0 .fin) rfl rfl ?_
 refine sp 5 (Sl.v Sl.nil) rfl rfl (r_assign rfl) ?_
 refine s_fin ?_
 refine W_seq ?_
 refine W_region (.pu 0 (.pu 1 (.pu 2 (.pu 3 (.ef 4 [] (.pu 5 .fin) .no))))) rfl rfl ?_
 refine sp 6 (Sl.v Sl.nil) rfl rfl (r_move rfl) ?_
 refine sp 7 (Sl.v l1) rfl rfl (r_move rfl) ?_
 refine sp 8 (.int .i64 i2) rfl rfl (r_move rfl) ?_
 obtain ⟨e4, e5, e6, e7, H⟩ := H
 obtain ⟨s3, e8⟩ : ∃ t : Sl, t = ⟨sliceA l1.a (Int.toNat ((l1.cap : Int))) (Int.toNat 0) 1, Int.toNat i2 - Int.toNat 0, Int.toNat ((l1.cap : Int)) - Int.toNat 0⟩ := ⟨_, rfl⟩
 have H := H s3 e8
 refine sp 9 (Sl.v s3) rfl rfl (fun w => (r_slice (lo := .none) (hi := (.some (.tmp 8))) (mx := .none) Tryz.underlying26 Tryz.sizeOf3 rfl ((l1.cap : Int)) i2 0 rfl ⟨_, rfl⟩ rfl e4 e5 (.inr e6) e7 w).trans (by rw [e8]; rfl)) ?_
 refine s_ef (d := some 10) rfl rfl rfl (fun dr => slFGMono_26.append rfl rfl H) ?_ trivial
 rintro _ h1 ⟨s9, rfl, H⟩
 refine ⟨trivial, ?_⟩
 refine sp 5 (Sl.v s9) rfl rfl (r_assign rfl) ?_
 refine s_fin ?_
 refine W_seq ?_
 refine W_region (.pu 0 (.pu 1 (.pu 2 (.pu 3 (.pu 4 (.ef 5 [] (.pu 6 .fin) .no)))))) rfl rfl ?_
 refine sp 11 (Sl.v s9) rfl rfl (r_move rfl) ?_
 refine sp 12 (Sl.v l1) rfl rfl (r_move rfl) ?_
 refine sp 13 (.int .i64 i2) rfl rfl (r_move rfl) ?_
 refine sp 14 (.int .i64 (w64 (i2 + 1))) rfl rfl (r_add rfl rfl) ?_
 obtain ⟨e11, e12, e13, e14, H⟩ := H
 obtain ⟨s10, e15⟩ : ∃ t : Sl, t = ⟨sliceA l1.a (Int.toNat ((l1.cap : Int))) (Int.toNat (w64 (i2 + 1))) 1, Int.toNat ((l1.len : Int)) - Int.toNat (w64 (i2 + 1)), Int.toNat ((l1.cap : Int)) - Int.toNat (w64 (i2 + 1))⟩ := ⟨_, rfl⟩
 have H := H s10 e15
 refine sp 15 (Sl.v s10) rfl rfl (fun w => (r_slice (lo := (.some (.tmp 14))) (hi := .none) (mx := .none) Tryz.underlying26 Tryz.sizeOf3 rfl ((l1.cap : Int)) ((l1.len : Int)) (w64 (i2 + 1)) rfl ⟨rfl, rfl⟩ ⟨_, rfl⟩ e11 e12 (.inl rfl) e14 w).trans (by rw [e15]; rfl)) ?_
 refine s_ef (d := some 16) rfl rfl rfl (fun dr => slFGMono_26.append rfl rfl H) ?_ trivial
 rintro _ h2 ⟨s16, rfl, H⟩
 refine ⟨trivial, ?_⟩
 refine sp 4 (Sl.v s16) rfl rfl (r_assign rfl) ?_
 refine s_fin ?_
 refine W_ret ?_
 exact ⟨[(Sl.v s16)], ⟨_, _, rfl, rfl, rfl⟩, s16, rfl, H⟩
def ref1_With_F (r : World) (l1 : Sl) (i2 : Int) (x3 : Int) (h : Heap) (R : Sl → Heap → Prop) : Prop :=
 Sub l1 0 i2 ((l1.cap : Int)) 1 fun s4 =>
 App 3 1 8 (.int .i64 0) Sl.nil s4 h fun s10 h1 =>
 New h1 (.cells #[(.int .i64 x3)] 3) fun p11 h2 =>
 App 3 1 8 (.int .i64 0) s10 ((⟨some p11, 1, 1⟩ : Sl)) h2 fun s14 h3 =>
 Sub l1 i2 ((l1.len : Int)) ((l1.cap : Int)) 1 fun s15 =>
 App 3 1 8 (.int .i64 0) s14 s15 h3 fun s21 h4 =>
 R s21 h4
theorem ref1_With_of {r : World} {l1 : Sl} {i2 : Int} {x3 : Int} {h : Heap} {R : Sl → Heap → Prop} (H : ref1_With_F r l1 i2 x3 h R) : ref1_With r l1 i2 x3 h R := by
 unfold ref1_With_F at H
 refine calls_of 22 [.tmp 6] Tryz.func15 rfl rfl rfl rfl rfl ?_
 refine W_seq ?_
 refine W_region (.pu 0 .fin) rfl rfl ?_
 refine sp 6 (Sl.v Sl.nil) rfl rfl (r_assign rfl) ?_
 refine s_fin ?_
 refine W_seq ?_
 refine W_region (.pu 0 .fin) rfl rfl ?_
 refine sp 7 (Sl.v Sl.nil) rfl rfl (r_assign rfl) ?_
 refine s_fin ?_
 refine W_seq ?_
 refine W_region (.pu 0 (.pu 1 (.pu 2 (.pu 3 (.ef 4 [] (.pu 5 .fin) .no))))) rfl rfl ?_
 refine sp 8 (Sl.v Sl.nil) rfl rfl (r_move rfl) ?_
 refine sp 9 (Sl.v l1) rfl rfl (r_move rfl) ?_
 refine sp 10 (.int .i64 i2) rfl rfl (r_move rfl) ?_
 obtain ⟨e5, e6, e7, e8, H⟩ := H
 obtain ⟨s4, e9⟩ : ∃ t : Sl, t = ⟨sliceA l1.a (Int.toNat ((l1.cap : Int))) (Int.toNat 0) 1, Int.toNat i2 - Int.toNat 0, Int.toNat ((l1.cap : Int)) - Int.toNat 0⟩ := ⟨_, rfl⟩
 have H := H s4 e9
 refine sp 11 (Sl.v s4) rfl rfl (fun w => (r_slice (lo := .none) (hi := (.some (.tmp 10))) (mx := .none) Tryz.underlying26 Tryz.sizeOf3 rfl ((l1.cap : Int)) i2 0 rfl ⟨_, rfl⟩ rfl e5 e6 (.inr e7) e8 w).trans (by rw [e9]; rfl)) ?_
 refine s_ef (d := some 12) rfl rfl rfl (fun dr => slFGMono_26.append rfl rfl H) ?_ trivial
 rintro _ h1 ⟨s10, rfl, H⟩
 refine ⟨trivial, ?_⟩
 refine sp 7 (Sl.v s10) rfl rfl (r_assign rfl) ?_
 refine s_fin ?_
 refine W_seq ?_
 refine W_region (.pu 0 (.pu 1 (.ef 2 [] (.ef 3 [] (.pu 4 .fin) .no) .no))) rfl rfl ?_
 refine sp 13 (Sl.v s10) rfl rfl (r_move rfl) ?_
 refine sp 14 (.int .i64 x3) rfl rfl (r_move rfl) ?_
 obtain ⟨p11, e12⟩ : ∃ p : Addr, p = ⟨h1.size, 0, none⟩ := ⟨_, rfl⟩
 obtain ⟨h2, e13⟩ : ∃ hh : Heap, hh = h1.push (.cells #[(.int .i64 x3)] 3) := ⟨_, rfl⟩
 have H := H p11 h2 e12 e13
 refine s_ef1 (d := some 15) (v := (Sl.v ((⟨some p11, 1, 1⟩ : Sl)))) (h' := h2) rfl rfl rfl (fun dr => (slFGMono_26.build (cells := #[(.int .i64 x3)]) (by decide) rfl (by kernel_rfl)).trans (by rw [e12, e13]; rfl)) trivial ?_ trivial
 refine s_ef (d := some 16) rfl rfl rfl (fun dr => slFGMono_26.append rfl rfl H) ?_ trivial
 rintro _ h3 ⟨s14, rfl, H⟩
 refine ⟨trivial, ?_⟩
 refine sp 7 (Sl.v s14) rfl rfl (r_assign rfl) ?_
 refine s_fin ?_
 refine W_seq ?_
 refine W_region (.pu 0 (.pu 1 (.pu 2 (.pu 3 (.ef 4 [] (.pu 5 .fin) .no))))) rfl rfl ?_
 refine sp 17 (Sl.v s14) rfl rfl (r_move rfl) ?_
 refine sp 18 (Sl.v l1) rfl rfl (r_move rfl) ?_
 refine sp 19 (.int .i64 i2) rfl rfl (r_move rfl) ?_
 obtain ⟨e16, e17, e18, e19, H⟩ := H
 obtain ⟨s15, e20⟩ : ∃ t : Sl, t = ⟨sliceA l1.a (Int.toNat ((l1.cap : Int))) (Int.toNat i2) 1, Int.toNat ((l1.len : Int)) - Int.toNat i2, Int.toNat ((l1.cap : Int)) - Int.toNat i2⟩ := ⟨_, rfl⟩
 have H := H s15 e20
 refine sp 20 (Sl.v s15) rfl rfl (fun w => (r_slice (lo := (.some (.tmp 19))) (hi := .none) (mx := .none) Tryz.underlying26 Tryz.sizeOf3 rfl ((l1.cap : Int)) ((l1.len : Int)) i2 rfl ⟨rfl, rfl⟩ ⟨_, rfl⟩ e16 e17 (.inl rfl) e19 w).trans (by rw [e20]; rfl)) ?_
 refine s_ef (d := some 21) rfl rfl rfl (fun dr => slFGMono_26.append rfl rfl H) ?_ trivial
 rintro _ h4 ⟨s21, rfl, H⟩
 refine ⟨trivial, ?_⟩
 refine sp 6 (Sl.v s21) rfl rfl (r_assign rfl) ?_
 refine s_fin ?_
 refine W_ret ?_
 exact ⟨[(Sl.v s21)], ⟨_, _, rfl, rfl, rfl⟩, s21, rfl, H⟩
def ref1_Sifted_F (r : World) (l1 : Sl) (vb2 : Sl) (want3 : Bool) (h : Heap) (R : Sl → Heap → Prop) : Prop :=
 ∀ X6 : Sl → Int → Heap → Prop, (∀ (out4 : Sl) (i5 : Int) (h1 : Heap),
  (Br (decide (i5 < ((l1.len : Int)))) (
   ∀ J8 : Sl → Heap → Prop, (∀ (out7 : Sl) (h2 : Heap),
    (X6 out7 (w64 (i5 + 1)) h2) →
    J8 out7 h2) →
   Ix l1 i5 1 fun q14 =>
   LdI h1 q14 fun x16 =>
   ref1_Often r vb2 x16 h1 fun y18 h3 =>
   Br ((decide (0 < y18)) == want3) (
    Ix l1 i5 1 fun q23 =>
    LdI h3 q23 fun x25 =>
    New h3 (.cells #[(.int .i64 x25)] 3) fun p27 h4 =>
    App 3 1 8 (.int .i64 0) out4 ((⟨some p27, 1, 1⟩ : Sl)) h4 fun s30 h5 =>
    J8 s30 h5) (
    J8 out4 h3)) (
   R out4 h1)) →
  X6 out4 i5 h1) →
 X6 Sl.nil 0 h
theorem ref1_Sifted_of {r : World} {l1 : Sl} {vb2 : Sl} {want3 : Bool} {h : Heap} {R : Sl → Heap → Prop} (H : ref1_Sifted_F r l1 vb2 want3 h R) : ref1_Sifted r l1 vb2 want3 h R := by
 unfold ref1_Sifted_F at H
 refine calls_of 32 [.tmp 6] Tryz.func38 rfl rfl rfl rfl rfl ?_
 refine W_seq ?_
 refine W_region (.pu 0 .fin) rfl rfl ?_
 refine sp 6 (Sl.v Sl.nil) rfl rfl (r_assign rfl) ?_
 refine s_fin ?_
 refine W_seq ?_
 refine W_region (.pu 0 .fin) rfl rfl ?_
 refine sp 7 (Sl.v Sl.nil) rfl rfl (r_assign rfl) ?_
 refine s_fin ?_
 refine W_seq ?_
 refine W_seq ?_
 refine W_region (.pu 0 .fin) rfl rfl ?_
 refine sp 8 (.int .i64 0) rfl rfl (r_assign rfl) ?_
 refine s_fin ?_
 refine W_block ?_
 refine W_loop (WL_mk (l := [(0, (Sl.v l1)), (1, (Sl.v vb2)), (2, (.bool want3)), (7, (Sl.v Sl.nil)), (8, (.int .i64 0))]) ?_ ⟨rfl, rfl, rfl, rfl, rfl, trivial⟩)
 refine H (fun (out4 : Sl) (i5 : Int) (h1 : Heap) => ∀ b, WL _ _ _ _ _ _ (mkE [(0, (Sl.v l1)), (1, (Sl.v vb2)), (2, (.bool want3)), (7, (Sl.v out4)), (8, (.int .i64 i5))] b) h1) ?_
 intro out4 i5 h1 H b
 refine WL_round ?_
 refine W_seq ?_
 refine W_seq ?_
 refine W_region (.pu 0 (.pu 1 (.pu 2 (.pu 3 .fin)))) rfl rfl ?_
 refine sp 9 (.int .i64 i5) rfl rfl (r_move rfl) ?_
 refine sp 10 (Sl.v l1) rfl rfl (r_move rfl) ?_
 refine sp 11 (.int .i64 ((l1.len : Int))) rfl rfl (r_len Tryz.underlying26 rfl) ?_
 refine sp 12 (.bool (decide (i5 < ((l1.len : Int))))) rfl rfl (r_lss rfl rfl) ?_
 refine s_fin ?_
 refine W_if (decide (i5 < ((l1.len : Int)))) rfl (fun g32 => ?_) (fun g32 => ?_)
 ·have H := H.1 g32
  refine W_skip ?_
  show W _ _ _ _ _ _ _ _
  refine W_seq ?_
  refine W_set ?_
  intro N9 eN9
  have H := H (fun (out7 : Sl) (h2 : Heap) => ∀ b, N9 [] (mkE [(0, (Sl.v l1)), (1, (Sl.v vb2)), (2, (.bool want3)), (7, (Sl.v out7)), (8, (.int .i64 i5))] b) h2) (by
   intro out7 h2 H b
   rw [eN9]
   show W _ _ _ _ _ _ _ _
   refine W_region (.pu 0 (.pu 1 (.pu 2 .fin))) rfl rfl ?_
   refine sp 13 (.int .i64 i5) rfl rfl (r_move rfl) ?_
   refine sp 14 (.int .i64 (w64 (i5 + 1))) rfl rfl (r_add rfl rfl) ?_
   refine sp 8 (.int .i64 (w64 (i5 + 1))) rfl rfl (r_assign rfl) ?_
   refine s_fin ?_
   exact WL_mk (l := [(0, (Sl.v l1)), (1, (Sl.v vb2)), (2, (.bool want3)), (7, (Sl.v out7)), (8, (.int .i64 (w64 (i5 + 1))))]) H ⟨rfl, rfl, rfl, rfl, rfl, trivial⟩)
  clear eN9
  refine W_block ?_
  refine W_seq ?_
  refine W_region (.pu 0 (.pu 1 (.pu 2 (.pu 3 (.rl 4 (.ef 5 [] (.pu 6 (.pu 7 (.pu 8 .fin))) .no)))))) rfl rfl ?_
  refine sp 15 (Sl.v vb2) rfl rfl (r_move rfl) ?_
  refine sp 16 (Sl.v l1) rfl rfl (r_move rfl) ?_
  refine sp 17 (.int .i64 i5) rfl rfl (r_move rfl) ?_
  obtain ⟨p10, e11, e12, e13, H⟩ := H
  obtain ⟨q14, e15⟩ : ∃ q : Addr, q = Addr.add p10 (Int.toNat i5 * 1) := ⟨_, rfl⟩
  rw [← e15] at H
  refine sp 18 (.pointer (some q14)) rfl rfl (fun w => (r_indexAddr Tryz.underlying26 Tryz.sizeOf3 rfl rfl e11 e12 e13 w).trans (by rw [e15])) ?_
  obtain ⟨x16, e17, H⟩ := H
  refine sl 19 (.int .i64 x16) rfl rfl (fun dr => r_load1 Tryz.isAgg3 rfl e17) ?_
  refine sc 20 rfl rfl (fun dr => r_call Tryz.call59 rfl rfl H) ?_
  rintro _ h3 ⟨y18, rfl, H⟩
  refine sp 21 (.bool (decide (0 < y18))) rfl rfl (r_gtr rfl rfl) ?_
  refine sp 22 (.bool want3) rfl rfl (r_move rfl) ?_
  refine sp 23 (.bool ((decide (0 < y18)) == want3)) rfl rfl (r_eqlB Tryz.underlying4 rfl rfl) ?_
  refine s_fin ?_
  refine W_if ((decide (0 < y18)) == want3) rfl (fun g31 => ?_) (fun g31 => ?_)
  ·have H := H.1 g31
   refine W_region (.pu 0 (.pu 1 (.pu 2 (.pu 3 (.rl 4 (.ef 5 [] (.ef 6 [] (.pu 7 .fin) .no) .no)))))) rfl rfl ?_
   refine sp 24 (Sl.v out4) rfl rfl (r_move rfl) ?_
   refine sp 25 (Sl.v l1) rfl rfl (r_move rfl) ?_
   refine sp 26 (.int .i64 i5) rfl rfl (r_move rfl) ?_
   obtain ⟨p19, e20, e21, e22, H⟩ := H
   obtain ⟨q23, e24⟩ : ∃ q : Addr, q = Addr.add p19 (Int.toNat i5 * 1) := ⟨_, rfl⟩
   rw [← e24] at H
   refine sp 27 (.pointer (some q23)) rfl rfl (fun w => (r_indexAddr Tryz.underlying26 Tryz.sizeOf3 rfl rfl e20 e21 e22 w).trans (by rw [e24])) ?_
   obtain ⟨x25, e26, H⟩ := H
   refine sl 28 (.int .i64 x25) rfl rfl (fun dr => r_load1 Tryz.isAgg3 rfl e26) ?_
   obtain ⟨p27, e28⟩ : ∃ p : Addr, p = ⟨h3.size, 0, none⟩ := ⟨_, rfl⟩
   obtain ⟨h4, e29⟩ : ∃ hh : Heap, hh = h3.push (.cells #[(.int .i64 x25)] 3) := ⟨_, rfl⟩
   have H := H p27 h4 e28 e29
   refine s_ef1 (d := some 29) (v := (Sl.v ((⟨some p27, 1, 1⟩ : Sl)))) (h' := h4) rfl rfl rfl (fun dr => (slFGMono_26.build (cells := #[(.int .i64 x25)]) (by decide) rfl (by kernel_rfl)).trans (by rw [e28, e29]; rfl)) trivial ?_ trivial
   refine s_ef (d := some 30) rfl rfl rfl (fun dr => slFGMono_26.append rfl rfl H) ?_ trivial
   rintro _ h5 ⟨s30, rfl, H⟩
   refine ⟨trivial, ?_⟩
   refine sp 7 (Sl.v s30) rfl rfl (r_assign rfl) ?_
   refine s_fin ?_
   exact N_mk (l := [(0, (Sl.v l1)), (1, (Sl.v vb2)), (2, (.bool want3)), (7, (Sl.v s30)), (8, (.int .i64 i5))]) H ⟨rfl, rfl, rfl, rfl, rfl, trivial⟩
  ·have H := H.2 g31
   refine W_skip ?_
   exact N_mk (l := [(0, (Sl.v l1)), (1, (Sl.v vb2)), (2, (.bool want3)), (7, (Sl.v out4)), (8, (.int .i64 i5))]) H ⟨rfl, rfl, rfl, rfl, rfl, trivial⟩
 ·have H := H.2 g32
  refine W_exit (inX_here ?_)
  show W _ _ _ _ _ _ _ _
  refine W_seq ?_
  refine W_region (.pu 0 (.pu 1 .fin)) rfl rfl ?_
  refine sp 31 (Sl.v out4) rfl rfl (r_move rfl) ?_
  refine sp 6 (Sl.v out4) rfl rfl (r_assign rfl) ?_
  refine s_fin ?_
  refine W_ret ?_
  exact ⟨[(Sl.v out4)], ⟨_, _, rfl, rfl, rfl⟩, out4, rfl, H⟩
def ref1_Once_F (r : World) (l1 : Sl) (h : Heap) (R : Sl → Heap → Prop) : Prop :=
 ∀ X4 : Sl → Int → Heap → Prop, (∀ (out2 : Sl) (i3 : Int) (h1 : Heap),
  (Br (decide (i3 < ((l1.len : Int)))) (
   ∀ J6 : Sl → Heap → Prop, (∀ (out5 : Sl) (h2 : Heap),
    (X4 out5 (w64 (i3 + 1)) h2) →
    J6 out5 h2) →
   Ix l1 i3 1 fun q12 =>
   LdI h1 q12 fun x14 =>
   ref1_Often r out2 x14 h1 fun y16 h3 =>
   Br (decide (y16 = 0)) (
    Ix l1 i3 1 fun q21 =>
    LdI h3 q21 fun x23 =>
    Ix l1 i3 1 fun q29 =>
    LdI h3 q29 fun x31 =>
    ref1_Below r out2 x23 h3 fun y33 h4 =>
    (hcell h4 q29 = some (.int .i64 x31)) ∧
    ref1_With r out2 y33 x31 h4 fun y35 h5 =>
    J6 y35 h5) (
    J6 out2 h3)) (
   R out2 h1)) →
  X4 out2 i3 h1) →
 X4 Sl.nil 0 h
theorem ref1_Once_of {r : World} {l1 : Sl} {h : Heap} {R : Sl → Heap → Prop} (H : ref1_Once_F r l1 h R) : ref1_Once r l1 h R := by
 unfold ref1_Once_F at H
 refine calls_of 31 [.tmp 2] Tryz.func36 rfl rfl rfl rfl rfl ?_
 refine W_seq ?_
 refine W_region (.pu 0 .fin) rfl rfl ?_
 refine sp 2 (Sl.v Sl.nil) rfl rfl (r_assign rfl) ?_
 refine s_fin ?_
 refine W_seq ?_
 refine W_region (.pu 0 .fin) rfl rfl ?_
 refine sp 3 (Sl.v Sl.nil) rfl rfl (r_assign rfl) ?_
 refine s_fin ?_
 refine W_seq ?_
 refine W_seq ?_
 refine W_region (.pu 0 .fin) rfl rfl ?_
 refine sp 4 (.int .i64 0) rfl rfl (r_assign rfl) ?_
 refine s_fin ?_
 refine W_block ?_
 refine W_loop (WL_mk (l := [(0, (Sl.v l1)), (3, (Sl.v Sl.nil)), (4, (.int .i64 0))]) ?_ ⟨rfl, rfl, rfl, trivial⟩)
 refine H (fun (out2 : Sl) (i3 : Int) (h1 : Heap) => ∀ b, WL _ _ _ _ _ _ (mkE [(0, (Sl.v l1)), (3, (Sl.v out2)), (4, (.int .i64 i3))] b) h1) ?_
 intro out2 i3 h1 H b
 refine WL_round ?_
 refine W_seq ?_
 refine W_seq ?_
 refine W_region (.pu 0 (.pu 1 (.pu 2 (.pu 3 .fin)))) rfl rfl ?_
 refine sp 5 (.int .i64 i3) rfl rfl (r_move rfl) ?_
 refine sp 6 (Sl.v l1) rfl rfl (r_move rfl) ?_
 refine sp 7 (.int .i64 ((l1.len : Int))) rfl rfl (r_len Tryz.underlying26 rfl) ?_
 refine sp 8 (.bool (decide (i3 < ((l1.len : Int))))) rfl rfl (r_lss rfl rfl) ?_
 refine s_fin ?_
 refine W_if (decide (i3 < ((l1.len : Int)))) rfl (fun g37 => ?_) (fun g37 => ?_)
 ·have H := H.1 g37
  refine W_skip ?_
  show W _ _ _ _ _ _ _ _
  refine W_seq ?_
  refine W_set ?_
  intro N7 eN7
  have H := H (fun (out5 : Sl) (h2 : Heap) => ∀ b, N7 [] (mkE [(0, (Sl.v l1)), (3, (Sl.v out5)), (4, (.int .i64 i3))] b) h2) (by
   intro out5 h2 H b
   rw [eN7]
   show W _ _ _ _ _ _ _ _
   refine W_region (.pu 0 (.pu 1 (.pu 2 .fin))) rfl rfl ?_
   refine sp 9 (.int .i64 i3) rfl rfl (r_move rfl) ?_
   refine sp 10 (.int .i64 (w64 (i3 + 1))) rfl rfl (r_add rfl rfl) ?_
   refine sp 4 (.int .i64 (w64 (i3 + 1))) rfl rfl (r_assign rfl) ?_
   refine s_fin ?_
   exact WL_mk (l := [(0, (Sl.v l1)), (3, (Sl.v out5)), (4, (.int .i64 (w64 (i3 + 1))))]) H ⟨rfl, rfl, rfl, trivial⟩)
  clear eN7
  refine W_block ?_
  refine W_seq ?_
  refine W_region (.pu 0 (.pu 1 (.pu 2 (.pu 3 (.rl 4 (.ef 5 [] (.pu 6 .fin) .no)))))) rfl rfl ?_
  refine sp 11 (Sl.v out2) rfl rfl (r_move rfl) ?_
  refine sp 12 (Sl.v l1) rfl rfl (r_move rfl) ?_
  refine sp 13 (.int .i64 i3) rfl rfl (r_move rfl) ?_
  obtain ⟨p8, e9, e10, e11, H⟩ := H
  obtain ⟨q12, e13⟩ : ∃ q : Addr, q = Addr.add p8 (Int.toNat i3 * 1) := ⟨_, rfl⟩
  rw [← e13] at H
  refine sp 14 (.pointer (some q12)) rfl rfl (fun w => (r_indexAddr Tryz.underlying26 Tryz.sizeOf3 rfl rfl e9 e10 e11 w).trans (by rw [e13])) ?_
  obtain ⟨x14, e15, H⟩ := H
  refine sl 15 (.int .i64 x14) rfl rfl (fun dr => r_load1 Tryz.isAgg3 rfl e15) ?_
  refine sc 16 rfl rfl (fun dr => r_call Tryz.call59 rfl rfl H) ?_
  rintro _ h3 ⟨y16, rfl, H⟩
  refine sp 17 (.bool (decide (y16 = 0))) rfl rfl (r_eql rfl rfl) ?_
  refine s_fin ?_
  refine W_if (decide (y16 = 0)) rfl (fun g36 => ?_) (fun g36 => ?_)
  ·have H := H.1 g36
   refine W_draw [0, 0, 0, 0, 12, 28, 62, 0, 0, 384, 896, 2047, 4095] (.pu 0 (.pu 1 (.pu 2 (.pu 3 (.pu 4 (.rd 5 (.pu 7 (.pu 8 (.pu 9 (.rd 10 (.ef 6 [5] (.ef 11 [5, 10] (.pu 12 .fin) .no) .no))))))))))) (by kernel_rfl) (by kernel_rfl) ?_
   refine sp 18 (Sl.v out2) rfl rfl (r_move rfl) ?_
   refine sp 19 (Sl.v out2) rfl rfl (r_move rfl) ?_
   refine sp 20 (Sl.v l1) rfl rfl (r_move rfl) ?_
   refine sp 21 (.int .i64 i3) rfl rfl (r_move rfl) ?_
   obtain ⟨p17, e18, e19, e20, H⟩ := H
   obtain ⟨q21, e22⟩ : ∃ q : Addr, q = Addr.add p17 (Int.toNat i3 * 1) := ⟨_, rfl⟩
   rw [← e22] at H
   refine sp 22 (.pointer (some q21)) rfl rfl (fun w => (r_indexAddr Tryz.underlying26 Tryz.sizeOf3 rfl rfl e18 e19 e20 w).trans (by rw [e22])) ?_
   obtain ⟨x23, e24, H⟩ := H
   refine s_rd (d := some 23) (v := (.int .i64 x23)) rfl rfl rfl (fun dr => r_load1 Tryz.isAgg3 rfl e24) ?_
   refine sp 25 (Sl.v l1) rfl rfl (r_move rfl) ?_
   refine sp 26 (.int .i64 i3) rfl rfl (r_move rfl) ?_
   obtain ⟨p25, e26, e27, e28, H⟩ := H
   obtain ⟨q29, e30⟩ : ∃ q : Addr, q = Addr.add p25 (Int.toNat i3 * 1) := ⟨_, rfl⟩
   rw [← e30] at H
   refine sp 27 (.pointer (some q29)) rfl rfl (fun w => (r_indexAddr Tryz.underlying26 Tryz.sizeOf3 rfl rfl e26 e27 e28 w).trans (by rw [e30])) ?_
   obtain ⟨x31, e32, H⟩ := H
   refine s_rd (d := some 28) (v := (.int .i64 x31)) rfl rfl rfl (fun dr => r_load1 Tryz.isAgg3 rfl e32) ?_
   refine s_ef (d := some 24) rfl rfl rfl (fun dr => r_call Tryz.call35 rfl rfl H) ?_ trivial
   rintro _ h4 ⟨y33, rfl, H⟩
   obtain ⟨e34, H⟩ := H
   refine ⟨⟨(.inl ⟨rfl, fun dr => r_load1 Tryz.isAgg3 rfl e34⟩), trivial, trivial⟩, ?_⟩
   refine s_ef (d := some 29) rfl rfl rfl (fun dr => r_call Tryz.call15 rfl rfl H) ?_ trivial
   rintro _ h5 ⟨y35, rfl, H⟩
   refine ⟨⟨trivial, trivial, trivial⟩, ?_⟩
   refine sp 3 (Sl.v y35) rfl rfl (r_assign rfl) ?_
   refine s_fin ?_
   exact N_mk (l := [(0, (Sl.v l1)), (3, (Sl.v y35)), (4, (.int .i64 i3))]) H ⟨rfl, rfl, rfl, trivial⟩
  ·have H := H.2 g36
   refine W_skip ?_
   exact N_mk (l := [(0, (Sl.v l1)), (3, (Sl.v out2)), (4, (.int .i64 i3))]) H ⟨rfl, rfl, rfl, trivial⟩
 ·have H := H.2 g37
  refine W_exit (inX_here ?_)
  show W _ _ _ _ _ _ _ _
  refine W_seq ?_
  refine W_region (.pu 0 (.pu 1 .fin)) rfl rfl ?_
  refine sp 30 (Sl.v out2) rfl rfl (r_move rfl) ?_
  refine sp 2 (Sl.v out2) rfl rfl (r_assign rfl) ?_
  refine s_fin ?_
  refine W_ret ?_
  exact ⟨[(Sl.v out2)], ⟨_, _, rfl, rfl, rfl⟩, out2, rfl, H⟩
end Go.Proofs.YthkimbiknhebeaaGreatDoor
