/- Typed words of functions, and that they hold: printed by gen.py (an own tool of this claim) off the model's own form of each function. -/
import Derived.Test.YthkimbiknhebeaaGreatDoorProg
import Derived.Test.YthkimbiknhebeaaGreatDoorTwB
namespace Go.Proofs.YthkimbiknhebeaaGreatDoor
open Go Go.RowKit Go.Tw
set_option linter.unusedVariables false
set_option maxRecDepth 100000
theorem slFGStr_23 : SlF Tryz.prog 23 9 1 16 (.string (⟨#[]⟩)) := ⟨Tryz.underlying23, ⟨Tryz.t9, by kernel_rfl, rfl, rfl, rfl⟩, rfl, Tryz.sizeOf9, Tryz.zeroValue9⟩
theorem slFGStr_78 : SlF Tryz.prog 78 5 1 1 (.int .u8 0) := ⟨Tryz.underlying78, ⟨Tryz.t5, by kernel_rfl, rfl, rfl, rfl⟩, rfl, Tryz.sizeOf5, Tryz.zeroValue5⟩
abbrev same_Texts (r : World) (a1 : Sl) (vb2 : Sl) (h : Heap) (R : Bool → Heap → Prop) : Prop :=
 CallsH Tryz.prog r 5 [(Sl.v a1), (Sl.v vb2)] h fun v h' => ∃ (y3 : Bool), v = (.bool y3) ∧ R y3 h'
abbrev ref1_Cut (r : World) (s1 : ByteArray) (va2 : Int) (h : Heap) (R : Sl → Heap → Prop) : Prop :=
 CallsH Tryz.prog r 7 [(.string s1), (.int .u8 va2)] h fun v h' => ∃ (y3 : Sl), v = (Sl.v y3) ∧ R y3 h'
abbrev ref1_Digits (r : World) (n1 : Int) (h : Heap) (R : ByteArray → Heap → Prop) : Prop :=
 CallsH Tryz.prog r 16 [(.int .i64 n1)] h fun v h' => ∃ (y2 : ByteArray), v = (.string y2) ∧ R y2 h'
abbrev ref1_Text (r : World) (l1 : Sl) (h : Heap) (R : ByteArray → Heap → Prop) : Prop :=
 CallsH Tryz.prog r 14 [(Sl.v l1)] h fun v h' => ∃ (y2 : ByteArray), v = (.string y2) ∧ R y2 h'
abbrev ref1_NumberOf (r : World) (s1 : ByteArray) (h : Heap) (R : Int → Bool → Heap → Prop) : Prop :=
 CallsH Tryz.prog r 12 [(.string s1)] h fun v h' => ∃ (y2 : Int) (y3 : Bool), v = (.tuple #[(.int .i64 y2), (.bool y3)]) ∧ R y2 y3 h'
def same_Texts_F (r : World) (a1 : Sl) (vb2 : Sl) (h : Heap) (R : Bool → Heap → Prop) : Prop :=
 Br (!decide (((a1.len : Int)) = ((vb2.len : Int)))) (
  R false h) (
  ∀ X4 : Int → Prop, (∀ (i3 : Int),
   (Br (decide (i3 < ((a1.len : Int)))) (
    Ix a1 i3 1 fun q9 =>
    LdT h q9 fun x11 =>
    Ix vb2 i3 1 fun q17 =>
    LdT h q17 fun x19 =>
    Br (!decide (x11 = x19)) (
     R false h) (
     X4 (w64 (i3 + 1)))) (
    R true h)) →
   X4 i3) →
  X4 0)
theorem same_Texts_of {r : World} {a1 : Sl} {vb2 : Sl} {h : Heap} {R : Bool → Heap → Prop} (H : same_Texts_F r a1 vb2 h R) : same_Texts r a1 vb2 h R := by
 unfold same_Texts_F at H
 refine calls_of 26 [.tmp 4] Tryz.func5 rfl rfl rfl rfl rfl ?_
 refine W_seq ?_
 refine W_region (.pu 0 .fin) rfl rfl ?_
 refine sp 4 (.bool false) rfl rfl (r_assign rfl) ?_
 refine s_fin ?_
 refine W_seq ?_
 refine W_seq ?_
 refine W_region (.pu 0 (.pu 1 (.pu 2 (.pu 3 (.pu 4 .fin))))) rfl rfl ?_
 refine sp 6 (Sl.v a1) rfl rfl (r_move rfl) ?_
 refine sp 7 (.int .i64 ((a1.len : Int))) rfl rfl (r_len Tryz.underlying23 rfl) ?_
 refine sp 8 (Sl.v vb2) rfl rfl (r_move rfl) ?_
 refine sp 9 (.int .i64 ((vb2.len : Int))) rfl rfl (r_len Tryz.underlying23 rfl) ?_
 refine sp 10 (.bool (!decide (((a1.len : Int)) = ((vb2.len : Int))))) rfl rfl (r_neq rfl rfl) ?_
 refine s_fin ?_
 refine W_if (!decide (((a1.len : Int)) = ((vb2.len : Int)))) rfl (fun g23 => ?_) (fun g23 => ?_)
 ·have H := H.1 g23
  refine W_seq ?_
  refine W_region (.pu 0 .fin) rfl rfl ?_
  refine sp 4 (.bool false) rfl rfl (r_assign rfl) ?_
  refine s_fin ?_
  refine W_ret ?_
  exact ⟨[(.bool false)], ⟨_, _, rfl, rfl, rfl⟩, false, rfl, H⟩
 ·have H := H.2 g23
  refine W_skip ?_
  show W _ _ _ _ _ _ _ _
  refine W_seq ?_
  refine W_seq ?_
  refine W_region (.pu 0 .fin) rfl rfl ?_
  refine sp 5 (.int .i64 0) rfl rfl (r_assign rfl) ?_
  refine s_fin ?_
  refine W_block ?_
  refine W_loop (WL_mk (l := [(0, (Sl.v a1)), (1, (Sl.v vb2)), (5, (.int .i64 0))]) ?_ ⟨rfl, rfl, rfl, trivial⟩)
  refine H (fun (i3 : Int) => ∀ b, WL _ _ _ _ _ _ (mkE [(0, (Sl.v a1)), (1, (Sl.v vb2)), (5, (.int .i64 i3))] b) h) ?_
  intro i3 H b
  refine WL_round ?_
  refine W_seq ?_
  refine W_seq ?_
  refine W_region (.pu 0 (.pu 1 (.pu 2 (.pu 3 .fin)))) rfl rfl ?_
  refine sp 11 (.int .i64 i3) rfl rfl (r_move rfl) ?_
  refine sp 12 (Sl.v a1) rfl rfl (r_move rfl) ?_
  refine sp 13 (.int .i64 ((a1.len : Int))) rfl rfl (r_len Tryz.underlying23 rfl) ?_
  refine sp 14 (.bool (decide (i3 < ((a1.len : Int))))) rfl rfl (r_lss rfl rfl) ?_
  refine s_fin ?_
  refine W_if (decide (i3 < ((a1.len : Int)))) rfl (fun g22 => ?_) (fun g22 => ?_)
  ·have H := H.1 g22
   refine W_skip ?_
   show W _ _ _ _ _ _ _ _
   refine W_seq ?_
   refine W_block ?_
   refine W_seq ?_
   refine W_draw [0, 0, 3, 7, 0, 0, 48, 112, 255] (.pu 0 (.pu 1 (.pu 2 (.rd 3 (.pu 4 (.pu 5 (.pu 6 (.rd 7 (.pu 8 .fin))))))))) (by kernel_rfl) (by kernel_rfl) ?_
   refine sp 17 (Sl.v a1) rfl rfl (r_move rfl) ?_
   refine sp 18 (.int .i64 i3) rfl rfl (r_move rfl) ?_
   obtain ⟨p5, e6, e7, e8, H⟩ := H
   obtain ⟨q9, e10⟩ : ∃ q : Addr, q = Addr.add p5 (Int.toNat i3 * 1) := ⟨_, rfl⟩
   rw [← e10] at H
   refine sp 19 (.pointer (some q9)) rfl rfl (fun w => (r_indexAddr Tryz.underlying23 Tryz.sizeOf9 rfl rfl e6 e7 e8 w).trans (by rw [e10])) ?_
   obtain ⟨x11, e12, H⟩ := H
   refine s_rd (d := some 20) (v := (.string x11)) rfl rfl rfl (fun dr => r_load1 Tryz.isAgg9 rfl e12) ?_
   refine sp 21 (Sl.v vb2) rfl rfl (r_move rfl) ?_
   refine sp 22 (.int .i64 i3) rfl rfl (r_move rfl) ?_
   obtain ⟨p13, e14, e15, e16, H⟩ := H
   obtain ⟨q17, e18⟩ : ∃ q : Addr, q = Addr.add p13 (Int.toNat i3 * 1) := ⟨_, rfl⟩
   rw [← e18] at H
   refine sp 23 (.pointer (some q17)) rfl rfl (fun w => (r_indexAddr Tryz.underlying23 Tryz.sizeOf9 rfl rfl e14 e15 e16 w).trans (by rw [e18])) ?_
   obtain ⟨x19, e20, H⟩ := H
   refine s_rd (d := some 24) (v := (.string x19)) rfl rfl rfl (fun dr => r_load1 Tryz.isAgg9 rfl e20) ?_
   refine sp 25 (.bool (!decide (x11 = x19))) rfl rfl (r_neqT rfl rfl) ?_
   refine s_fin ?_
   refine W_if (!decide (x11 = x19)) rfl (fun g21 => ?_) (fun g21 => ?_)
   ·have H := H.1 g21
    refine W_seq ?_
    refine W_region (.pu 0 .fin) rfl rfl ?_
    refine sp 4 (.bool false) rfl rfl (r_assign rfl) ?_
    refine s_fin ?_
    refine W_ret ?_
    exact ⟨[(.bool false)], ⟨_, _, rfl, rfl, rfl⟩, false, rfl, H⟩
   ·have H := H.2 g21
    refine W_skip ?_
    show W _ _ _ _ _ _ _ _
    refine W_region (.pu 0 (.pu 1 (.pu 2 .fin))) rfl rfl ?_
    refine sp 15 (.int .i64 i3) rfl rfl (r_move rfl) ?_
    refine sp 16 (.int .i64 (w64 (i3 + 1))) rfl rfl (r_add rfl rfl) ?_
    refine sp 5 (.int .i64 (w64 (i3 + 1))) rfl rfl (r_assign rfl) ?_
    refine s_fin ?_
    exact WL_mk (l := [(0, (Sl.v a1)), (1, (Sl.v vb2)), (5, (.int .i64 (w64 (i3 + 1))))]) H ⟨rfl, rfl, rfl, trivial⟩
  ·have H := H.2 g22
   refine W_exit (inX_here ?_)
   show W _ _ _ _ _ _ _ _
   refine W_seq ?_
   refine W_region (.pu 0 .fin) rfl rfl ?_
   refine sp 4 (.bool true) rfl rfl (r_assign rfl) ?_
   refine s_fin ?_
   refine W_ret ?_
   exact ⟨[(.bool true)], ⟨_, _, rfl, rfl, rfl⟩, true, rfl, H⟩
def ref1_Cut_F (r : World) (s1 : ByteArray) (va2 : Int) (h : Heap) (R : Sl → Heap → Prop) : Prop :=
 ∀ X6 : Sl → Int → Int → Heap → Prop, (∀ (out3 : Sl) (vf4 : Int) (i5 : Int) (h1 : Heap),
  (Br (decide (i5 < ((s1.size : Int)))) (
   ∀ J9 : Sl → Int → Heap → Prop, (∀ (out7 : Sl) (vf8 : Int) (h2 : Heap),
    (X6 out7 vf8 (w64 (i5 + 1)) h2) →
    J9 out7 vf8 h2) →
   (0 : Int) ≤ i5 ∧ i5 < (ByteArray.size s1 : Int) ∧
   Br (decide ((strAt s1 i5) = va2)) (
    ((0 : Int) ≤ vf4 ∧ vf4 ≤ i5 ∧ i5 ≤ (ByteArray.size s1 : Int)) ∧
    New h1 (.cells #[(.string (ByteArray.extract s1 (Int.toNat vf4) (Int.toNat i5)))] 9) fun p16 h3 =>
    App 9 1 16 (.string (⟨#[]⟩)) out3 ((⟨some p16, 1, 1⟩ : Sl)) h3 fun s19 h4 =>
    J9 s19 (w64 (i5 + 1)) h4) (
    J9 out3 vf4 h1)) (
   ((0 : Int) ≤ vf4 ∧ vf4 ≤ ((ByteArray.size s1 : Int)) ∧ ((ByteArray.size s1 : Int)) ≤ (ByteArray.size s1 : Int)) ∧
   New h1 (.cells #[(.string (ByteArray.extract s1 (Int.toNat vf4) (Int.toNat ((ByteArray.size s1 : Int)))))] 9) fun p24 h5 =>
   App 9 1 16 (.string (⟨#[]⟩)) out3 ((⟨some p24, 1, 1⟩ : Sl)) h5 fun s27 h6 =>
   R s27 h6)) →
  X6 out3 vf4 i5 h1) →
 X6 Sl.nil 0 0 h
theorem ref1_Cut_of {r : World} {s1 : ByteArray} {va2 : Int} {h : Heap} {R : Sl → Heap → Prop} (H : ref1_Cut_F r s1 va2 h R) : ref1_Cut r s1 va2 h R := by
 unfold ref1_Cut_F at H
 refine calls_of 34 [.tmp 4] Tryz.func7 rfl rfl rfl rfl rfl ?_
 refine W_seq ?_
 refine W_region (.pu 0 .fin) rfl rfl ?_
 refine sp 4 (Sl.v Sl.nil) rfl rfl (r_assign rfl) ?_
 refine s_fin ?_
 refine W_seq ?_
 refine W_region (.pu 0 .fin) rfl rfl ?_
 refine sp 5 (Sl.v Sl.nil) rfl rfl (r_assign rfl) ?_
 refine s_fin ?_
 refine W_seq ?_
 refine W_region (.pu 0 .fin) rfl rfl ?_
 refine sp 6 (.int .i64 0) rfl rfl (r_assign rfl) ?_
 refine s_fin ?_
 refine W_seq ?_
 refine W_seq ?_
 refine W_region (.pu 0 .fin) rfl rfl ?_
 refine sp 7 (.int .i64 0) rfl rfl (r_assign rfl) ?_
 refine s_fin ?_
 refine W_block ?_
 refine W_loop (WL_mk (l := [(0, (.string s1)), (1, (.int .u8 va2)), (5, (Sl.v Sl.nil)), (6, (.int .i64 0)), (7, (.int .i64 0))]) ?_ ⟨rfl, rfl, rfl, rfl, rfl, trivial⟩)
 refine H (fun (out3 : Sl) (vf4 : Int) (i5 : Int) (h1 : Heap) => ∀ b, WL _ _ _ _ _ _ (mkE [(0, (.string s1)), (1, (.int .u8 va2)), (5, (Sl.v out3)), (6, (.int .i64 vf4)), (7, (.int .i64 i5))] b) h1) ?_
 intro out3 vf4 i5 h1 H b
 refine WL_round ?_
 refine W_seq ?_
 refine W_seq ?_
 refine W_region (.pu 0 (.pu 1 (.pu 2 (.pu 3 .fin)))) rfl rfl ?_
 refine sp 8 (.int .i64 i5) rfl rfl (r_move rfl) ?_
 refine sp 9 (.string s1) rfl rfl (r_move rfl) ?_
 refine sp 10 (.int .i64 ((s1.size : Int))) rfl rfl (r_lenStr Tryz.underlying9 rfl) ?_
 refine sp 11 (.bool (decide (i5 < ((s1.size : Int))))) rfl rfl (r_lss rfl rfl) ?_
 refine s_fin ?_
 refine W_if (decide (i5 < ((s1.size : Int)))) rfl (fun g28 => ?_) (fun g28 => ?_)
 ·have H := H.1 g28
  refine W_skip ?_
  show W _ _ _ _ _ _ _ _
  refine W_seq ?_
  refine W_set ?_
  intro N10 eN10
  have H := H (fun (out7 : Sl) (vf8 : Int) (h2 : Heap) => ∀ b, N10 [] (mkE [(0, (.string s1)), (1, (.int .u8 va2)), (5, (Sl.v out7)), (6, (.int .i64 vf8)), (7, (.int .i64 i5))] b) h2) (by
   intro out7 vf8 h2 H b
   rw [eN10]
   show W _ _ _ _ _ _ _ _
   refine W_region (.pu 0 (.pu 1 (.pu 2 .fin))) rfl rfl ?_
   refine sp 12 (.int .i64 i5) rfl rfl (r_move rfl) ?_
   refine sp 13 (.int .i64 (w64 (i5 + 1))) rfl rfl (r_add rfl rfl) ?_
   refine sp 7 (.int .i64 (w64 (i5 + 1))) rfl rfl (r_assign rfl) ?_
   refine s_fin ?_
   exact WL_mk (l := [(0, (.string s1)), (1, (.int .u8 va2)), (5, (Sl.v out7)), (6, (.int .i64 vf8)), (7, (.int .i64 (w64 (i5 + 1))))]) H ⟨rfl, rfl, rfl, rfl, rfl, trivial⟩)
  clear eN10
  refine W_block ?_
  refine W_seq ?_
  refine W_region (.pu 0 (.pu 1 (.pu 2 (.pu 3 (.pu 4 .fin))))) rfl rfl ?_
  refine sp 14 (.string s1) rfl rfl (r_move rfl) ?_
  refine sp 15 (.int .i64 i5) rfl rfl (r_move rfl) ?_
  obtain ⟨e11, e12, H⟩ := H
  refine sp 16 (.int .u8 (strAt s1 i5)) rfl rfl (r_indexStr Tryz.underlying9 rfl rfl e11 e12) ?_
  refine sp 17 (.int .u8 va2) rfl rfl (r_move rfl) ?_
  refine sp 18 (.bool (decide ((strAt s1 i5) = va2))) rfl rfl (r_eql rfl rfl) ?_
  refine s_fin ?_
  refine W_if (decide ((strAt s1 i5) = va2)) rfl (fun g20 => ?_) (fun g20 => ?_)
  ·have H := H.1 g20
   refine W_seq ?_
   refine W_region (.pu 0 (.pu 1 (.pu 2 (.pu 3 (.pu 4 (.ef 5 [] (.ef 6 [] (.pu 7 .fin) .no) .no)))))) rfl rfl ?_
   refine sp 19 (Sl.v out3) rfl rfl (r_move rfl) ?_
   refine sp 20 (.string s1) rfl rfl (r_move rfl) ?_
   refine sp 21 (.int .i64 vf4) rfl rfl (r_move rfl) ?_
   refine sp 22 (.int .i64 i5) rfl rfl (r_move rfl) ?_
   obtain ⟨⟨e13, e14, e15⟩, H⟩ := H
   refine sp 23 (.string (ByteArray.extract s1 (Int.toNat vf4) (Int.toNat i5))) rfl rfl (r_sliceT (lo := (.some (.tmp 21))) (hi := (.some (.tmp 22))) Tryz.underlying9 rfl i5 vf4 ⟨_, rfl⟩ ⟨_, rfl⟩ e13 e14 e15) ?_
   obtain ⟨p16, e17⟩ : ∃ p : Addr, p = ⟨h1.size, 0, none⟩ := ⟨_, rfl⟩
   obtain ⟨h3, e18⟩ : ∃ hh : Heap, hh = h1.push (.cells #[(.string (ByteArray.extract s1 (Int.toNat vf4) (Int.toNat i5)))] 9) := ⟨_, rfl⟩
   have H := H p16 h3 e17 e18
   refine s_ef1 (d := some 24) (v := (Sl.v ((⟨some p16, 1, 1⟩ : Sl)))) (h' := h3) rfl rfl rfl (fun dr => (slFGStr_23.build (cells := #[(.string (ByteArray.extract s1 (Int.toNat vf4) (Int.toNat i5)))]) (by decide) rfl (by kernel_rfl)).trans (by rw [e17, e18]; rfl)) trivial ?_ trivial
   refine s_ef (d := some 25) rfl rfl rfl (fun dr => slFGStr_23.append rfl rfl H) ?_ trivial
   rintro _ h4 ⟨s19, rfl, H⟩
   refine ⟨trivial, ?_⟩
   refine sp 5 (Sl.v s19) rfl rfl (r_assign rfl) ?_
   refine s_fin ?_
   refine W_region (.pu 0 (.pu 1 (.pu 2 .fin))) rfl rfl ?_
   refine sp 26 (.int .i64 i5) rfl rfl (r_move rfl) ?_
   refine sp 27 (.int .i64 (w64 (i5 + 1))) rfl rfl (r_add rfl rfl) ?_
   refine sp 6 (.int .i64 (w64 (i5 + 1))) rfl rfl (r_assign rfl) ?_
   refine s_fin ?_
   exact N_mk (l := [(0, (.string s1)), (1, (.int .u8 va2)), (5, (Sl.v s19)), (6, (.int .i64 (w64 (i5 + 1)))), (7, (.int .i64 i5))]) H ⟨rfl, rfl, rfl, rfl, rfl, trivial⟩
  ·have H := H.2 g20
   refine W_skip ?_
   exact N_mk (l := [(0, (.string s1)), (1, (.int .u8 va2)), (5, (Sl.v out3)), (6, (.int .i64 vf4)), (7, (.int .i64 i5))]) H ⟨rfl, rfl, rfl, rfl, rfl, trivial⟩
 ·have H := H.2 g28
  refine W_exit (inX_here ?_)
  show W _ _ _ _ _ _ _ _
  refine W_seq ?_
  refine W_region (.pu 0 (.pu 1 (.pu 2 (.pu 3 (.ef 4 [] (.ef 5 [] (.pu 6 .fin) .no) .no))))) rfl rfl ?_
  refine sp 28 (Sl.v out3) rfl rfl (r_move rfl) ?_
  refine sp 29 (.string s1) rfl rfl (r_move rfl) ?_
  refine sp 30 (.int .i64 vf4) rfl rfl (r_move rfl) ?_
  obtain ⟨⟨e21, e22, e23⟩, H⟩ := H
  refine sp 31 (.string (ByteArray.extract s1 (Int.toNat vf4) (Int.toNat ((ByteArray.size s1 : Int))))) rfl rfl (r_sliceT (lo := (.some (.tmp 30))) (hi := .none) Tryz.underlying9 rfl ((ByteArray.size s1 : Int)) vf4 rfl ⟨_, rfl⟩ e21 e22 e23) ?_
  obtain ⟨p24, e25⟩ : ∃ p : Addr, p = ⟨h1.size, 0, none⟩ := ⟨_, rfl⟩
  obtain ⟨h5, e26⟩ : ∃ hh : Heap, hh = h1.push (.cells #[(.string (ByteArray.extract s1 (Int.toNat vf4) (Int.toNat ((ByteArray.size s1 : Int)))))] 9) := ⟨_, rfl⟩
  have H := H p24 h5 e25 e26
  refine s_ef1 (d := some 32) (v := (Sl.v ((⟨some p24, 1, 1⟩ : Sl)))) (h' := h5) rfl rfl rfl (fun dr => (slFGStr_23.build (cells := #[(.string (ByteArray.extract s1 (Int.toNat vf4) (Int.toNat ((ByteArray.size s1 : Int)))))]) (by decide) rfl (by kernel_rfl)).trans (by rw [e25, e26]; rfl)) trivial ?_ trivial
  refine s_ef (d := some 33) rfl rfl rfl (fun dr => slFGStr_23.append rfl rfl H) ?_ trivial
  rintro _ h6 ⟨s27, rfl, H⟩
  refine ⟨trivial, ?_⟩
  refine sp 4 (Sl.v s27) rfl rfl (r_assign rfl) ?_
  refine s_fin ?_
  refine W_ret ?_
  exact ⟨[(Sl.v s27)], ⟨_, _, rfl, rfl, rfl⟩, s27, rfl, H⟩
def ref1_Digits_F (r : World) (n1 : Int) (h : Heap) (R : ByteArray → Heap → Prop) : Prop :=
 Br (decide (n1 < 0)) (
  ref1_Digits r (w64 (0 - n1)) h fun y2 h1 =>
  (ByteArray.size (⟨#[45]⟩) + ByteArray.size y2 ≤ 9223372036854775807) ∧
  R ((⟨#[45]⟩) ++ y2) h1) (
  Br (decide (n1 < 10)) (
   New h (.cells #[(.int .u8 (IntKind.wrap .u8 (w64 (48 + n1))))] 5) fun p6 h2 =>
   LdN .u8 h2 (Addr.add p6 0) fun x9 =>
   R (byteStr x9) h2) (
   ref1_Digits r (w64 (Int.tdiv n1 10)) h fun y11 h3 =>
   ref1_Digits r (Int.tmod n1 10) h3 fun y12 h4 =>
   (ByteArray.size y11 + ByteArray.size y12 ≤ 9223372036854775807) ∧
   R (y11 ++ y12) h4))
theorem ref1_Digits_of {r : World} {n1 : Int} {h : Heap} {R : ByteArray → Heap → Prop} (H : ref1_Digits_F r n1 h R) : ref1_Digits r n1 h R := by
 unfold ref1_Digits_F at H
 refine calls_of 23 [.tmp 2] Tryz.func16 rfl rfl rfl rfl rfl ?_
 refine W_seq ?_
 refine W_region (.pu 0 .fin) rfl rfl ?_
 refine sp 2 (.string (⟨#[]⟩)) rfl rfl (r_assign rfl) ?_
 refine s_fin ?_
 refine W_seq ?_
 refine W_seq ?_
 refine W_region (.pu 0 (.pu 1 .fin)) rfl rfl ?_
 refine sp 3 (.int .i64 n1) rfl rfl (r_move rfl) ?_
 refine sp 4 (.bool (decide (n1 < 0))) rfl rfl (r_lss rfl rfl) ?_
 refine s_fin ?_
 refine W_if (decide (n1 < 0)) rfl (fun g17 => ?_) (fun g17 => ?_)
 ·have H := H.1 g17
  refine W_seq ?_
  refine W_region (.pu 0 (.pu 1 (.ef 2 [] (.pu 3 (.pu 4 .fin)) .no))) rfl rfl ?_
  refine sp 5 (.int .i64 n1) rfl rfl (r_move rfl) ?_
  refine sp 6 (.int .i64 (w64 (0 - n1))) rfl rfl (r_sub rfl rfl) ?_
  refine sc 7 rfl rfl (fun dr => r_call Tryz.call16 rfl rfl H) ?_
  rintro _ h1 ⟨y2, rfl, H⟩
  obtain ⟨e3, H⟩ := H
  refine sp 8 (.string ((⟨#[45]⟩) ++ y2)) rfl rfl (r_addT rfl rfl e3) ?_
  refine sp 2 (.string ((⟨#[45]⟩) ++ y2)) rfl rfl (r_assign rfl) ?_
  refine s_fin ?_
  refine W_ret ?_
  exact ⟨[(.string ((⟨#[45]⟩) ++ y2))], ⟨_, _, rfl, rfl, rfl⟩, ((⟨#[45]⟩) ++ y2), rfl, H⟩
 ·have H := H.2 g17
  refine W_skip ?_
  show W _ _ _ _ _ _ _ _
  refine W_seq ?_
  refine W_seq ?_
  refine W_region (.pu 0 (.pu 1 .fin)) rfl rfl ?_
  refine sp 9 (.int .i64 n1) rfl rfl (r_move rfl) ?_
  refine sp 10 (.bool (decide (n1 < 10))) rfl rfl (r_lss rfl rfl) ?_
  refine s_fin ?_
  refine W_if (decide (n1 < 10)) rfl (fun g16 => ?_) (fun g16 => ?_)
  ·have H := H.1 g16
   refine W_seq ?_
   refine W_region (.pu 0 (.pu 1 (.pu 2 (.ef 3 [] (.rl 4 (.pu 5 .fin)) .no)))) rfl rfl ?_
   refine sp 11 (.int .i64 n1) rfl rfl (r_move rfl) ?_
   refine sp 12 (.int .i64 (w64 (48 + n1))) rfl rfl (r_add rfl rfl) ?_
   refine sp 13 (.int .u8 (IntKind.wrap .u8 (w64 (48 + n1)))) rfl rfl (r_conv Tryz.underlying3 Tryz.underlying5 rfl) ?_
   obtain ⟨p6, e7⟩ : ∃ p : Addr, p = ⟨h.size, 0, none⟩ := ⟨_, rfl⟩
   obtain ⟨h2, e8⟩ : ∃ hh : Heap, hh = h.push (.cells #[(.int .u8 (IntKind.wrap .u8 (w64 (48 + n1))))] 5) := ⟨_, rfl⟩
   have H := H p6 h2 e7 e8
   refine s_ef1 (d := some 14) (v := (Sl.v ((⟨some p6, 1, 1⟩ : Sl)))) (h' := h2) rfl rfl rfl (fun dr => (slFGStr_78.build (cells := #[(.int .u8 (IntKind.wrap .u8 (w64 (48 + n1))))]) (by decide) rfl (by kernel_rfl)).trans (by rw [e7, e8]; rfl)) trivial ?_ trivial
   obtain ⟨x9, e10, H⟩ := H
   refine sl 15 (.string (byteStr x9)) rfl rfl (fun dr => r_convB Tryz.underlying78 Tryz.underlying5 Tryz.underlying9 rfl e10) ?_
   refine sp 2 (.string (byteStr x9)) rfl rfl (r_assign rfl) ?_
   refine s_fin ?_
   refine W_ret ?_
   exact ⟨[(.string (byteStr x9))], ⟨_, _, rfl, rfl, rfl⟩, (byteStr x9), rfl, H⟩
  ·have H := H.2 g16
   refine W_skip ?_
   show W _ _ _ _ _ _ _ _
   refine W_seq ?_
   refine W_region (.pu 0 (.pu 1 (.ef 2 [] (.pu 3 (.pu 4 (.ef 5 [] (.pu 6 (.pu 7 .fin)) .no))) .no))) rfl rfl ?_
   refine sp 16 (.int .i64 n1) rfl rfl (r_move rfl) ?_
   refine sp 17 (.int .i64 (w64 (Int.tdiv n1 10))) rfl rfl (r_quo rfl rfl (by decide)) ?_
   refine sc 18 rfl rfl (fun dr => r_call Tryz.call16 rfl rfl H) ?_
   rintro _ h3 ⟨y11, rfl, H⟩
   refine sp 19 (.int .i64 n1) rfl rfl (r_move rfl) ?_
   refine sp 20 (.int .i64 (Int.tmod n1 10)) rfl rfl (r_rem rfl rfl (by decide)) ?_
   refine sc 21 rfl rfl (fun dr => r_call Tryz.call16 rfl rfl H) ?_
   rintro _ h4 ⟨y12, rfl, H⟩
   obtain ⟨e13, H⟩ := H
   refine sp 22 (.string (y11 ++ y12)) rfl rfl (r_addT rfl rfl e13) ?_
   refine sp 2 (.string (y11 ++ y12)) rfl rfl (r_assign rfl) ?_
   refine s_fin ?_
   refine W_ret ?_
   exact ⟨[(.string (y11 ++ y12))], ⟨_, _, rfl, rfl, rfl⟩, (y11 ++ y12), rfl, H⟩
def ref1_Text_F (r : World) (l1 : Sl) (h : Heap) (R : ByteArray → Heap → Prop) : Prop :=
 ∀ X4 : ByteArray → Int → Heap → Prop, (∀ (s2 : ByteArray) (i3 : Int) (h1 : Heap),
  (Br (decide (i3 < ((l1.len : Int)))) (
   ∀ J6 : ByteArray → Prop, (∀ (s5 : ByteArray),
    (Ix l1 i3 1 fun q12 =>
    LdI h1 q12 fun x14 =>
    ref1_Digits r x14 h1 fun y16 h2 =>
    (ByteArray.size s5 + ByteArray.size y16 ≤ 9223372036854775807) ∧
    X4 (s5 ++ y16) (w64 (i3 + 1)) h2) →
    J6 s5) →
   Br (decide (0 < i3)) (
    (ByteArray.size s2 + ByteArray.size (⟨#[32]⟩) ≤ 9223372036854775807) ∧
    J6 (s2 ++ (⟨#[32]⟩))) (
    J6 s2)) (
   R s2 h1)) →
  X4 s2 i3 h1) →
 X4 (⟨#[]⟩) 0 h
theorem ref1_Text_of {r : World} {l1 : Sl} {h : Heap} {R : ByteArray → Heap → Prop} (H : ref1_Text_F r l1 h R) : ref1_Text r l1 h R := by
 unfold ref1_Text_F at H
 refine calls_of 23 [.tmp 2] Tryz.func14 rfl rfl rfl rfl rfl ?_
 refine W_seq ?_
 refine W_region (.pu 0 .fin) rfl rfl ?_
 refine sp 2 (.string (⟨#[]⟩)) rfl rfl (r_assign rfl) ?_
 refine s_fin ?_
 refine W_seq ?_
 refine W_region (.pu 0 .fin) rfl rfl ?_
 refine sp 3 (.string (⟨#[]⟩)) rfl rfl (r_assign rfl) ?_
 refine s_fin ?_
 refine W_seq ?_
 refine W_seq ?_
 refine W_region (.pu 0 .fin) rfl rfl ?_
 refine sp 4 (.int .i64 0) rfl rfl (r_assign rfl) ?_
 refine s_fin ?_
 refine W_block ?_
 refine W_loop (WL_mk (l := [(0, (Sl.v l1)), (3, (.string (⟨#[]⟩))), (4, (.int .i64 0))]) ?_ ⟨rfl, rfl, rfl, trivial⟩)
 refine H (fun (s2 : ByteArray) (i3 : Int) (h1 : Heap) => ∀ b, WL _ _ _ _ _ _ (mkE [(0, (Sl.v l1)), (3, (.string s2)), (4, (.int .i64 i3))] b) h1) ?_
 intro s2 i3 h1 H b
 refine WL_round ?_
 refine W_seq ?_
 refine W_seq ?_
 refine W_region (.pu 0 (.pu 1 (.pu 2 (.pu 3 .fin)))) rfl rfl ?_
 refine sp 5 (.int .i64 i3) rfl rfl (r_move rfl) ?_
 refine sp 6 (Sl.v l1) rfl rfl (r_move rfl) ?_
 refine sp 7 (.int .i64 ((l1.len : Int))) rfl rfl (r_len Tryz.underlying26 rfl) ?_
 refine sp 8 (.bool (decide (i3 < ((l1.len : Int))))) rfl rfl (r_lss rfl rfl) ?_
 refine s_fin ?_
 refine W_if (decide (i3 < ((l1.len : Int)))) rfl (fun g24 => ?_) (fun g24 => ?_)
 ·have H := H.1 g24
  refine W_skip ?_
  show W _ _ _ _ _ _ _ _
  refine W_seq ?_
  refine W_block ?_
  refine W_seq ?_
  refine W_seq ?_
  refine W_region (.pu 0 (.pu 1 .fin)) rfl rfl ?_
  refine sp 11 (.int .i64 i3) rfl rfl (r_move rfl) ?_
  refine sp 12 (.bool (decide (0 < i3))) rfl rfl (r_gtr rfl rfl) ?_
  refine s_fin ?_
  refine W_set ?_
  intro N7 eN7
  have H := H (fun (s5 : ByteArray) => ∀ b, N7 [] (mkE [(0, (Sl.v l1)), (3, (.string s5)), (4, (.int .i64 i3))] b) h1) (by
   intro s5 H b
   rw [eN7]
   show W _ _ _ _ _ _ _ _
   refine W_region (.pu 0 (.pu 1 (.pu 2 (.pu 3 (.rl 4 (.ef 5 [] (.pu 6 (.pu 7 .fin)) .no)))))) rfl rfl ?_
   refine sp 15 (.string s5) rfl rfl (r_move rfl) ?_
   refine sp 16 (Sl.v l1) rfl rfl (r_move rfl) ?_
   refine sp 17 (.int .i64 i3) rfl rfl (r_move rfl) ?_
   obtain ⟨p8, e9, e10, e11, H⟩ := H
   obtain ⟨q12, e13⟩ : ∃ q : Addr, q = Addr.add p8 (Int.toNat i3 * 1) := ⟨_, rfl⟩
   rw [← e13] at H
   refine sp 18 (.pointer (some q12)) rfl rfl (fun w => (r_indexAddr Tryz.underlying26 Tryz.sizeOf3 rfl rfl e9 e10 e11 w).trans (by rw [e13])) ?_
   obtain ⟨x14, e15, H⟩ := H
   refine sl 19 (.int .i64 x14) rfl rfl (fun dr => r_load1 Tryz.isAgg3 rfl e15) ?_
   refine sc 20 rfl rfl (fun dr => r_call Tryz.call16 rfl rfl H) ?_
   rintro _ h2 ⟨y16, rfl, H⟩
   obtain ⟨e17, H⟩ := H
   refine sp 21 (.string (s5 ++ y16)) rfl rfl (r_addT rfl rfl e17) ?_
   refine sp 3 (.string (s5 ++ y16)) rfl rfl (r_assign rfl) ?_
   refine s_fin ?_
   refine W_region (.pu 0 (.pu 1 (.pu 2 .fin))) rfl rfl ?_
   refine sp 9 (.int .i64 i3) rfl rfl (r_move rfl) ?_
   refine sp 10 (.int .i64 (w64 (i3 + 1))) rfl rfl (r_add rfl rfl) ?_
   refine sp 4 (.int .i64 (w64 (i3 + 1))) rfl rfl (r_assign rfl) ?_
   refine s_fin ?_
   exact WL_mk (l := [(0, (Sl.v l1)), (3, (.string (s5 ++ y16))), (4, (.int .i64 (w64 (i3 + 1))))]) H ⟨rfl, rfl, rfl, trivial⟩)
  clear eN7
  refine W_if (decide (0 < i3)) rfl (fun g23 => ?_) (fun g23 => ?_)
  ·have H := H.1 g23
   refine W_region (.pu 0 (.pu 1 (.pu 2 .fin))) rfl rfl ?_
   refine sp 13 (.string s2) rfl rfl (r_move rfl) ?_
   obtain ⟨e20, H⟩ := H
   refine sp 14 (.string (s2 ++ (⟨#[32]⟩))) rfl rfl (r_addT rfl rfl e20) ?_
   refine sp 3 (.string (s2 ++ (⟨#[32]⟩))) rfl rfl (r_assign rfl) ?_
   refine s_fin ?_
   exact N_mk (l := [(0, (Sl.v l1)), (3, (.string (s2 ++ (⟨#[32]⟩)))), (4, (.int .i64 i3))]) H ⟨rfl, rfl, rfl, trivial⟩
  ·have H := H.2 g23
   refine W_skip ?_
   exact N_mk (l := [(0, (Sl.v l1)), (3, (.string s2)), (4, (.int .i64 i3))]) H ⟨rfl, rfl, rfl, trivial⟩
 ·have H := H.2 g24
  refine W_exit (inX_here ?_)
  show W _ _ _ _ _ _ _ _
  refine W_seq ?_
  refine W_region (.pu 0 (.pu 1 .fin)) rfl rfl ?_
  refine sp 22 (.string s2) rfl rfl (r_move rfl) ?_
  refine sp 2 (.string s2) rfl rfl (r_assign rfl) ?_
  refine s_fin ?_
  refine W_ret ?_
  exact ⟨[(.string s2)], ⟨_, _, rfl, rfl, rfl⟩, s2, rfl, H⟩
def ref1_NumberOf_F (r : World) (s1 : ByteArray) (h : Heap) (R : Int → Bool → Heap → Prop) : Prop :=
 ∀ J3 : Bool → Prop, (∀ (x2 : Bool),
  (∀ J6 : Int → Prop, (∀ (k5 : Int),
   (Br (decide (12 < ((s1.size : Int)))) (
    R 0 false h) (
    ∀ X10 : Int → Int → Prop, (∀ (n8 : Int) (i9 : Int),
     (Br (decide (i9 < ((s1.size : Int)))) (
      ∀ J12 : Bool → Prop, (∀ (x11 : Bool),
       (Br x11 (
        R 0 false h) (
        (0 : Int) ≤ i9 ∧ i9 < (ByteArray.size s1 : Int) ∧
        ∀ x16 : Int, x16 = (w64 ((w64 (10 * n8)) + (w64 (IntKind.wrap .u8 ((strAt s1 i9) - 48))))) →
        X10 x16 (w64 (i9 + 1)))) →
       J12 x11) →
      (0 : Int) ≤ i9 ∧ i9 < (ByteArray.size s1 : Int) ∧
      Br (decide ((strAt s1 i9) < 48)) (
       J12 true) (
       (0 : Int) ≤ i9 ∧ i9 < (ByteArray.size s1 : Int) ∧
       J12 (decide (57 < (strAt s1 i9))))) (
      ∀ J25 : Int → Prop, (∀ (n24 : Int),
       (∀ J28 : Bool → Heap → Prop, (∀ (x27 : Bool) (h1 : Heap),
        (Br x27 (
         R 0 false h1) (
         R n24 true h1)) →
        J28 x27 h1) →
       Br (decide (n24 < ((-1073741824)))) (
        J28 true h) (
        Br (decide (1073741824 < n24)) (
         J28 true h) (
         ref1_Digits r n24 h fun y33 h2 =>
         J28 (!decide (y33 = s1)) h2))) →
       J25 n24) →
      Br (decide (k5 = 1)) (
       J25 (w64 (0 - n8))) (
       J25 n8))) →
     X10 n8 i9) →
    X10 0 k5)) →
   J6 k5) →
  Br x2 (
   J6 1) (
   J6 0)) →
  J3 x2) →
 Br (decide (0 < ((s1.size : Int)))) (
  (0 : Int) ≤ 0 ∧ 0 < (ByteArray.size s1 : Int) ∧
  J3 (decide ((strAt s1 0) = 45))) (
  J3 false)
theorem ref1_NumberOf_of {r : World} {s1 : ByteArray} {h : Heap} {R : Int → Bool → Heap → Prop} (H : ref1_NumberOf_F r s1 h R) : ref1_NumberOf r s1 h R := by
 unfold ref1_NumberOf_F at H
 refine calls_of 60 [.tmp 2, .tmp 3] Tryz.func12 rfl rfl rfl rfl rfl ?_
 refine W_seq ?_
 refine W_region (.pu 0 (.pu 1 .fin)) rfl rfl ?_
 refine sp 2 (.int .i64 0) rfl rfl (r_assign rfl) ?_
 refine sp 3 (.bool false) rfl rfl (r_assign rfl) ?_
 refine s_fin ?_
 refine W_seq ?_
 refine W_region (.pu 0 .fin) rfl rfl ?_
 refine sp 4 (.int .i64 0) rfl rfl (r_assign rfl) ?_
 refine s_fin ?_
 refine W_seq ?_
 refine W_region (.pu 0 .fin) rfl rfl ?_
 refine sp 5 (.int .i64 0) rfl rfl (r_assign rfl) ?_
 refine s_fin ?_
 refine W_seq ?_
 refine W_seq ?_
 refine W_set ?_
 intro N4 eN4
 have H := H (fun (x2 : Bool) => ∀ b, N4 [] (mkE [(0, (.string s1)), (4, (.int .i64 0)), (5, (.int .i64 0)), (14, (.bool x2))] b) h) (by
  intro x2 H b
  rw [eN4]
  show W _ _ _ _ _ _ _ _
  refine W_set ?_
  intro N7 eN7
  have H := H (fun (k5 : Int) => ∀ b, N7 [] (mkE [(0, (.string s1)), (4, (.int .i64 0)), (5, (.int .i64 k5))] b) h) (by
   intro k5 H b
   rw [eN7]
   show W _ _ _ _ _ _ _ _
   refine W_seq ?_
   refine W_seq ?_
   refine W_region (.pu 0 (.pu 1 (.pu 2 .fin))) rfl rfl ?_
   refine sp 15 (.string s1) rfl rfl (r_move rfl) ?_
   refine sp 16 (.int .i64 ((s1.size : Int))) rfl rfl (r_lenStr Tryz.underlying9 rfl) ?_
   refine sp 17 (.bool (decide (12 < ((s1.size : Int))))) rfl rfl (r_gtr rfl rfl) ?_
   refine s_fin ?_
   refine W_if (decide (12 < ((s1.size : Int)))) rfl (fun g36 => ?_) (fun g36 => ?_)
   ·have H := H.1 g36
    refine W_seq ?_
    refine W_region (.pu 0 (.pu 1 .fin)) rfl rfl ?_
    refine sp 2 (.int .i64 0) rfl rfl (r_assign rfl) ?_
    refine sp 3 (.bool false) rfl rfl (r_assign rfl) ?_
    refine s_fin ?_
    refine W_ret ?_
    exact ⟨[(.int .i64 0), (.bool false)], ⟨_, _, rfl, rfl, ⟨_, _, rfl, rfl, rfl⟩⟩, 0, false, rfl, H⟩
   ·have H := H.2 g36
    refine W_skip ?_
    show W _ _ _ _ _ _ _ _
    refine W_seq ?_
    refine W_seq ?_
    refine W_region (.pu 0 (.pu 1 .fin)) rfl rfl ?_
    refine sp 18 (.int .i64 k5) rfl rfl (r_move rfl) ?_
    refine sp 6 (.int .i64 k5) rfl rfl (r_assign rfl) ?_
    refine s_fin ?_
    refine W_block ?_
    refine W_loop (WL_mk (l := [(0, (.string s1)), (4, (.int .i64 0)), (5, (.int .i64 k5)), (6, (.int .i64 k5))]) ?_ ⟨rfl, rfl, rfl, rfl, trivial⟩)
    refine H (fun (n8 : Int) (i9 : Int) => ∀ b, WL _ _ _ _ _ _ (mkE [(0, (.string s1)), (4, (.int .i64 n8)), (5, (.int .i64 k5)), (6, (.int .i64 i9))] b) h) ?_
    intro n8 i9 H b
    refine WL_round ?_
    refine W_seq ?_
    refine W_seq ?_
    refine W_region (.pu 0 (.pu 1 (.pu 2 (.pu 3 .fin)))) rfl rfl ?_
    refine sp 19 (.int .i64 i9) rfl rfl (r_move rfl) ?_
    refine sp 20 (.string s1) rfl rfl (r_move rfl) ?_
    refine sp 21 (.int .i64 ((s1.size : Int))) rfl rfl (r_lenStr Tryz.underlying9 rfl) ?_
    refine sp 22 (.bool (decide (i9 < ((s1.size : Int))))) rfl rfl (r_lss rfl rfl) ?_
    refine s_fin ?_
    refine W_if (decide (i9 < ((s1.size : Int)))) rfl (fun g35 => ?_) (fun g35 => ?_)
    ·have H := H.1 g35
     refine W_skip ?_
     show W _ _ _ _ _ _ _ _
     refine W_seq ?_
     refine W_block ?_
     refine W_seq ?_
     refine W_seq ?_
     refine W_set ?_
     intro N13 eN13
     have H := H (fun (x11 : Bool) => ∀ b, N13 [] (mkE [(0, (.string s1)), (4, (.int .i64 n8)), (5, (.int .i64 k5)), (6, (.int .i64 i9)), (34, (.bool x11))] b) h) (by
      intro x11 H b
      rw [eN13]
      show W _ _ _ _ _ _ _ _
      refine W_if x11 rfl (fun g18 => ?_) (fun g18 => ?_)
      ·have H := H.1 g18
       refine W_seq ?_
       refine W_region (.pu 0 (.pu 1 .fin)) rfl rfl ?_
       refine sp 2 (.int .i64 0) rfl rfl (r_assign rfl) ?_
       refine sp 3 (.bool false) rfl rfl (r_assign rfl) ?_
       refine s_fin ?_
       refine W_ret ?_
       exact ⟨[(.int .i64 0), (.bool false)], ⟨_, _, rfl, rfl, ⟨_, _, rfl, rfl, rfl⟩⟩, 0, false, rfl, H⟩
      ·have H := H.2 g18
       refine W_skip ?_
       show W _ _ _ _ _ _ _ _
       refine W_region (.pu 0 (.pu 1 (.pu 2 (.pu 3 (.pu 4 (.pu 5 (.pu 6 (.pu 7 (.pu 8 .fin))))))))) rfl rfl ?_
       refine sp 35 (.int .i64 n8) rfl rfl (r_move rfl) ?_
       refine sp 36 (.int .i64 (w64 (10 * n8))) rfl rfl (r_mul rfl rfl) ?_
       refine sp 37 (.string s1) rfl rfl (r_move rfl) ?_
       refine sp 38 (.int .i64 i9) rfl rfl (r_move rfl) ?_
       obtain ⟨e14, e15, H⟩ := H
       refine sp 39 (.int .u8 (strAt s1 i9)) rfl rfl (r_indexStr Tryz.underlying9 rfl rfl e14 e15) ?_
       refine sp 40 (.int .u8 (IntKind.wrap .u8 ((strAt s1 i9) - 48))) rfl rfl (r_sub rfl rfl) ?_
       refine sp 41 (.int .i64 (w64 (IntKind.wrap .u8 ((strAt s1 i9) - 48)))) rfl rfl (r_conv Tryz.underlying5 Tryz.underlying3 rfl) ?_
       refine sp 42 (.int .i64 (w64 ((w64 (10 * n8)) + (w64 (IntKind.wrap .u8 ((strAt s1 i9) - 48)))))) rfl rfl (r_add rfl rfl) ?_
       obtain ⟨x16, e17⟩ : ∃ x : Int, x = (w64 ((w64 (10 * n8)) + (w64 (IntKind.wrap .u8 ((strAt s1 i9) - 48))))) := ⟨_, rfl⟩
       have H := H x16 e17
       refine sp 4 (.int .i64 x16) rfl rfl (r_assign (congrArg (Value.int .i64) e17.symm)) ?_
       refine s_fin ?_
       refine W_region (.pu 0 (.pu 1 (.pu 2 .fin))) rfl rfl ?_
       refine sp 23 (.int .i64 i9) rfl rfl (r_move rfl) ?_
       refine sp 24 (.int .i64 (w64 (i9 + 1))) rfl rfl (r_add rfl rfl) ?_
       refine sp 6 (.int .i64 (w64 (i9 + 1))) rfl rfl (r_assign rfl) ?_
       refine s_fin ?_
       exact WL_mk (l := [(0, (.string s1)), (4, (.int .i64 x16)), (5, (.int .i64 k5)), (6, (.int .i64 (w64 (i9 + 1))))]) H ⟨rfl, rfl, rfl, rfl, trivial⟩)
     clear eN13
     refine W_region (.pu 0 (.pu 1 (.pu 2 (.pu 3 (.pu 4 (.pu 5 (.pu 6 (.pu 7 (.pu 8 (.pu 9 .fin)))))))))) rfl rfl ?_
     refine sp 25 (.string s1) rfl rfl (r_move rfl) ?_
     refine sp 26 (.int .i64 i9) rfl rfl (r_move rfl) ?_
     obtain ⟨e19, e20, H⟩ := H
     refine sp 27 (.int .u8 (strAt s1 i9)) rfl rfl (r_indexStr Tryz.underlying9 rfl rfl e19 e20) ?_
     refine sp 28 (.bool (decide ((strAt s1 i9) < 48))) rfl rfl (r_lss rfl rfl) ?_
     refine sp 29 (.bool (decide ((strAt s1 i9) < 48))) rfl rfl (r_move rfl) ?_
     rcases Bool.eq_false_or_eq_true (decide ((strAt s1 i9) < 48)) with g21 | g21
     ·have H := H.1 g21
      refine s_sk (d := some 30) rfl rfl (wants_no rfl rfl rfl rfl g21) ?_
      refine s_sk (d := some 31) rfl rfl (wants_no rfl rfl rfl rfl g21) ?_
      refine s_sk (d := some 32) rfl rfl (wants_no rfl rfl rfl rfl g21) ?_
      refine s_sk (d := some 33) rfl rfl (wants_no rfl rfl rfl rfl g21) ?_
      refine sp 34 (.bool true) rfl rfl (r_pick1 rfl g21 rfl) ?_
      refine s_fin ?_
      exact N_mk (l := [(0, (.string s1)), (4, (.int .i64 n8)), (5, (.int .i64 k5)), (6, (.int .i64 i9)), (34, (.bool true))]) H ⟨rfl, rfl, rfl, rfl, rfl, trivial⟩
     ·have H := H.2 g21
      refine s_pu (d := some 30) (v := (.string s1)) rfl rfl (wants_yes rfl rfl rfl rfl g21) (r_move rfl) ?_
      refine s_pu (d := some 31) (v := (.int .i64 i9)) rfl rfl (wants_yes rfl rfl rfl rfl g21) (r_move rfl) ?_
      obtain ⟨e22, e23, H⟩ := H
      refine s_pu (d := some 32) (v := (.int .u8 (strAt s1 i9))) rfl rfl (wants_yes rfl rfl rfl rfl g21) (r_indexStr Tryz.underlying9 rfl rfl e22 e23) ?_
      refine s_pu (d := some 33) (v := (.bool (decide (57 < (strAt s1 i9))))) rfl rfl (wants_yes rfl rfl rfl rfl g21) (r_gtr rfl rfl) ?_
      refine sp 34 (.bool (decide (57 < (strAt s1 i9)))) rfl rfl (r_pick0 rfl g21 rfl) ?_
      refine s_fin ?_
      exact N_mk (l := [(0, (.string s1)), (4, (.int .i64 n8)), (5, (.int .i64 k5)), (6, (.int .i64 i9)), (34, (.bool (decide (57 < (strAt s1 i9)))))]) H ⟨rfl, rfl, rfl, rfl, rfl, trivial⟩
    ·have H := H.2 g35
     refine W_exit (inX_here ?_)
     show W _ _ _ _ _ _ _ _
     refine W_seq ?_
     refine W_seq ?_
     refine W_region (.pu 0 (.pu 1 .fin)) rfl rfl ?_
     refine sp 43 (.int .i64 k5) rfl rfl (r_move rfl) ?_
     refine sp 44 (.bool (decide (k5 = 1))) rfl rfl (r_eql rfl rfl) ?_
     refine s_fin ?_
     refine W_set ?_
     intro N26 eN26
     have H := H (fun (n24 : Int) => ∀ b, N26 [] (mkE [(0, (.string s1)), (4, (.int .i64 n24))] b) h) (by
      intro n24 H b
      rw [eN26]
      show W _ _ _ _ _ _ _ _
      refine W_seq ?_
      refine W_seq ?_
      refine W_set ?_
      intro N29 eN29
      have H := H (fun (x27 : Bool) (h1 : Heap) => ∀ b, N29 [] (mkE [(4, (.int .i64 n24)), (58, (.bool x27))] b) h1) (by
       intro x27 h1 H b
       rw [eN29]
       show W _ _ _ _ _ _ _ _
       refine W_if x27 rfl (fun g30 => ?_) (fun g30 => ?_)
       ·have H := H.1 g30
        refine W_seq ?_
        refine W_region (.pu 0 (.pu 1 .fin)) rfl rfl ?_
        refine sp 2 (.int .i64 0) rfl rfl (r_assign rfl) ?_
        refine sp 3 (.bool false) rfl rfl (r_assign rfl) ?_
        refine s_fin ?_
        refine W_ret ?_
        exact ⟨[(.int .i64 0), (.bool false)], ⟨_, _, rfl, rfl, ⟨_, _, rfl, rfl, rfl⟩⟩, 0, false, rfl, H⟩
       ·have H := H.2 g30
        refine W_skip ?_
        show W _ _ _ _ _ _ _ _
        refine W_seq ?_
        refine W_region (.pu 0 (.pu 1 (.pu 2 .fin))) rfl rfl ?_
        refine sp 59 (.int .i64 n24) rfl rfl (r_move rfl) ?_
        refine sp 2 (.int .i64 n24) rfl rfl (r_assign rfl) ?_
        refine sp 3 (.bool true) rfl rfl (r_assign rfl) ?_
        refine s_fin ?_
        refine W_ret ?_
        exact ⟨[(.int .i64 n24), (.bool true)], ⟨_, _, rfl, rfl, ⟨_, _, rfl, rfl, rfl⟩⟩, n24, true, rfl, H⟩)
      clear eN29
      refine W_region (.pu 0 (.pu 1 (.pu 2 (.pu 3 (.pu 4 (.pu 5 (.pu 6 (.pu 7 (.ef 8 [] (.pu 9 (.pu 10 (.pu 11 .fin))) .no))))))))) rfl rfl ?_
      refine sp 47 (.int .i64 n24) rfl rfl (r_move rfl) ?_
      refine sp 48 (.bool (decide (n24 < ((-1073741824))))) rfl rfl (r_lss rfl rfl) ?_
      refine sp 49 (.bool (decide (n24 < ((-1073741824))))) rfl rfl (r_move rfl) ?_
      rcases Bool.eq_false_or_eq_true (decide (n24 < ((-1073741824)))) with g31 | g31
      ·have H := H.1 g31
       refine s_sk (d := some 50) rfl rfl (wants_no rfl rfl rfl rfl g31) ?_
       refine s_sk (d := some 51) rfl rfl (wants_no rfl rfl rfl rfl g31) ?_
       refine sp 52 (.bool true) rfl rfl (r_pick1 rfl g31 rfl) ?_
       refine sp 53 (.bool true) rfl rfl (r_move rfl) ?_
       refine s_sk (d := some 54) rfl rfl (wants_no rfl rfl rfl rfl rfl) ?_
       refine s_skf (d := some 55) rfl rfl (wants_no rfl rfl rfl rfl rfl) trivial ?_ trivial
       refine s_sk (d := some 56) rfl rfl (wants_no rfl rfl rfl rfl rfl) ?_
       refine s_sk (d := some 57) rfl rfl (wants_no rfl rfl rfl rfl rfl) ?_
       refine sp 58 (.bool true) rfl rfl (r_pick1 rfl rfl rfl) ?_
       refine s_fin ?_
       exact N_mk (l := [(4, (.int .i64 n24)), (58, (.bool true))]) H ⟨rfl, rfl, trivial⟩
      ·have H := H.2 g31
       refine s_pu (d := some 50) (v := (.int .i64 n24)) rfl rfl (wants_yes rfl rfl rfl rfl g31) (r_move rfl) ?_
       refine s_pu (d := some 51) (v := (.bool (decide (1073741824 < n24)))) rfl rfl (wants_yes rfl rfl rfl rfl g31) (r_gtr rfl rfl) ?_
       refine sp 52 (.bool (decide (1073741824 < n24))) rfl rfl (r_pick0 rfl g31 rfl) ?_
       refine sp 53 (.bool (decide (1073741824 < n24))) rfl rfl (r_move rfl) ?_
       rcases Bool.eq_false_or_eq_true (decide (1073741824 < n24)) with g32 | g32
       ·have H := H.1 g32
        refine s_sk (d := some 54) rfl rfl (wants_no rfl rfl rfl rfl g32) ?_
        refine s_skf (d := some 55) rfl rfl (wants_no rfl rfl rfl rfl g32) trivial ?_ trivial
        refine s_sk (d := some 56) rfl rfl (wants_no rfl rfl rfl rfl g32) ?_
        refine s_sk (d := some 57) rfl rfl (wants_no rfl rfl rfl rfl g32) ?_
        refine sp 58 (.bool true) rfl rfl (r_pick1 rfl g32 rfl) ?_
        refine s_fin ?_
        exact N_mk (l := [(4, (.int .i64 n24)), (58, (.bool true))]) H ⟨rfl, rfl, trivial⟩
       ·have H := H.2 g32
        refine s_pu (d := some 54) (v := (.int .i64 n24)) rfl rfl (wants_yes rfl rfl rfl rfl g32) (r_move rfl) ?_
        refine s_ef (d := some 55) rfl rfl (wants_yes rfl rfl rfl rfl g32) (fun dr => r_call Tryz.call16 rfl rfl H) ?_ trivial
        rintro _ h2 ⟨y33, rfl, H⟩
        refine ⟨trivial, ?_⟩
        refine s_pu (d := some 56) (v := (.string s1)) rfl rfl (wants_yes rfl rfl rfl rfl g32) (r_move rfl) ?_
        refine s_pu (d := some 57) (v := (.bool (!decide (y33 = s1)))) rfl rfl (wants_yes rfl rfl rfl rfl g32) (r_neqT rfl rfl) ?_
        refine sp 58 (.bool (!decide (y33 = s1))) rfl rfl (r_pick0 rfl g32 rfl) ?_
        refine s_fin ?_
        exact N_mk (l := [(4, (.int .i64 n24)), (58, (.bool (!decide (y33 = s1))))]) H ⟨rfl, rfl, trivial⟩)
     clear eN26
     refine W_if (decide (k5 = 1)) rfl (fun g34 => ?_) (fun g34 => ?_)
     ·have H := H.1 g34
      refine W_region (.pu 0 (.pu 1 (.pu 2 .fin))) rfl rfl ?_
      refine sp 45 (.int .i64 n8) rfl rfl (r_move rfl) ?_
      refine sp 46 (.int .i64 (w64 (0 - n8))) rfl rfl (r_sub rfl rfl) ?_
      refine sp 4 (.int .i64 (w64 (0 - n8))) rfl rfl (r_assign rfl) ?_
      refine s_fin ?_
      exact N_mk (l := [(0, (.string s1)), (4, (.int .i64 (w64 (0 - n8))))]) H ⟨rfl, rfl, trivial⟩
     ·have H := H.2 g34
      refine W_skip ?_
      exact N_mk (l := [(0, (.string s1)), (4, (.int .i64 n8))]) H ⟨rfl, rfl, trivial⟩)
  clear eN7
  refine W_if x2 rfl (fun g37 => ?_) (fun g37 => ?_)
  ·have H := H.1 g37
   refine W_region (.pu 0 .fin) rfl rfl ?_
   refine sp 5 (.int .i64 1) rfl rfl (r_assign rfl) ?_
   refine s_fin ?_
   exact N_mk (l := [(0, (.string s1)), (4, (.int .i64 0)), (5, (.int .i64 1))]) H ⟨rfl, rfl, rfl, trivial⟩
  ·have H := H.2 g37
   refine W_skip ?_
   exact N_mk (l := [(0, (.string s1)), (4, (.int .i64 0)), (5, (.int .i64 0))]) H ⟨rfl, rfl, rfl, trivial⟩)
 clear eN4
 refine W_region (.pu 0 (.pu 1 (.pu 2 (.pu 3 (.pu 4 (.pu 5 (.pu 6 (.pu 7 .fin)))))))) rfl rfl ?_
 refine sp 7 (.string s1) rfl rfl (r_move rfl) ?_
 refine sp 8 (.int .i64 ((s1.size : Int))) rfl rfl (r_lenStr Tryz.underlying9 rfl) ?_
 refine sp 9 (.bool (decide (0 < ((s1.size : Int))))) rfl rfl (r_gtr rfl rfl) ?_
 refine sp 10 (.bool (decide (0 < ((s1.size : Int))))) rfl rfl (r_move rfl) ?_
 rcases Bool.eq_false_or_eq_true (decide (0 < ((s1.size : Int)))) with g38 | g38
 ·have H := H.1 g38
  refine s_pu (d := some 11) (v := (.string s1)) rfl rfl (wants_yes rfl rfl rfl rfl g38) (r_move rfl) ?_
  obtain ⟨e39, e40, H⟩ := H
  refine s_pu (d := some 12) (v := (.int .u8 (strAt s1 0))) rfl rfl (wants_yes rfl rfl rfl rfl g38) (r_indexStr Tryz.underlying9 rfl rfl e39 e40) ?_
  refine s_pu (d := some 13) (v := (.bool (decide ((strAt s1 0) = 45)))) rfl rfl (wants_yes rfl rfl rfl rfl g38) (r_eql rfl rfl) ?_
  refine sp 14 (.bool (decide ((strAt s1 0) = 45))) rfl rfl (r_pick1 rfl g38 rfl) ?_
  refine s_fin ?_
  exact N_mk (l := [(0, (.string s1)), (4, (.int .i64 0)), (5, (.int .i64 0)), (14, (.bool (decide ((strAt s1 0) = 45))))]) H ⟨rfl, rfl, rfl, rfl, trivial⟩
 ·have H := H.2 g38
  refine s_sk (d := some 11) rfl rfl (wants_no rfl rfl rfl rfl g38) ?_
  refine s_sk (d := some 12) rfl rfl (wants_no rfl rfl rfl rfl g38) ?_
  refine s_sk (d := some 13) rfl rfl (wants_no rfl rfl rfl rfl g38) ?_
  refine sp 14 (.bool false) rfl rfl (r_pick0 rfl g38 rfl) ?_
  refine s_fin ?_
  exact N_mk (l := [(0, (.string s1)), (4, (.int .i64 0)), (5, (.int .i64 0)), (14, (.bool false))]) H ⟨rfl, rfl, rfl, rfl, trivial⟩
end Go.Proofs.YthkimbiknhebeaaGreatDoor
