/- Typed words of functions, and that they hold: printed by gen.py (an own tool of this claim) off the model's own form of each function. -/
import Derived.Test.YthkimbiknhebeaaGreatDoorProg
import Derived.Test.YthkimbiknhebeaaGreatDoorGSeqs
import Derived.Test.YthkimbiknhebeaaGreatDoorGWbt
import Derived.Test.YthkimbiknhebeaaGreatDoorGStr
import Derived.Test.YthkimbiknhebeaaGreatDoorLibA
namespace Go.Proofs.YthkimbiknhebeaaGreatDoor
open Go Go.RowKit Go.Tw
set_option linter.unusedVariables false
set_option maxRecDepth 100000
theorem slFGDesk_23 : SlF Tryz.prog 23 9 1 16 (.string (⟨#[]⟩)) := ⟨Tryz.underlying23, ⟨Tryz.t9, by kernel_rfl, rfl, rfl, rfl⟩, rfl, Tryz.sizeOf9, Tryz.zeroValue9⟩
abbrev desk_text (r : World) (l1 : Sl) (h : Heap) (R : ByteArray → Heap → Prop) : Prop :=
 CallsH Tryz.prog r 32 [(Sl.v l1)] h fun v h' => ∃ (y2 : ByteArray), v = (.string y2) ∧ R y2 h'
abbrev desk_desk_ranks (r : World) (d1 : Option Addr) (s2 : Option Addr) (h : Heap) (R : ByteArray → Heap → Prop) : Prop :=
 CallsH Tryz.prog r 28 [(.pointer d1), (.agg #[(.pointer s2)])] h fun v h' => ∃ (y3 : ByteArray), v = (.string y3) ∧ R y3 h'
abbrev api_Errno_Error (r : World) (ve1 : Int) (h : Heap) (R : ByteArray → Heap → Prop) : Prop :=
 CallsH Tryz.prog r 10 [(.int .i64 ve1)] h fun v h' => ∃ (y2 : ByteArray), v = (.string y2) ∧ R y2 h'
def desk_text_F (r : World) (l1 : Sl) (h : Heap) (R : ByteArray → Heap → Prop) : Prop :=
 ∀ X4 : Sl → Int → Heap → Prop, (∀ (out2 : Sl) (x3 : Int) (h1 : Heap),
  (Br (decide (x3 < ((l1.len : Int)))) (
   Ix l1 x3 1 fun q9 =>
   LdI h1 q9 fun x11 =>
   strconv_Itoa r x11 h1 fun y13 h2 =>
   New h2 (.cells #[(.string y13)] 9) fun p14 h3 =>
   App 9 1 16 (.string (⟨#[]⟩)) out2 ((⟨some p14, 1, 1⟩ : Sl)) h3 fun s17 h4 =>
   X4 s17 (w64 (x3 + 1)) h4) (
   strings_Join r out2 (⟨#[32]⟩) h1 fun y18 h5 =>
   R y18 h5)) →
  X4 out2 x3 h1) →
 X4 Sl.nil 0 h
theorem desk_text_of {r : World} {l1 : Sl} {h : Heap} {R : ByteArray → Heap → Prop} (H : desk_text_F r l1 h R) : desk_text r l1 h R := by
 unfold desk_text_F at H
 refine calls_of 20 [.tmp 2] Tryz.func32 rfl rfl rfl rfl rfl ?_
 refine W_seq ?_
 refine W_region (.pu 0 .fin) rfl rfl ?_
 refine sp 2 (.string (⟨#[]⟩)) rfl rfl (r_assign rfl) ?_
 refine s_fin ?_
 refine W_seq ?_
 refine W_region (.pu 0 .fin) rfl rfl ?_
 refine sp 3 (Sl.v Sl.nil) rfl rfl (r_assign rfl) ?_
 refine s_fin ?_
 refine W_seq ?_
 refine W_seq ?_
 refine W_region (.pu 0 (.pu 1 (.pu 2 .fin))) rfl rfl ?_
 refine sp 6 (Sl.v l1) rfl rfl (r_move rfl) ?_
 refine sp 7 (.int .i64 ((l1.len : Int))) rfl rfl (r_len Tryz.underlying26 rfl) ?_
 refine sp 8 (.int .i64 0) rfl rfl (r_move rfl) ?_
 refine s_fin ?_
 refine W_block ?_
 refine W_loop (WL_mk (l := [(3, (Sl.v Sl.nil)), (6, (Sl.v l1)), (7, (.int .i64 ((l1.len : Int)))), (8, (.int .i64 0))]) ?_ ⟨rfl, rfl, rfl, rfl, trivial⟩)
 refine H (fun (out2 : Sl) (x3 : Int) (h1 : Heap) => ∀ b, WL _ _ _ _ _ _ (mkE [(3, (Sl.v out2)), (6, (Sl.v l1)), (7, (.int .i64 ((l1.len : Int)))), (8, (.int .i64 x3))] b) h1) ?_
 intro out2 x3 h1 H b
 refine WL_round ?_
 refine W_seq ?_
 refine W_region (.pu 0 .fin) rfl rfl ?_
 refine sp 9 (.bool (decide (x3 < ((l1.len : Int))))) rfl rfl (r_lss rfl rfl) ?_
 refine s_fin ?_
 refine W_seq ?_
 refine W_if (decide (x3 < ((l1.len : Int)))) rfl (fun g19 => ?_) (fun g19 => ?_)
 ·have H := H.1 g19
  refine W_skip ?_
  show W _ _ _ _ _ _ _ _
  refine W_seq ?_
  refine W_block ?_
  refine W_seq ?_
  refine W_region (.pu 0 (.rl 1 (.pu 2 .fin))) rfl rfl ?_
  obtain ⟨p5, e6, e7, e8, H⟩ := H
  obtain ⟨q9, e10⟩ : ∃ q : Addr, q = Addr.add p5 (Int.toNat x3 * 1) := ⟨_, rfl⟩
  rw [← e10] at H
  refine sp 10 (.pointer (some q9)) rfl rfl (fun w => (r_indexAddr Tryz.underlying26 Tryz.sizeOf3 rfl rfl e6 e7 e8 w).trans (by rw [e10])) ?_
  obtain ⟨x11, e12, H⟩ := H
  refine sl 11 (.int .i64 x11) rfl rfl (fun dr => r_load1 Tryz.isAgg3 rfl e12) ?_
  refine sp 5 (.int .i64 x11) rfl rfl (r_assign rfl) ?_
  refine s_fin ?_
  refine W_region (.pu 0 (.pu 1 (.ef 2 [] (.ef 3 [] (.ef 4 [] (.pu 5 .fin) .no) .no) .no))) rfl rfl ?_
  refine sp 12 (Sl.v out2) rfl rfl (r_move rfl) ?_
  refine sp 13 (.int .i64 x11) rfl rfl (r_move rfl) ?_
  refine sc 14 rfl rfl (fun dr => r_call Tryz.call27 rfl rfl H) ?_
  rintro _ h2 ⟨y13, rfl, H⟩
  obtain ⟨p14, e15⟩ : ∃ p : Addr, p = ⟨h2.size, 0, none⟩ := ⟨_, rfl⟩
  obtain ⟨h3, e16⟩ : ∃ hh : Heap, hh = h2.push (.cells #[(.string y13)] 9) := ⟨_, rfl⟩
  have H := H p14 h3 e15 e16
  refine s_ef1 (d := some 15) (v := (Sl.v ((⟨some p14, 1, 1⟩ : Sl)))) (h' := h3) rfl rfl rfl (fun dr => (slFGDesk_23.build (cells := #[(.string y13)]) (by decide) rfl (by kernel_rfl)).trans (by rw [e15, e16]; rfl)) trivial ?_ trivial
  refine s_ef (d := some 16) rfl rfl rfl (fun dr => slFGDesk_23.append rfl rfl H) ?_ trivial
  rintro _ h4 ⟨s17, rfl, H⟩
  refine ⟨trivial, ?_⟩
  refine sp 3 (Sl.v s17) rfl rfl (r_assign rfl) ?_
  refine s_fin ?_
  refine W_region (.pu 0 (.pu 1 .fin)) rfl rfl ?_
  refine sp 17 (.int .i64 (w64 (x3 + 1))) rfl rfl (r_add rfl rfl) ?_
  refine sp 8 (.int .i64 (w64 (x3 + 1))) rfl rfl (r_move rfl) ?_
  refine s_fin ?_
  exact WL_mk (l := [(3, (Sl.v s17)), (6, (Sl.v l1)), (7, (.int .i64 ((l1.len : Int)))), (8, (.int .i64 (w64 (x3 + 1))))]) H ⟨rfl, rfl, rfl, rfl, trivial⟩
 ·have H := H.2 g19
  refine W_exit (inX_here ?_)
  show W _ _ _ _ _ _ _ _
  refine W_seq ?_
  refine W_region (.pu 0 (.ef 1 [] (.pu 2 .fin) .no)) rfl rfl ?_
  refine sp 18 (Sl.v out2) rfl rfl (r_move rfl) ?_
  refine sc 19 rfl rfl (fun dr => r_call Tryz.call56 rfl rfl H) ?_
  rintro _ h5 ⟨y18, rfl, H⟩
  refine sp 2 (.string y18) rfl rfl (r_assign rfl) ?_
  refine s_fin ?_
  refine W_ret ?_
  exact ⟨[(.string y18)], ⟨_, _, rfl, rfl, rfl⟩, y18, rfl, H⟩
def desk_desk_ranks_F (r : World) (d1 : Option Addr) (s2 : Option Addr) (h : Heap) (R : ByteArray → Heap → Prop) : Prop :=
 New h (.cells #[(.pointer s2)] 44) fun p3 h1 =>
 LdP h1 (Addr.add p3 0) fun x6 =>
 Ck d1 fun p8 =>
 St h1 (Addr.add p8 1) 1 [(.pointer x6)] fun h2 =>
 LdP h2 (Addr.add p3 0) fun x12 =>
 wbt_Set_Len r x12 h2 fun y14 h3 =>
 strconv_Itoa r y14 h3 fun y15 h4 =>
 R y15 h4
theorem desk_desk_ranks_of {r : World} {d1 : Option Addr} {s2 : Option Addr} {h : Heap} {R : ByteArray → Heap → Prop} (H : desk_desk_ranks_F r d1 s2 h R) : desk_desk_ranks r d1 s2 h R := by
 unfold desk_desk_ranks_F at H
 refine calls_of 12 [.tmp 4] Tryz.func28 rfl rfl rfl rfl rfl ?_
 refine W_seq ?_
 refine W_region (.ef 0 [] (.pu 1 .fin) .no) rfl rfl ?_
 obtain ⟨p3, e4⟩ : ∃ p : Addr, p = ⟨h.size, 0, none⟩ := ⟨_, rfl⟩
 obtain ⟨h1, e5⟩ : ∃ hh : Heap, hh = h.push (.cells #[(.pointer s2)] 44) := ⟨_, rfl⟩
 have H := H p3 h1 e4 e5
 refine s_ef1 (d := some 3) (v := (.pointer (some p3))) (h' := h1) rfl rfl rfl (fun dr => (r_box (v := (.agg #[(.pointer s2)])) rfl).trans (by rw [e4, e5]; rfl)) trivial ?_ trivial
 refine sp 4 (.string (⟨#[]⟩)) rfl rfl (r_assign rfl) ?_
 refine s_fin ?_
 refine W_seq ?_
 refine W_region (.pu 0 (.rl 1 (.pu 2 (.pu 3 (.ef 4 [] .fin .no))))) rfl rfl ?_
 refine sp 5 (.pointer d1) rfl rfl (r_move rfl) ?_
 obtain ⟨x6, e7, H⟩ := H
 refine sl 6 (.agg #[(.pointer x6)]) rfl rfl (fun dr => r_loadN Tryz.isAgg44 Tryz.sizeOf44 (vs := [(.pointer x6)]) rfl rfl ⟨e7, trivial⟩) ?_
 obtain ⟨p8, e9, H⟩ := H
 refine sp 7 (.pointer (some p8)) rfl rfl (r_nilCheck rfl e9) ?_
 refine sp 8 (.pointer (some (Addr.add p8 1))) rfl rfl (r_fieldAddr Tryz.underlying46 Tryz.sizeOf44 rfl rfl rfl) ?_
 obtain ⟨e11, H⟩ := H
 obtain ⟨h2, e10⟩ : ∃ hh : Heap, hh = hsets h1 (Addr.add p8 1) 0 [(.pointer x6)] := ⟨_, rfl⟩
 have H := H h2 e10
 refine s_st (d := none) (h' := h2) rfl rfl rfl (fun dr => (r_store (v := (.agg #[(.pointer x6)])) Tryz.sizeOf44 rfl rfl rfl (one_all rfl) e11).trans (by rw [e10]; rfl)) trivial ?_ trivial
 refine s_fin ?_
 refine W_seq ?_
 refine W_region (.rl 0 (.ef 1 [] (.ef 2 [] (.pu 3 .fin) .no) .no)) rfl rfl ?_
 obtain ⟨x12, e13, H⟩ := H
 refine sl 9 (.agg #[(.pointer x12)]) rfl rfl (fun dr => r_loadN Tryz.isAgg44 Tryz.sizeOf44 (vs := [(.pointer x12)]) rfl rfl ⟨e13, trivial⟩) ?_
 refine sc 10 rfl rfl (fun dr => r_call Tryz.call51 rfl rfl H) ?_
 rintro _ h3 ⟨y14, rfl, H⟩
 refine sc 11 rfl rfl (fun dr => r_call Tryz.call27 rfl rfl H) ?_
 rintro _ h4 ⟨y15, rfl, H⟩
 refine sp 4 (.string y15) rfl rfl (r_assign rfl) ?_
 refine s_fin ?_
 refine W_ret ?_
 exact ⟨[(.string y15)], ⟨_, _, rfl, rfl, rfl⟩, y15, rfl, H⟩
def api_Errno_Error_F (r : World) (ve1 : Int) (h : Heap) (R : ByteArray → Heap → Prop) : Prop :=
 Br (decide (ve1 = 0)) (
  R (⟨#[79, 75]⟩) h) (
  Br (decide (ve1 = 1)) (
   R (⟨#[69, 114, 114, 82, 97, 110, 103, 101]⟩) h) (
   Br (decide (ve1 = 2)) (
    R (⟨#[69, 114, 114, 78, 111, 110, 101]⟩) h) (
    Br (decide (ve1 = 3)) (
     R (⟨#[69, 114, 114, 70, 111, 114, 109]⟩) h) (
     Br (decide (ve1 = 4)) (
      R (⟨#[69, 114, 114, 70, 117, 108, 108]⟩) h) (
      Br (decide (ve1 = 5)) (
       R (⟨#[69, 114, 114, 84, 119, 105, 99, 101]⟩) h) (
       Br (decide (ve1 = 6)) (
        R (⟨#[69, 114, 114, 83, 121, 110, 116, 97, 120]⟩) h) (
        R (⟨#[69, 114, 114, 110, 111]⟩) h)))))))
theorem api_Errno_Error_of {r : World} {ve1 : Int} {h : Heap} {R : ByteArray → Heap → Prop} (H : api_Errno_Error_F r ve1 h R) : api_Errno_Error r ve1 h R := by
 unfold api_Errno_Error_F at H
 refine calls_of 18 [.tmp 2] Tryz.func10 rfl rfl rfl rfl rfl ?_
 refine W_seq ?_
 refine W_region (.pu 0 .fin) rfl rfl ?_
 refine sp 2 (.string (⟨#[]⟩)) rfl rfl (r_assign rfl) ?_
 refine s_fin ?_
 refine W_seq ?_
 refine W_seq ?_
 refine W_region (.pu 0 .fin) rfl rfl ?_
 refine sp 3 (.int .i64 ve1) rfl rfl (r_move rfl) ?_
 refine s_fin ?_
 refine W_block ?_
 refine W_seq ?_
 refine W_region (.pu 0 (.pu 1 .fin)) rfl rfl ?_
 refine sp 5 (.bool (decide (ve1 = 0))) rfl rfl (r_eql rfl rfl) ?_
 refine sp 4 (.bool (decide (ve1 = 0))) rfl rfl (r_assign rfl) ?_
 refine s_fin ?_
 refine W_if (decide (ve1 = 0)) rfl (fun g8 => ?_) (fun g8 => ?_)
 ·have H := H.1 g8
  refine W_seq ?_
  refine W_region (.pu 0 .fin) rfl rfl ?_
  refine sp 2 (.string (⟨#[79, 75]⟩)) rfl rfl (r_assign rfl) ?_
  refine s_fin ?_
  refine W_ret ?_
  exact ⟨[(.string (⟨#[79, 75]⟩))], ⟨_, _, rfl, rfl, rfl⟩, (⟨#[79, 75]⟩), rfl, H⟩
 ·have H := H.2 g8
  refine W_seq ?_
  refine W_region (.pu 0 (.pu 1 .fin)) rfl rfl ?_
  refine sp 7 (.bool (decide (ve1 = 1))) rfl rfl (r_eql rfl rfl) ?_
  refine sp 6 (.bool (decide (ve1 = 1))) rfl rfl (r_assign rfl) ?_
  refine s_fin ?_
  refine W_if (decide (ve1 = 1)) rfl (fun g7 => ?_) (fun g7 => ?_)
  ·have H := H.1 g7
   refine W_seq ?_
   refine W_region (.pu 0 .fin) rfl rfl ?_
   refine sp 2 (.string (⟨#[69, 114, 114, 82, 97, 110, 103, 101]⟩)) rfl rfl (r_assign rfl) ?_
   refine s_fin ?_
   refine W_ret ?_
   exact ⟨[(.string (⟨#[69, 114, 114, 82, 97, 110, 103, 101]⟩))], ⟨_, _, rfl, rfl, rfl⟩, (⟨#[69, 114, 114, 82, 97, 110, 103, 101]⟩), rfl, H⟩
  ·have H := H.2 g7
   refine W_seq ?_
   refine W_region (.pu 0 (.pu 1 .fin)) rfl rfl ?_
   refine sp 9 (.bool (decide (ve1 = 2))) rfl rfl (r_eql rfl rfl) ?_
   refine sp 8 (.bool (decide (ve1 = 2))) rfl rfl (r_assign rfl) ?_
   refine s_fin ?_
   refine W_if (decide (ve1 = 2)) rfl (fun g6 => ?_) (fun g6 => ?_)
   ·have H := H.1 g6
    refine W_seq ?_
    refine W_region (.pu 0 .fin) rfl rfl ?_
    refine sp 2 (.string (⟨#[69, 114, 114, 78, 111, 110, 101]⟩)) rfl rfl (r_assign rfl) ?_
    refine s_fin ?_
    refine W_ret ?_
    exact ⟨[(.string (⟨#[69, 114, 114, 78, 111, 110, 101]⟩))], ⟨_, _, rfl, rfl, rfl⟩, (⟨#[69, 114, 114, 78, 111, 110, 101]⟩), rfl, H⟩
   ·have H := H.2 g6
    refine W_seq ?_
    refine W_region (.pu 0 (.pu 1 .fin)) rfl rfl ?_
    refine sp 11 (.bool (decide (ve1 = 3))) rfl rfl (r_eql rfl rfl) ?_
    refine sp 10 (.bool (decide (ve1 = 3))) rfl rfl (r_assign rfl) ?_
    refine s_fin ?_
    refine W_if (decide (ve1 = 3)) rfl (fun g5 => ?_) (fun g5 => ?_)
    ·have H := H.1 g5
     refine W_seq ?_
     refine W_region (.pu 0 .fin) rfl rfl ?_
     refine sp 2 (.string (⟨#[69, 114, 114, 70, 111, 114, 109]⟩)) rfl rfl (r_assign rfl) ?_
     refine s_fin ?_
     refine W_ret ?_
     exact ⟨[(.string (⟨#[69, 114, 114, 70, 111, 114, 109]⟩))], ⟨_, _, rfl, rfl, rfl⟩, (⟨#[69, 114, 114, 70, 111, 114, 109]⟩), rfl, H⟩
    ·have H := H.2 g5
     refine W_seq ?_
     refine W_region (.pu 0 (.pu 1 .fin)) rfl rfl ?_
     refine sp 13 (.bool (decide (ve1 = 4))) rfl rfl (r_eql rfl rfl) ?_
     refine sp 12 (.bool (decide (ve1 = 4))) rfl rfl (r_assign rfl) ?_
     refine s_fin ?_
     refine W_if (decide (ve1 = 4)) rfl (fun g4 => ?_) (fun g4 => ?_)
     ·have H := H.1 g4
      refine W_seq ?_
      refine W_region (.pu 0 .fin) rfl rfl ?_
      refine sp 2 (.string (⟨#[69, 114, 114, 70, 117, 108, 108]⟩)) rfl rfl (r_assign rfl) ?_
      refine s_fin ?_
      refine W_ret ?_
      exact ⟨[(.string (⟨#[69, 114, 114, 70, 117, 108, 108]⟩))], ⟨_, _, rfl, rfl, rfl⟩, (⟨#[69, 114, 114, 70, 117, 108, 108]⟩), rfl, H⟩
     ·have H := H.2 g4
      refine W_seq ?_
      refine W_region (.pu 0 (.pu 1 .fin)) rfl rfl ?_
      refine sp 15 (.bool (decide (ve1 = 5))) rfl rfl (r_eql rfl rfl) ?_
      refine sp 14 (.bool (decide (ve1 = 5))) rfl rfl (r_assign rfl) ?_
      refine s_fin ?_
      refine W_if (decide (ve1 = 5)) rfl (fun g3 => ?_) (fun g3 => ?_)
      ·have H := H.1 g3
       refine W_seq ?_
       refine W_region (.pu 0 .fin) rfl rfl ?_
       refine sp 2 (.string (⟨#[69, 114, 114, 84, 119, 105, 99, 101]⟩)) rfl rfl (r_assign rfl) ?_
       refine s_fin ?_
       refine W_ret ?_
       exact ⟨[(.string (⟨#[69, 114, 114, 84, 119, 105, 99, 101]⟩))], ⟨_, _, rfl, rfl, rfl⟩, (⟨#[69, 114, 114, 84, 119, 105, 99, 101]⟩), rfl, H⟩
      ·have H := H.2 g3
       refine W_seq ?_
       refine W_region (.pu 0 (.pu 1 .fin)) rfl rfl ?_
       refine sp 17 (.bool (decide (ve1 = 6))) rfl rfl (r_eql rfl rfl) ?_
       refine sp 16 (.bool (decide (ve1 = 6))) rfl rfl (r_assign rfl) ?_
       refine s_fin ?_
       refine W_if (decide (ve1 = 6)) rfl (fun g2 => ?_) (fun g2 => ?_)
       ·have H := H.1 g2
        refine W_seq ?_
        refine W_region (.pu 0 .fin) rfl rfl ?_
        refine sp 2 (.string (⟨#[69, 114, 114, 83, 121, 110, 116, 97, 120]⟩)) rfl rfl (r_assign rfl) ?_
        refine s_fin ?_
        refine W_ret ?_
        exact ⟨[(.string (⟨#[69, 114, 114, 83, 121, 110, 116, 97, 120]⟩))], ⟨_, _, rfl, rfl, rfl⟩, (⟨#[69, 114, 114, 83, 121, 110, 116, 97, 120]⟩), rfl, H⟩
       ·have H := H.2 g2
        refine W_skip ?_
        show W _ _ _ _ _ _ _ _
        refine W_seq ?_
        refine W_region (.pu 0 .fin) rfl rfl ?_
        refine sp 2 (.string (⟨#[69, 114, 114, 110, 111]⟩)) rfl rfl (r_assign rfl) ?_
        refine s_fin ?_
        refine W_ret ?_
        exact ⟨[(.string (⟨#[69, 114, 114, 110, 111]⟩))], ⟨_, _, rfl, rfl, rfl⟩, (⟨#[69, 114, 114, 110, 111]⟩), rfl, H⟩
end Go.Proofs.YthkimbiknhebeaaGreatDoor
