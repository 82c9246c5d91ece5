/- Typed words of functions, and that they hold: printed by gen.py (an own tool of this claim) off the model's own form of each function. -/
import Derived.Test.YthkimbiknhebeaaGreatDoorProg
import Derived.Test.YthkimbiknhebeaaGreatDoorGLine
import Derived.Test.YthkimbiknhebeaaGreatDoorGRef
namespace Go.Proofs.YthkimbiknhebeaaGreatDoor
open Go Go.RowKit Go.Tw
set_option linter.unusedVariables false
set_option maxRecDepth 100000
abbrev txtGLaw1 : ByteArray := ⟨#[105, 110, 115, 32, 48, 32, 55, 10, 112, 117, 116, 32, 53]⟩
theorem slFGLaw_23 : SlF Tryz.prog 23 9 1 16 (.string (⟨#[]⟩)) := ⟨Tryz.underlying23, ⟨Tryz.t9, by kernel_rfl, rfl, rfl, rfl⟩, rfl, Tryz.sizeOf9, Tryz.zeroValue9⟩
abbrev law5_DeskAnswers (r : World) (s1 : ByteArray) (h : Heap) (R : Bool → Heap → Prop) : Prop :=
 CallsH Tryz.prog r 3 [(.string s1)] h fun v h' => ∃ (y2 : Bool), v = (.bool y2) ∧ R y2 h'
abbrev law5_DeskKeeps (r : World) (s1 : ByteArray) (line2 : ByteArray) (h : Heap) (R : Bool → Heap → Prop) : Prop :=
 CallsH Tryz.prog r 4 [(.string s1), (.string line2)] h fun v h' => ∃ (y3 : Bool), v = (.bool y3) ∧ R y3 h'
def law5_DeskAnswers_F (r : World) (s1 : ByteArray) (h : Heap) (R : Bool → Heap → Prop) : Prop :=
 desk_Run r txtGLaw1 h fun y2 h1 =>
 New h1 (.cells #[(.string (⟨#[49]⟩)), (.string (⟨#[49]⟩))] 9) fun p3 h2 =>
 same_Texts r y2 ((⟨some p3, 2, 2⟩ : Sl)) h2 fun y6 h3 =>
 ref1_Cut r s1 10 h3 fun y7 h4 =>
 Ix y7 (w64 (((y7.len : Int)) - 1)) 1 fun q12 =>
 LdT h4 q12 fun x14 =>
 ∀ J17 : Sl → Prop, (∀ (lines16 : Sl),
  (New h4 (.cells #[(Sl.v Sl.nil), (Sl.v Sl.nil)] 28) fun p19 h5 =>
  ∀ J24 : Sl → Sl → Heap → Prop, (∀ (lines22 : Sl) (want23 : Sl) (h6 : Heap),
   (∀ X28 : Sl → Int → Heap → Prop, (∀ (want26 : Sl) (i27 : Int) (h7 : Heap),
    (Br (decide (i27 < ((lines22.len : Int)))) (
     ∀ J31 : Addr → ByteArray → Heap → Prop, (∀ (p29 : Addr) (a30 : ByteArray) (h8 : Heap),
      (LdS h8 (Addr.add p29 0) fun x33 =>
      LdS h8 (Addr.add p29 1) fun x35 =>
      St h8 p19 2 [(Sl.v x33), (Sl.v x35)] fun h9 =>
      New h9 (.cells #[(.string a30)] 9) fun p39 h10 =>
      App 9 1 16 (.string (⟨#[]⟩)) want26 ((⟨some p39, 1, 1⟩ : Sl)) h10 fun s42 h11 =>
      X28 s42 (w64 (i27 + 1)) h11) →
      J31 p29 a30 h8) →
     LdS h7 (Addr.add p19 0) fun x43 =>
     LdS h7 (Addr.add p19 1) fun x45 =>
     Ix lines22 i27 1 fun q51 =>
     LdT h7 q51 fun x53 =>
     (ref1_Answered r x43 x45 x53 h7 fun y55 y56 y57 h12 =>
     New h12 (.cells #[(Sl.v Sl.nil), (Sl.v Sl.nil)] 28) fun p58 h13 =>
     (hcell h13 q51 = some (.string x53)) ∧
     (hcell h13 (Addr.add p19 0) = some (Sl.v x43)) ∧
     (hcell h13 (Addr.add p19 1) = some (Sl.v x45)) ∧
     St h13 p58 2 [(Sl.v y55), (Sl.v y56)] fun h14 =>
     J31 p58 y57 h14) ∧
     (New h7 (.cells #[(Sl.v Sl.nil), (Sl.v Sl.nil)] 28) fun p66 h15 =>
     (hcell h15 q51 = some (.string x53)) ∧
     (hcell h15 (Addr.add p19 0) = some (Sl.v x43)) ∧
     (hcell h15 (Addr.add p19 1) = some (Sl.v x45)) ∧
     ref1_Answered r x43 x45 x53 h15 fun y72 y73 y74 h16 =>
     St h16 p66 2 [(Sl.v y72), (Sl.v y73)] fun h17 =>
     J31 p66 y74 h17)) (
     desk_Run r s1 h7 fun y77 h18 =>
     same_Texts r y77 want26 h18 fun y78 h19 =>
     R (y6 && y78) h19)) →
    X28 want26 i27 h7) →
   X28 want23 0 h6) →
   J24 lines22 want23 h6) →
  Br (decide (100 < ((lines16.len : Int)))) (
   New h5 (.cells #[(.string (⟨#[69, 114, 114, 70, 117, 108, 108]⟩))] 9) fun p84 h20 =>
   J24 Sl.nil ((⟨some p84, 1, 1⟩ : Sl)) h20) (
   J24 lines16 Sl.nil h5)) →
  J17 lines16) →
 Br (decide (x14 = (⟨#[]⟩))) (
  Sub y7 0 (w64 (((y7.len : Int)) - 1)) ((y7.cap : Int)) 1 fun s88 =>
  J17 s88) (
  J17 y7)
theorem law5_DeskAnswers_of {r : World} {s1 : ByteArray} {h : Heap} {R : Bool → Heap → Prop} (H : law5_DeskAnswers_F r s1 h R) : law5_DeskAnswers r s1 h R := by
 unfold law5_DeskAnswers_F at H
 refine calls_of 60 [.tmp 2] Tryz.func3 rfl rfl rfl rfl rfl ?_
 refine W_seq ?_
 refine W_region (.pu 0 .fin) rfl rfl ?_
 refine sp 2 (.bool false) rfl rfl (r_assign rfl) ?_
 refine s_fin ?_
 refine W_seq ?_
 refine W_region (.ef 0 [] (.ef 1 [] (.ef 2 [] (.pu 3 .fin) .no) .no) .no) rfl rfl ?_
 refine sc 11 rfl rfl (fun dr => r_call Tryz.call6 rfl rfl H) ?_
 rintro _ h1 ⟨y2, rfl, H⟩
 obtain ⟨p3, e4⟩ : ∃ p : Addr, p = ⟨h1.size, 0, none⟩ := ⟨_, rfl⟩
 obtain ⟨h2, e5⟩ : ∃ hh : Heap, hh = h1.push (.cells #[(.string (⟨#[49]⟩)), (.string (⟨#[49]⟩))] 9) := ⟨_, rfl⟩
 have H := H p3 h2 e4 e5
 refine s_ef1 (d := some 12) (v := (Sl.v ((⟨some p3, 2, 2⟩ : Sl)))) (h' := h2) rfl rfl rfl (fun dr => (slFGLaw_23.build (cells := #[(.string (⟨#[49]⟩)), (.string (⟨#[49]⟩))]) (by decide) rfl (by kernel_rfl)).trans (by rw [e4, e5]; rfl)) trivial ?_ trivial
 refine sc 13 rfl rfl (fun dr => r_call Tryz.call5 rfl rfl H) ?_
 rintro _ h3 ⟨y6, rfl, H⟩
 refine sp 3 (.bool y6) rfl rfl (r_assign rfl) ?_
 refine s_fin ?_
 refine W_seq ?_
 refine W_region (.pu 0 (.ef 1 [] (.pu 2 .fin) .no)) rfl rfl ?_
 refine sp 14 (.string s1) rfl rfl (r_move rfl) ?_
 refine sc 15 rfl rfl (fun dr => r_call Tryz.call7 rfl rfl H) ?_
 rintro _ h4 ⟨y7, rfl, H⟩
 refine sp 4 (Sl.v y7) rfl rfl (r_assign rfl) ?_
 refine s_fin ?_
 refine W_seq ?_
 refine W_seq ?_
 refine W_region (.pu 0 (.pu 1 (.pu 2 (.pu 3 (.pu 4 (.rl 5 (.pu 6 .fin))))))) rfl rfl ?_
 refine sp 16 (Sl.v y7) rfl rfl (r_move rfl) ?_
 refine sp 17 (Sl.v y7) rfl rfl (r_move rfl) ?_
 refine sp 18 (.int .i64 ((y7.len : Int))) rfl rfl (r_len Tryz.underlying23 rfl) ?_
 refine sp 19 (.int .i64 (w64 (((y7.len : Int)) - 1))) rfl rfl (r_sub rfl rfl) ?_
 obtain ⟨p8, e9, e10, e11, H⟩ := H
 obtain ⟨q12, e13⟩ : ∃ q : Addr, q = Addr.add p8 (Int.toNat (w64 (((y7.len : Int)) - 1)) * 1) := ⟨_, rfl⟩
 rw [← e13] at H
 refine sp 20 (.pointer (some q12)) rfl rfl (fun w => (r_indexAddr Tryz.underlying23 Tryz.sizeOf9 rfl rfl e9 e10 e11 w).trans (by rw [e13])) ?_
 obtain ⟨x14, e15, H⟩ := H
 refine sl 21 (.string x14) rfl rfl (fun dr => r_load1 Tryz.isAgg9 rfl e15) ?_
 refine sp 22 (.bool (decide (x14 = (⟨#[]⟩)))) rfl rfl (r_eqlT rfl rfl) ?_
 refine s_fin ?_
 refine W_set ?_
 intro N18 eN18
 have H := H (fun (lines16 : Sl) => ∀ b, N18 [] (mkE [(0, (.string s1)), (3, (.bool y6)), (4, (Sl.v lines16))] b) h4) (by
  intro lines16 H b
  rw [eN18]
  show W _ _ _ _ _ _ _ _
  refine W_seq ?_
  refine W_region (.pu 0 .fin) rfl rfl ?_
  refine sp 5 (Sl.v Sl.nil) rfl rfl (r_assign rfl) ?_
  refine s_fin ?_
  refine W_seq ?_
  refine W_region (.ef 0 [] .fin .no) rfl rfl ?_
  obtain ⟨p19, e20⟩ : ∃ p : Addr, p = ⟨h4.size, 0, none⟩ := ⟨_, rfl⟩
  obtain ⟨h5, e21⟩ : ∃ hh : Heap, hh = h4.push (.cells #[(Sl.v Sl.nil), (Sl.v Sl.nil)] 28) := ⟨_, rfl⟩
  have H := H p19 h5 e20 e21
  refine s_ef1 (d := some 6) (v := (.pointer (some p19))) (h' := h5) rfl rfl rfl (fun dr => (r_alloc Tryz.zeroValue28).trans (by rw [e20, e21]; rfl)) trivial ?_ trivial
  refine s_fin ?_
  refine W_seq ?_
  refine W_seq ?_
  refine W_region (.pu 0 (.pu 1 (.pu 2 .fin))) rfl rfl ?_
  refine sp 28 (Sl.v lines16) rfl rfl (r_move rfl) ?_
  refine sp 29 (.int .i64 ((lines16.len : Int))) rfl rfl (r_len Tryz.underlying23 rfl) ?_
  refine sp 30 (.bool (decide (100 < ((lines16.len : Int))))) rfl rfl (r_gtr rfl rfl) ?_
  refine s_fin ?_
  refine W_set ?_
  intro N25 eN25
  have H := H (fun (lines22 : Sl) (want23 : Sl) (h6 : Heap) => ∀ b, N25 [] (mkE [(0, (.string s1)), (3, (.bool y6)), (4, (Sl.v lines22)), (5, (Sl.v want23)), (6, (.pointer (some p19)))] b) h6) (by
   intro lines22 want23 h6 H b
   rw [eN25]
   show W _ _ _ _ _ _ _ _
   refine W_seq ?_
   refine W_seq ?_
   refine W_region (.pu 0 .fin) rfl rfl ?_
   refine sp 7 (.int .i64 0) rfl rfl (r_assign rfl) ?_
   refine s_fin ?_
   refine W_block ?_
   refine W_loop (WL_mk (l := [(0, (.string s1)), (3, (.bool y6)), (4, (Sl.v lines22)), (5, (Sl.v want23)), (6, (.pointer (some p19))), (7, (.int .i64 0))]) ?_ ⟨rfl, rfl, rfl, rfl, rfl, rfl, trivial⟩)
   refine H (fun (want26 : Sl) (i27 : Int) (h7 : Heap) => ∀ b, WL _ _ _ _ _ _ (mkE [(0, (.string s1)), (3, (.bool y6)), (4, (Sl.v lines22)), (5, (Sl.v want26)), (6, (.pointer (some p19))), (7, (.int .i64 i27))] b) h7) ?_
   intro want26 i27 h7 H b
   refine WL_round ?_
   refine W_seq ?_
   refine W_seq ?_
   refine W_region (.pu 0 (.pu 1 (.pu 2 (.pu 3 .fin)))) rfl rfl ?_
   refine sp 32 (.int .i64 i27) rfl rfl (r_move rfl) ?_
   refine sp 33 (Sl.v lines22) rfl rfl (r_move rfl) ?_
   refine sp 34 (.int .i64 ((lines22.len : Int))) rfl rfl (r_len Tryz.underlying23 rfl) ?_
   refine sp 35 (.bool (decide (i27 < ((lines22.len : Int))))) rfl rfl (r_lss rfl rfl) ?_
   refine s_fin ?_
   refine W_if (decide (i27 < ((lines22.len : Int)))) rfl (fun g83 => ?_) (fun g83 => ?_)
   ·have H := H.1 g83
    refine W_skip ?_
    show W _ _ _ _ _ _ _ _
    refine W_seq ?_
    refine W_block ?_
    refine W_seq ?_
    refine W_set ?_
    intro N32 eN32
    have H := H (fun (p29 : Addr) (a30 : ByteArray) (h8 : Heap) => ∀ b, N32 [] (mkE [(0, (.string s1)), (3, (.bool y6)), (4, (Sl.v lines22)), (5, (Sl.v want26)), (6, (.pointer (some p19))), (7, (.int .i64 i27)), (8, (.pointer (some p29))), (9, (.string a30))] b) h8) (by
     intro p29 a30 h8 H b
     rw [eN32]
     show W _ _ _ _ _ _ _ _
     refine W_seq ?_
     refine W_region (.rl 0 (.ef 1 [] .fin .no)) rfl rfl ?_
     obtain ⟨x33, e34, H⟩ := H
     obtain ⟨x35, e36, H⟩ := H
     refine sl 47 (.agg #[(Sl.v x33), (Sl.v x35)]) rfl rfl (fun dr => r_loadN Tryz.isAgg28 Tryz.sizeOf28 (vs := [(Sl.v x33), (Sl.v x35)]) rfl rfl ⟨e34, e36, trivial⟩) ?_
     obtain ⟨e38, H⟩ := H
     obtain ⟨h9, e37⟩ : ∃ hh : Heap, hh = hsets h8 p19 0 [(Sl.v x33), (Sl.v x35)] := ⟨_, rfl⟩
     have H := H h9 e37
     refine s_st (d := none) (h' := h9) rfl rfl rfl (fun dr => (r_store (v := (.agg #[(Sl.v x33), (Sl.v x35)])) Tryz.sizeOf28 rfl rfl rfl (one_all rfl) e38).trans (by rw [e37]; rfl)) trivial ?_ trivial
     refine s_fin ?_
     refine W_region (.pu 0 (.pu 1 (.ef 2 [] (.ef 3 [] (.pu 4 .fin) .no) .no))) rfl rfl ?_
     refine sp 48 (Sl.v want26) rfl rfl (r_move rfl) ?_
     refine sp 49 (.string a30) rfl rfl (r_move rfl) ?_
     obtain ⟨p39, e40⟩ : ∃ p : Addr, p = ⟨h9.size, 0, none⟩ := ⟨_, rfl⟩
     obtain ⟨h10, e41⟩ : ∃ hh : Heap, hh = h9.push (.cells #[(.string a30)] 9) := ⟨_, rfl⟩
     have H := H p39 h10 e40 e41
     refine s_ef1 (d := some 50) (v := (Sl.v ((⟨some p39, 1, 1⟩ : Sl)))) (h' := h10) rfl rfl rfl (fun dr => (slFGLaw_23.build (cells := #[(.string a30)]) (by decide) rfl (by kernel_rfl)).trans (by rw [e40, e41]; rfl)) trivial ?_ trivial
     refine s_ef (d := some 51) rfl rfl rfl (fun dr => slFGLaw_23.append rfl rfl H) ?_ trivial
     rintro _ h11 ⟨s42, rfl, H⟩
     refine ⟨trivial, ?_⟩
     refine sp 5 (Sl.v s42) rfl rfl (r_assign rfl) ?_
     refine s_fin ?_
     refine W_region (.pu 0 (.pu 1 (.pu 2 .fin))) rfl rfl ?_
     refine sp 36 (.int .i64 i27) rfl rfl (r_move rfl) ?_
     refine sp 37 (.int .i64 (w64 (i27 + 1))) rfl rfl (r_add rfl rfl) ?_
     refine sp 7 (.int .i64 (w64 (i27 + 1))) rfl rfl (r_assign rfl) ?_
     refine s_fin ?_
     exact WL_mk (l := [(0, (.string s1)), (3, (.bool y6)), (4, (Sl.v lines22)), (5, (Sl.v s42)), (6, (.pointer (some p19))), (7, (.int .i64 (w64 (i27 + 1))))]) H ⟨rfl, rfl, rfl, rfl, rfl, rfl, trivial⟩)
    clear eN32
    refine W_draw [0, 0, 0, 6, 14, 31, 63, 127, 127, 0, 767, 2047] (.rd 0 (.pu 1 (.pu 2 (.pu 3 (.rd 4 (.ef 5 [0, 4] (.pu 6 (.pu 7 (.pu 8 (.ef 9 [] (.ef 10 [0, 4] (.pu 11 .fin) .no) .no)))) (.ef 9 [] (.ef 5 [0, 4] (.pu 6 (.pu 7 (.pu 8 (.ef 10 [0, 4] (.pu 11 .fin) .no)))) .no) .no))))))) (by kernel_rfl) (by kernel_rfl) ?_
    obtain ⟨x43, e44, H⟩ := H
    obtain ⟨x45, e46, H⟩ := H
    refine s_rd (d := some 39) (v := (.agg #[(Sl.v x43), (Sl.v x45)])) rfl rfl rfl (fun dr => r_loadN Tryz.isAgg28 Tryz.sizeOf28 (vs := [(Sl.v x43), (Sl.v x45)]) rfl rfl ⟨e44, e46, trivial⟩) ?_
    refine sp 40 (Sl.v lines22) rfl rfl (r_move rfl) ?_
    refine sp 41 (.int .i64 i27) rfl rfl (r_move rfl) ?_
    obtain ⟨p47, e48, e49, e50, H⟩ := H
    obtain ⟨q51, e52⟩ : ∃ q : Addr, q = Addr.add p47 (Int.toNat i27 * 1) := ⟨_, rfl⟩
    rw [← e52] at H
    refine sp 42 (.pointer (some q51)) rfl rfl (fun w => (r_indexAddr Tryz.underlying23 Tryz.sizeOf9 rfl rfl e48 e49 e50 w).trans (by rw [e52])) ?_
    obtain ⟨x53, e54, H⟩ := H
    refine s_rd (d := some 43) (v := (.string x53)) rfl rfl rfl (fun dr => r_load1 Tryz.isAgg9 rfl e54) ?_
    refine s_or ?_ ?_
    ·have H := H.1
     refine s_ef (d := some 44) rfl rfl rfl (fun dr => r_call Tryz.call8 rfl rfl H) ?_ trivial
     rintro _ h12 ⟨y55, y56, y57, rfl, H⟩
     refine ⟨⟨trivial, trivial, trivial⟩, ?_⟩
     refine sp 38 (.tuple #[(.agg #[(Sl.v y55), (Sl.v y56)]), (.string y57)]) rfl rfl (r_move rfl) ?_
     refine sp 45 (.agg #[(Sl.v y55), (Sl.v y56)]) rfl rfl (r_extract rfl rfl) ?_
     refine sp 46 (.string y57) rfl rfl (r_extract rfl rfl) ?_
     obtain ⟨p58, e59⟩ : ∃ p : Addr, p = ⟨h12.size, 0, none⟩ := ⟨_, rfl⟩
     obtain ⟨h13, e60⟩ : ∃ hh : Heap, hh = h12.push (.cells #[(Sl.v Sl.nil), (Sl.v Sl.nil)] 28) := ⟨_, rfl⟩
     have H := H p58 h13 e59 e60
     obtain ⟨e61, H⟩ := H
     obtain ⟨e62, H⟩ := H
     obtain ⟨e63, H⟩ := H
     refine s_ef1 (d := some 8) (v := (.pointer (some p58))) (h' := h13) rfl rfl rfl (fun dr => (r_alloc Tryz.zeroValue28).trans (by rw [e59, e60]; rfl)) ⟨(.inl ⟨rfl, fun dr => r_load1 Tryz.isAgg9 rfl e61⟩), (.inl ⟨rfl, fun dr => r_loadN Tryz.isAgg28 Tryz.sizeOf28 (vs := [(Sl.v x43), (Sl.v x45)]) rfl rfl ⟨e62, e63, trivial⟩⟩), trivial⟩ ?_ trivial
     obtain ⟨e65, H⟩ := H
     obtain ⟨h14, e64⟩ : ∃ hh : Heap, hh = hsets h13 p58 0 [(Sl.v y55), (Sl.v y56)] := ⟨_, rfl⟩
     have H := H h14 e64
     refine s_st (d := none) (h' := h14) rfl rfl rfl (fun dr => (r_store (v := (.agg #[(Sl.v y55), (Sl.v y56)])) Tryz.sizeOf28 rfl rfl rfl (one_all rfl) e65).trans (by rw [e64]; rfl)) ⟨trivial, trivial, trivial⟩ ?_ trivial
     refine sp 9 (.string y57) rfl rfl (r_assign rfl) ?_
     refine s_fin ?_
     exact N_mk (l := [(0, (.string s1)), (3, (.bool y6)), (4, (Sl.v lines22)), (5, (Sl.v want26)), (6, (.pointer (some p19))), (7, (.int .i64 i27)), (8, (.pointer (some p58))), (9, (.string y57))]) H ⟨rfl, rfl, rfl, rfl, rfl, rfl, rfl, rfl, trivial⟩
    ·have H := H.2
     obtain ⟨p66, e67⟩ : ∃ p : Addr, p = ⟨h7.size, 0, none⟩ := ⟨_, rfl⟩
     obtain ⟨h15, e68⟩ : ∃ hh : Heap, hh = h7.push (.cells #[(Sl.v Sl.nil), (Sl.v Sl.nil)] 28) := ⟨_, rfl⟩
     have H := H p66 h15 e67 e68
     obtain ⟨e69, H⟩ := H
     obtain ⟨e70, H⟩ := H
     obtain ⟨e71, H⟩ := H
     refine s_ef1 (d := some 8) (v := (.pointer (some p66))) (h' := h15) rfl rfl rfl (fun dr => (r_alloc Tryz.zeroValue28).trans (by rw [e67, e68]; rfl)) ⟨(.inl ⟨rfl, fun dr => r_load1 Tryz.isAgg9 rfl e69⟩), (.inl ⟨rfl, fun dr => r_loadN Tryz.isAgg28 Tryz.sizeOf28 (vs := [(Sl.v x43), (Sl.v x45)]) rfl rfl ⟨e70, e71, trivial⟩⟩), trivial⟩ ?_ trivial
     refine s_ef (d := some 44) rfl rfl rfl (fun dr => r_call Tryz.call8 rfl rfl H) ?_ trivial
     rintro _ h16 ⟨y72, y73, y74, rfl, H⟩
     refine ⟨⟨trivial, trivial, trivial⟩, ?_⟩
     refine sp 38 (.tuple #[(.agg #[(Sl.v y72), (Sl.v y73)]), (.string y74)]) rfl rfl (r_move rfl) ?_
     refine sp 45 (.agg #[(Sl.v y72), (Sl.v y73)]) rfl rfl (r_extract rfl rfl) ?_
     refine sp 46 (.string y74) rfl rfl (r_extract rfl rfl) ?_
     obtain ⟨e76, H⟩ := H
     obtain ⟨h17, e75⟩ : ∃ hh : Heap, hh = hsets h16 p66 0 [(Sl.v y72), (Sl.v y73)] := ⟨_, rfl⟩
     have H := H h17 e75
     refine s_st (d := none) (h' := h17) rfl rfl rfl (fun dr => (r_store (v := (.agg #[(Sl.v y72), (Sl.v y73)])) Tryz.sizeOf28 rfl rfl rfl (one_all rfl) e76).trans (by rw [e75]; rfl)) ⟨trivial, trivial, trivial⟩ ?_ trivial
     refine sp 9 (.string y74) rfl rfl (r_assign rfl) ?_
     refine s_fin ?_
     exact N_mk (l := [(0, (.string s1)), (3, (.bool y6)), (4, (Sl.v lines22)), (5, (Sl.v want26)), (6, (.pointer (some p19))), (7, (.int .i64 i27)), (8, (.pointer (some p66))), (9, (.string y74))]) H ⟨rfl, rfl, rfl, rfl, rfl, rfl, rfl, rfl, trivial⟩
   ·have H := H.2 g83
    refine W_exit (inX_here ?_)
    show W _ _ _ _ _ _ _ _
    refine W_seq ?_
    refine W_region (.pu 0 (.ef 1 [] (.pu 2 (.ef 3 [] (.pu 4 .fin) .no)) .no)) rfl rfl ?_
    refine sp 52 (.string s1) rfl rfl (r_move rfl) ?_
    refine sc 53 rfl rfl (fun dr => r_call Tryz.call6 rfl rfl H) ?_
    rintro _ h18 ⟨y77, rfl, H⟩
    refine sp 54 (Sl.v want26) rfl rfl (r_move rfl) ?_
    refine sc 55 rfl rfl (fun dr => r_call Tryz.call5 rfl rfl H) ?_
    rintro _ h19 ⟨y78, rfl, H⟩
    refine sp 10 (.bool y78) rfl rfl (r_assign rfl) ?_
    refine s_fin ?_
    refine W_seq ?_
    refine W_region (.pu 0 (.pu 1 (.pu 2 (.pu 3 (.pu 4 .fin))))) rfl rfl ?_
    refine sp 56 (.bool y6) rfl rfl (r_move rfl) ?_
    refine sp 57 (.bool y6) rfl rfl (r_move rfl) ?_
    refine S_meet (l := [(59, (.bool (y6 && y78)))]) (i := 2) ?_ (fun HJ => ?_)
    ·intro b
     show S _ _ _ _ _ _
     refine sp 2 (.bool (y6 && y78)) rfl rfl (r_assign rfl) ?_
     refine s_fin ?_
     refine W_ret ?_
     exact ⟨[(.bool (y6 && y78))], ⟨_, _, rfl, rfl, rfl⟩, (y6 && y78), rfl, H⟩
    ·rcases Bool.eq_false_or_eq_true y6 with g79 | g79
     ·refine s_pu (d := some 58) (v := (.bool y78)) rfl rfl (wants_yes rfl rfl rfl rfl g79) (r_move rfl) ?_
      refine sp 59 (.bool y78) rfl rfl (r_pick1 rfl g79 rfl) ?_
      exact S_mk (l := [(59, (.bool (y6 && y78)))]) HJ ⟨(by rw [g79]; rfl), trivial⟩
     ·refine s_sk (d := some 58) rfl rfl (wants_no rfl rfl rfl rfl g79) ?_
      refine sp 59 (.bool false) rfl rfl (r_pick0 rfl g79 rfl) ?_
      exact S_mk (l := [(59, (.bool (y6 && y78)))]) HJ ⟨(by rw [g79]; rfl), trivial⟩)
  clear eN25
  refine W_if (decide (100 < ((lines16.len : Int)))) rfl (fun g87 => ?_) (fun g87 => ?_)
  ·have H := H.1 g87
   refine W_seq ?_
   refine W_region (.ef 0 [] (.pu 1 .fin) .no) rfl rfl ?_
   obtain ⟨p84, e85⟩ : ∃ p : Addr, p = ⟨h5.size, 0, none⟩ := ⟨_, rfl⟩
   obtain ⟨h20, e86⟩ : ∃ hh : Heap, hh = h5.push (.cells #[(.string (⟨#[69, 114, 114, 70, 117, 108, 108]⟩))] 9) := ⟨_, rfl⟩
   have H := H p84 h20 e85 e86
   refine s_ef1 (d := some 31) (v := (Sl.v ((⟨some p84, 1, 1⟩ : Sl)))) (h' := h20) rfl rfl rfl (fun dr => (slFGLaw_23.build (cells := #[(.string (⟨#[69, 114, 114, 70, 117, 108, 108]⟩))]) (by decide) rfl (by kernel_rfl)).trans (by rw [e85, e86]; rfl)) trivial ?_ trivial
   refine sp 5 (Sl.v ((⟨some p84, 1, 1⟩ : Sl))) rfl rfl (r_assign rfl) ?_
   refine s_fin ?_
   refine W_region (.pu 0 .fin) rfl rfl ?_
   refine sp 4 (Sl.v Sl.nil) rfl rfl (r_assign rfl) ?_
   refine s_fin ?_
   exact N_mk (l := [(0, (.string s1)), (3, (.bool y6)), (4, (Sl.v Sl.nil)), (5, (Sl.v ((⟨some p84, 1, 1⟩ : Sl)))), (6, (.pointer (some p19)))]) H ⟨rfl, rfl, rfl, rfl, rfl, trivial⟩
  ·have H := H.2 g87
   refine W_skip ?_
   exact N_mk (l := [(0, (.string s1)), (3, (.bool y6)), (4, (Sl.v lines16)), (5, (Sl.v Sl.nil)), (6, (.pointer (some p19)))]) H ⟨rfl, rfl, rfl, rfl, rfl, trivial⟩)
 clear eN18
 refine W_if (decide (x14 = (⟨#[]⟩))) rfl (fun g94 => ?_) (fun g94 => ?_)
 ·have H := H.1 g94
  refine W_region (.pu 0 (.pu 1 (.pu 2 (.pu 3 (.pu 4 (.pu 5 .fin)))))) rfl rfl ?_
  refine sp 23 (Sl.v y7) rfl rfl (r_move rfl) ?_
  refine sp 24 (Sl.v y7) rfl rfl (r_move rfl) ?_
  refine sp 25 (.int .i64 ((y7.len : Int))) rfl rfl (r_len Tryz.underlying23 rfl) ?_
  refine sp 26 (.int .i64 (w64 (((y7.len : Int)) - 1))) rfl rfl (r_sub rfl rfl) ?_
  obtain ⟨e89, e90, e91, e92, H⟩ := H
  obtain ⟨s88, e93⟩ : ∃ t : Sl, t = ⟨sliceA y7.a (Int.toNat ((y7.cap : Int))) (Int.toNat 0) 1, Int.toNat (w64 (((y7.len : Int)) - 1)) - Int.toNat 0, Int.toNat ((y7.cap : Int)) - Int.toNat 0⟩ := ⟨_, rfl⟩
  have H := H s88 e93
  refine sp 27 (Sl.v s88) rfl rfl (fun w => (r_slice (lo := .none) (hi := (.some (.tmp 26))) (mx := .none) Tryz.underlying23 Tryz.sizeOf9 rfl ((y7.cap : Int)) (w64 (((y7.len : Int)) - 1)) 0 rfl ⟨_, rfl⟩ rfl e89 e90 (.inr e91) e92 w).trans (by rw [e93]; rfl)) ?_
  refine sp 4 (Sl.v s88) rfl rfl (r_assign rfl) ?_
  refine s_fin ?_
  exact N_mk (l := [(0, (.string s1)), (3, (.bool y6)), (4, (Sl.v s88))]) H ⟨rfl, rfl, rfl, trivial⟩
 ·have H := H.2 g94
  refine W_skip ?_
  exact N_mk (l := [(0, (.string s1)), (3, (.bool y6)), (4, (Sl.v y7))]) H ⟨rfl, rfl, rfl, trivial⟩
def law5_DeskKeeps_F (r : World) (s1 : ByteArray) (line2 : ByteArray) (h : Heap) (R : Bool → Heap → Prop) : Prop :=
 desk_Run r txtGLaw1 h fun y3 h1 =>
 New h1 (.cells #[(.string (⟨#[49]⟩)), (.string (⟨#[49]⟩))] 9) fun p4 h2 =>
 same_Texts r y3 ((⟨some p4, 2, 2⟩ : Sl)) h2 fun y7 h3 =>
 (ByteArray.size s1 + ByteArray.size (⟨#[10, 108, 105, 115, 116, 10, 115, 101, 116]⟩) ≤ 9223372036854775807) ∧
 desk_Run r (s1 ++ (⟨#[10, 108, 105, 115, 116, 10, 115, 101, 116]⟩)) h3 fun y11 h4 =>
 (ByteArray.size s1 + ByteArray.size (⟨#[10]⟩) ≤ 9223372036854775807) ∧
 (ByteArray.size (s1 ++ (⟨#[10]⟩)) + ByteArray.size line2 ≤ 9223372036854775807) ∧
 (ByteArray.size ((s1 ++ (⟨#[10]⟩)) ++ line2) + ByteArray.size (⟨#[10, 108, 105, 115, 116, 10, 115, 101, 116]⟩) ≤ 9223372036854775807) ∧
 desk_Run r (((s1 ++ (⟨#[10]⟩)) ++ line2) ++ (⟨#[10, 108, 105, 115, 116, 10, 115, 101, 116]⟩)) h4 fun y21 h5 =>
 Br (!y7) (
  R false h5) (
  ref1_Cut r line2 10 h5 fun y22 h6 =>
  Br (((!decide (((y22.len : Int)) = 1)) || (!decide (((y21.len : Int)) = (w64 (((y11.len : Int)) + 1))))) || (decide (((y11.len : Int)) < 2))) (
   R true h6) (
   Sub y11 0 (w64 (((y11.len : Int)) - 2)) ((y11.cap : Int)) 1 fun s29 =>
   Sub y21 0 (w64 (((y11.len : Int)) - 2)) ((y21.cap : Int)) 1 fun s35 =>
   same_Texts r s29 s35 h6 fun y41 h7 =>
   ∀ J43 : Bool → Prop, (∀ (x42 : Bool),
    (Br x42 (
     R y41 h7) (
     Sub y11 (w64 (((y11.len : Int)) - 2)) ((y11.len : Int)) ((y11.cap : Int)) 1 fun s45 =>
     Sub y21 (w64 (((y11.len : Int)) - 1)) ((y21.len : Int)) ((y21.cap : Int)) 1 fun s51 =>
     same_Texts r s45 s51 h7 fun y57 h8 =>
     R (y41 && y57) h8)) →
    J43 x42) →
   Ix y21 (w64 (((y11.len : Int)) - 2)) 1 fun q67 =>
   LdT h7 q67 fun x69 =>
   Br (!decide (x69 = (⟨#[69, 114, 114, 83, 121, 110, 116, 97, 120]⟩))) (
    Ix y21 (w64 (((y11.len : Int)) - 2)) 1 fun q76 =>
    LdT h7 q76 fun x78 =>
    J43 (!decide (x78 = (⟨#[69, 114, 114, 82, 97, 110, 103, 101]⟩)))) (
    J43 false)))
theorem law5_DeskKeeps_of {r : World} {s1 : ByteArray} {line2 : ByteArray} {h : Heap} {R : Bool → Heap → Prop} (H : law5_DeskKeeps_F r s1 line2 h R) : law5_DeskKeeps r s1 line2 h R := by
 unfold law5_DeskKeeps_F at H
 refine calls_of 79 [.tmp 4] Tryz.func4 rfl rfl rfl rfl rfl ?_
 refine W_seq ?_
 refine W_region (.pu 0 .fin) rfl rfl ?_
 refine sp 4 (.bool false) rfl rfl (r_assign rfl) ?_
 refine s_fin ?_
 refine W_seq ?_
 refine W_region (.ef 0 [] (.ef 1 [] (.ef 2 [] (.pu 3 .fin) .no) .no) .no) rfl rfl ?_
 refine sc 11 rfl rfl (fun dr => r_call Tryz.call6 rfl rfl H) ?_
 rintro _ h1 ⟨y3, rfl, H⟩
 obtain ⟨p4, e5⟩ : ∃ p : Addr, p = ⟨h1.size, 0, none⟩ := ⟨_, rfl⟩
 obtain ⟨h2, e6⟩ : ∃ hh : Heap, hh = h1.push (.cells #[(.string (⟨#[49]⟩)), (.string (⟨#[49]⟩))] 9) := ⟨_, rfl⟩
 have H := H p4 h2 e5 e6
 refine s_ef1 (d := some 12) (v := (Sl.v ((⟨some p4, 2, 2⟩ : Sl)))) (h' := h2) rfl rfl rfl (fun dr => (slFGLaw_23.build (cells := #[(.string (⟨#[49]⟩)), (.string (⟨#[49]⟩))]) (by decide) rfl (by kernel_rfl)).trans (by rw [e5, e6]; rfl)) trivial ?_ trivial
 refine sc 13 rfl rfl (fun dr => r_call Tryz.call5 rfl rfl H) ?_
 rintro _ h3 ⟨y7, rfl, H⟩
 refine sp 5 (.bool y7) rfl rfl (r_assign rfl) ?_
 refine s_fin ?_
 refine W_seq ?_
 refine W_region (.pu 0 (.pu 1 (.ef 2 [] (.pu 3 .fin) .no))) rfl rfl ?_
 refine sp 14 (.string s1) rfl rfl (r_move rfl) ?_
 obtain ⟨e8, H⟩ := H
 refine sp 15 (.string (s1 ++ (⟨#[10, 108, 105, 115, 116, 10, 115, 101, 116]⟩))) rfl rfl (r_addT rfl rfl e8) ?_
 refine sc 16 rfl rfl (fun dr => r_call Tryz.call6 rfl rfl H) ?_
 rintro _ h4 ⟨y11, rfl, H⟩
 refine sp 6 (Sl.v y11) rfl rfl (r_assign rfl) ?_
 refine s_fin ?_
 refine W_seq ?_
 refine W_region (.pu 0 (.pu 1 (.pu 2 (.pu 3 (.pu 4 (.ef 5 [] (.pu 6 .fin) .no)))))) rfl rfl ?_
 refine sp 17 (.string s1) rfl rfl (r_move rfl) ?_
 obtain ⟨e12, H⟩ := H
 refine sp 18 (.string (s1 ++ (⟨#[10]⟩))) rfl rfl (r_addT rfl rfl e12) ?_
 refine sp 19 (.string line2) rfl rfl (r_move rfl) ?_
 obtain ⟨e15, H⟩ := H
 refine sp 20 (.string ((s1 ++ (⟨#[10]⟩)) ++ line2)) rfl rfl (r_addT rfl rfl e15) ?_
 obtain ⟨e18, H⟩ := H
 refine sp 21 (.string (((s1 ++ (⟨#[10]⟩)) ++ line2) ++ (⟨#[10, 108, 105, 115, 116, 10, 115, 101, 116]⟩))) rfl rfl (r_addT rfl rfl e18) ?_
 refine sc 22 rfl rfl (fun dr => r_call Tryz.call6 rfl rfl H) ?_
 rintro _ h5 ⟨y21, rfl, H⟩
 refine sp 7 (Sl.v y21) rfl rfl (r_assign rfl) ?_
 refine s_fin ?_
 refine W_seq ?_
 refine W_seq ?_
 refine W_region (.pu 0 (.pu 1 .fin)) rfl rfl ?_
 refine sp 23 (.bool y7) rfl rfl (r_move rfl) ?_
 refine sp 24 (.bool (!y7)) rfl rfl (r_not rfl) ?_
 refine s_fin ?_
 refine W_if (!y7) rfl (fun g83 => ?_) (fun g83 => ?_)
 ·have H := H.1 g83
  refine W_seq ?_
  refine W_region (.pu 0 .fin) rfl rfl ?_
  refine sp 4 (.bool false) rfl rfl (r_assign rfl) ?_
  refine s_fin ?_
  refine W_ret ?_
  exact ⟨[(.bool false)], ⟨_, _, rfl, rfl, rfl⟩, false, rfl, H⟩
 ·have H := H.2 g83
  refine W_skip ?_
  show W _ _ _ _ _ _ _ _
  refine W_seq ?_
  refine W_region (.pu 0 (.pu 1 (.pu 2 .fin))) rfl rfl ?_
  refine sp 25 (Sl.v y11) rfl rfl (r_move rfl) ?_
  refine sp 26 (.int .i64 ((y11.len : Int))) rfl rfl (r_len Tryz.underlying23 rfl) ?_
  refine sp 8 (.int .i64 ((y11.len : Int))) rfl rfl (r_assign rfl) ?_
  refine s_fin ?_
  refine W_seq ?_
  refine W_seq ?_
  refine W_region (.pu 0 (.ef 1 [] (.pu 2 (.pu 3 (.pu 4 (.pu 5 (.pu 6 (.pu 7 (.pu 8 (.pu 9 (.pu 10 (.pu 11 (.pu 12 (.pu 13 (.pu 14 .fin))))))))))))) .no)) rfl rfl ?_
  refine sp 27 (.string line2) rfl rfl (r_move rfl) ?_
  refine sc 28 rfl rfl (fun dr => r_call Tryz.call7 rfl rfl H) ?_
  rintro _ h6 ⟨y22, rfl, H⟩
  refine sp 29 (.int .i64 ((y22.len : Int))) rfl rfl (r_len Tryz.underlying23 rfl) ?_
  refine sp 30 (.bool (!decide (((y22.len : Int)) = 1))) rfl rfl (r_neq rfl rfl) ?_
  refine sp 31 (.bool (!decide (((y22.len : Int)) = 1))) rfl rfl (r_move rfl) ?_
  refine S_meet (l := [(6, (Sl.v y11)), (7, (Sl.v y21)), (8, (.int .i64 ((y11.len : Int)))), (37, (.bool ((!decide (((y22.len : Int)) = 1)) || (!decide (((y21.len : Int)) = (w64 (((y11.len : Int)) + 1)))))))]) (i := 6) ?_ (fun HJ => ?_)
  ·intro b
   show S _ _ _ _ _ _
   refine sp 38 (.bool ((!decide (((y22.len : Int)) = 1)) || (!decide (((y21.len : Int)) = (w64 (((y11.len : Int)) + 1)))))) rfl rfl (r_move rfl) ?_
   refine S_meet (l := [(6, (Sl.v y11)), (7, (Sl.v y21)), (8, (.int .i64 ((y11.len : Int)))), (41, (.bool (((!decide (((y22.len : Int)) = 1)) || (!decide (((y21.len : Int)) = (w64 (((y11.len : Int)) + 1))))) || (decide (((y11.len : Int)) < 2)))))]) (i := 3) ?_ (fun HJ => ?_)
   ·intro b
    show S _ _ _ _ _ _
    refine s_fin ?_
    refine W_if (((!decide (((y22.len : Int)) = 1)) || (!decide (((y21.len : Int)) = (w64 (((y11.len : Int)) + 1))))) || (decide (((y11.len : Int)) < 2))) rfl (fun g80 => ?_) (fun g80 => ?_)
    ·have H := H.1 g80
     refine W_seq ?_
     refine W_region (.pu 0 .fin) rfl rfl ?_
     refine sp 4 (.bool true) rfl rfl (r_assign rfl) ?_
     refine s_fin ?_
     refine W_ret ?_
     exact ⟨[(.bool true)], ⟨_, _, rfl, rfl, rfl⟩, true, rfl, H⟩
    ·have H := H.2 g80
     refine W_skip ?_
     show W _ _ _ _ _ _ _ _
     refine W_seq ?_
     refine W_draw [0, 0, 2, 7, 0, 0, 32, 112, 255, 511] (.pu 0 (.pu 1 (.pu 2 (.pu 3 (.pu 4 (.pu 5 (.pu 6 (.pu 7 (.ef 8 [] (.pu 9 .fin) .no))))))))) (by kernel_rfl) (by kernel_rfl) ?_
     refine sp 42 (Sl.v y11) rfl rfl (r_move rfl) ?_
     refine sp 43 (.int .i64 ((y11.len : Int))) rfl rfl (r_move rfl) ?_
     refine sp 44 (.int .i64 (w64 (((y11.len : Int)) - 2))) rfl rfl (r_sub rfl rfl) ?_
     obtain ⟨e30, e31, e32, e33, H⟩ := H
     obtain ⟨s29, e34⟩ : ∃ t : Sl, t = ⟨sliceA y11.a (Int.toNat ((y11.cap : Int))) (Int.toNat 0) 1, Int.toNat (w64 (((y11.len : Int)) - 2)) - Int.toNat 0, Int.toNat ((y11.cap : Int)) - Int.toNat 0⟩ := ⟨_, rfl⟩
     have H := H s29 e34
     refine sp 45 (Sl.v s29) rfl rfl (fun w => (r_slice (lo := .none) (hi := (.some (.tmp 44))) (mx := .none) Tryz.underlying23 Tryz.sizeOf9 rfl ((y11.cap : Int)) (w64 (((y11.len : Int)) - 2)) 0 rfl ⟨_, rfl⟩ rfl e30 e31 (.inr e32) e33 w).trans (by rw [e34]; rfl)) ?_
     refine sp 46 (Sl.v y21) rfl rfl (r_move rfl) ?_
     refine sp 47 (.int .i64 ((y11.len : Int))) rfl rfl (r_move rfl) ?_
     refine sp 48 (.int .i64 (w64 (((y11.len : Int)) - 2))) rfl rfl (r_sub rfl rfl) ?_
     obtain ⟨e36, e37, e38, e39, H⟩ := H
     obtain ⟨s35, e40⟩ : ∃ t : Sl, t = ⟨sliceA y21.a (Int.toNat ((y21.cap : Int))) (Int.toNat 0) 1, Int.toNat (w64 (((y11.len : Int)) - 2)) - Int.toNat 0, Int.toNat ((y21.cap : Int)) - Int.toNat 0⟩ := ⟨_, rfl⟩
     have H := H s35 e40
     refine sp 49 (Sl.v s35) rfl rfl (fun w => (r_slice (lo := .none) (hi := (.some (.tmp 48))) (mx := .none) Tryz.underlying23 Tryz.sizeOf9 rfl ((y21.cap : Int)) (w64 (((y11.len : Int)) - 2)) 0 rfl ⟨_, rfl⟩ rfl e36 e37 (.inr e38) e39 w).trans (by rw [e40]; rfl)) ?_
     refine sc 50 rfl rfl (fun dr => r_call Tryz.call5 rfl rfl H) ?_
     rintro _ h7 ⟨y41, rfl, H⟩
     refine sp 9 (.bool y41) rfl rfl (r_assign rfl) ?_
     refine s_fin ?_
     refine W_seq ?_
     refine W_seq ?_
     refine W_set ?_
     intro N44 eN44
     have H := H (fun (x42 : Bool) => ∀ b, N44 [] (mkE [(6, (Sl.v y11)), (7, (Sl.v y21)), (8, (.int .i64 ((y11.len : Int)))), (9, (.bool y41)), (64, (.bool x42))] b) h7) (by
      intro x42 H b
      rw [eN44]
      show W _ _ _ _ _ _ _ _
      refine W_if x42 rfl (fun g62 => ?_) (fun g62 => ?_)
      ·have H := H.1 g62
       refine W_seq ?_
       refine W_region (.pu 0 (.pu 1 .fin)) rfl rfl ?_
       refine sp 65 (.bool y41) rfl rfl (r_move rfl) ?_
       refine sp 4 (.bool y41) rfl rfl (r_assign rfl) ?_
       refine s_fin ?_
       refine W_ret ?_
       exact ⟨[(.bool y41)], ⟨_, _, rfl, rfl, rfl⟩, y41, rfl, H⟩
      ·have H := H.2 g62
       refine W_skip ?_
       show W _ _ _ _ _ _ _ _
       refine W_seq ?_
       refine W_draw [0, 0, 2, 7, 0, 0, 32, 112, 255, 511] (.pu 0 (.pu 1 (.pu 2 (.pu 3 (.pu 4 (.pu 5 (.pu 6 (.pu 7 (.ef 8 [] (.pu 9 .fin) .no))))))))) (by kernel_rfl) (by kernel_rfl) ?_
       refine sp 66 (Sl.v y11) rfl rfl (r_move rfl) ?_
       refine sp 67 (.int .i64 ((y11.len : Int))) rfl rfl (r_move rfl) ?_
       refine sp 68 (.int .i64 (w64 (((y11.len : Int)) - 2))) rfl rfl (r_sub rfl rfl) ?_
       obtain ⟨e46, e47, e48, e49, H⟩ := H
       obtain ⟨s45, e50⟩ : ∃ t : Sl, t = ⟨sliceA y11.a (Int.toNat ((y11.cap : Int))) (Int.toNat (w64 (((y11.len : Int)) - 2))) 1, Int.toNat ((y11.len : Int)) - Int.toNat (w64 (((y11.len : Int)) - 2)), Int.toNat ((y11.cap : Int)) - Int.toNat (w64 (((y11.len : Int)) - 2))⟩ := ⟨_, rfl⟩
       have H := H s45 e50
       refine sp 69 (Sl.v s45) rfl rfl (fun w => (r_slice (lo := (.some (.tmp 68))) (hi := .none) (mx := .none) Tryz.underlying23 Tryz.sizeOf9 rfl ((y11.cap : Int)) ((y11.len : Int)) (w64 (((y11.len : Int)) - 2)) rfl ⟨rfl, rfl⟩ ⟨_, rfl⟩ e46 e47 (.inl rfl) e49 w).trans (by rw [e50]; rfl)) ?_
       refine sp 70 (Sl.v y21) rfl rfl (r_move rfl) ?_
       refine sp 71 (.int .i64 ((y11.len : Int))) rfl rfl (r_move rfl) ?_
       refine sp 72 (.int .i64 (w64 (((y11.len : Int)) - 1))) rfl rfl (r_sub rfl rfl) ?_
       obtain ⟨e52, e53, e54, e55, H⟩ := H
       obtain ⟨s51, e56⟩ : ∃ t : Sl, t = ⟨sliceA y21.a (Int.toNat ((y21.cap : Int))) (Int.toNat (w64 (((y11.len : Int)) - 1))) 1, Int.toNat ((y21.len : Int)) - Int.toNat (w64 (((y11.len : Int)) - 1)), Int.toNat ((y21.cap : Int)) - Int.toNat (w64 (((y11.len : Int)) - 1))⟩ := ⟨_, rfl⟩
       have H := H s51 e56
       refine sp 73 (Sl.v s51) rfl rfl (fun w => (r_slice (lo := (.some (.tmp 72))) (hi := .none) (mx := .none) Tryz.underlying23 Tryz.sizeOf9 rfl ((y21.cap : Int)) ((y21.len : Int)) (w64 (((y11.len : Int)) - 1)) rfl ⟨rfl, rfl⟩ ⟨_, rfl⟩ e52 e53 (.inl rfl) e55 w).trans (by rw [e56]; rfl)) ?_
       refine sc 74 rfl rfl (fun dr => r_call Tryz.call5 rfl rfl H) ?_
       rintro _ h8 ⟨y57, rfl, H⟩
       refine sp 10 (.bool y57) rfl rfl (r_assign rfl) ?_
       refine s_fin ?_
       refine W_seq ?_
       refine W_region (.pu 0 (.pu 1 (.pu 2 (.pu 3 (.pu 4 .fin))))) rfl rfl ?_
       refine sp 75 (.bool y41) rfl rfl (r_move rfl) ?_
       refine sp 76 (.bool y41) rfl rfl (r_move rfl) ?_
       refine S_meet (l := [(78, (.bool (y41 && y57)))]) (i := 2) ?_ (fun HJ => ?_)
       ·intro b
        show S _ _ _ _ _ _
        refine sp 4 (.bool (y41 && y57)) rfl rfl (r_assign rfl) ?_
        refine s_fin ?_
        refine W_ret ?_
        exact ⟨[(.bool (y41 && y57))], ⟨_, _, rfl, rfl, rfl⟩, (y41 && y57), rfl, H⟩
       ·rcases Bool.eq_false_or_eq_true y41 with g58 | g58
        ·refine s_pu (d := some 77) (v := (.bool y57)) rfl rfl (wants_yes rfl rfl rfl rfl g58) (r_move rfl) ?_
         refine sp 78 (.bool y57) rfl rfl (r_pick1 rfl g58 rfl) ?_
         exact S_mk (l := [(78, (.bool (y41 && y57)))]) HJ ⟨(by rw [g58]; rfl), trivial⟩
        ·refine s_sk (d := some 77) rfl rfl (wants_no rfl rfl rfl rfl g58) ?_
         refine sp 78 (.bool false) rfl rfl (r_pick0 rfl g58 rfl) ?_
         exact S_mk (l := [(78, (.bool (y41 && y57)))]) HJ ⟨(by rw [g58]; rfl), trivial⟩)
     clear eN44
     refine W_region (.pu 0 (.pu 1 (.pu 2 (.pu 3 (.rl 4 (.pu 5 (.pu 6 (.pu 7 (.pu 8 (.pu 9 (.pu 10 (.rl 11 (.pu 12 (.pu 13 .fin)))))))))))))) rfl rfl ?_
     refine sp 51 (Sl.v y21) rfl rfl (r_move rfl) ?_
     refine sp 52 (.int .i64 ((y11.len : Int))) rfl rfl (r_move rfl) ?_
     refine sp 53 (.int .i64 (w64 (((y11.len : Int)) - 2))) rfl rfl (r_sub rfl rfl) ?_
     obtain ⟨p63, e64, e65, e66, H⟩ := H
     obtain ⟨q67, e68⟩ : ∃ q : Addr, q = Addr.add p63 (Int.toNat (w64 (((y11.len : Int)) - 2)) * 1) := ⟨_, rfl⟩
     rw [← e68] at H
     refine sp 54 (.pointer (some q67)) rfl rfl (fun w => (r_indexAddr Tryz.underlying23 Tryz.sizeOf9 rfl rfl e64 e65 e66 w).trans (by rw [e68])) ?_
     obtain ⟨x69, e70, H⟩ := H
     refine sl 55 (.string x69) rfl rfl (fun dr => r_load1 Tryz.isAgg9 rfl e70) ?_
     refine sp 56 (.bool (!decide (x69 = (⟨#[69, 114, 114, 83, 121, 110, 116, 97, 120]⟩)))) rfl rfl (r_neqT rfl rfl) ?_
     refine sp 57 (.bool (!decide (x69 = (⟨#[69, 114, 114, 83, 121, 110, 116, 97, 120]⟩)))) rfl rfl (r_move rfl) ?_
     rcases Bool.eq_false_or_eq_true (!decide (x69 = (⟨#[69, 114, 114, 83, 121, 110, 116, 97, 120]⟩))) with g71 | g71
     ·have H := H.1 g71
      refine s_pu (d := some 58) (v := (Sl.v y21)) rfl rfl (wants_yes rfl rfl rfl rfl g71) (r_move rfl) ?_
      refine s_pu (d := some 59) (v := (.int .i64 ((y11.len : Int)))) rfl rfl (wants_yes rfl rfl rfl rfl g71) (r_move rfl) ?_
      refine s_pu (d := some 60) (v := (.int .i64 (w64 (((y11.len : Int)) - 2)))) rfl rfl (wants_yes rfl rfl rfl rfl g71) (r_sub rfl rfl) ?_
      obtain ⟨p72, e73, e74, e75, H⟩ := H
      obtain ⟨q76, e77⟩ : ∃ q : Addr, q = Addr.add p72 (Int.toNat (w64 (((y11.len : Int)) - 2)) * 1) := ⟨_, rfl⟩
      rw [← e77] at H
      refine s_pu (d := some 61) (v := (.pointer (some q76))) rfl rfl (wants_yes rfl rfl rfl rfl g71) (fun w => (r_indexAddr Tryz.underlying23 Tryz.sizeOf9 rfl rfl e73 e74 e75 w).trans (by rw [e77])) ?_
      obtain ⟨x78, e79, H⟩ := H
      refine s_rl (d := some 62) (v := (.string x78)) rfl rfl (wants_yes rfl rfl rfl rfl g71) (fun dr => r_load1 Tryz.isAgg9 rfl e79) ?_
      refine s_pu (d := some 63) (v := (.bool (!decide (x78 = (⟨#[69, 114, 114, 82, 97, 110, 103, 101]⟩))))) rfl rfl (wants_yes rfl rfl rfl rfl g71) (r_neqT rfl rfl) ?_
      refine sp 64 (.bool (!decide (x78 = (⟨#[69, 114, 114, 82, 97, 110, 103, 101]⟩)))) rfl rfl (r_pick1 rfl g71 rfl) ?_
      refine s_fin ?_
      exact N_mk (l := [(6, (Sl.v y11)), (7, (Sl.v y21)), (8, (.int .i64 ((y11.len : Int)))), (9, (.bool y41)), (64, (.bool (!decide (x78 = (⟨#[69, 114, 114, 82, 97, 110, 103, 101]⟩)))))]) H ⟨rfl, rfl, rfl, rfl, rfl, trivial⟩
     ·have H := H.2 g71
      refine s_sk (d := some 58) rfl rfl (wants_no rfl rfl rfl rfl g71) ?_
      refine s_sk (d := some 59) rfl rfl (wants_no rfl rfl rfl rfl g71) ?_
      refine s_sk (d := some 60) rfl rfl (wants_no rfl rfl rfl rfl g71) ?_
      refine s_sk (d := some 61) rfl rfl (wants_no rfl rfl rfl rfl g71) ?_
      refine s_skl (d := some 62) rfl rfl (wants_no rfl rfl rfl rfl g71) ?_
      refine s_sk (d := some 63) rfl rfl (wants_no rfl rfl rfl rfl g71) ?_
      refine sp 64 (.bool false) rfl rfl (r_pick0 rfl g71 rfl) ?_
      refine s_fin ?_
      exact N_mk (l := [(6, (Sl.v y11)), (7, (Sl.v y21)), (8, (.int .i64 ((y11.len : Int)))), (9, (.bool y41)), (64, (.bool false))]) H ⟨rfl, rfl, rfl, rfl, rfl, trivial⟩
   ·rcases Bool.eq_false_or_eq_true ((!decide (((y22.len : Int)) = 1)) || (!decide (((y21.len : Int)) = (w64 (((y11.len : Int)) + 1))))) with g26 | g26
    ·refine s_sk (d := some 39) rfl rfl (wants_no rfl rfl rfl rfl g26) ?_
     refine s_sk (d := some 40) rfl rfl (wants_no rfl rfl rfl rfl g26) ?_
     refine sp 41 (.bool true) rfl rfl (r_pick1 rfl g26 rfl) ?_
     exact S_mk (l := [(6, (Sl.v y11)), (7, (Sl.v y21)), (8, (.int .i64 ((y11.len : Int)))), (41, (.bool (((!decide (((y22.len : Int)) = 1)) || (!decide (((y21.len : Int)) = (w64 (((y11.len : Int)) + 1))))) || (decide (((y11.len : Int)) < 2)))))]) HJ ⟨rfl, rfl, rfl, (by rw [g26]; rfl), trivial⟩
    ·refine s_pu (d := some 39) (v := (.int .i64 ((y11.len : Int)))) rfl rfl (wants_yes rfl rfl rfl rfl g26) (r_move rfl) ?_
     refine s_pu (d := some 40) (v := (.bool (decide (((y11.len : Int)) < 2)))) rfl rfl (wants_yes rfl rfl rfl rfl g26) (r_lss rfl rfl) ?_
     refine sp 41 (.bool (decide (((y11.len : Int)) < 2))) rfl rfl (r_pick0 rfl g26 rfl) ?_
     exact S_mk (l := [(6, (Sl.v y11)), (7, (Sl.v y21)), (8, (.int .i64 ((y11.len : Int)))), (41, (.bool (((!decide (((y22.len : Int)) = 1)) || (!decide (((y21.len : Int)) = (w64 (((y11.len : Int)) + 1))))) || (decide (((y11.len : Int)) < 2)))))]) HJ ⟨rfl, rfl, rfl, (by rw [g26]; rfl), trivial⟩
  ·rcases Bool.eq_false_or_eq_true (!decide (((y22.len : Int)) = 1)) with g23 | g23
   ·refine s_sk (d := some 32) rfl rfl (wants_no rfl rfl rfl rfl g23) ?_
    refine s_sk (d := some 33) rfl rfl (wants_no rfl rfl rfl rfl g23) ?_
    refine s_sk (d := some 34) rfl rfl (wants_no rfl rfl rfl rfl g23) ?_
    refine s_sk (d := some 35) rfl rfl (wants_no rfl rfl rfl rfl g23) ?_
    refine s_sk (d := some 36) rfl rfl (wants_no rfl rfl rfl rfl g23) ?_
    refine sp 37 (.bool true) rfl rfl (r_pick1 rfl g23 rfl) ?_
    exact S_mk (l := [(6, (Sl.v y11)), (7, (Sl.v y21)), (8, (.int .i64 ((y11.len : Int)))), (37, (.bool ((!decide (((y22.len : Int)) = 1)) || (!decide (((y21.len : Int)) = (w64 (((y11.len : Int)) + 1)))))))]) HJ ⟨rfl, rfl, rfl, (by rw [g23]; rfl), trivial⟩
   ·refine s_pu (d := some 32) (v := (Sl.v y21)) rfl rfl (wants_yes rfl rfl rfl rfl g23) (r_move rfl) ?_
    refine s_pu (d := some 33) (v := (.int .i64 ((y21.len : Int)))) rfl rfl (wants_yes rfl rfl rfl rfl g23) (r_len Tryz.underlying23 rfl) ?_
    refine s_pu (d := some 34) (v := (.int .i64 ((y11.len : Int)))) rfl rfl (wants_yes rfl rfl rfl rfl g23) (r_move rfl) ?_
    refine s_pu (d := some 35) (v := (.int .i64 (w64 (((y11.len : Int)) + 1)))) rfl rfl (wants_yes rfl rfl rfl rfl g23) (r_add rfl rfl) ?_
    refine s_pu (d := some 36) (v := (.bool (!decide (((y21.len : Int)) = (w64 (((y11.len : Int)) + 1)))))) rfl rfl (wants_yes rfl rfl rfl rfl g23) (r_neq rfl rfl) ?_
    refine sp 37 (.bool (!decide (((y21.len : Int)) = (w64 (((y11.len : Int)) + 1))))) rfl rfl (r_pick0 rfl g23 rfl) ?_
    exact S_mk (l := [(6, (Sl.v y11)), (7, (Sl.v y21)), (8, (.int .i64 ((y11.len : Int)))), (37, (.bool ((!decide (((y22.len : Int)) = 1)) || (!decide (((y21.len : Int)) = (w64 (((y11.len : Int)) + 1)))))))]) HJ ⟨rfl, rfl, rfl, (by rw [g23]; rfl), trivial⟩
end Go.Proofs.YthkimbiknhebeaaGreatDoor
