/- Typed words of functions, and that they hold: printed by gen.py (an own tool of this claim) off the model's own form of each function. -/
import Derived.Test.YthkimbiknhebeaaGreatDoorProg
import Derived.Test.YthkimbiknhebeaaGreatDoorGFing
namespace Go.Proofs.YthkimbiknhebeaaGreatDoor
open Go Go.RowKit Go.Tw
set_option linter.unusedVariables false
set_option maxRecDepth 100000
abbrev finger_asker_place (r : World) (p1 : Value) (so2 : Int) (so3 : Int) (so4 : Int) (so5 : Int) (so6 : Int) (l7 : Sl) (h : Heap) (R : Int → Int → Int → Int → Int → Int → Heap → Prop) : Prop :=
 CallsH Tryz.prog r 121 [p1, (.agg #[(.int .i64 so2), (.int .i64 so3), (.int .i64 so4), (.int .i64 so5), (.int .i64 so6)]), (Sl.v l7)] h fun v h' => ∃ (y8 : Int) (y9 : Int) (y10 : Int) (y11 : Int) (y12 : Int) (y13 : Int), v = (.tuple #[(.int .i64 y8), (.agg #[(.int .i64 y9), (.int .i64 y10), (.int .i64 y11), (.int .i64 y12), (.int .i64 y13)])]) ∧ R y8 y9 y10 y11 y12 y13 h'
abbrev finger_asker_cut (r : World) (p1 : Value) (so2 : Int) (so3 : Int) (so4 : Int) (so5 : Int) (so6 : Int) (v7 : Option Addr) (h : Heap) (R : Option Addr → Option Addr → Option Addr → Heap → Prop) : Prop :=
 CallsH Tryz.prog r 95 [p1, (.agg #[(.int .i64 so2), (.int .i64 so3), (.int .i64 so4), (.int .i64 so5), (.int .i64 so6)]), (.pointer v7)] h fun v h' => ∃ (y8 : Option Addr) (y9 : Option Addr) (y10 : Option Addr), v = (.tuple #[(.pointer y8), (.pointer y9), (.pointer y10)]) ∧ R y8 y9 y10 h'
def finger_asker_place_F (r : World) (p1 : Value) (so2 : Int) (so3 : Int) (so4 : Int) (so5 : Int) (so6 : Int) (l7 : Sl) (h : Heap) (R : Int → Int → Int → Int → Int → Int → Heap → Prop) : Prop :=
 New h (.cells #[(.int .i64 so2), (.int .i64 so3), (.int .i64 so4), (.int .i64 so5), (.int .i64 so6)] 66) fun p8 h1 =>
 New h1 (.cells #[(.int .i64 0), (.int .i64 0), (.int .i64 0), (.int .i64 0), (.int .i64 0)] 66) fun p11 h2 =>
 Sub l7 0 (w64 (((l7.len : Int)) - 1)) ((l7.cap : Int)) 1 fun s14 =>
 ∀ X21 : Int → Heap → Prop, (∀ (x20 : Int) (h3 : Heap),
  (Br (decide (x20 < ((s14.len : Int)))) (
   Ix s14 x20 1 fun q26 =>
   LdP h3 q26 fun x28 =>
   ∀ J31 : Addr → Heap → Prop, (∀ (p30 : Addr) (h4 : Heap),
    (LdI h4 (Addr.add p30 0) fun x33 =>
    LdI h4 (Addr.add p30 1) fun x35 =>
    LdI h4 (Addr.add p30 2) fun x37 =>
    LdI h4 (Addr.add p30 3) fun x39 =>
    LdI h4 (Addr.add p30 4) fun x41 =>
    CallV Tryz.prog r p1 [(.agg #[(.int .i64 x33), (.int .i64 x35), (.int .i64 x37), (.int .i64 x39), (.int .i64 x41)])] h4 fun v79 h5 => ∃ (y43 : Bool), v79 = (.bool y43) ∧
    Br y43 (
     LdI h5 (Addr.add p8 0) fun x44 =>
     LdI h5 (Addr.add p8 1) fun x46 =>
     LdI h5 (Addr.add p8 2) fun x48 =>
     LdI h5 (Addr.add p8 3) fun x50 =>
     LdI h5 (Addr.add p8 4) fun x52 =>
     St h5 p11 5 [(.int .i64 x44), (.int .i64 x46), (.int .i64 x48), (.int .i64 x50), (.int .i64 x52)] fun h6 =>
     LdI h6 (Addr.add p11 0) fun x56 =>
     LdI h6 (Addr.add p11 1) fun x58 =>
     LdI h6 (Addr.add p11 2) fun x60 =>
     LdI h6 (Addr.add p11 3) fun x62 =>
     LdI h6 (Addr.add p11 4) fun x64 =>
     R x20 x56 x58 x60 x62 x64 h6) (
     LdI h5 (Addr.add p30 0) fun x66 =>
     LdI h5 (Addr.add p30 1) fun x68 =>
     LdI h5 (Addr.add p30 2) fun x70 =>
     LdI h5 (Addr.add p30 3) fun x72 =>
     LdI h5 (Addr.add p30 4) fun x74 =>
     St h5 p8 5 [(.int .i64 x66), (.int .i64 x68), (.int .i64 x70), (.int .i64 x72), (.int .i64 x74)] fun h7 =>
     X21 (w64 (x20 + 1)) h7)) →
    J31 p30 h4) →
   LdI h3 (Addr.add p8 0) fun x80 =>
   LdI h3 (Addr.add p8 1) fun x82 =>
   LdI h3 (Addr.add p8 2) fun x84 =>
   LdI h3 (Addr.add p8 3) fun x86 =>
   LdI h3 (Addr.add p8 4) fun x88 =>
   Ck x28 fun p90 =>
   LdI h3 (Addr.add (Addr.add p90 0) 0) fun x92 =>
   LdI h3 (Addr.add (Addr.add p90 0) 1) fun x94 =>
   LdI h3 (Addr.add (Addr.add p90 0) 2) fun x96 =>
   LdI h3 (Addr.add (Addr.add p90 0) 3) fun x98 =>
   LdI h3 (Addr.add (Addr.add p90 0) 4) fun x100 =>
   (mono_Join r x80 x82 x84 x86 x88 x92 x94 x96 x98 x100 h3 fun y102 y103 y104 y105 y106 h8 =>
   New h8 (.cells #[(.int .i64 0), (.int .i64 0), (.int .i64 0), (.int .i64 0), (.int .i64 0)] 66) fun p107 h9 =>
   (hcell h9 (Addr.add (Addr.add p90 0) 0) = some (.int .i64 x92)) ∧
   (hcell h9 (Addr.add (Addr.add p90 0) 1) = some (.int .i64 x94)) ∧
   (hcell h9 (Addr.add (Addr.add p90 0) 2) = some (.int .i64 x96)) ∧
   (hcell h9 (Addr.add (Addr.add p90 0) 3) = some (.int .i64 x98)) ∧
   (hcell h9 (Addr.add (Addr.add p90 0) 4) = some (.int .i64 x100)) ∧
   (hcell h9 (Addr.add p8 0) = some (.int .i64 x80)) ∧
   (hcell h9 (Addr.add p8 1) = some (.int .i64 x82)) ∧
   (hcell h9 (Addr.add p8 2) = some (.int .i64 x84)) ∧
   (hcell h9 (Addr.add p8 3) = some (.int .i64 x86)) ∧
   (hcell h9 (Addr.add p8 4) = some (.int .i64 x88)) ∧
   St h9 p107 5 [(.int .i64 y102), (.int .i64 y103), (.int .i64 y104), (.int .i64 y105), (.int .i64 y106)] fun h10 =>
   J31 p107 h10) ∧
   (New h3 (.cells #[(.int .i64 0), (.int .i64 0), (.int .i64 0), (.int .i64 0), (.int .i64 0)] 66) fun p122 h11 =>
   (hcell h11 (Addr.add (Addr.add p90 0) 0) = some (.int .i64 x92)) ∧
   (hcell h11 (Addr.add (Addr.add p90 0) 1) = some (.int .i64 x94)) ∧
   (hcell h11 (Addr.add (Addr.add p90 0) 2) = some (.int .i64 x96)) ∧
   (hcell h11 (Addr.add (Addr.add p90 0) 3) = some (.int .i64 x98)) ∧
   (hcell h11 (Addr.add (Addr.add p90 0) 4) = some (.int .i64 x100)) ∧
   (hcell h11 (Addr.add p8 0) = some (.int .i64 x80)) ∧
   (hcell h11 (Addr.add p8 1) = some (.int .i64 x82)) ∧
   (hcell h11 (Addr.add p8 2) = some (.int .i64 x84)) ∧
   (hcell h11 (Addr.add p8 3) = some (.int .i64 x86)) ∧
   (hcell h11 (Addr.add p8 4) = some (.int .i64 x88)) ∧
   mono_Join r x80 x82 x84 x86 x88 x92 x94 x96 x98 x100 h11 fun y135 y136 y137 y138 y139 h12 =>
   St h12 p122 5 [(.int .i64 y135), (.int .i64 y136), (.int .i64 y137), (.int .i64 y138), (.int .i64 y139)] fun h13 =>
   J31 p122 h13)) (
   LdI h3 (Addr.add p8 0) fun x142 =>
   LdI h3 (Addr.add p8 1) fun x144 =>
   LdI h3 (Addr.add p8 2) fun x146 =>
   LdI h3 (Addr.add p8 3) fun x148 =>
   LdI h3 (Addr.add p8 4) fun x150 =>
   St h3 p11 5 [(.int .i64 x142), (.int .i64 x144), (.int .i64 x146), (.int .i64 x148), (.int .i64 x150)] fun h14 =>
   LdI h14 (Addr.add p11 0) fun x154 =>
   LdI h14 (Addr.add p11 1) fun x156 =>
   LdI h14 (Addr.add p11 2) fun x158 =>
   LdI h14 (Addr.add p11 3) fun x160 =>
   LdI h14 (Addr.add p11 4) fun x162 =>
   R (w64 (((l7.len : Int)) - 1)) x154 x156 x158 x160 x162 h14)) →
  X21 x20 h3) →
 X21 0 h2
theorem finger_asker_place_of {r : World} {p1 : Value} {so2 : Int} {so3 : Int} {so4 : Int} {so5 : Int} {so6 : Int} {l7 : Sl} {h : Heap} {R : Int → Int → Int → Int → Int → Int → Heap → Prop} (H : finger_asker_place_F r p1 so2 so3 so4 so5 so6 l7 h R) : finger_asker_place r p1 so2 so3 so4 so5 so6 l7 h R := by
 unfold finger_asker_place_F at H
 refine calls_of 39 [.tmp 6, .cell 7 66] Tryz.func121 rfl rfl rfl rfl rfl ?_
 refine W_seq ?_
 refine W_region (.ef 0 [] (.pu 1 (.ef 2 [] .fin .no)) .no) rfl rfl ?_
 obtain ⟨p8, e9⟩ : ∃ p : Addr, p = ⟨h.size, 0, none⟩ := ⟨_, rfl⟩
 obtain ⟨h1, e10⟩ : ∃ hh : Heap, hh = h.push (.cells #[(.int .i64 so2), (.int .i64 so3), (.int .i64 so4), (.int .i64 so5), (.int .i64 so6)] 66) := ⟨_, rfl⟩
 have H := H p8 h1 e9 e10
 refine s_ef1 (d := some 4) (v := (.pointer (some p8))) (h' := h1) rfl rfl rfl (fun dr => (r_box (v := (.agg #[(.int .i64 so2), (.int .i64 so3), (.int .i64 so4), (.int .i64 so5), (.int .i64 so6)])) rfl).trans (by rw [e9, e10]; rfl)) trivial ?_ trivial
 refine sp 6 (.int .i64 0) rfl rfl (r_assign rfl) ?_
 obtain ⟨p11, e12⟩ : ∃ p : Addr, p = ⟨h1.size, 0, none⟩ := ⟨_, rfl⟩
 obtain ⟨h2, e13⟩ : ∃ hh : Heap, hh = h1.push (.cells #[(.int .i64 0), (.int .i64 0), (.int .i64 0), (.int .i64 0), (.int .i64 0)] 66) := ⟨_, rfl⟩
 have H := H p11 h2 e12 e13
 refine s_ef1 (d := some 7) (v := (.pointer (some p11))) (h' := h2) rfl rfl rfl (fun dr => (r_alloc Tryz.zeroValue66).trans (by rw [e12, e13]; rfl)) trivial ?_ trivial
 refine s_fin ?_
 refine W_seq ?_
 refine W_seq ?_
 refine W_region (.pu 0 (.pu 1 (.pu 2 (.pu 3 (.pu 4 (.pu 5 (.pu 6 .fin))))))) rfl rfl ?_
 refine sp 11 (Sl.v l7) rfl rfl (r_move rfl) ?_
 refine sp 12 (Sl.v l7) rfl rfl (r_move rfl) ?_
 refine sp 13 (.int .i64 ((l7.len : Int))) rfl rfl (r_len Tryz.underlying113 rfl) ?_
 refine sp 14 (.int .i64 (w64 (((l7.len : Int)) - 1))) rfl rfl (r_sub rfl rfl) ?_
 obtain ⟨e15, e16, e17, e18, H⟩ := H
 obtain ⟨s14, e19⟩ : ∃ t : Sl, t = ⟨sliceA l7.a (Int.toNat ((l7.cap : Int))) (Int.toNat 0) 1, Int.toNat (w64 (((l7.len : Int)) - 1)) - Int.toNat 0, Int.toNat ((l7.cap : Int)) - Int.toNat 0⟩ := ⟨_, rfl⟩
 have H := H s14 e19
 refine sp 15 (Sl.v s14) rfl rfl (fun w => (r_slice (lo := .none) (hi := (.some (.tmp 14))) (mx := .none) Tryz.underlying113 Tryz.sizeOf108 rfl ((l7.cap : Int)) (w64 (((l7.len : Int)) - 1)) 0 rfl ⟨_, rfl⟩ rfl e15 e16 (.inr e17) e18 w).trans (by rw [e19]; rfl)) ?_
 refine sp 16 (.int .i64 ((s14.len : Int))) rfl rfl (r_len Tryz.underlying113 rfl) ?_
 refine sp 17 (.int .i64 0) rfl rfl (r_move rfl) ?_
 refine s_fin ?_
 refine W_block ?_
 refine W_loop (WL_mk (l := [(0, p1), (2, (Sl.v l7)), (4, (.pointer (some p8))), (7, (.pointer (some p11))), (15, (Sl.v s14)), (16, (.int .i64 ((s14.len : Int)))), (17, (.int .i64 0))]) ?_ ⟨rfl, rfl, rfl, rfl, rfl, rfl, rfl, trivial⟩)
 refine H (fun (x20 : Int) (h3 : Heap) => ∀ b, WL _ _ _ _ _ _ (mkE [(0, p1), (2, (Sl.v l7)), (4, (.pointer (some p8))), (7, (.pointer (some p11))), (15, (Sl.v s14)), (16, (.int .i64 ((s14.len : Int)))), (17, (.int .i64 x20))] b) h3) ?_
 intro x20 h3 H b
 refine WL_round ?_
 refine W_seq ?_
 refine W_region (.pu 0 .fin) rfl rfl ?_
 refine sp 18 (.bool (decide (x20 < ((s14.len : Int))))) rfl rfl (r_lss rfl rfl) ?_
 refine s_fin ?_
 refine W_seq ?_
 refine W_if (decide (x20 < ((s14.len : Int)))) rfl (fun g164 => ?_) (fun g164 => ?_)
 ·have H := H.1 g164
  refine W_skip ?_
  show W _ _ _ _ _ _ _ _
  refine W_seq ?_
  refine W_block ?_
  refine W_seq ?_
  refine W_region (.pu 0 (.pu 1 (.rl 2 (.pu 3 (.pu 4 .fin))))) rfl rfl ?_
  refine sp 19 (.int .i64 x20) rfl rfl (r_move rfl) ?_
  obtain ⟨p22, e23, e24, e25, H⟩ := H
  obtain ⟨q26, e27⟩ : ∃ q : Addr, q = Addr.add p22 (Int.toNat x20 * 1) := ⟨_, rfl⟩
  rw [← e27] at H
  refine sp 20 (.pointer (some q26)) rfl rfl (fun w => (r_indexAddr Tryz.underlying113 Tryz.sizeOf108 rfl rfl e23 e24 e25 w).trans (by rw [e27])) ?_
  obtain ⟨x28, e29, H⟩ := H
  refine sl 21 (.pointer x28) rfl rfl (fun dr => r_load1 Tryz.isAgg108 rfl e29) ?_
  refine sp 8 (.int .i64 x20) rfl rfl (r_assign rfl) ?_
  refine sp 9 (.pointer x28) rfl rfl (r_assign rfl) ?_
  refine s_fin ?_
  refine W_seq ?_
  refine W_set ?_
  intro N32 eN32
  have H := H (fun (p30 : Addr) (h4 : Heap) => ∀ b, N32 [] (mkE [(0, p1), (2, (Sl.v l7)), (4, (.pointer (some p8))), (7, (.pointer (some p11))), (8, (.int .i64 x20)), (10, (.pointer (some p30))), (15, (Sl.v s14)), (16, (.int .i64 ((s14.len : Int)))), (17, (.int .i64 x20))] b) h4) (by
   intro p30 h4 H b
   rw [eN32]
   show W _ _ _ _ _ _ _ _
   refine W_seq ?_
   refine W_seq ?_
   refine W_region (.pu 0 (.rl 1 (.ef 2 [] .fin .no))) rfl rfl ?_
   refine sp 28 p1 rfl rfl (r_move rfl) ?_
   obtain ⟨x33, e34, H⟩ := H
   obtain ⟨x35, e36, H⟩ := H
   obtain ⟨x37, e38, H⟩ := H
   obtain ⟨x39, e40, H⟩ := H
   obtain ⟨x41, e42, H⟩ := H
   refine sl 29 (.agg #[(.int .i64 x33), (.int .i64 x35), (.int .i64 x37), (.int .i64 x39), (.int .i64 x41)]) rfl rfl (fun dr => r_loadN Tryz.isAgg66 Tryz.sizeOf66 (vs := [(.int .i64 x33), (.int .i64 x35), (.int .i64 x37), (.int .i64 x39), (.int .i64 x41)]) rfl rfl ⟨e34, e36, e38, e40, e42, trivial⟩) ?_
   refine s_ef (d := some 30) rfl rfl rfl (fun dr => r_callV rfl rfl H) ?_ trivial
   rintro _ h5 ⟨y43, rfl, H⟩
   refine ⟨trivial, ?_⟩
   refine s_fin ?_
   refine W_if y43 rfl (fun g78 => ?_) (fun g78 => ?_)
   ·have H := H.1 g78
    refine W_seq ?_
    refine W_draw [0, 0, 1, 7] (.pu 0 (.rd 1 (.pu 2 (.ef 3 [1] .fin .no)))) (by kernel_rfl) (by kernel_rfl) ?_
    refine sp 31 (.int .i64 x20) rfl rfl (r_move rfl) ?_
    obtain ⟨x44, e45, H⟩ := H
    obtain ⟨x46, e47, H⟩ := H
    obtain ⟨x48, e49, H⟩ := H
    obtain ⟨x50, e51, H⟩ := H
    obtain ⟨x52, e53, H⟩ := H
    refine s_rd (d := some 32) (v := (.agg #[(.int .i64 x44), (.int .i64 x46), (.int .i64 x48), (.int .i64 x50), (.int .i64 x52)])) rfl rfl rfl (fun dr => r_loadN Tryz.isAgg66 Tryz.sizeOf66 (vs := [(.int .i64 x44), (.int .i64 x46), (.int .i64 x48), (.int .i64 x50), (.int .i64 x52)]) rfl rfl ⟨e45, e47, e49, e51, e53, trivial⟩) ?_
    refine sp 6 (.int .i64 x20) rfl rfl (r_assign rfl) ?_
    obtain ⟨e55, H⟩ := H
    obtain ⟨h6, e54⟩ : ∃ hh : Heap, hh = hsets h5 p11 0 [(.int .i64 x44), (.int .i64 x46), (.int .i64 x48), (.int .i64 x50), (.int .i64 x52)] := ⟨_, rfl⟩
    have H := H h6 e54
    refine s_st (d := none) (h' := h6) rfl rfl rfl (fun dr => (r_store (v := (.agg #[(.int .i64 x44), (.int .i64 x46), (.int .i64 x48), (.int .i64 x50), (.int .i64 x52)])) Tryz.sizeOf66 rfl rfl rfl (one_all rfl) e55).trans (by rw [e54]; rfl)) ⟨trivial, trivial⟩ ?_ trivial
    refine s_fin ?_
    refine W_ret ?_
    obtain ⟨x56, e57, H⟩ := H
    obtain ⟨x58, e59, H⟩ := H
    obtain ⟨x60, e61, H⟩ := H
    obtain ⟨x62, e63, H⟩ := H
    obtain ⟨x64, e65, H⟩ := H
    exact ⟨[(.int .i64 x20), (.agg #[(.int .i64 x56), (.int .i64 x58), (.int .i64 x60), (.int .i64 x62), (.int .i64 x64)])], ⟨_, _, rfl, rfl, ⟨_, _, _, rfl, rfl, fun dr => run_loadVarN Tryz.isAgg66 Tryz.sizeOf66 (vs := [(.int .i64 x56), (.int .i64 x58), (.int .i64 x60), (.int .i64 x62), (.int .i64 x64)]) rfl ⟨e57, e59, e61, e63, e65, trivial⟩, rfl⟩⟩, x20, x56, x58, x60, x62, x64, rfl, H⟩
   ·have H := H.2 g78
    refine W_skip ?_
    show W _ _ _ _ _ _ _ _
    refine W_region (.rl 0 (.ef 1 [] .fin .no)) rfl rfl ?_
    obtain ⟨x66, e67, H⟩ := H
    obtain ⟨x68, e69, H⟩ := H
    obtain ⟨x70, e71, H⟩ := H
    obtain ⟨x72, e73, H⟩ := H
    obtain ⟨x74, e75, H⟩ := H
    refine sl 33 (.agg #[(.int .i64 x66), (.int .i64 x68), (.int .i64 x70), (.int .i64 x72), (.int .i64 x74)]) rfl rfl (fun dr => r_loadN Tryz.isAgg66 Tryz.sizeOf66 (vs := [(.int .i64 x66), (.int .i64 x68), (.int .i64 x70), (.int .i64 x72), (.int .i64 x74)]) rfl rfl ⟨e67, e69, e71, e73, e75, trivial⟩) ?_
    obtain ⟨e77, H⟩ := H
    obtain ⟨h7, e76⟩ : ∃ hh : Heap, hh = hsets h5 p8 0 [(.int .i64 x66), (.int .i64 x68), (.int .i64 x70), (.int .i64 x72), (.int .i64 x74)] := ⟨_, rfl⟩
    have H := H h7 e76
    refine s_st (d := none) (h' := h7) rfl rfl rfl (fun dr => (r_store (v := (.agg #[(.int .i64 x66), (.int .i64 x68), (.int .i64 x70), (.int .i64 x72), (.int .i64 x74)])) Tryz.sizeOf66 rfl rfl rfl (one_all rfl) e77).trans (by rw [e76]; rfl)) trivial ?_ trivial
    refine s_fin ?_
    refine W_region (.pu 0 (.pu 1 .fin)) rfl rfl ?_
    refine sp 34 (.int .i64 (w64 (x20 + 1))) rfl rfl (r_add rfl rfl) ?_
    refine sp 17 (.int .i64 (w64 (x20 + 1))) rfl rfl (r_move rfl) ?_
    refine s_fin ?_
    exact WL_mk (l := [(0, p1), (2, (Sl.v l7)), (4, (.pointer (some p8))), (7, (.pointer (some p11))), (15, (Sl.v s14)), (16, (.int .i64 ((s14.len : Int)))), (17, (.int .i64 (w64 (x20 + 1))))]) H ⟨rfl, rfl, rfl, rfl, rfl, rfl, rfl, trivial⟩)
  clear eN32
  refine W_draw [0, 0, 2, 6, 14, 31, 0, 127] (.rd 0 (.pu 1 (.pu 2 (.pu 3 (.rd 4 (.ef 5 [0, 4] (.ef 6 [] (.ef 7 [0, 4] .fin .no) .no) (.ef 6 [] (.ef 5 [0, 4] (.ef 7 [0, 4] .fin .no) .no) .no))))))) (by kernel_rfl) (by kernel_rfl) ?_
  obtain ⟨x80, e81, H⟩ := H
  obtain ⟨x82, e83, H⟩ := H
  obtain ⟨x84, e85, H⟩ := H
  obtain ⟨x86, e87, H⟩ := H
  obtain ⟨x88, e89, H⟩ := H
  refine s_rd (d := some 22) (v := (.agg #[(.int .i64 x80), (.int .i64 x82), (.int .i64 x84), (.int .i64 x86), (.int .i64 x88)])) rfl rfl rfl (fun dr => r_loadN Tryz.isAgg66 Tryz.sizeOf66 (vs := [(.int .i64 x80), (.int .i64 x82), (.int .i64 x84), (.int .i64 x86), (.int .i64 x88)]) rfl rfl ⟨e81, e83, e85, e87, e89, trivial⟩) ?_
  refine sp 23 (.pointer x28) rfl rfl (r_move rfl) ?_
  obtain ⟨p90, e91, H⟩ := H
  refine sp 24 (.pointer (some p90)) rfl rfl (r_nilCheck rfl e91) ?_
  refine sp 25 (.pointer (some (Addr.add p90 0))) rfl rfl (r_fieldAddr Tryz.underlying115 Tryz.sizeOf66 rfl rfl rfl) ?_
  obtain ⟨x92, e93, H⟩ := H
  obtain ⟨x94, e95, H⟩ := H
  obtain ⟨x96, e97, H⟩ := H
  obtain ⟨x98, e99, H⟩ := H
  obtain ⟨x100, e101, H⟩ := H
  refine s_rd (d := some 26) (v := (.agg #[(.int .i64 x92), (.int .i64 x94), (.int .i64 x96), (.int .i64 x98), (.int .i64 x100)])) rfl rfl rfl (fun dr => r_loadN Tryz.isAgg66 Tryz.sizeOf66 (vs := [(.int .i64 x92), (.int .i64 x94), (.int .i64 x96), (.int .i64 x98), (.int .i64 x100)]) rfl rfl ⟨e93, e95, e97, e99, e101, trivial⟩) ?_
  refine s_or ?_ ?_
  ·have H := H.1
   refine s_ef (d := some 27) rfl rfl rfl (fun dr => r_call Tryz.call119 rfl rfl H) ?_ trivial
   rintro _ h8 ⟨y102, y103, y104, y105, y106, rfl, H⟩
   refine ⟨⟨trivial, trivial, trivial⟩, ?_⟩
   obtain ⟨p107, e108⟩ : ∃ p : Addr, p = ⟨h8.size, 0, none⟩ := ⟨_, rfl⟩
   obtain ⟨h9, e109⟩ : ∃ hh : Heap, hh = h8.push (.cells #[(.int .i64 0), (.int .i64 0), (.int .i64 0), (.int .i64 0), (.int .i64 0)] 66) := ⟨_, rfl⟩
   have H := H p107 h9 e108 e109
   obtain ⟨e110, H⟩ := H
   obtain ⟨e111, H⟩ := H
   obtain ⟨e112, H⟩ := H
   obtain ⟨e113, H⟩ := H
   obtain ⟨e114, H⟩ := H
   obtain ⟨e115, H⟩ := H
   obtain ⟨e116, H⟩ := H
   obtain ⟨e117, H⟩ := H
   obtain ⟨e118, H⟩ := H
   obtain ⟨e119, H⟩ := H
   refine s_ef1 (d := some 10) (v := (.pointer (some p107))) (h' := h9) rfl rfl rfl (fun dr => (r_alloc Tryz.zeroValue66).trans (by rw [e108, e109]; rfl)) ⟨(.inl ⟨rfl, fun dr => r_loadN Tryz.isAgg66 Tryz.sizeOf66 (vs := [(.int .i64 x92), (.int .i64 x94), (.int .i64 x96), (.int .i64 x98), (.int .i64 x100)]) rfl rfl ⟨e110, e111, e112, e113, e114, trivial⟩⟩), (.inl ⟨rfl, fun dr => r_loadN Tryz.isAgg66 Tryz.sizeOf66 (vs := [(.int .i64 x80), (.int .i64 x82), (.int .i64 x84), (.int .i64 x86), (.int .i64 x88)]) rfl rfl ⟨e115, e116, e117, e118, e119, trivial⟩⟩), trivial⟩ ?_ trivial
   obtain ⟨e121, H⟩ := H
   obtain ⟨h10, e120⟩ : ∃ hh : Heap, hh = hsets h9 p107 0 [(.int .i64 y102), (.int .i64 y103), (.int .i64 y104), (.int .i64 y105), (.int .i64 y106)] := ⟨_, rfl⟩
   have H := H h10 e120
   refine s_st (d := none) (h' := h10) rfl rfl rfl (fun dr => (r_store (v := (.agg #[(.int .i64 y102), (.int .i64 y103), (.int .i64 y104), (.int .i64 y105), (.int .i64 y106)])) Tryz.sizeOf66 rfl rfl rfl (one_all rfl) e121).trans (by rw [e120]; rfl)) ⟨trivial, trivial, trivial⟩ ?_ trivial
   refine s_fin ?_
   exact N_mk (l := [(0, p1), (2, (Sl.v l7)), (4, (.pointer (some p8))), (7, (.pointer (some p11))), (8, (.int .i64 x20)), (10, (.pointer (some p107))), (15, (Sl.v s14)), (16, (.int .i64 ((s14.len : Int)))), (17, (.int .i64 x20))]) H ⟨rfl, rfl, rfl, rfl, rfl, rfl, rfl, rfl, rfl, trivial⟩
  ·have H := H.2
   obtain ⟨p122, e123⟩ : ∃ p : Addr, p = ⟨h3.size, 0, none⟩ := ⟨_, rfl⟩
   obtain ⟨h11, e124⟩ : ∃ hh : Heap, hh = h3.push (.cells #[(.int .i64 0), (.int .i64 0), (.int .i64 0), (.int .i64 0), (.int .i64 0)] 66) := ⟨_, rfl⟩
   have H := H p122 h11 e123 e124
   obtain ⟨e125, H⟩ := H
   obtain ⟨e126, H⟩ := H
   obtain ⟨e127, H⟩ := H
   obtain ⟨e128, H⟩ := H
   obtain ⟨e129, H⟩ := H
   obtain ⟨e130, H⟩ := H
   obtain ⟨e131, H⟩ := H
   obtain ⟨e132, H⟩ := H
   obtain ⟨e133, H⟩ := H
   obtain ⟨e134, H⟩ := H
   refine s_ef1 (d := some 10) (v := (.pointer (some p122))) (h' := h11) rfl rfl rfl (fun dr => (r_alloc Tryz.zeroValue66).trans (by rw [e123, e124]; rfl)) ⟨(.inl ⟨rfl, fun dr => r_loadN Tryz.isAgg66 Tryz.sizeOf66 (vs := [(.int .i64 x92), (.int .i64 x94), (.int .i64 x96), (.int .i64 x98), (.int .i64 x100)]) rfl rfl ⟨e125, e126, e127, e128, e129, trivial⟩⟩), (.inl ⟨rfl, fun dr => r_loadN Tryz.isAgg66 Tryz.sizeOf66 (vs := [(.int .i64 x80), (.int .i64 x82), (.int .i64 x84), (.int .i64 x86), (.int .i64 x88)]) rfl rfl ⟨e130, e131, e132, e133, e134, trivial⟩⟩), trivial⟩ ?_ trivial
   refine s_ef (d := some 27) rfl rfl rfl (fun dr => r_call Tryz.call119 rfl rfl H) ?_ trivial
   rintro _ h12 ⟨y135, y136, y137, y138, y139, rfl, H⟩
   refine ⟨⟨trivial, trivial, trivial⟩, ?_⟩
   obtain ⟨e141, H⟩ := H
   obtain ⟨h13, e140⟩ : ∃ hh : Heap, hh = hsets h12 p122 0 [(.int .i64 y135), (.int .i64 y136), (.int .i64 y137), (.int .i64 y138), (.int .i64 y139)] := ⟨_, rfl⟩
   have H := H h13 e140
   refine s_st (d := none) (h' := h13) rfl rfl rfl (fun dr => (r_store (v := (.agg #[(.int .i64 y135), (.int .i64 y136), (.int .i64 y137), (.int .i64 y138), (.int .i64 y139)])) Tryz.sizeOf66 rfl rfl rfl (one_all rfl) e141).trans (by rw [e140]; rfl)) ⟨trivial, trivial, trivial⟩ ?_ trivial
   refine s_fin ?_
   exact N_mk (l := [(0, p1), (2, (Sl.v l7)), (4, (.pointer (some p8))), (7, (.pointer (some p11))), (8, (.int .i64 x20)), (10, (.pointer (some p122))), (15, (Sl.v s14)), (16, (.int .i64 ((s14.len : Int)))), (17, (.int .i64 x20))]) H ⟨rfl, rfl, rfl, rfl, rfl, rfl, rfl, rfl, rfl, trivial⟩
 ·have H := H.2 g164
  refine W_exit (inX_here ?_)
  show W _ _ _ _ _ _ _ _
  refine W_seq ?_
  refine W_draw [0, 1, 3, 0, 7, 31] (.pu 0 (.pu 1 (.pu 2 (.rd 3 (.pu 4 (.ef 5 [3] .fin .no)))))) (by kernel_rfl) (by kernel_rfl) ?_
  refine sp 35 (Sl.v l7) rfl rfl (r_move rfl) ?_
  refine sp 36 (.int .i64 ((l7.len : Int))) rfl rfl (r_len Tryz.underlying113 rfl) ?_
  refine sp 37 (.int .i64 (w64 (((l7.len : Int)) - 1))) rfl rfl (r_sub rfl rfl) ?_
  obtain ⟨x142, e143, H⟩ := H
  obtain ⟨x144, e145, H⟩ := H
  obtain ⟨x146, e147, H⟩ := H
  obtain ⟨x148, e149, H⟩ := H
  obtain ⟨x150, e151, H⟩ := H
  refine s_rd (d := some 38) (v := (.agg #[(.int .i64 x142), (.int .i64 x144), (.int .i64 x146), (.int .i64 x148), (.int .i64 x150)])) rfl rfl rfl (fun dr => r_loadN Tryz.isAgg66 Tryz.sizeOf66 (vs := [(.int .i64 x142), (.int .i64 x144), (.int .i64 x146), (.int .i64 x148), (.int .i64 x150)]) rfl rfl ⟨e143, e145, e147, e149, e151, trivial⟩) ?_
  refine sp 6 (.int .i64 (w64 (((l7.len : Int)) - 1))) rfl rfl (r_assign rfl) ?_
  obtain ⟨e153, H⟩ := H
  obtain ⟨h14, e152⟩ : ∃ hh : Heap, hh = hsets h3 p11 0 [(.int .i64 x142), (.int .i64 x144), (.int .i64 x146), (.int .i64 x148), (.int .i64 x150)] := ⟨_, rfl⟩
  have H := H h14 e152
  refine s_st (d := none) (h' := h14) rfl rfl rfl (fun dr => (r_store (v := (.agg #[(.int .i64 x142), (.int .i64 x144), (.int .i64 x146), (.int .i64 x148), (.int .i64 x150)])) Tryz.sizeOf66 rfl rfl rfl (one_all rfl) e153).trans (by rw [e152]; rfl)) ⟨trivial, trivial⟩ ?_ trivial
  refine s_fin ?_
  refine W_ret ?_
  obtain ⟨x154, e155, H⟩ := H
  obtain ⟨x156, e157, H⟩ := H
  obtain ⟨x158, e159, H⟩ := H
  obtain ⟨x160, e161, H⟩ := H
  obtain ⟨x162, e163, H⟩ := H
  exact ⟨[(.int .i64 (w64 (((l7.len : Int)) - 1))), (.agg #[(.int .i64 x154), (.int .i64 x156), (.int .i64 x158), (.int .i64 x160), (.int .i64 x162)])], ⟨_, _, rfl, rfl, ⟨_, _, _, rfl, rfl, fun dr => run_loadVarN Tryz.isAgg66 Tryz.sizeOf66 (vs := [(.int .i64 x154), (.int .i64 x156), (.int .i64 x158), (.int .i64 x160), (.int .i64 x162)]) rfl ⟨e155, e157, e159, e161, e163, trivial⟩, rfl⟩⟩, (w64 (((l7.len : Int)) - 1)), x154, x156, x158, x160, x162, rfl, H⟩
def finger_asker_cut_F (r : World) (p1 : Value) (so2 : Int) (so3 : Int) (so4 : Int) (so5 : Int) (so6 : Int) (v7 : Option Addr) (h : Heap) (R : Option Addr → Option Addr → Option Addr → Heap → Prop) : Prop :=
 New h (.cells #[(.int .i64 so2), (.int .i64 so3), (.int .i64 so4), (.int .i64 so5), (.int .i64 so6)] 66) fun p8 h1 =>
 Ck v7 fun p11 =>
 LdS h1 (Addr.add p11 6) fun x13 =>
 Br (Option.isNone x13.a) (
  Ck v7 fun p15 =>
  LdS h1 (Addr.add p15 5) fun x17 =>
  Ix x17 0 1 fun q23 =>
  LdP h1 q23 fun x25 =>
  R none x25 none h1) (
  ∀ J28 : Addr → Heap → Prop, (∀ (p27 : Addr) (h2 : Heap),
   (LdI h2 (Addr.add p27 0) fun x30 =>
   LdI h2 (Addr.add p27 1) fun x32 =>
   LdI h2 (Addr.add p27 2) fun x34 =>
   LdI h2 (Addr.add p27 3) fun x36 =>
   LdI h2 (Addr.add p27 4) fun x38 =>
   CallV Tryz.prog r p1 [(.agg #[(.int .i64 x30), (.int .i64 x32), (.int .i64 x34), (.int .i64 x36), (.int .i64 x38)])] h2 fun v536 h3 => ∃ (y40 : Bool), v536 = (.bool y40) ∧
   Br y40 (
    ∀ J42 : Int → Heap → Prop, (∀ (i41 : Int) (h4 : Heap),
     (Ck v7 fun p44 =>
     LdS h4 (Addr.add p44 5) fun x46 =>
     Sub x46 0 i41 ((x46.cap : Int)) 1 fun s48 =>
     Ck v7 fun p54 =>
     LdS h4 (Addr.add p54 5) fun x56 =>
     Ix x56 i41 1 fun q62 =>
     LdP h4 q62 fun x64 =>
     Ck v7 fun p66 =>
     LdS h4 (Addr.add p66 5) fun x68 =>
     Sub x68 (w64 (i41 + 1)) ((x68.len : Int)) ((x68.cap : Int)) 1 fun s70 =>
     Ck v7 fun p76 =>
     LdP h4 (Addr.add p76 7) fun x78 =>
     Ck v7 fun p80 =>
     LdS h4 (Addr.add p80 6) fun x82 =>
     finger_some r s48 h4 fun y84 h5 =>
     (hcell h5 (Addr.add p80 6) = some (Sl.v x82)) ∧
     (hcell h5 (Addr.add p76 7) = some (.pointer x78)) ∧
     (hcell h5 (Addr.add p66 5) = some (Sl.v x68)) ∧
     (hcell h5 q62 = some (.pointer x64)) ∧
     (hcell h5 (Addr.add p54 5) = some (Sl.v x56)) ∧
     finger_deepLeft r s70 x78 x82 h5 fun y90 h6 =>
     (hcell h6 q62 = some (.pointer x64)) ∧
     (hcell h6 (Addr.add p54 5) = some (Sl.v x56)) ∧
     R y84 x64 y90 h6) →
     J42 i41 h4) →
    LdI h3 (Addr.add p8 0) fun x93 =>
    LdI h3 (Addr.add p8 1) fun x95 =>
    LdI h3 (Addr.add p8 2) fun x97 =>
    LdI h3 (Addr.add p8 3) fun x99 =>
    LdI h3 (Addr.add p8 4) fun x101 =>
    Ck v7 fun p103 =>
    LdS h3 (Addr.add p103 5) fun x105 =>
    (finger_asker_place r p1 x93 x95 x97 x99 x101 x105 h3 fun y107 y108 y109 y110 y111 y112 h7 =>
    New h7 (.cells #[(.int .i64 0), (.int .i64 0), (.int .i64 0), (.int .i64 0), (.int .i64 0)] 66) fun p113 h8 =>
    (hcell h8 (Addr.add p103 5) = some (Sl.v x105)) ∧
    (hcell h8 (Addr.add p8 0) = some (.int .i64 x93)) ∧
    (hcell h8 (Addr.add p8 1) = some (.int .i64 x95)) ∧
    (hcell h8 (Addr.add p8 2) = some (.int .i64 x97)) ∧
    (hcell h8 (Addr.add p8 3) = some (.int .i64 x99)) ∧
    (hcell h8 (Addr.add p8 4) = some (.int .i64 x101)) ∧
    St h8 p113 5 [(.int .i64 y108), (.int .i64 y109), (.int .i64 y110), (.int .i64 y111), (.int .i64 y112)] fun h9 =>
    J42 y107 h9) ∧
    (New h3 (.cells #[(.int .i64 0), (.int .i64 0), (.int .i64 0), (.int .i64 0), (.int .i64 0)] 66) fun p124 h10 =>
    (hcell h10 (Addr.add p103 5) = some (Sl.v x105)) ∧
    (hcell h10 (Addr.add p8 0) = some (.int .i64 x93)) ∧
    (hcell h10 (Addr.add p8 1) = some (.int .i64 x95)) ∧
    (hcell h10 (Addr.add p8 2) = some (.int .i64 x97)) ∧
    (hcell h10 (Addr.add p8 3) = some (.int .i64 x99)) ∧
    (hcell h10 (Addr.add p8 4) = some (.int .i64 x101)) ∧
    finger_asker_place r p1 x93 x95 x97 x99 x101 x105 h10 fun y133 y134 y135 y136 y137 y138 h11 =>
    St h11 p124 5 [(.int .i64 y134), (.int .i64 y135), (.int .i64 y136), (.int .i64 y137), (.int .i64 y138)] fun h12 =>
    J42 y133 h12)) (
    ∀ J142 : Addr → Heap → Prop, (∀ (p141 : Addr) (h13 : Heap),
     (∀ J145 : Bool → Heap → Prop, (∀ (x144 : Bool) (h14 : Heap),
      (Br x144 (
       LdI h14 (Addr.add p27 0) fun x147 =>
       LdI h14 (Addr.add p27 1) fun x149 =>
       LdI h14 (Addr.add p27 2) fun x151 =>
       LdI h14 (Addr.add p27 3) fun x153 =>
       LdI h14 (Addr.add p27 4) fun x155 =>
       Ck v7 fun p157 =>
       LdP h14 (Addr.add p157 7) fun x159 =>
       finger_asker_cut r p1 x147 x149 x151 x153 x155 x159 h14 fun y161 y162 y163 h15 =>
       ∀ J165 : Int → Heap → Prop, (∀ (i164 : Int) (h16 : Heap),
        (Ck v7 fun p167 =>
        LdS h16 (Addr.add p167 5) fun x169 =>
        Ck y162 fun p171 =>
        LdS h16 (Addr.add p171 6) fun x173 =>
        Sub x173 0 i164 ((x173.cap : Int)) 1 fun s175 =>
        Ck y162 fun p181 =>
        LdS h16 (Addr.add p181 6) fun x183 =>
        Ix x183 i164 1 fun q189 =>
        LdP h16 q189 fun x191 =>
        Ck y162 fun p193 =>
        LdS h16 (Addr.add p193 6) fun x195 =>
        Sub x195 (w64 (i164 + 1)) ((x195.len : Int)) ((x195.cap : Int)) 1 fun s197 =>
        Ck v7 fun p203 =>
        LdS h16 (Addr.add p203 6) fun x205 =>
        finger_deepRight r x169 y161 s175 h16 fun y207 h17 =>
        (hcell h17 (Addr.add p203 6) = some (Sl.v x205)) ∧
        (hcell h17 (Addr.add p193 6) = some (Sl.v x195)) ∧
        (hcell h17 q189 = some (.pointer x191)) ∧
        (hcell h17 (Addr.add p181 6) = some (Sl.v x183)) ∧
        finger_deepLeft r s197 y163 x205 h17 fun y212 h18 =>
        (hcell h18 q189 = some (.pointer x191)) ∧
        (hcell h18 (Addr.add p181 6) = some (Sl.v x183)) ∧
        R y207 x191 y212 h18) →
        J165 i164 h16) →
       LdI h15 (Addr.add p27 0) fun x215 =>
       LdI h15 (Addr.add p27 1) fun x217 =>
       LdI h15 (Addr.add p27 2) fun x219 =>
       LdI h15 (Addr.add p27 3) fun x221 =>
       LdI h15 (Addr.add p27 4) fun x223 =>
       Ck y162 fun p225 =>
       LdS h15 (Addr.add p225 6) fun x227 =>
       (finger_level_measure r y161 h15 fun y229 y230 y231 y232 y233 h19 =>
       (hcell h19 (Addr.add p225 6) = some (Sl.v x227)) ∧
       (hcell h19 (Addr.add p27 0) = some (.int .i64 x215)) ∧
       (hcell h19 (Addr.add p27 1) = some (.int .i64 x217)) ∧
       (hcell h19 (Addr.add p27 2) = some (.int .i64 x219)) ∧
       (hcell h19 (Addr.add p27 3) = some (.int .i64 x221)) ∧
       (hcell h19 (Addr.add p27 4) = some (.int .i64 x223)) ∧
       (mono_Join r x215 x217 x219 x221 x223 y229 y230 y231 y232 y233 h19 fun y240 y241 y242 y243 y244 h20 =>
       (hcell h20 (Addr.add p225 6) = some (Sl.v x227)) ∧
       (finger_asker_place r p1 y240 y241 y242 y243 y244 x227 h20 fun y246 y247 y248 y249 y250 y251 h21 =>
       New h21 (.cells #[(.int .i64 0), (.int .i64 0), (.int .i64 0), (.int .i64 0), (.int .i64 0)] 66) fun p252 h22 =>
       (hcell h22 (Addr.add p225 6) = some (Sl.v x227)) ∧
       (hcell h22 (Addr.add p27 0) = some (.int .i64 x215)) ∧
       (hcell h22 (Addr.add p27 1) = some (.int .i64 x217)) ∧
       (hcell h22 (Addr.add p27 2) = some (.int .i64 x219)) ∧
       (hcell h22 (Addr.add p27 3) = some (.int .i64 x221)) ∧
       (hcell h22 (Addr.add p27 4) = some (.int .i64 x223)) ∧
       St h22 p252 5 [(.int .i64 y247), (.int .i64 y248), (.int .i64 y249), (.int .i64 y250), (.int .i64 y251)] fun h23 =>
       J165 y246 h23) ∧
       (New h20 (.cells #[(.int .i64 0), (.int .i64 0), (.int .i64 0), (.int .i64 0), (.int .i64 0)] 66) fun p263 h24 =>
       (hcell h24 (Addr.add p225 6) = some (Sl.v x227)) ∧
       (hcell h24 (Addr.add p27 0) = some (.int .i64 x215)) ∧
       (hcell h24 (Addr.add p27 1) = some (.int .i64 x217)) ∧
       (hcell h24 (Addr.add p27 2) = some (.int .i64 x219)) ∧
       (hcell h24 (Addr.add p27 3) = some (.int .i64 x221)) ∧
       (hcell h24 (Addr.add p27 4) = some (.int .i64 x223)) ∧
       finger_asker_place r p1 y240 y241 y242 y243 y244 x227 h24 fun y272 y273 y274 y275 y276 y277 h25 =>
       St h25 p263 5 [(.int .i64 y273), (.int .i64 y274), (.int .i64 y275), (.int .i64 y276), (.int .i64 y277)] fun h26 =>
       J165 y272 h26)) ∧
       (New h19 (.cells #[(.int .i64 0), (.int .i64 0), (.int .i64 0), (.int .i64 0), (.int .i64 0)] 66) fun p280 h27 =>
       (hcell h27 (Addr.add p225 6) = some (Sl.v x227)) ∧
       (hcell h27 (Addr.add p27 0) = some (.int .i64 x215)) ∧
       (hcell h27 (Addr.add p27 1) = some (.int .i64 x217)) ∧
       (hcell h27 (Addr.add p27 2) = some (.int .i64 x219)) ∧
       (hcell h27 (Addr.add p27 3) = some (.int .i64 x221)) ∧
       (hcell h27 (Addr.add p27 4) = some (.int .i64 x223)) ∧
       mono_Join r x215 x217 x219 x221 x223 y229 y230 y231 y232 y233 h27 fun y289 y290 y291 y292 y293 h28 =>
       (hcell h28 (Addr.add p225 6) = some (Sl.v x227)) ∧
       finger_asker_place r p1 y289 y290 y291 y292 y293 x227 h28 fun y295 y296 y297 y298 y299 y300 h29 =>
       St h29 p280 5 [(.int .i64 y296), (.int .i64 y297), (.int .i64 y298), (.int .i64 y299), (.int .i64 y300)] fun h30 =>
       J165 y295 h30)) ∧
       (New h15 (.cells #[(.int .i64 0), (.int .i64 0), (.int .i64 0), (.int .i64 0), (.int .i64 0)] 66) fun p303 h31 =>
       (hcell h31 (Addr.add p225 6) = some (Sl.v x227)) ∧
       (hcell h31 (Addr.add p27 0) = some (.int .i64 x215)) ∧
       (hcell h31 (Addr.add p27 1) = some (.int .i64 x217)) ∧
       (hcell h31 (Addr.add p27 2) = some (.int .i64 x219)) ∧
       (hcell h31 (Addr.add p27 3) = some (.int .i64 x221)) ∧
       (hcell h31 (Addr.add p27 4) = some (.int .i64 x223)) ∧
       finger_level_measure r y161 h31 fun y312 y313 y314 y315 y316 h32 =>
       (hcell h32 (Addr.add p225 6) = some (Sl.v x227)) ∧
       (hcell h32 (Addr.add p27 0) = some (.int .i64 x215)) ∧
       (hcell h32 (Addr.add p27 1) = some (.int .i64 x217)) ∧
       (hcell h32 (Addr.add p27 2) = some (.int .i64 x219)) ∧
       (hcell h32 (Addr.add p27 3) = some (.int .i64 x221)) ∧
       (hcell h32 (Addr.add p27 4) = some (.int .i64 x223)) ∧
       mono_Join r x215 x217 x219 x221 x223 y312 y313 y314 y315 y316 h32 fun y323 y324 y325 y326 y327 h33 =>
       (hcell h33 (Addr.add p225 6) = some (Sl.v x227)) ∧
       finger_asker_place r p1 y323 y324 y325 y326 y327 x227 h33 fun y329 y330 y331 y332 y333 y334 h34 =>
       St h34 p303 5 [(.int .i64 y330), (.int .i64 y331), (.int .i64 y332), (.int .i64 y333), (.int .i64 y334)] fun h35 =>
       J165 y329 h35)) (
       ∀ J338 : Int → Heap → Prop, (∀ (i337 : Int) (h36 : Heap),
        (Ck v7 fun p340 =>
        LdS h36 (Addr.add p340 5) fun x342 =>
        Ck v7 fun p344 =>
        LdP h36 (Addr.add p344 7) fun x346 =>
        Ck v7 fun p348 =>
        LdS h36 (Addr.add p348 6) fun x350 =>
        Sub x350 0 i337 ((x350.cap : Int)) 1 fun s352 =>
        Ck v7 fun p358 =>
        LdS h36 (Addr.add p358 6) fun x360 =>
        Ix x360 i337 1 fun q366 =>
        LdP h36 q366 fun x368 =>
        Ck v7 fun p370 =>
        LdS h36 (Addr.add p370 6) fun x372 =>
        Sub x372 (w64 (i337 + 1)) ((x372.len : Int)) ((x372.cap : Int)) 1 fun s374 =>
        finger_deepRight r x342 x346 s352 h36 fun y380 h37 =>
        (hcell h37 (Addr.add p370 6) = some (Sl.v x372)) ∧
        (hcell h37 q366 = some (.pointer x368)) ∧
        (hcell h37 (Addr.add p358 6) = some (Sl.v x360)) ∧
        finger_some r s374 h37 fun y384 h38 =>
        (hcell h38 q366 = some (.pointer x368)) ∧
        (hcell h38 (Addr.add p358 6) = some (Sl.v x360)) ∧
        R y380 x368 y384 h38) →
        J338 i337 h36) →
       LdI h14 (Addr.add p141 0) fun x387 =>
       LdI h14 (Addr.add p141 1) fun x389 =>
       LdI h14 (Addr.add p141 2) fun x391 =>
       LdI h14 (Addr.add p141 3) fun x393 =>
       LdI h14 (Addr.add p141 4) fun x395 =>
       Ck v7 fun p397 =>
       LdS h14 (Addr.add p397 6) fun x399 =>
       (finger_asker_place r p1 x387 x389 x391 x393 x395 x399 h14 fun y401 y402 y403 y404 y405 y406 h39 =>
       New h39 (.cells #[(.int .i64 0), (.int .i64 0), (.int .i64 0), (.int .i64 0), (.int .i64 0)] 66) fun p407 h40 =>
       (hcell h40 (Addr.add p397 6) = some (Sl.v x399)) ∧
       (hcell h40 (Addr.add p141 0) = some (.int .i64 x387)) ∧
       (hcell h40 (Addr.add p141 1) = some (.int .i64 x389)) ∧
       (hcell h40 (Addr.add p141 2) = some (.int .i64 x391)) ∧
       (hcell h40 (Addr.add p141 3) = some (.int .i64 x393)) ∧
       (hcell h40 (Addr.add p141 4) = some (.int .i64 x395)) ∧
       St h40 p407 5 [(.int .i64 y402), (.int .i64 y403), (.int .i64 y404), (.int .i64 y405), (.int .i64 y406)] fun h41 =>
       J338 y401 h41) ∧
       (New h14 (.cells #[(.int .i64 0), (.int .i64 0), (.int .i64 0), (.int .i64 0), (.int .i64 0)] 66) fun p418 h42 =>
       (hcell h42 (Addr.add p397 6) = some (Sl.v x399)) ∧
       (hcell h42 (Addr.add p141 0) = some (.int .i64 x387)) ∧
       (hcell h42 (Addr.add p141 1) = some (.int .i64 x389)) ∧
       (hcell h42 (Addr.add p141 2) = some (.int .i64 x391)) ∧
       (hcell h42 (Addr.add p141 3) = some (.int .i64 x393)) ∧
       (hcell h42 (Addr.add p141 4) = some (.int .i64 x395)) ∧
       finger_asker_place r p1 x387 x389 x391 x393 x395 x399 h42 fun y427 y428 y429 y430 y431 y432 h43 =>
       St h43 p418 5 [(.int .i64 y428), (.int .i64 y429), (.int .i64 y430), (.int .i64 y431), (.int .i64 y432)] fun h44 =>
       J338 y427 h44))) →
      J145 x144 h14) →
     Ck v7 fun p436 =>
     LdP h13 (Addr.add p436 7) fun x438 =>
     Br (!(Option.isNone x438)) (
      LdI h13 (Addr.add p141 0) fun x441 =>
      LdI h13 (Addr.add p141 1) fun x443 =>
      LdI h13 (Addr.add p141 2) fun x445 =>
      LdI h13 (Addr.add p141 3) fun x447 =>
      LdI h13 (Addr.add p141 4) fun x449 =>
      CallV Tryz.prog r p1 [(.agg #[(.int .i64 x441), (.int .i64 x443), (.int .i64 x445), (.int .i64 x447), (.int .i64 x449)])] h13 fun v452 h45 => ∃ (y451 : Bool), v452 = (.bool y451) ∧
      J145 y451 h45) (
      J145 false h13)) →
     J142 p141 h13) →
    LdI h3 (Addr.add p27 0) fun x453 =>
    LdI h3 (Addr.add p27 1) fun x455 =>
    LdI h3 (Addr.add p27 2) fun x457 =>
    LdI h3 (Addr.add p27 3) fun x459 =>
    LdI h3 (Addr.add p27 4) fun x461 =>
    Ck v7 fun p463 =>
    LdP h3 (Addr.add p463 7) fun x465 =>
    (finger_level_measure r x465 h3 fun y467 y468 y469 y470 y471 h46 =>
    (hcell h46 (Addr.add p27 0) = some (.int .i64 x453)) ∧
    (hcell h46 (Addr.add p27 1) = some (.int .i64 x455)) ∧
    (hcell h46 (Addr.add p27 2) = some (.int .i64 x457)) ∧
    (hcell h46 (Addr.add p27 3) = some (.int .i64 x459)) ∧
    (hcell h46 (Addr.add p27 4) = some (.int .i64 x461)) ∧
    (mono_Join r x453 x455 x457 x459 x461 y467 y468 y469 y470 y471 h46 fun y477 y478 y479 y480 y481 h47 =>
    New h47 (.cells #[(.int .i64 0), (.int .i64 0), (.int .i64 0), (.int .i64 0), (.int .i64 0)] 66) fun p482 h48 =>
    (hcell h48 (Addr.add p463 7) = some (.pointer x465)) ∧
    (hcell h48 (Addr.add p27 0) = some (.int .i64 x453)) ∧
    (hcell h48 (Addr.add p27 1) = some (.int .i64 x455)) ∧
    (hcell h48 (Addr.add p27 2) = some (.int .i64 x457)) ∧
    (hcell h48 (Addr.add p27 3) = some (.int .i64 x459)) ∧
    (hcell h48 (Addr.add p27 4) = some (.int .i64 x461)) ∧
    St h48 p482 5 [(.int .i64 y477), (.int .i64 y478), (.int .i64 y479), (.int .i64 y480), (.int .i64 y481)] fun h49 =>
    J142 p482 h49) ∧
    (New h46 (.cells #[(.int .i64 0), (.int .i64 0), (.int .i64 0), (.int .i64 0), (.int .i64 0)] 66) fun p493 h50 =>
    (hcell h50 (Addr.add p463 7) = some (.pointer x465)) ∧
    (hcell h50 (Addr.add p27 0) = some (.int .i64 x453)) ∧
    (hcell h50 (Addr.add p27 1) = some (.int .i64 x455)) ∧
    (hcell h50 (Addr.add p27 2) = some (.int .i64 x457)) ∧
    (hcell h50 (Addr.add p27 3) = some (.int .i64 x459)) ∧
    (hcell h50 (Addr.add p27 4) = some (.int .i64 x461)) ∧
    mono_Join r x453 x455 x457 x459 x461 y467 y468 y469 y470 y471 h50 fun y502 y503 y504 y505 y506 h51 =>
    St h51 p493 5 [(.int .i64 y502), (.int .i64 y503), (.int .i64 y504), (.int .i64 y505), (.int .i64 y506)] fun h52 =>
    J142 p493 h52)) ∧
    (New h3 (.cells #[(.int .i64 0), (.int .i64 0), (.int .i64 0), (.int .i64 0), (.int .i64 0)] 66) fun p509 h53 =>
    (hcell h53 (Addr.add p463 7) = some (.pointer x465)) ∧
    (hcell h53 (Addr.add p27 0) = some (.int .i64 x453)) ∧
    (hcell h53 (Addr.add p27 1) = some (.int .i64 x455)) ∧
    (hcell h53 (Addr.add p27 2) = some (.int .i64 x457)) ∧
    (hcell h53 (Addr.add p27 3) = some (.int .i64 x459)) ∧
    (hcell h53 (Addr.add p27 4) = some (.int .i64 x461)) ∧
    finger_level_measure r x465 h53 fun y518 y519 y520 y521 y522 h54 =>
    (hcell h54 (Addr.add p27 0) = some (.int .i64 x453)) ∧
    (hcell h54 (Addr.add p27 1) = some (.int .i64 x455)) ∧
    (hcell h54 (Addr.add p27 2) = some (.int .i64 x457)) ∧
    (hcell h54 (Addr.add p27 3) = some (.int .i64 x459)) ∧
    (hcell h54 (Addr.add p27 4) = some (.int .i64 x461)) ∧
    mono_Join r x453 x455 x457 x459 x461 y518 y519 y520 y521 y522 h54 fun y528 y529 y530 y531 y532 h55 =>
    St h55 p509 5 [(.int .i64 y528), (.int .i64 y529), (.int .i64 y530), (.int .i64 y531), (.int .i64 y532)] fun h56 =>
    J142 p509 h56))) →
   J28 p27 h2) →
  LdI h1 (Addr.add p8 0) fun x537 =>
  LdI h1 (Addr.add p8 1) fun x539 =>
  LdI h1 (Addr.add p8 2) fun x541 =>
  LdI h1 (Addr.add p8 3) fun x543 =>
  LdI h1 (Addr.add p8 4) fun x545 =>
  Ck v7 fun p547 =>
  LdS h1 (Addr.add p547 5) fun x549 =>
  (finger_measured r x549 h1 fun y551 y552 y553 y554 y555 h57 =>
  (hcell h57 (Addr.add p8 0) = some (.int .i64 x537)) ∧
  (hcell h57 (Addr.add p8 1) = some (.int .i64 x539)) ∧
  (hcell h57 (Addr.add p8 2) = some (.int .i64 x541)) ∧
  (hcell h57 (Addr.add p8 3) = some (.int .i64 x543)) ∧
  (hcell h57 (Addr.add p8 4) = some (.int .i64 x545)) ∧
  (mono_Join r x537 x539 x541 x543 x545 y551 y552 y553 y554 y555 h57 fun y561 y562 y563 y564 y565 h58 =>
  New h58 (.cells #[(.int .i64 0), (.int .i64 0), (.int .i64 0), (.int .i64 0), (.int .i64 0)] 66) fun p566 h59 =>
  (hcell h59 (Addr.add p547 5) = some (Sl.v x549)) ∧
  (hcell h59 (Addr.add p8 0) = some (.int .i64 x537)) ∧
  (hcell h59 (Addr.add p8 1) = some (.int .i64 x539)) ∧
  (hcell h59 (Addr.add p8 2) = some (.int .i64 x541)) ∧
  (hcell h59 (Addr.add p8 3) = some (.int .i64 x543)) ∧
  (hcell h59 (Addr.add p8 4) = some (.int .i64 x545)) ∧
  St h59 p566 5 [(.int .i64 y561), (.int .i64 y562), (.int .i64 y563), (.int .i64 y564), (.int .i64 y565)] fun h60 =>
  J28 p566 h60) ∧
  (New h57 (.cells #[(.int .i64 0), (.int .i64 0), (.int .i64 0), (.int .i64 0), (.int .i64 0)] 66) fun p577 h61 =>
  (hcell h61 (Addr.add p547 5) = some (Sl.v x549)) ∧
  (hcell h61 (Addr.add p8 0) = some (.int .i64 x537)) ∧
  (hcell h61 (Addr.add p8 1) = some (.int .i64 x539)) ∧
  (hcell h61 (Addr.add p8 2) = some (.int .i64 x541)) ∧
  (hcell h61 (Addr.add p8 3) = some (.int .i64 x543)) ∧
  (hcell h61 (Addr.add p8 4) = some (.int .i64 x545)) ∧
  mono_Join r x537 x539 x541 x543 x545 y551 y552 y553 y554 y555 h61 fun y586 y587 y588 y589 y590 h62 =>
  St h62 p577 5 [(.int .i64 y586), (.int .i64 y587), (.int .i64 y588), (.int .i64 y589), (.int .i64 y590)] fun h63 =>
  J28 p577 h63)) ∧
  (New h1 (.cells #[(.int .i64 0), (.int .i64 0), (.int .i64 0), (.int .i64 0), (.int .i64 0)] 66) fun p593 h64 =>
  (hcell h64 (Addr.add p547 5) = some (Sl.v x549)) ∧
  (hcell h64 (Addr.add p8 0) = some (.int .i64 x537)) ∧
  (hcell h64 (Addr.add p8 1) = some (.int .i64 x539)) ∧
  (hcell h64 (Addr.add p8 2) = some (.int .i64 x541)) ∧
  (hcell h64 (Addr.add p8 3) = some (.int .i64 x543)) ∧
  (hcell h64 (Addr.add p8 4) = some (.int .i64 x545)) ∧
  finger_measured r x549 h64 fun y602 y603 y604 y605 y606 h65 =>
  (hcell h65 (Addr.add p8 0) = some (.int .i64 x537)) ∧
  (hcell h65 (Addr.add p8 1) = some (.int .i64 x539)) ∧
  (hcell h65 (Addr.add p8 2) = some (.int .i64 x541)) ∧
  (hcell h65 (Addr.add p8 3) = some (.int .i64 x543)) ∧
  (hcell h65 (Addr.add p8 4) = some (.int .i64 x545)) ∧
  mono_Join r x537 x539 x541 x543 x545 y602 y603 y604 y605 y606 h65 fun y612 y613 y614 y615 y616 h66 =>
  St h66 p593 5 [(.int .i64 y612), (.int .i64 y613), (.int .i64 y614), (.int .i64 y615), (.int .i64 y616)] fun h67 =>
  J28 p593 h67))
theorem finger_asker_cut_of {r : World} {p1 : Value} {so2 : Int} {so3 : Int} {so4 : Int} {so5 : Int} {so6 : Int} {v7 : Option Addr} {h : Heap} {R : Option Addr → Option Addr → Option Addr → Heap → Prop} (H : finger_asker_cut_F r p1 so2 so3 so4 so5 so6 v7 h R) : finger_asker_cut r p1 so2 so3 so4 so5 so6 v7 h R := by
 unfold finger_asker_cut_F at H
 refine calls_of 194 [.tmp 6, .tmp 7, .tmp 8] Tryz.func95 rfl rfl rfl rfl rfl ?_
 refine W_seq ?_
 refine W_region (.ef 0 [] (.pu 1 (.pu 2 (.pu 3 .fin))) .no) rfl rfl ?_
 obtain ⟨p8, e9⟩ : ∃ p : Addr, p = ⟨h.size, 0, none⟩ := ⟨_, rfl⟩
 obtain ⟨h1, e10⟩ : ∃ hh : Heap, hh = h.push (.cells #[(.int .i64 so2), (.int .i64 so3), (.int .i64 so4), (.int .i64 so5), (.int .i64 so6)] 66) := ⟨_, rfl⟩
 have H := H p8 h1 e9 e10
 refine s_ef1 (d := some 4) (v := (.pointer (some p8))) (h' := h1) rfl rfl rfl (fun dr => (r_box (v := (.agg #[(.int .i64 so2), (.int .i64 so3), (.int .i64 so4), (.int .i64 so5), (.int .i64 so6)])) rfl).trans (by rw [e9, e10]; rfl)) trivial ?_ trivial
 refine sp 6 (.pointer none) rfl rfl (r_assign rfl) ?_
 refine sp 7 (.pointer none) rfl rfl (r_assign rfl) ?_
 refine sp 8 (.pointer none) rfl rfl (r_assign rfl) ?_
 refine s_fin ?_
 refine W_seq ?_
 refine W_seq ?_
 refine W_region (.pu 0 (.pu 1 (.pu 2 (.rl 3 (.pu 4 .fin))))) rfl rfl ?_
 refine sp 20 (.pointer v7) rfl rfl (r_move rfl) ?_
 obtain ⟨p11, e12, H⟩ := H
 refine sp 21 (.pointer (some p11)) rfl rfl (r_nilCheck rfl e12) ?_
 refine sp 22 (.pointer (some (Addr.add p11 6))) rfl rfl (r_fieldAddr Tryz.underlying127 Tryz.sizeOf113 rfl rfl rfl) ?_
 obtain ⟨x13, e14, H⟩ := H
 refine sl 23 (Sl.v x13) rfl rfl (fun dr => r_load1 Tryz.isAgg113 rfl e14) ?_
 refine sp 24 (.bool (Option.isNone x13.a)) rfl rfl (r_nilS Tryz.underlying113 rfl rfl) ?_
 refine s_fin ?_
 refine W_if (Option.isNone x13.a) rfl (fun g619 => ?_) (fun g619 => ?_)
 ·have H := H.1 g619
  refine W_seq ?_
  refine W_draw [0, 1, 3, 7, 15, 31, 0, 127, 255] (.pu 0 (.pu 1 (.pu 2 (.rd 3 (.pu 4 (.rd 5 (.pu 6 (.pu 7 (.pu 8 .fin))))))))) (by kernel_rfl) (by kernel_rfl) ?_
  refine sp 25 (.pointer v7) rfl rfl (r_move rfl) ?_
  obtain ⟨p15, e16, H⟩ := H
  refine sp 26 (.pointer (some p15)) rfl rfl (r_nilCheck rfl e16) ?_
  refine sp 27 (.pointer (some (Addr.add p15 5))) rfl rfl (r_fieldAddr Tryz.underlying127 Tryz.sizeOf113 rfl rfl rfl) ?_
  obtain ⟨x17, e18, H⟩ := H
  refine s_rd (d := some 28) (v := (Sl.v x17)) rfl rfl rfl (fun dr => r_load1 Tryz.isAgg113 rfl e18) ?_
  obtain ⟨p19, e20, e21, e22, H⟩ := H
  obtain ⟨q23, e24⟩ : ∃ q : Addr, q = Addr.add p19 (Int.toNat 0 * 1) := ⟨_, rfl⟩
  rw [← e24] at H
  refine sp 29 (.pointer (some q23)) rfl rfl (fun w => (r_indexAddr Tryz.underlying113 Tryz.sizeOf108 rfl rfl e20 e21 e22 w).trans (by rw [e24])) ?_
  obtain ⟨x25, e26, H⟩ := H
  refine s_rd (d := some 30) (v := (.pointer x25)) rfl rfl rfl (fun dr => r_load1 Tryz.isAgg108 rfl e26) ?_
  refine sp 6 (.pointer none) rfl rfl (r_assign rfl) ?_
  refine sp 7 (.pointer x25) rfl rfl (r_assign rfl) ?_
  refine sp 8 (.pointer none) rfl rfl (r_assign rfl) ?_
  refine s_fin ?_
  refine W_ret ?_
  exact ⟨[(.pointer none), (.pointer x25), (.pointer none)], ⟨_, _, rfl, rfl, ⟨_, _, rfl, rfl, ⟨_, _, rfl, rfl, rfl⟩⟩⟩, none, x25, none, rfl, H⟩
 ·have H := H.2 g619
  refine W_skip ?_
  show W _ _ _ _ _ _ _ _
  refine W_seq ?_
  refine W_set ?_
  intro N29 eN29
  have H := H (fun (p27 : Addr) (h2 : Heap) => ∀ b, N29 [] (mkE [(0, p1), (2, (.pointer v7)), (4, (.pointer (some p8))), (9, (.pointer (some p27)))] b) h2) (by
   intro p27 h2 H b
   rw [eN29]
   show W _ _ _ _ _ _ _ _
   refine W_seq ?_
   refine W_seq ?_
   refine W_region (.pu 0 (.rl 1 (.ef 2 [] .fin .no))) rfl rfl ?_
   refine sp 38 p1 rfl rfl (r_move rfl) ?_
   obtain ⟨x30, e31, H⟩ := H
   obtain ⟨x32, e33, H⟩ := H
   obtain ⟨x34, e35, H⟩ := H
   obtain ⟨x36, e37, H⟩ := H
   obtain ⟨x38, e39, H⟩ := H
   refine sl 39 (.agg #[(.int .i64 x30), (.int .i64 x32), (.int .i64 x34), (.int .i64 x36), (.int .i64 x38)]) rfl rfl (fun dr => r_loadN Tryz.isAgg66 Tryz.sizeOf66 (vs := [(.int .i64 x30), (.int .i64 x32), (.int .i64 x34), (.int .i64 x36), (.int .i64 x38)]) rfl rfl ⟨e31, e33, e35, e37, e39, trivial⟩) ?_
   refine s_ef (d := some 40) rfl rfl rfl (fun dr => r_callV rfl rfl H) ?_ trivial
   rintro _ h3 ⟨y40, rfl, H⟩
   refine ⟨trivial, ?_⟩
   refine s_fin ?_
   refine W_if y40 rfl (fun g535 => ?_) (fun g535 => ?_)
   ·have H := H.1 g535
    refine W_seq ?_
    refine W_set ?_
    intro N43 eN43
    have H := H (fun (i41 : Int) (h4 : Heap) => ∀ b, N43 [] (mkE [(2, (.pointer v7)), (10, (.int .i64 i41))] b) h4) (by
     intro i41 h4 H b
     rw [eN43]
     show W _ _ _ _ _ _ _ _
     refine W_seq ?_
     refine W_draw [0, 1, 3, 7, 0, 31, 63, 0, 128, 384, 896, 0, 3968, 8064, 0, 16384, 49152, 114688, 0, 262144, 1032192, 0, 2097152, 6291456, 14680064, 0, 33554432, 100663296, 234881024, 536854655, 1073725567, 2147483647, 4294967295] (.pu 0 (.pu 1 (.pu 2 (.rd 3 (.pu 4 (.pu 5 (.pu 7 (.pu 8 (.pu 9 (.rd 10 (.pu 11 (.pu 12 (.rd 13 (.pu 14 (.pu 15 (.pu 16 (.rd 17 (.pu 18 (.pu 19 (.pu 20 (.pu 21 (.pu 22 (.pu 23 (.rd 24 (.pu 25 (.pu 26 (.pu 27 (.rd 28 (.ef 6 [3] (.ef 29 [3, 17, 24, 28] (.pu 30 (.pu 31 (.pu 32 .fin))) .no) .no))))))))))))))))))))))))))))) (by kernel_rfl) (by kernel_rfl) ?_
     refine sp 51 (.pointer v7) rfl rfl (r_move rfl) ?_
     obtain ⟨p44, e45, H⟩ := H
     refine sp 52 (.pointer (some p44)) rfl rfl (r_nilCheck rfl e45) ?_
     refine sp 53 (.pointer (some (Addr.add p44 5))) rfl rfl (r_fieldAddr Tryz.underlying127 Tryz.sizeOf113 rfl rfl rfl) ?_
     obtain ⟨x46, e47, H⟩ := H
     refine s_rd (d := some 54) (v := (Sl.v x46)) rfl rfl rfl (fun dr => r_load1 Tryz.isAgg113 rfl e47) ?_
     refine sp 55 (.int .i64 i41) rfl rfl (r_move rfl) ?_
     obtain ⟨e49, e50, e51, e52, H⟩ := H
     obtain ⟨s48, e53⟩ : ∃ t : Sl, t = ⟨sliceA x46.a (Int.toNat ((x46.cap : Int))) (Int.toNat 0) 1, Int.toNat i41 - Int.toNat 0, Int.toNat ((x46.cap : Int)) - Int.toNat 0⟩ := ⟨_, rfl⟩
     have H := H s48 e53
     refine sp 56 (Sl.v s48) rfl rfl (fun w => (r_slice (lo := .none) (hi := (.some (.tmp 55))) (mx := .none) Tryz.underlying113 Tryz.sizeOf108 rfl ((x46.cap : Int)) i41 0 rfl ⟨_, rfl⟩ rfl e49 e50 (.inr e51) e52 w).trans (by rw [e53]; rfl)) ?_
     refine sp 58 (.pointer v7) rfl rfl (r_move rfl) ?_
     obtain ⟨p54, e55, H⟩ := H
     refine sp 59 (.pointer (some p54)) rfl rfl (r_nilCheck rfl e55) ?_
     refine sp 60 (.pointer (some (Addr.add p54 5))) rfl rfl (r_fieldAddr Tryz.underlying127 Tryz.sizeOf113 rfl rfl rfl) ?_
     obtain ⟨x56, e57, H⟩ := H
     refine s_rd (d := some 61) (v := (Sl.v x56)) rfl rfl rfl (fun dr => r_load1 Tryz.isAgg113 rfl e57) ?_
     refine sp 62 (.int .i64 i41) rfl rfl (r_move rfl) ?_
     obtain ⟨p58, e59, e60, e61, H⟩ := H
     obtain ⟨q62, e63⟩ : ∃ q : Addr, q = Addr.add p58 (Int.toNat i41 * 1) := ⟨_, rfl⟩
     rw [← e63] at H
     refine sp 63 (.pointer (some q62)) rfl rfl (fun w => (r_indexAddr Tryz.underlying113 Tryz.sizeOf108 rfl rfl e59 e60 e61 w).trans (by rw [e63])) ?_
     obtain ⟨x64, e65, H⟩ := H
     refine s_rd (d := some 64) (v := (.pointer x64)) rfl rfl rfl (fun dr => r_load1 Tryz.isAgg108 rfl e65) ?_
     refine sp 65 (.pointer v7) rfl rfl (r_move rfl) ?_
     obtain ⟨p66, e67, H⟩ := H
     refine sp 66 (.pointer (some p66)) rfl rfl (r_nilCheck rfl e67) ?_
     refine sp 67 (.pointer (some (Addr.add p66 5))) rfl rfl (r_fieldAddr Tryz.underlying127 Tryz.sizeOf113 rfl rfl rfl) ?_
     obtain ⟨x68, e69, H⟩ := H
     refine s_rd (d := some 68) (v := (Sl.v x68)) rfl rfl rfl (fun dr => r_load1 Tryz.isAgg113 rfl e69) ?_
     refine sp 69 (.int .i64 i41) rfl rfl (r_move rfl) ?_
     refine sp 70 (.int .i64 (w64 (i41 + 1))) rfl rfl (r_add rfl rfl) ?_
     obtain ⟨e71, e72, e73, e74, H⟩ := H
     obtain ⟨s70, e75⟩ : ∃ t : Sl, t = ⟨sliceA x68.a (Int.toNat ((x68.cap : Int))) (Int.toNat (w64 (i41 + 1))) 1, Int.toNat ((x68.len : Int)) - Int.toNat (w64 (i41 + 1)), Int.toNat ((x68.cap : Int)) - Int.toNat (w64 (i41 + 1))⟩ := ⟨_, rfl⟩
     have H := H s70 e75
     refine sp 71 (Sl.v s70) rfl rfl (fun w => (r_slice (lo := (.some (.tmp 70))) (hi := .none) (mx := .none) Tryz.underlying113 Tryz.sizeOf108 rfl ((x68.cap : Int)) ((x68.len : Int)) (w64 (i41 + 1)) rfl ⟨rfl, rfl⟩ ⟨_, rfl⟩ e71 e72 (.inl rfl) e74 w).trans (by rw [e75]; rfl)) ?_
     refine sp 72 (.pointer v7) rfl rfl (r_move rfl) ?_
     obtain ⟨p76, e77, H⟩ := H
     refine sp 73 (.pointer (some p76)) rfl rfl (r_nilCheck rfl e77) ?_
     refine sp 74 (.pointer (some (Addr.add p76 7))) rfl rfl (r_fieldAddr Tryz.underlying127 Tryz.sizeOf37 rfl rfl rfl) ?_
     obtain ⟨x78, e79, H⟩ := H
     refine s_rd (d := some 75) (v := (.pointer x78)) rfl rfl rfl (fun dr => r_load1 Tryz.isAgg37 rfl e79) ?_
     refine sp 76 (.pointer v7) rfl rfl (r_move rfl) ?_
     obtain ⟨p80, e81, H⟩ := H
     refine sp 77 (.pointer (some p80)) rfl rfl (r_nilCheck rfl e81) ?_
     refine sp 78 (.pointer (some (Addr.add p80 6))) rfl rfl (r_fieldAddr Tryz.underlying127 Tryz.sizeOf113 rfl rfl rfl) ?_
     obtain ⟨x82, e83, H⟩ := H
     refine s_rd (d := some 79) (v := (Sl.v x82)) rfl rfl rfl (fun dr => r_load1 Tryz.isAgg113 rfl e83) ?_
     refine s_ef (d := some 57) rfl rfl rfl (fun dr => r_call Tryz.call122 rfl rfl H) ?_ trivial
     rintro _ h5 ⟨y84, rfl, H⟩
     obtain ⟨e85, H⟩ := H
     obtain ⟨e86, H⟩ := H
     obtain ⟨e87, H⟩ := H
     obtain ⟨e88, H⟩ := H
     obtain ⟨e89, H⟩ := H
     refine ⟨⟨(.inl ⟨rfl, fun dr => r_load1 Tryz.isAgg113 rfl e85⟩), (.inl ⟨rfl, fun dr => r_load1 Tryz.isAgg37 rfl e86⟩), (.inl ⟨rfl, fun dr => r_load1 Tryz.isAgg113 rfl e87⟩), (.inl ⟨rfl, fun dr => r_load1 Tryz.isAgg108 rfl e88⟩), (.inl ⟨rfl, fun dr => r_load1 Tryz.isAgg113 rfl e89⟩), trivial, trivial⟩, ?_⟩
     refine s_ef (d := some 80) rfl rfl rfl (fun dr => r_call Tryz.call105 rfl rfl H) ?_ trivial
     rintro _ h6 ⟨y90, rfl, H⟩
     obtain ⟨e91, H⟩ := H
     obtain ⟨e92, H⟩ := H
     refine ⟨⟨trivial, trivial, trivial, (.inl ⟨rfl, fun dr => r_load1 Tryz.isAgg108 rfl e91⟩), (.inl ⟨rfl, fun dr => r_load1 Tryz.isAgg113 rfl e92⟩), trivial, trivial⟩, ?_⟩
     refine sp 6 (.pointer y84) rfl rfl (r_assign rfl) ?_
     refine sp 7 (.pointer x64) rfl rfl (r_assign rfl) ?_
     refine sp 8 (.pointer y90) rfl rfl (r_assign rfl) ?_
     refine s_fin ?_
     refine W_ret ?_
     exact ⟨[(.pointer y84), (.pointer x64), (.pointer y90)], ⟨_, _, rfl, rfl, ⟨_, _, rfl, rfl, ⟨_, _, rfl, rfl, rfl⟩⟩⟩, y84, x64, y90, rfl, H⟩)
    clear eN43
    refine W_draw [0, 0, 0, 4, 12, 28, 63, 127, 255, 255, 0, 1535, 4095] (.pu 0 (.rd 1 (.pu 2 (.pu 3 (.pu 4 (.rd 5 (.ef 6 [1, 5] (.pu 7 (.pu 8 (.pu 9 (.ef 10 [] (.pu 11 (.ef 12 [1, 5] .fin .no)) .no)))) (.ef 10 [] (.ef 6 [1, 5] (.pu 7 (.pu 8 (.pu 9 (.pu 11 (.ef 12 [1, 5] .fin .no))))) .no) .no)))))))) (by kernel_rfl) (by kernel_rfl) ?_
    refine sp 42 p1 rfl rfl (r_move rfl) ?_
    obtain ⟨x93, e94, H⟩ := H
    obtain ⟨x95, e96, H⟩ := H
    obtain ⟨x97, e98, H⟩ := H
    obtain ⟨x99, e100, H⟩ := H
    obtain ⟨x101, e102, H⟩ := H
    refine s_rd (d := some 43) (v := (.agg #[(.int .i64 x93), (.int .i64 x95), (.int .i64 x97), (.int .i64 x99), (.int .i64 x101)])) rfl rfl rfl (fun dr => r_loadN Tryz.isAgg66 Tryz.sizeOf66 (vs := [(.int .i64 x93), (.int .i64 x95), (.int .i64 x97), (.int .i64 x99), (.int .i64 x101)]) rfl rfl ⟨e94, e96, e98, e100, e102, trivial⟩) ?_
    refine sp 44 (.pointer v7) rfl rfl (r_move rfl) ?_
    obtain ⟨p103, e104, H⟩ := H
    refine sp 45 (.pointer (some p103)) rfl rfl (r_nilCheck rfl e104) ?_
    refine sp 46 (.pointer (some (Addr.add p103 5))) rfl rfl (r_fieldAddr Tryz.underlying127 Tryz.sizeOf113 rfl rfl rfl) ?_
    obtain ⟨x105, e106, H⟩ := H
    refine s_rd (d := some 47) (v := (Sl.v x105)) rfl rfl rfl (fun dr => r_load1 Tryz.isAgg113 rfl e106) ?_
    refine s_or ?_ ?_
    ·have H := H.1
     refine s_ef (d := some 48) rfl rfl rfl (fun dr => r_call Tryz.call121 rfl rfl H) ?_ trivial
     rintro _ h7 ⟨y107, y108, y109, y110, y111, y112, rfl, H⟩
     refine ⟨⟨trivial, trivial, trivial⟩, ?_⟩
     refine sp 41 (.tuple #[(.int .i64 y107), (.agg #[(.int .i64 y108), (.int .i64 y109), (.int .i64 y110), (.int .i64 y111), (.int .i64 y112)])]) rfl rfl (r_move rfl) ?_
     refine sp 49 (.int .i64 y107) rfl rfl (r_extract rfl rfl) ?_
     refine sp 50 (.agg #[(.int .i64 y108), (.int .i64 y109), (.int .i64 y110), (.int .i64 y111), (.int .i64 y112)]) rfl rfl (r_extract rfl rfl) ?_
     obtain ⟨p113, e114⟩ : ∃ p : Addr, p = ⟨h7.size, 0, none⟩ := ⟨_, rfl⟩
     obtain ⟨h8, e115⟩ : ∃ hh : Heap, hh = h7.push (.cells #[(.int .i64 0), (.int .i64 0), (.int .i64 0), (.int .i64 0), (.int .i64 0)] 66) := ⟨_, rfl⟩
     have H := H p113 h8 e114 e115
     obtain ⟨e116, H⟩ := H
     obtain ⟨e117, H⟩ := H
     obtain ⟨e118, H⟩ := H
     obtain ⟨e119, H⟩ := H
     obtain ⟨e120, H⟩ := H
     obtain ⟨e121, H⟩ := H
     refine s_ef1 (d := some 11) (v := (.pointer (some p113))) (h' := h8) rfl rfl rfl (fun dr => (r_alloc Tryz.zeroValue66).trans (by rw [e114, e115]; rfl)) ⟨(.inl ⟨rfl, fun dr => r_load1 Tryz.isAgg113 rfl e116⟩), (.inl ⟨rfl, fun dr => r_loadN Tryz.isAgg66 Tryz.sizeOf66 (vs := [(.int .i64 x93), (.int .i64 x95), (.int .i64 x97), (.int .i64 x99), (.int .i64 x101)]) rfl rfl ⟨e117, e118, e119, e120, e121, trivial⟩⟩), trivial⟩ ?_ trivial
     refine sp 10 (.int .i64 y107) rfl rfl (r_assign rfl) ?_
     obtain ⟨e123, H⟩ := H
     obtain ⟨h9, e122⟩ : ∃ hh : Heap, hh = hsets h8 p113 0 [(.int .i64 y108), (.int .i64 y109), (.int .i64 y110), (.int .i64 y111), (.int .i64 y112)] := ⟨_, rfl⟩
     have H := H h9 e122
     refine s_st (d := none) (h' := h9) rfl rfl rfl (fun dr => (r_store (v := (.agg #[(.int .i64 y108), (.int .i64 y109), (.int .i64 y110), (.int .i64 y111), (.int .i64 y112)])) Tryz.sizeOf66 rfl rfl rfl (one_all rfl) e123).trans (by rw [e122]; rfl)) ⟨trivial, trivial, trivial⟩ ?_ trivial
     refine s_fin ?_
     exact N_mk (l := [(2, (.pointer v7)), (10, (.int .i64 y107))]) H ⟨rfl, rfl, trivial⟩
    ·have H := H.2
     obtain ⟨p124, e125⟩ : ∃ p : Addr, p = ⟨h3.size, 0, none⟩ := ⟨_, rfl⟩
     obtain ⟨h10, e126⟩ : ∃ hh : Heap, hh = h3.push (.cells #[(.int .i64 0), (.int .i64 0), (.int .i64 0), (.int .i64 0), (.int .i64 0)] 66) := ⟨_, rfl⟩
     have H := H p124 h10 e125 e126
     obtain ⟨e127, H⟩ := H
     obtain ⟨e128, H⟩ := H
     obtain ⟨e129, H⟩ := H
     obtain ⟨e130, H⟩ := H
     obtain ⟨e131, H⟩ := H
     obtain ⟨e132, H⟩ := H
     refine s_ef1 (d := some 11) (v := (.pointer (some p124))) (h' := h10) rfl rfl rfl (fun dr => (r_alloc Tryz.zeroValue66).trans (by rw [e125, e126]; rfl)) ⟨(.inl ⟨rfl, fun dr => r_load1 Tryz.isAgg113 rfl e127⟩), (.inl ⟨rfl, fun dr => r_loadN Tryz.isAgg66 Tryz.sizeOf66 (vs := [(.int .i64 x93), (.int .i64 x95), (.int .i64 x97), (.int .i64 x99), (.int .i64 x101)]) rfl rfl ⟨e128, e129, e130, e131, e132, trivial⟩⟩), trivial⟩ ?_ trivial
     refine s_ef (d := some 48) rfl rfl rfl (fun dr => r_call Tryz.call121 rfl rfl H) ?_ trivial
     rintro _ h11 ⟨y133, y134, y135, y136, y137, y138, rfl, H⟩
     refine ⟨⟨trivial, trivial, trivial⟩, ?_⟩
     refine sp 41 (.tuple #[(.int .i64 y133), (.agg #[(.int .i64 y134), (.int .i64 y135), (.int .i64 y136), (.int .i64 y137), (.int .i64 y138)])]) rfl rfl (r_move rfl) ?_
     refine sp 49 (.int .i64 y133) rfl rfl (r_extract rfl rfl) ?_
     refine sp 50 (.agg #[(.int .i64 y134), (.int .i64 y135), (.int .i64 y136), (.int .i64 y137), (.int .i64 y138)]) rfl rfl (r_extract rfl rfl) ?_
     refine sp 10 (.int .i64 y133) rfl rfl (r_assign rfl) ?_
     obtain ⟨e140, H⟩ := H
     obtain ⟨h12, e139⟩ : ∃ hh : Heap, hh = hsets h11 p124 0 [(.int .i64 y134), (.int .i64 y135), (.int .i64 y136), (.int .i64 y137), (.int .i64 y138)] := ⟨_, rfl⟩
     have H := H h12 e139
     refine s_st (d := none) (h' := h12) rfl rfl rfl (fun dr => (r_store (v := (.agg #[(.int .i64 y134), (.int .i64 y135), (.int .i64 y136), (.int .i64 y137), (.int .i64 y138)])) Tryz.sizeOf66 rfl rfl rfl (one_all rfl) e140).trans (by rw [e139]; rfl)) ⟨trivial, trivial, trivial⟩ ?_ trivial
     refine s_fin ?_
     exact N_mk (l := [(2, (.pointer v7)), (10, (.int .i64 y133))]) H ⟨rfl, rfl, trivial⟩
   ·have H := H.2 g535
    refine W_skip ?_
    show W _ _ _ _ _ _ _ _
    refine W_seq ?_
    refine W_set ?_
    intro N143 eN143
    have H := H (fun (p141 : Addr) (h13 : Heap) => ∀ b, N143 [] (mkE [(0, p1), (2, (.pointer v7)), (9, (.pointer (some p27))), (12, (.pointer (some p141)))] b) h13) (by
     intro p141 h13 H b
     rw [eN143]
     show W _ _ _ _ _ _ _ _
     refine W_seq ?_
     refine W_seq ?_
     refine W_set ?_
     intro N146 eN146
     have H := H (fun (x144 : Bool) (h14 : Heap) => ∀ b, N146 [] (mkE [(0, p1), (2, (.pointer v7)), (9, (.pointer (some p27))), (12, (.pointer (some p141))), (97, (.bool x144))] b) h14) (by
      intro x144 h14 H b
      rw [eN146]
      show W _ _ _ _ _ _ _ _
      refine W_if x144 rfl (fun g435 => ?_) (fun g435 => ?_)
      ·have H := H.1 g435
       refine W_seq ?_
       refine W_draw [0, 0, 0, 4, 12, 28, 63, 127, 255, 255, 255, 511, 3071, 8191] (.pu 0 (.rd 1 (.pu 2 (.pu 3 (.pu 4 (.rd 5 (.ef 6 [1, 5] (.pu 7 (.pu 8 (.pu 9 (.pu 10 (.pu 11 (.pu 12 (.pu 13 .fin))))))) .no))))))) (by kernel_rfl) (by kernel_rfl) ?_
       refine sp 99 p1 rfl rfl (r_move rfl) ?_
       obtain ⟨x147, e148, H⟩ := H
       obtain ⟨x149, e150, H⟩ := H
       obtain ⟨x151, e152, H⟩ := H
       obtain ⟨x153, e154, H⟩ := H
       obtain ⟨x155, e156, H⟩ := H
       refine s_rd (d := some 100) (v := (.agg #[(.int .i64 x147), (.int .i64 x149), (.int .i64 x151), (.int .i64 x153), (.int .i64 x155)])) rfl rfl rfl (fun dr => r_loadN Tryz.isAgg66 Tryz.sizeOf66 (vs := [(.int .i64 x147), (.int .i64 x149), (.int .i64 x151), (.int .i64 x153), (.int .i64 x155)]) rfl rfl ⟨e148, e150, e152, e154, e156, trivial⟩) ?_
       refine sp 101 (.pointer v7) rfl rfl (r_move rfl) ?_
       obtain ⟨p157, e158, H⟩ := H
       refine sp 102 (.pointer (some p157)) rfl rfl (r_nilCheck rfl e158) ?_
       refine sp 103 (.pointer (some (Addr.add p157 7))) rfl rfl (r_fieldAddr Tryz.underlying127 Tryz.sizeOf37 rfl rfl rfl) ?_
       obtain ⟨x159, e160, H⟩ := H
       refine s_rd (d := some 104) (v := (.pointer x159)) rfl rfl rfl (fun dr => r_load1 Tryz.isAgg37 rfl e160) ?_
       refine s_ef (d := some 105) rfl rfl rfl (fun dr => r_call Tryz.call95 rfl rfl H) ?_ trivial
       rintro _ h15 ⟨y161, y162, y163, rfl, H⟩
       refine ⟨⟨trivial, trivial, trivial⟩, ?_⟩
       refine sp 98 (.tuple #[(.pointer y161), (.pointer y162), (.pointer y163)]) rfl rfl (r_move rfl) ?_
       refine sp 106 (.pointer y161) rfl rfl (r_extract rfl rfl) ?_
       refine sp 107 (.pointer y162) rfl rfl (r_extract rfl rfl) ?_
       refine sp 108 (.pointer y163) rfl rfl (r_extract rfl rfl) ?_
       refine sp 13 (.pointer y161) rfl rfl (r_assign rfl) ?_
       refine sp 14 (.pointer y162) rfl rfl (r_assign rfl) ?_
       refine sp 15 (.pointer y163) rfl rfl (r_assign rfl) ?_
       refine s_fin ?_
       refine W_seq ?_
       refine W_set ?_
       intro N166 eN166
       have H := H (fun (i164 : Int) (h16 : Heap) => ∀ b, N166 [] (mkE [(2, (.pointer v7)), (13, (.pointer y161)), (14, (.pointer y162)), (15, (.pointer y163)), (16, (.int .i64 i164))] b) h16) (by
        intro i164 h16 H b
        rw [eN166]
        show W _ _ _ _ _ _ _ _
        refine W_seq ?_
        refine W_draw [0, 1, 3, 7, 0, 0, 32, 96, 224, 0, 992, 2047, 0, 4096, 12288, 28672, 0, 126976, 258048, 0, 524288, 1572864, 3670016, 0, 8388608, 33030144, 0, 0, 134217728, 402653184, 939524096, 2146963455, 4294447103, 8589934591, 17179869183] (.pu 0 (.pu 1 (.pu 2 (.rd 3 (.pu 4 (.pu 5 (.pu 6 (.pu 7 (.rd 8 (.pu 9 (.pu 10 (.pu 12 (.pu 13 (.pu 14 (.rd 15 (.pu 16 (.pu 17 (.rd 18 (.pu 19 (.pu 20 (.pu 21 (.rd 22 (.pu 23 (.pu 24 (.pu 25 (.pu 26 (.pu 27 (.pu 28 (.pu 29 (.rd 30 (.ef 11 [3, 8] (.ef 31 [3, 8, 22, 30] (.pu 32 (.pu 33 (.pu 34 .fin))) .no) .no))))))))))))))))))))))))))))))) (by kernel_rfl) (by kernel_rfl) ?_
        refine sp 122 (.pointer v7) rfl rfl (r_move rfl) ?_
        obtain ⟨p167, e168, H⟩ := H
        refine sp 123 (.pointer (some p167)) rfl rfl (r_nilCheck rfl e168) ?_
        refine sp 124 (.pointer (some (Addr.add p167 5))) rfl rfl (r_fieldAddr Tryz.underlying127 Tryz.sizeOf113 rfl rfl rfl) ?_
        obtain ⟨x169, e170, H⟩ := H
        refine s_rd (d := some 125) (v := (Sl.v x169)) rfl rfl rfl (fun dr => r_load1 Tryz.isAgg113 rfl e170) ?_
        refine sp 126 (.pointer y161) rfl rfl (r_move rfl) ?_
        refine sp 127 (.pointer y162) rfl rfl (r_move rfl) ?_
        obtain ⟨p171, e172, H⟩ := H
        refine sp 128 (.pointer (some p171)) rfl rfl (r_nilCheck rfl e172) ?_
        refine sp 129 (.pointer (some (Addr.add p171 6))) rfl rfl (r_fieldAddr Tryz.underlying115 Tryz.sizeOf113 rfl rfl rfl) ?_
        obtain ⟨x173, e174, H⟩ := H
        refine s_rd (d := some 130) (v := (Sl.v x173)) rfl rfl rfl (fun dr => r_load1 Tryz.isAgg113 rfl e174) ?_
        refine sp 131 (.int .i64 i164) rfl rfl (r_move rfl) ?_
        obtain ⟨e176, e177, e178, e179, H⟩ := H
        obtain ⟨s175, e180⟩ : ∃ t : Sl, t = ⟨sliceA x173.a (Int.toNat ((x173.cap : Int))) (Int.toNat 0) 1, Int.toNat i164 - Int.toNat 0, Int.toNat ((x173.cap : Int)) - Int.toNat 0⟩ := ⟨_, rfl⟩
        have H := H s175 e180
        refine sp 132 (Sl.v s175) rfl rfl (fun w => (r_slice (lo := .none) (hi := (.some (.tmp 131))) (mx := .none) Tryz.underlying113 Tryz.sizeOf108 rfl ((x173.cap : Int)) i164 0 rfl ⟨_, rfl⟩ rfl e176 e177 (.inr e178) e179 w).trans (by rw [e180]; rfl)) ?_
        refine sp 134 (.pointer y162) rfl rfl (r_move rfl) ?_
        obtain ⟨p181, e182, H⟩ := H
        refine sp 135 (.pointer (some p181)) rfl rfl (r_nilCheck rfl e182) ?_
        refine sp 136 (.pointer (some (Addr.add p181 6))) rfl rfl (r_fieldAddr Tryz.underlying115 Tryz.sizeOf113 rfl rfl rfl) ?_
        obtain ⟨x183, e184, H⟩ := H
        refine s_rd (d := some 137) (v := (Sl.v x183)) rfl rfl rfl (fun dr => r_load1 Tryz.isAgg113 rfl e184) ?_
        refine sp 138 (.int .i64 i164) rfl rfl (r_move rfl) ?_
        obtain ⟨p185, e186, e187, e188, H⟩ := H
        obtain ⟨q189, e190⟩ : ∃ q : Addr, q = Addr.add p185 (Int.toNat i164 * 1) := ⟨_, rfl⟩
        rw [← e190] at H
        refine sp 139 (.pointer (some q189)) rfl rfl (fun w => (r_indexAddr Tryz.underlying113 Tryz.sizeOf108 rfl rfl e186 e187 e188 w).trans (by rw [e190])) ?_
        obtain ⟨x191, e192, H⟩ := H
        refine s_rd (d := some 140) (v := (.pointer x191)) rfl rfl rfl (fun dr => r_load1 Tryz.isAgg108 rfl e192) ?_
        refine sp 141 (.pointer y162) rfl rfl (r_move rfl) ?_
        obtain ⟨p193, e194, H⟩ := H
        refine sp 142 (.pointer (some p193)) rfl rfl (r_nilCheck rfl e194) ?_
        refine sp 143 (.pointer (some (Addr.add p193 6))) rfl rfl (r_fieldAddr Tryz.underlying115 Tryz.sizeOf113 rfl rfl rfl) ?_
        obtain ⟨x195, e196, H⟩ := H
        refine s_rd (d := some 144) (v := (Sl.v x195)) rfl rfl rfl (fun dr => r_load1 Tryz.isAgg113 rfl e196) ?_
        refine sp 145 (.int .i64 i164) rfl rfl (r_move rfl) ?_
        refine sp 146 (.int .i64 (w64 (i164 + 1))) rfl rfl (r_add rfl rfl) ?_
        obtain ⟨e198, e199, e200, e201, H⟩ := H
        obtain ⟨s197, e202⟩ : ∃ t : Sl, t = ⟨sliceA x195.a (Int.toNat ((x195.cap : Int))) (Int.toNat (w64 (i164 + 1))) 1, Int.toNat ((x195.len : Int)) - Int.toNat (w64 (i164 + 1)), Int.toNat ((x195.cap : Int)) - Int.toNat (w64 (i164 + 1))⟩ := ⟨_, rfl⟩
        have H := H s197 e202
        refine sp 147 (Sl.v s197) rfl rfl (fun w => (r_slice (lo := (.some (.tmp 146))) (hi := .none) (mx := .none) Tryz.underlying113 Tryz.sizeOf108 rfl ((x195.cap : Int)) ((x195.len : Int)) (w64 (i164 + 1)) rfl ⟨rfl, rfl⟩ ⟨_, rfl⟩ e198 e199 (.inl rfl) e201 w).trans (by rw [e202]; rfl)) ?_
        refine sp 148 (.pointer y163) rfl rfl (r_move rfl) ?_
        refine sp 149 (.pointer v7) rfl rfl (r_move rfl) ?_
        obtain ⟨p203, e204, H⟩ := H
        refine sp 150 (.pointer (some p203)) rfl rfl (r_nilCheck rfl e204) ?_
        refine sp 151 (.pointer (some (Addr.add p203 6))) rfl rfl (r_fieldAddr Tryz.underlying127 Tryz.sizeOf113 rfl rfl rfl) ?_
        obtain ⟨x205, e206, H⟩ := H
        refine s_rd (d := some 152) (v := (Sl.v x205)) rfl rfl rfl (fun dr => r_load1 Tryz.isAgg113 rfl e206) ?_
        refine s_ef (d := some 133) rfl rfl rfl (fun dr => r_call Tryz.call123 rfl rfl H) ?_ trivial
        rintro _ h17 ⟨y207, rfl, H⟩
        obtain ⟨e208, H⟩ := H
        obtain ⟨e209, H⟩ := H
        obtain ⟨e210, H⟩ := H
        obtain ⟨e211, H⟩ := H
        refine ⟨⟨(.inl ⟨rfl, fun dr => r_load1 Tryz.isAgg113 rfl e208⟩), (.inl ⟨rfl, fun dr => r_load1 Tryz.isAgg113 rfl e209⟩), (.inl ⟨rfl, fun dr => r_load1 Tryz.isAgg108 rfl e210⟩), (.inl ⟨rfl, fun dr => r_load1 Tryz.isAgg113 rfl e211⟩), trivial, trivial, trivial⟩, ?_⟩
        refine s_ef (d := some 153) rfl rfl rfl (fun dr => r_call Tryz.call105 rfl rfl H) ?_ trivial
        rintro _ h18 ⟨y212, rfl, H⟩
        obtain ⟨e213, H⟩ := H
        obtain ⟨e214, H⟩ := H
        refine ⟨⟨trivial, trivial, (.inl ⟨rfl, fun dr => r_load1 Tryz.isAgg108 rfl e213⟩), (.inl ⟨rfl, fun dr => r_load1 Tryz.isAgg113 rfl e214⟩), trivial, trivial, trivial⟩, ?_⟩
        refine sp 6 (.pointer y207) rfl rfl (r_assign rfl) ?_
        refine sp 7 (.pointer x191) rfl rfl (r_assign rfl) ?_
        refine sp 8 (.pointer y212) rfl rfl (r_assign rfl) ?_
        refine s_fin ?_
        refine W_ret ?_
        exact ⟨[(.pointer y207), (.pointer x191), (.pointer y212)], ⟨_, _, rfl, rfl, ⟨_, _, rfl, rfl, ⟨_, _, rfl, rfl, rfl⟩⟩⟩, y207, x191, y212, rfl, H⟩)
       clear eN166
       refine W_draw [0, 0, 0, 4, 14, 0, 32, 96, 224, 511, 1023, 2047, 2047, 0, 12287, 32767] (.pu 0 (.rd 1 (.pu 2 (.pu 5 (.pu 6 (.pu 7 (.rd 8 (.ef 3 [] (.ef 4 [1] (.ef 9 [1, 8] (.pu 10 (.pu 11 (.pu 12 (.ef 13 [] (.pu 14 (.ef 15 [1, 8] .fin .no)) .no)))) (.ef 13 [] (.ef 9 [1, 8] (.pu 10 (.pu 11 (.pu 12 (.pu 14 (.ef 15 [1, 8] .fin .no))))) .no) .no)) (.ef 13 [] (.ef 4 [1] (.ef 9 [1, 8] (.pu 10 (.pu 11 (.pu 12 (.pu 14 (.ef 15 [1, 8] .fin .no))))) .no) .no) .no)) (.ef 13 [] (.ef 3 [] (.ef 4 [1] (.ef 9 [1, 8] (.pu 10 (.pu 11 (.pu 12 (.pu 14 (.ef 15 [1, 8] .fin .no))))) .no) .no) .no) .no))))))))) (by kernel_rfl) (by kernel_rfl) ?_
       refine sp 110 p1 rfl rfl (r_move rfl) ?_
       obtain ⟨x215, e216, H⟩ := H
       obtain ⟨x217, e218, H⟩ := H
       obtain ⟨x219, e220, H⟩ := H
       obtain ⟨x221, e222, H⟩ := H
       obtain ⟨x223, e224, H⟩ := H
       refine s_rd (d := some 111) (v := (.agg #[(.int .i64 x215), (.int .i64 x217), (.int .i64 x219), (.int .i64 x221), (.int .i64 x223)])) rfl rfl rfl (fun dr => r_loadN Tryz.isAgg66 Tryz.sizeOf66 (vs := [(.int .i64 x215), (.int .i64 x217), (.int .i64 x219), (.int .i64 x221), (.int .i64 x223)]) rfl rfl ⟨e216, e218, e220, e222, e224, trivial⟩) ?_
       refine sp 112 (.pointer y161) rfl rfl (r_move rfl) ?_
       refine sp 115 (.pointer y162) rfl rfl (r_move rfl) ?_
       obtain ⟨p225, e226, H⟩ := H
       refine sp 116 (.pointer (some p225)) rfl rfl (r_nilCheck rfl e226) ?_
       refine sp 117 (.pointer (some (Addr.add p225 6))) rfl rfl (r_fieldAddr Tryz.underlying115 Tryz.sizeOf113 rfl rfl rfl) ?_
       obtain ⟨x227, e228, H⟩ := H
       refine s_rd (d := some 118) (v := (Sl.v x227)) rfl rfl rfl (fun dr => r_load1 Tryz.isAgg113 rfl e228) ?_
       refine s_or ?_ ?_
       ·have H := H.1
        refine s_ef (d := some 113) rfl rfl rfl (fun dr => r_call Tryz.call72 rfl rfl H) ?_ trivial
        rintro _ h19 ⟨y229, y230, y231, y232, y233, rfl, H⟩
        obtain ⟨e234, H⟩ := H
        obtain ⟨e235, H⟩ := H
        obtain ⟨e236, H⟩ := H
        obtain ⟨e237, H⟩ := H
        obtain ⟨e238, H⟩ := H
        obtain ⟨e239, H⟩ := H
        refine ⟨⟨(.inl ⟨rfl, fun dr => r_load1 Tryz.isAgg113 rfl e234⟩), (.inl ⟨rfl, fun dr => r_loadN Tryz.isAgg66 Tryz.sizeOf66 (vs := [(.int .i64 x215), (.int .i64 x217), (.int .i64 x219), (.int .i64 x221), (.int .i64 x223)]) rfl rfl ⟨e235, e236, e237, e238, e239, trivial⟩⟩), trivial⟩, ?_⟩
        refine s_or ?_ ?_
        ·have H := H.1
         refine s_ef (d := some 114) rfl rfl rfl (fun dr => r_call Tryz.call119 rfl rfl H) ?_ trivial
         rintro _ h20 ⟨y240, y241, y242, y243, y244, rfl, H⟩
         obtain ⟨e245, H⟩ := H
         refine ⟨⟨(.inl ⟨rfl, fun dr => r_load1 Tryz.isAgg113 rfl e245⟩), trivial, trivial⟩, ?_⟩
         refine s_or ?_ ?_
         ·have H := H.1
          refine s_ef (d := some 119) rfl rfl rfl (fun dr => r_call Tryz.call121 rfl rfl H) ?_ trivial
          rintro _ h21 ⟨y246, y247, y248, y249, y250, y251, rfl, H⟩
          refine ⟨⟨trivial, trivial, trivial⟩, ?_⟩
          refine sp 109 (.tuple #[(.int .i64 y246), (.agg #[(.int .i64 y247), (.int .i64 y248), (.int .i64 y249), (.int .i64 y250), (.int .i64 y251)])]) rfl rfl (r_move rfl) ?_
          refine sp 120 (.int .i64 y246) rfl rfl (r_extract rfl rfl) ?_
          refine sp 121 (.agg #[(.int .i64 y247), (.int .i64 y248), (.int .i64 y249), (.int .i64 y250), (.int .i64 y251)]) rfl rfl (r_extract rfl rfl) ?_
          obtain ⟨p252, e253⟩ : ∃ p : Addr, p = ⟨h21.size, 0, none⟩ := ⟨_, rfl⟩
          obtain ⟨h22, e254⟩ : ∃ hh : Heap, hh = h21.push (.cells #[(.int .i64 0), (.int .i64 0), (.int .i64 0), (.int .i64 0), (.int .i64 0)] 66) := ⟨_, rfl⟩
          have H := H p252 h22 e253 e254
          obtain ⟨e255, H⟩ := H
          obtain ⟨e256, H⟩ := H
          obtain ⟨e257, H⟩ := H
          obtain ⟨e258, H⟩ := H
          obtain ⟨e259, H⟩ := H
          obtain ⟨e260, H⟩ := H
          refine s_ef1 (d := some 17) (v := (.pointer (some p252))) (h' := h22) rfl rfl rfl (fun dr => (r_alloc Tryz.zeroValue66).trans (by rw [e253, e254]; rfl)) ⟨(.inl ⟨rfl, fun dr => r_load1 Tryz.isAgg113 rfl e255⟩), (.inl ⟨rfl, fun dr => r_loadN Tryz.isAgg66 Tryz.sizeOf66 (vs := [(.int .i64 x215), (.int .i64 x217), (.int .i64 x219), (.int .i64 x221), (.int .i64 x223)]) rfl rfl ⟨e256, e257, e258, e259, e260, trivial⟩⟩), trivial⟩ ?_ trivial
          refine sp 16 (.int .i64 y246) rfl rfl (r_assign rfl) ?_
          obtain ⟨e262, H⟩ := H
          obtain ⟨h23, e261⟩ : ∃ hh : Heap, hh = hsets h22 p252 0 [(.int .i64 y247), (.int .i64 y248), (.int .i64 y249), (.int .i64 y250), (.int .i64 y251)] := ⟨_, rfl⟩
          have H := H h23 e261
          refine s_st (d := none) (h' := h23) rfl rfl rfl (fun dr => (r_store (v := (.agg #[(.int .i64 y247), (.int .i64 y248), (.int .i64 y249), (.int .i64 y250), (.int .i64 y251)])) Tryz.sizeOf66 rfl rfl rfl (one_all rfl) e262).trans (by rw [e261]; rfl)) ⟨trivial, trivial, trivial⟩ ?_ trivial
          refine s_fin ?_
          exact N_mk (l := [(2, (.pointer v7)), (13, (.pointer y161)), (14, (.pointer y162)), (15, (.pointer y163)), (16, (.int .i64 y246))]) H ⟨rfl, rfl, rfl, rfl, rfl, trivial⟩
         ·have H := H.2
          obtain ⟨p263, e264⟩ : ∃ p : Addr, p = ⟨h20.size, 0, none⟩ := ⟨_, rfl⟩
          obtain ⟨h24, e265⟩ : ∃ hh : Heap, hh = h20.push (.cells #[(.int .i64 0), (.int .i64 0), (.int .i64 0), (.int .i64 0), (.int .i64 0)] 66) := ⟨_, rfl⟩
          have H := H p263 h24 e264 e265
          obtain ⟨e266, H⟩ := H
          obtain ⟨e267, H⟩ := H
          obtain ⟨e268, H⟩ := H
          obtain ⟨e269, H⟩ := H
          obtain ⟨e270, H⟩ := H
          obtain ⟨e271, H⟩ := H
          refine s_ef1 (d := some 17) (v := (.pointer (some p263))) (h' := h24) rfl rfl rfl (fun dr => (r_alloc Tryz.zeroValue66).trans (by rw [e264, e265]; rfl)) ⟨(.inl ⟨rfl, fun dr => r_load1 Tryz.isAgg113 rfl e266⟩), (.inl ⟨rfl, fun dr => r_loadN Tryz.isAgg66 Tryz.sizeOf66 (vs := [(.int .i64 x215), (.int .i64 x217), (.int .i64 x219), (.int .i64 x221), (.int .i64 x223)]) rfl rfl ⟨e267, e268, e269, e270, e271, trivial⟩⟩), trivial⟩ ?_ trivial
          refine s_ef (d := some 119) rfl rfl rfl (fun dr => r_call Tryz.call121 rfl rfl H) ?_ trivial
          rintro _ h25 ⟨y272, y273, y274, y275, y276, y277, rfl, H⟩
          refine ⟨⟨trivial, trivial, trivial⟩, ?_⟩
          refine sp 109 (.tuple #[(.int .i64 y272), (.agg #[(.int .i64 y273), (.int .i64 y274), (.int .i64 y275), (.int .i64 y276), (.int .i64 y277)])]) rfl rfl (r_move rfl) ?_
          refine sp 120 (.int .i64 y272) rfl rfl (r_extract rfl rfl) ?_
          refine sp 121 (.agg #[(.int .i64 y273), (.int .i64 y274), (.int .i64 y275), (.int .i64 y276), (.int .i64 y277)]) rfl rfl (r_extract rfl rfl) ?_
          refine sp 16 (.int .i64 y272) rfl rfl (r_assign rfl) ?_
          obtain ⟨e279, H⟩ := H
          obtain ⟨h26, e278⟩ : ∃ hh : Heap, hh = hsets h25 p263 0 [(.int .i64 y273), (.int .i64 y274), (.int .i64 y275), (.int .i64 y276), (.int .i64 y277)] := ⟨_, rfl⟩
          have H := H h26 e278
          refine s_st (d := none) (h' := h26) rfl rfl rfl (fun dr => (r_store (v := (.agg #[(.int .i64 y273), (.int .i64 y274), (.int .i64 y275), (.int .i64 y276), (.int .i64 y277)])) Tryz.sizeOf66 rfl rfl rfl (one_all rfl) e279).trans (by rw [e278]; rfl)) ⟨trivial, trivial, trivial⟩ ?_ trivial
          refine s_fin ?_
          exact N_mk (l := [(2, (.pointer v7)), (13, (.pointer y161)), (14, (.pointer y162)), (15, (.pointer y163)), (16, (.int .i64 y272))]) H ⟨rfl, rfl, rfl, rfl, rfl, trivial⟩
        ·have H := H.2
         obtain ⟨p280, e281⟩ : ∃ p : Addr, p = ⟨h19.size, 0, none⟩ := ⟨_, rfl⟩
         obtain ⟨h27, e282⟩ : ∃ hh : Heap, hh = h19.push (.cells #[(.int .i64 0), (.int .i64 0), (.int .i64 0), (.int .i64 0), (.int .i64 0)] 66) := ⟨_, rfl⟩
         have H := H p280 h27 e281 e282
         obtain ⟨e283, H⟩ := H
         obtain ⟨e284, H⟩ := H
         obtain ⟨e285, H⟩ := H
         obtain ⟨e286, H⟩ := H
         obtain ⟨e287, H⟩ := H
         obtain ⟨e288, H⟩ := H
         refine s_ef1 (d := some 17) (v := (.pointer (some p280))) (h' := h27) rfl rfl rfl (fun dr => (r_alloc Tryz.zeroValue66).trans (by rw [e281, e282]; rfl)) ⟨(.inl ⟨rfl, fun dr => r_load1 Tryz.isAgg113 rfl e283⟩), (.inl ⟨rfl, fun dr => r_loadN Tryz.isAgg66 Tryz.sizeOf66 (vs := [(.int .i64 x215), (.int .i64 x217), (.int .i64 x219), (.int .i64 x221), (.int .i64 x223)]) rfl rfl ⟨e284, e285, e286, e287, e288, trivial⟩⟩), trivial⟩ ?_ trivial
         refine s_ef (d := some 114) rfl rfl rfl (fun dr => r_call Tryz.call119 rfl rfl H) ?_ trivial
         rintro _ h28 ⟨y289, y290, y291, y292, y293, rfl, H⟩
         obtain ⟨e294, H⟩ := H
         refine ⟨⟨(.inl ⟨rfl, fun dr => r_load1 Tryz.isAgg113 rfl e294⟩), trivial, trivial⟩, ?_⟩
         refine s_ef (d := some 119) rfl rfl rfl (fun dr => r_call Tryz.call121 rfl rfl H) ?_ trivial
         rintro _ h29 ⟨y295, y296, y297, y298, y299, y300, rfl, H⟩
         refine ⟨⟨trivial, trivial, trivial⟩, ?_⟩
         refine sp 109 (.tuple #[(.int .i64 y295), (.agg #[(.int .i64 y296), (.int .i64 y297), (.int .i64 y298), (.int .i64 y299), (.int .i64 y300)])]) rfl rfl (r_move rfl) ?_
         refine sp 120 (.int .i64 y295) rfl rfl (r_extract rfl rfl) ?_
         refine sp 121 (.agg #[(.int .i64 y296), (.int .i64 y297), (.int .i64 y298), (.int .i64 y299), (.int .i64 y300)]) rfl rfl (r_extract rfl rfl) ?_
         refine sp 16 (.int .i64 y295) rfl rfl (r_assign rfl) ?_
         obtain ⟨e302, H⟩ := H
         obtain ⟨h30, e301⟩ : ∃ hh : Heap, hh = hsets h29 p280 0 [(.int .i64 y296), (.int .i64 y297), (.int .i64 y298), (.int .i64 y299), (.int .i64 y300)] := ⟨_, rfl⟩
         have H := H h30 e301
         refine s_st (d := none) (h' := h30) rfl rfl rfl (fun dr => (r_store (v := (.agg #[(.int .i64 y296), (.int .i64 y297), (.int .i64 y298), (.int .i64 y299), (.int .i64 y300)])) Tryz.sizeOf66 rfl rfl rfl (one_all rfl) e302).trans (by rw [e301]; rfl)) ⟨trivial, trivial, trivial⟩ ?_ trivial
         refine s_fin ?_
         exact N_mk (l := [(2, (.pointer v7)), (13, (.pointer y161)), (14, (.pointer y162)), (15, (.pointer y163)), (16, (.int .i64 y295))]) H ⟨rfl, rfl, rfl, rfl, rfl, trivial⟩
       ·have H := H.2
        obtain ⟨p303, e304⟩ : ∃ p : Addr, p = ⟨h15.size, 0, none⟩ := ⟨_, rfl⟩
        obtain ⟨h31, e305⟩ : ∃ hh : Heap, hh = h15.push (.cells #[(.int .i64 0), (.int .i64 0), (.int .i64 0), (.int .i64 0), (.int .i64 0)] 66) := ⟨_, rfl⟩
        have H := H p303 h31 e304 e305
        obtain ⟨e306, H⟩ := H
        obtain ⟨e307, H⟩ := H
        obtain ⟨e308, H⟩ := H
        obtain ⟨e309, H⟩ := H
        obtain ⟨e310, H⟩ := H
        obtain ⟨e311, H⟩ := H
        refine s_ef1 (d := some 17) (v := (.pointer (some p303))) (h' := h31) rfl rfl rfl (fun dr => (r_alloc Tryz.zeroValue66).trans (by rw [e304, e305]; rfl)) ⟨(.inl ⟨rfl, fun dr => r_load1 Tryz.isAgg113 rfl e306⟩), (.inl ⟨rfl, fun dr => r_loadN Tryz.isAgg66 Tryz.sizeOf66 (vs := [(.int .i64 x215), (.int .i64 x217), (.int .i64 x219), (.int .i64 x221), (.int .i64 x223)]) rfl rfl ⟨e307, e308, e309, e310, e311, trivial⟩⟩), trivial⟩ ?_ trivial
        refine s_ef (d := some 113) rfl rfl rfl (fun dr => r_call Tryz.call72 rfl rfl H) ?_ trivial
        rintro _ h32 ⟨y312, y313, y314, y315, y316, rfl, H⟩
        obtain ⟨e317, H⟩ := H
        obtain ⟨e318, H⟩ := H
        obtain ⟨e319, H⟩ := H
        obtain ⟨e320, H⟩ := H
        obtain ⟨e321, H⟩ := H
        obtain ⟨e322, H⟩ := H
        refine ⟨⟨(.inl ⟨rfl, fun dr => r_load1 Tryz.isAgg113 rfl e317⟩), (.inl ⟨rfl, fun dr => r_loadN Tryz.isAgg66 Tryz.sizeOf66 (vs := [(.int .i64 x215), (.int .i64 x217), (.int .i64 x219), (.int .i64 x221), (.int .i64 x223)]) rfl rfl ⟨e318, e319, e320, e321, e322, trivial⟩⟩), trivial⟩, ?_⟩
        refine s_ef (d := some 114) rfl rfl rfl (fun dr => r_call Tryz.call119 rfl rfl H) ?_ trivial
        rintro _ h33 ⟨y323, y324, y325, y326, y327, rfl, H⟩
        obtain ⟨e328, H⟩ := H
        refine ⟨⟨(.inl ⟨rfl, fun dr => r_load1 Tryz.isAgg113 rfl e328⟩), trivial, trivial⟩, ?_⟩
        refine s_ef (d := some 119) rfl rfl rfl (fun dr => r_call Tryz.call121 rfl rfl H) ?_ trivial
        rintro _ h34 ⟨y329, y330, y331, y332, y333, y334, rfl, H⟩
        refine ⟨⟨trivial, trivial, trivial⟩, ?_⟩
        refine sp 109 (.tuple #[(.int .i64 y329), (.agg #[(.int .i64 y330), (.int .i64 y331), (.int .i64 y332), (.int .i64 y333), (.int .i64 y334)])]) rfl rfl (r_move rfl) ?_
        refine sp 120 (.int .i64 y329) rfl rfl (r_extract rfl rfl) ?_
        refine sp 121 (.agg #[(.int .i64 y330), (.int .i64 y331), (.int .i64 y332), (.int .i64 y333), (.int .i64 y334)]) rfl rfl (r_extract rfl rfl) ?_
        refine sp 16 (.int .i64 y329) rfl rfl (r_assign rfl) ?_
        obtain ⟨e336, H⟩ := H
        obtain ⟨h35, e335⟩ : ∃ hh : Heap, hh = hsets h34 p303 0 [(.int .i64 y330), (.int .i64 y331), (.int .i64 y332), (.int .i64 y333), (.int .i64 y334)] := ⟨_, rfl⟩
        have H := H h35 e335
        refine s_st (d := none) (h' := h35) rfl rfl rfl (fun dr => (r_store (v := (.agg #[(.int .i64 y330), (.int .i64 y331), (.int .i64 y332), (.int .i64 y333), (.int .i64 y334)])) Tryz.sizeOf66 rfl rfl rfl (one_all rfl) e336).trans (by rw [e335]; rfl)) ⟨trivial, trivial, trivial⟩ ?_ trivial
        refine s_fin ?_
        exact N_mk (l := [(2, (.pointer v7)), (13, (.pointer y161)), (14, (.pointer y162)), (15, (.pointer y163)), (16, (.int .i64 y329))]) H ⟨rfl, rfl, rfl, rfl, rfl, trivial⟩
      ·have H := H.2 g435
       refine W_skip ?_
       show W _ _ _ _ _ _ _ _
       refine W_seq ?_
       refine W_set ?_
       intro N339 eN339
       have H := H (fun (i337 : Int) (h36 : Heap) => ∀ b, N339 [] (mkE [(2, (.pointer v7)), (18, (.int .i64 i337))] b) h36) (by
        intro i337 h36 H b
        rw [eN339]
        show W _ _ _ _ _ _ _ _
        refine W_seq ?_
        refine W_draw [0, 1, 3, 7, 0, 16, 48, 112, 0, 256, 768, 1792, 0, 7936, 16383, 0, 32768, 98304, 229376, 0, 1015808, 2064384, 0, 4194304, 12582912, 29360128, 0, 67108864, 264241152, 532709375, 1069580287, 2147483647, 4294967295] (.pu 0 (.pu 1 (.pu 2 (.rd 3 (.pu 4 (.pu 5 (.pu 6 (.rd 7 (.pu 8 (.pu 9 (.pu 10 (.rd 11 (.pu 12 (.pu 13 (.pu 15 (.pu 16 (.pu 17 (.rd 18 (.pu 19 (.pu 20 (.rd 21 (.pu 22 (.pu 23 (.pu 24 (.rd 25 (.pu 26 (.pu 27 (.pu 28 (.ef 14 [3, 7, 11] (.ef 29 [3, 7, 11, 25] (.pu 30 (.pu 31 (.pu 32 .fin))) .no) .no))))))))))))))))))))))))))))) (by kernel_rfl) (by kernel_rfl) ?_
        refine sp 164 (.pointer v7) rfl rfl (r_move rfl) ?_
        obtain ⟨p340, e341, H⟩ := H
        refine sp 165 (.pointer (some p340)) rfl rfl (r_nilCheck rfl e341) ?_
        refine sp 166 (.pointer (some (Addr.add p340 5))) rfl rfl (r_fieldAddr Tryz.underlying127 Tryz.sizeOf113 rfl rfl rfl) ?_
        obtain ⟨x342, e343, H⟩ := H
        refine s_rd (d := some 167) (v := (Sl.v x342)) rfl rfl rfl (fun dr => r_load1 Tryz.isAgg113 rfl e343) ?_
        refine sp 168 (.pointer v7) rfl rfl (r_move rfl) ?_
        obtain ⟨p344, e345, H⟩ := H
        refine sp 169 (.pointer (some p344)) rfl rfl (r_nilCheck rfl e345) ?_
        refine sp 170 (.pointer (some (Addr.add p344 7))) rfl rfl (r_fieldAddr Tryz.underlying127 Tryz.sizeOf37 rfl rfl rfl) ?_
        obtain ⟨x346, e347, H⟩ := H
        refine s_rd (d := some 171) (v := (.pointer x346)) rfl rfl rfl (fun dr => r_load1 Tryz.isAgg37 rfl e347) ?_
        refine sp 172 (.pointer v7) rfl rfl (r_move rfl) ?_
        obtain ⟨p348, e349, H⟩ := H
        refine sp 173 (.pointer (some p348)) rfl rfl (r_nilCheck rfl e349) ?_
        refine sp 174 (.pointer (some (Addr.add p348 6))) rfl rfl (r_fieldAddr Tryz.underlying127 Tryz.sizeOf113 rfl rfl rfl) ?_
        obtain ⟨x350, e351, H⟩ := H
        refine s_rd (d := some 175) (v := (Sl.v x350)) rfl rfl rfl (fun dr => r_load1 Tryz.isAgg113 rfl e351) ?_
        refine sp 176 (.int .i64 i337) rfl rfl (r_move rfl) ?_
        obtain ⟨e353, e354, e355, e356, H⟩ := H
        obtain ⟨s352, e357⟩ : ∃ t : Sl, t = ⟨sliceA x350.a (Int.toNat ((x350.cap : Int))) (Int.toNat 0) 1, Int.toNat i337 - Int.toNat 0, Int.toNat ((x350.cap : Int)) - Int.toNat 0⟩ := ⟨_, rfl⟩
        have H := H s352 e357
        refine sp 177 (Sl.v s352) rfl rfl (fun w => (r_slice (lo := .none) (hi := (.some (.tmp 176))) (mx := .none) Tryz.underlying113 Tryz.sizeOf108 rfl ((x350.cap : Int)) i337 0 rfl ⟨_, rfl⟩ rfl e353 e354 (.inr e355) e356 w).trans (by rw [e357]; rfl)) ?_
        refine sp 179 (.pointer v7) rfl rfl (r_move rfl) ?_
        obtain ⟨p358, e359, H⟩ := H
        refine sp 180 (.pointer (some p358)) rfl rfl (r_nilCheck rfl e359) ?_
        refine sp 181 (.pointer (some (Addr.add p358 6))) rfl rfl (r_fieldAddr Tryz.underlying127 Tryz.sizeOf113 rfl rfl rfl) ?_
        obtain ⟨x360, e361, H⟩ := H
        refine s_rd (d := some 182) (v := (Sl.v x360)) rfl rfl rfl (fun dr => r_load1 Tryz.isAgg113 rfl e361) ?_
        refine sp 183 (.int .i64 i337) rfl rfl (r_move rfl) ?_
        obtain ⟨p362, e363, e364, e365, H⟩ := H
        obtain ⟨q366, e367⟩ : ∃ q : Addr, q = Addr.add p362 (Int.toNat i337 * 1) := ⟨_, rfl⟩
        rw [← e367] at H
        refine sp 184 (.pointer (some q366)) rfl rfl (fun w => (r_indexAddr Tryz.underlying113 Tryz.sizeOf108 rfl rfl e363 e364 e365 w).trans (by rw [e367])) ?_
        obtain ⟨x368, e369, H⟩ := H
        refine s_rd (d := some 185) (v := (.pointer x368)) rfl rfl rfl (fun dr => r_load1 Tryz.isAgg108 rfl e369) ?_
        refine sp 186 (.pointer v7) rfl rfl (r_move rfl) ?_
        obtain ⟨p370, e371, H⟩ := H
        refine sp 187 (.pointer (some p370)) rfl rfl (r_nilCheck rfl e371) ?_
        refine sp 188 (.pointer (some (Addr.add p370 6))) rfl rfl (r_fieldAddr Tryz.underlying127 Tryz.sizeOf113 rfl rfl rfl) ?_
        obtain ⟨x372, e373, H⟩ := H
        refine s_rd (d := some 189) (v := (Sl.v x372)) rfl rfl rfl (fun dr => r_load1 Tryz.isAgg113 rfl e373) ?_
        refine sp 190 (.int .i64 i337) rfl rfl (r_move rfl) ?_
        refine sp 191 (.int .i64 (w64 (i337 + 1))) rfl rfl (r_add rfl rfl) ?_
        obtain ⟨e375, e376, e377, e378, H⟩ := H
        obtain ⟨s374, e379⟩ : ∃ t : Sl, t = ⟨sliceA x372.a (Int.toNat ((x372.cap : Int))) (Int.toNat (w64 (i337 + 1))) 1, Int.toNat ((x372.len : Int)) - Int.toNat (w64 (i337 + 1)), Int.toNat ((x372.cap : Int)) - Int.toNat (w64 (i337 + 1))⟩ := ⟨_, rfl⟩
        have H := H s374 e379
        refine sp 192 (Sl.v s374) rfl rfl (fun w => (r_slice (lo := (.some (.tmp 191))) (hi := .none) (mx := .none) Tryz.underlying113 Tryz.sizeOf108 rfl ((x372.cap : Int)) ((x372.len : Int)) (w64 (i337 + 1)) rfl ⟨rfl, rfl⟩ ⟨_, rfl⟩ e375 e376 (.inl rfl) e378 w).trans (by rw [e379]; rfl)) ?_
        refine s_ef (d := some 178) rfl rfl rfl (fun dr => r_call Tryz.call123 rfl rfl H) ?_ trivial
        rintro _ h37 ⟨y380, rfl, H⟩
        obtain ⟨e381, H⟩ := H
        obtain ⟨e382, H⟩ := H
        obtain ⟨e383, H⟩ := H
        refine ⟨⟨(.inl ⟨rfl, fun dr => r_load1 Tryz.isAgg113 rfl e381⟩), (.inl ⟨rfl, fun dr => r_load1 Tryz.isAgg108 rfl e382⟩), (.inl ⟨rfl, fun dr => r_load1 Tryz.isAgg113 rfl e383⟩), trivial, trivial, trivial, trivial⟩, ?_⟩
        refine s_ef (d := some 193) rfl rfl rfl (fun dr => r_call Tryz.call122 rfl rfl H) ?_ trivial
        rintro _ h38 ⟨y384, rfl, H⟩
        obtain ⟨e385, H⟩ := H
        obtain ⟨e386, H⟩ := H
        refine ⟨⟨trivial, (.inl ⟨rfl, fun dr => r_load1 Tryz.isAgg108 rfl e385⟩), (.inl ⟨rfl, fun dr => r_load1 Tryz.isAgg113 rfl e386⟩), trivial, trivial, trivial, trivial⟩, ?_⟩
        refine sp 6 (.pointer y380) rfl rfl (r_assign rfl) ?_
        refine sp 7 (.pointer x368) rfl rfl (r_assign rfl) ?_
        refine sp 8 (.pointer y384) rfl rfl (r_assign rfl) ?_
        refine s_fin ?_
        refine W_ret ?_
        exact ⟨[(.pointer y380), (.pointer x368), (.pointer y384)], ⟨_, _, rfl, rfl, ⟨_, _, rfl, rfl, ⟨_, _, rfl, rfl, rfl⟩⟩⟩, y380, x368, y384, rfl, H⟩)
       clear eN339
       refine W_draw [0, 0, 0, 4, 12, 28, 63, 127, 255, 255, 0, 1535, 4095] (.pu 0 (.rd 1 (.pu 2 (.pu 3 (.pu 4 (.rd 5 (.ef 6 [1, 5] (.pu 7 (.pu 8 (.pu 9 (.ef 10 [] (.pu 11 (.ef 12 [1, 5] .fin .no)) .no)))) (.ef 10 [] (.ef 6 [1, 5] (.pu 7 (.pu 8 (.pu 9 (.pu 11 (.ef 12 [1, 5] .fin .no))))) .no) .no)))))))) (by kernel_rfl) (by kernel_rfl) ?_
       refine sp 155 p1 rfl rfl (r_move rfl) ?_
       obtain ⟨x387, e388, H⟩ := H
       obtain ⟨x389, e390, H⟩ := H
       obtain ⟨x391, e392, H⟩ := H
       obtain ⟨x393, e394, H⟩ := H
       obtain ⟨x395, e396, H⟩ := H
       refine s_rd (d := some 156) (v := (.agg #[(.int .i64 x387), (.int .i64 x389), (.int .i64 x391), (.int .i64 x393), (.int .i64 x395)])) rfl rfl rfl (fun dr => r_loadN Tryz.isAgg66 Tryz.sizeOf66 (vs := [(.int .i64 x387), (.int .i64 x389), (.int .i64 x391), (.int .i64 x393), (.int .i64 x395)]) rfl rfl ⟨e388, e390, e392, e394, e396, trivial⟩) ?_
       refine sp 157 (.pointer v7) rfl rfl (r_move rfl) ?_
       obtain ⟨p397, e398, H⟩ := H
       refine sp 158 (.pointer (some p397)) rfl rfl (r_nilCheck rfl e398) ?_
       refine sp 159 (.pointer (some (Addr.add p397 6))) rfl rfl (r_fieldAddr Tryz.underlying127 Tryz.sizeOf113 rfl rfl rfl) ?_
       obtain ⟨x399, e400, H⟩ := H
       refine s_rd (d := some 160) (v := (Sl.v x399)) rfl rfl rfl (fun dr => r_load1 Tryz.isAgg113 rfl e400) ?_
       refine s_or ?_ ?_
       ·have H := H.1
        refine s_ef (d := some 161) rfl rfl rfl (fun dr => r_call Tryz.call121 rfl rfl H) ?_ trivial
        rintro _ h39 ⟨y401, y402, y403, y404, y405, y406, rfl, H⟩
        refine ⟨⟨trivial, trivial, trivial⟩, ?_⟩
        refine sp 154 (.tuple #[(.int .i64 y401), (.agg #[(.int .i64 y402), (.int .i64 y403), (.int .i64 y404), (.int .i64 y405), (.int .i64 y406)])]) rfl rfl (r_move rfl) ?_
        refine sp 162 (.int .i64 y401) rfl rfl (r_extract rfl rfl) ?_
        refine sp 163 (.agg #[(.int .i64 y402), (.int .i64 y403), (.int .i64 y404), (.int .i64 y405), (.int .i64 y406)]) rfl rfl (r_extract rfl rfl) ?_
        obtain ⟨p407, e408⟩ : ∃ p : Addr, p = ⟨h39.size, 0, none⟩ := ⟨_, rfl⟩
        obtain ⟨h40, e409⟩ : ∃ hh : Heap, hh = h39.push (.cells #[(.int .i64 0), (.int .i64 0), (.int .i64 0), (.int .i64 0), (.int .i64 0)] 66) := ⟨_, rfl⟩
        have H := H p407 h40 e408 e409
        obtain ⟨e410, H⟩ := H
        obtain ⟨e411, H⟩ := H
        obtain ⟨e412, H⟩ := H
        obtain ⟨e413, H⟩ := H
        obtain ⟨e414, H⟩ := H
        obtain ⟨e415, H⟩ := H
        refine s_ef1 (d := some 19) (v := (.pointer (some p407))) (h' := h40) rfl rfl rfl (fun dr => (r_alloc Tryz.zeroValue66).trans (by rw [e408, e409]; rfl)) ⟨(.inl ⟨rfl, fun dr => r_load1 Tryz.isAgg113 rfl e410⟩), (.inl ⟨rfl, fun dr => r_loadN Tryz.isAgg66 Tryz.sizeOf66 (vs := [(.int .i64 x387), (.int .i64 x389), (.int .i64 x391), (.int .i64 x393), (.int .i64 x395)]) rfl rfl ⟨e411, e412, e413, e414, e415, trivial⟩⟩), trivial⟩ ?_ trivial
        refine sp 18 (.int .i64 y401) rfl rfl (r_assign rfl) ?_
        obtain ⟨e417, H⟩ := H
        obtain ⟨h41, e416⟩ : ∃ hh : Heap, hh = hsets h40 p407 0 [(.int .i64 y402), (.int .i64 y403), (.int .i64 y404), (.int .i64 y405), (.int .i64 y406)] := ⟨_, rfl⟩
        have H := H h41 e416
        refine s_st (d := none) (h' := h41) rfl rfl rfl (fun dr => (r_store (v := (.agg #[(.int .i64 y402), (.int .i64 y403), (.int .i64 y404), (.int .i64 y405), (.int .i64 y406)])) Tryz.sizeOf66 rfl rfl rfl (one_all rfl) e417).trans (by rw [e416]; rfl)) ⟨trivial, trivial, trivial⟩ ?_ trivial
        refine s_fin ?_
        exact N_mk (l := [(2, (.pointer v7)), (18, (.int .i64 y401))]) H ⟨rfl, rfl, trivial⟩
       ·have H := H.2
        obtain ⟨p418, e419⟩ : ∃ p : Addr, p = ⟨h14.size, 0, none⟩ := ⟨_, rfl⟩
        obtain ⟨h42, e420⟩ : ∃ hh : Heap, hh = h14.push (.cells #[(.int .i64 0), (.int .i64 0), (.int .i64 0), (.int .i64 0), (.int .i64 0)] 66) := ⟨_, rfl⟩
        have H := H p418 h42 e419 e420
        obtain ⟨e421, H⟩ := H
        obtain ⟨e422, H⟩ := H
        obtain ⟨e423, H⟩ := H
        obtain ⟨e424, H⟩ := H
        obtain ⟨e425, H⟩ := H
        obtain ⟨e426, H⟩ := H
        refine s_ef1 (d := some 19) (v := (.pointer (some p418))) (h' := h42) rfl rfl rfl (fun dr => (r_alloc Tryz.zeroValue66).trans (by rw [e419, e420]; rfl)) ⟨(.inl ⟨rfl, fun dr => r_load1 Tryz.isAgg113 rfl e421⟩), (.inl ⟨rfl, fun dr => r_loadN Tryz.isAgg66 Tryz.sizeOf66 (vs := [(.int .i64 x387), (.int .i64 x389), (.int .i64 x391), (.int .i64 x393), (.int .i64 x395)]) rfl rfl ⟨e422, e423, e424, e425, e426, trivial⟩⟩), trivial⟩ ?_ trivial
        refine s_ef (d := some 161) rfl rfl rfl (fun dr => r_call Tryz.call121 rfl rfl H) ?_ trivial
        rintro _ h43 ⟨y427, y428, y429, y430, y431, y432, rfl, H⟩
        refine ⟨⟨trivial, trivial, trivial⟩, ?_⟩
        refine sp 154 (.tuple #[(.int .i64 y427), (.agg #[(.int .i64 y428), (.int .i64 y429), (.int .i64 y430), (.int .i64 y431), (.int .i64 y432)])]) rfl rfl (r_move rfl) ?_
        refine sp 162 (.int .i64 y427) rfl rfl (r_extract rfl rfl) ?_
        refine sp 163 (.agg #[(.int .i64 y428), (.int .i64 y429), (.int .i64 y430), (.int .i64 y431), (.int .i64 y432)]) rfl rfl (r_extract rfl rfl) ?_
        refine sp 18 (.int .i64 y427) rfl rfl (r_assign rfl) ?_
        obtain ⟨e434, H⟩ := H
        obtain ⟨h44, e433⟩ : ∃ hh : Heap, hh = hsets h43 p418 0 [(.int .i64 y428), (.int .i64 y429), (.int .i64 y430), (.int .i64 y431), (.int .i64 y432)] := ⟨_, rfl⟩
        have H := H h44 e433
        refine s_st (d := none) (h' := h44) rfl rfl rfl (fun dr => (r_store (v := (.agg #[(.int .i64 y428), (.int .i64 y429), (.int .i64 y430), (.int .i64 y431), (.int .i64 y432)])) Tryz.sizeOf66 rfl rfl rfl (one_all rfl) e434).trans (by rw [e433]; rfl)) ⟨trivial, trivial, trivial⟩ ?_ trivial
        refine s_fin ?_
        exact N_mk (l := [(2, (.pointer v7)), (18, (.int .i64 y427))]) H ⟨rfl, rfl, trivial⟩)
     clear eN146
     refine W_region (.pu 0 (.pu 1 (.pu 2 (.rl 3 (.pu 4 (.pu 5 (.pu 6 (.rl 7 (.ef 8 [] (.pu 9 .fin) .no))))))))) rfl rfl ?_
     refine sp 88 (.pointer v7) rfl rfl (r_move rfl) ?_
     obtain ⟨p436, e437, H⟩ := H
     refine sp 89 (.pointer (some p436)) rfl rfl (r_nilCheck rfl e437) ?_
     refine sp 90 (.pointer (some (Addr.add p436 7))) rfl rfl (r_fieldAddr Tryz.underlying127 Tryz.sizeOf37 rfl rfl rfl) ?_
     obtain ⟨x438, e439, H⟩ := H
     refine sl 91 (.pointer x438) rfl rfl (fun dr => r_load1 Tryz.isAgg37 rfl e439) ?_
     refine sp 92 (.bool (!(Option.isNone x438))) rfl rfl (r_notNilP Tryz.underlying37 rfl rfl) ?_
     refine sp 93 (.bool (!(Option.isNone x438))) rfl rfl (r_move rfl) ?_
     rcases Bool.eq_false_or_eq_true (!(Option.isNone x438)) with g440 | g440
     ·have H := H.1 g440
      refine s_pu (d := some 94) (v := p1) rfl rfl (wants_yes rfl rfl rfl rfl g440) (r_move rfl) ?_
      obtain ⟨x441, e442, H⟩ := H
      obtain ⟨x443, e444, H⟩ := H
      obtain ⟨x445, e446, H⟩ := H
      obtain ⟨x447, e448, H⟩ := H
      obtain ⟨x449, e450, H⟩ := H
      refine s_rl (d := some 95) (v := (.agg #[(.int .i64 x441), (.int .i64 x443), (.int .i64 x445), (.int .i64 x447), (.int .i64 x449)])) rfl rfl (wants_yes rfl rfl rfl rfl g440) (fun dr => r_loadN Tryz.isAgg66 Tryz.sizeOf66 (vs := [(.int .i64 x441), (.int .i64 x443), (.int .i64 x445), (.int .i64 x447), (.int .i64 x449)]) rfl rfl ⟨e442, e444, e446, e448, e450, trivial⟩) ?_
      refine s_ef (d := some 96) rfl rfl (wants_yes rfl rfl rfl rfl g440) (fun dr => r_callV rfl rfl H) ?_ trivial
      rintro _ h45 ⟨y451, rfl, H⟩
      refine ⟨trivial, ?_⟩
      refine sp 97 (.bool y451) rfl rfl (r_pick1 rfl g440 rfl) ?_
      refine s_fin ?_
      exact N_mk (l := [(0, p1), (2, (.pointer v7)), (9, (.pointer (some p27))), (12, (.pointer (some p141))), (97, (.bool y451))]) H ⟨rfl, rfl, rfl, rfl, rfl, trivial⟩
     ·have H := H.2 g440
      refine s_sk (d := some 94) rfl rfl (wants_no rfl rfl rfl rfl g440) ?_
      refine s_skl (d := some 95) rfl rfl (wants_no rfl rfl rfl rfl g440) ?_
      refine s_skf (d := some 96) rfl rfl (wants_no rfl rfl rfl rfl g440) trivial ?_ trivial
      refine sp 97 (.bool false) rfl rfl (r_pick0 rfl g440 rfl) ?_
      refine s_fin ?_
      exact N_mk (l := [(0, p1), (2, (.pointer v7)), (9, (.pointer (some p27))), (12, (.pointer (some p141))), (97, (.bool false))]) H ⟨rfl, rfl, rfl, rfl, rfl, trivial⟩)
    clear eN143
    refine W_draw [0, 0, 2, 6, 14, 30, 63, 0, 255] (.rd 0 (.pu 1 (.pu 2 (.pu 3 (.rd 4 (.ef 5 [4] (.ef 6 [0, 4] (.ef 7 [] (.ef 8 [0, 4] .fin .no) .no) (.ef 7 [] (.ef 6 [0, 4] (.ef 8 [0, 4] .fin .no) .no) .no)) (.ef 7 [] (.ef 5 [4] (.ef 6 [0, 4] (.ef 8 [0, 4] .fin .no) .no) .no) .no))))))) (by kernel_rfl) (by kernel_rfl) ?_
    obtain ⟨x453, e454, H⟩ := H
    obtain ⟨x455, e456, H⟩ := H
    obtain ⟨x457, e458, H⟩ := H
    obtain ⟨x459, e460, H⟩ := H
    obtain ⟨x461, e462, H⟩ := H
    refine s_rd (d := some 81) (v := (.agg #[(.int .i64 x453), (.int .i64 x455), (.int .i64 x457), (.int .i64 x459), (.int .i64 x461)])) rfl rfl rfl (fun dr => r_loadN Tryz.isAgg66 Tryz.sizeOf66 (vs := [(.int .i64 x453), (.int .i64 x455), (.int .i64 x457), (.int .i64 x459), (.int .i64 x461)]) rfl rfl ⟨e454, e456, e458, e460, e462, trivial⟩) ?_
    refine sp 82 (.pointer v7) rfl rfl (r_move rfl) ?_
    obtain ⟨p463, e464, H⟩ := H
    refine sp 83 (.pointer (some p463)) rfl rfl (r_nilCheck rfl e464) ?_
    refine sp 84 (.pointer (some (Addr.add p463 7))) rfl rfl (r_fieldAddr Tryz.underlying127 Tryz.sizeOf37 rfl rfl rfl) ?_
    obtain ⟨x465, e466, H⟩ := H
    refine s_rd (d := some 85) (v := (.pointer x465)) rfl rfl rfl (fun dr => r_load1 Tryz.isAgg37 rfl e466) ?_
    refine s_or ?_ ?_
    ·have H := H.1
     refine s_ef (d := some 86) rfl rfl rfl (fun dr => r_call Tryz.call72 rfl rfl H) ?_ trivial
     rintro _ h46 ⟨y467, y468, y469, y470, y471, rfl, H⟩
     obtain ⟨e472, H⟩ := H
     obtain ⟨e473, H⟩ := H
     obtain ⟨e474, H⟩ := H
     obtain ⟨e475, H⟩ := H
     obtain ⟨e476, H⟩ := H
     refine ⟨⟨trivial, (.inl ⟨rfl, fun dr => r_loadN Tryz.isAgg66 Tryz.sizeOf66 (vs := [(.int .i64 x453), (.int .i64 x455), (.int .i64 x457), (.int .i64 x459), (.int .i64 x461)]) rfl rfl ⟨e472, e473, e474, e475, e476, trivial⟩⟩), trivial⟩, ?_⟩
     refine s_or ?_ ?_
     ·have H := H.1
      refine s_ef (d := some 87) rfl rfl rfl (fun dr => r_call Tryz.call119 rfl rfl H) ?_ trivial
      rintro _ h47 ⟨y477, y478, y479, y480, y481, rfl, H⟩
      refine ⟨⟨trivial, trivial, trivial⟩, ?_⟩
      obtain ⟨p482, e483⟩ : ∃ p : Addr, p = ⟨h47.size, 0, none⟩ := ⟨_, rfl⟩
      obtain ⟨h48, e484⟩ : ∃ hh : Heap, hh = h47.push (.cells #[(.int .i64 0), (.int .i64 0), (.int .i64 0), (.int .i64 0), (.int .i64 0)] 66) := ⟨_, rfl⟩
      have H := H p482 h48 e483 e484
      obtain ⟨e485, H⟩ := H
      obtain ⟨e486, H⟩ := H
      obtain ⟨e487, H⟩ := H
      obtain ⟨e488, H⟩ := H
      obtain ⟨e489, H⟩ := H
      obtain ⟨e490, H⟩ := H
      refine s_ef1 (d := some 12) (v := (.pointer (some p482))) (h' := h48) rfl rfl rfl (fun dr => (r_alloc Tryz.zeroValue66).trans (by rw [e483, e484]; rfl)) ⟨(.inl ⟨rfl, fun dr => r_load1 Tryz.isAgg37 rfl e485⟩), (.inl ⟨rfl, fun dr => r_loadN Tryz.isAgg66 Tryz.sizeOf66 (vs := [(.int .i64 x453), (.int .i64 x455), (.int .i64 x457), (.int .i64 x459), (.int .i64 x461)]) rfl rfl ⟨e486, e487, e488, e489, e490, trivial⟩⟩), trivial⟩ ?_ trivial
      obtain ⟨e492, H⟩ := H
      obtain ⟨h49, e491⟩ : ∃ hh : Heap, hh = hsets h48 p482 0 [(.int .i64 y477), (.int .i64 y478), (.int .i64 y479), (.int .i64 y480), (.int .i64 y481)] := ⟨_, rfl⟩
      have H := H h49 e491
      refine s_st (d := none) (h' := h49) rfl rfl rfl (fun dr => (r_store (v := (.agg #[(.int .i64 y477), (.int .i64 y478), (.int .i64 y479), (.int .i64 y480), (.int .i64 y481)])) Tryz.sizeOf66 rfl rfl rfl (one_all rfl) e492).trans (by rw [e491]; rfl)) ⟨trivial, trivial, trivial⟩ ?_ trivial
      refine s_fin ?_
      exact N_mk (l := [(0, p1), (2, (.pointer v7)), (9, (.pointer (some p27))), (12, (.pointer (some p482)))]) H ⟨rfl, rfl, rfl, rfl, trivial⟩
     ·have H := H.2
      obtain ⟨p493, e494⟩ : ∃ p : Addr, p = ⟨h46.size, 0, none⟩ := ⟨_, rfl⟩
      obtain ⟨h50, e495⟩ : ∃ hh : Heap, hh = h46.push (.cells #[(.int .i64 0), (.int .i64 0), (.int .i64 0), (.int .i64 0), (.int .i64 0)] 66) := ⟨_, rfl⟩
      have H := H p493 h50 e494 e495
      obtain ⟨e496, H⟩ := H
      obtain ⟨e497, H⟩ := H
      obtain ⟨e498, H⟩ := H
      obtain ⟨e499, H⟩ := H
      obtain ⟨e500, H⟩ := H
      obtain ⟨e501, H⟩ := H
      refine s_ef1 (d := some 12) (v := (.pointer (some p493))) (h' := h50) rfl rfl rfl (fun dr => (r_alloc Tryz.zeroValue66).trans (by rw [e494, e495]; rfl)) ⟨(.inl ⟨rfl, fun dr => r_load1 Tryz.isAgg37 rfl e496⟩), (.inl ⟨rfl, fun dr => r_loadN Tryz.isAgg66 Tryz.sizeOf66 (vs := [(.int .i64 x453), (.int .i64 x455), (.int .i64 x457), (.int .i64 x459), (.int .i64 x461)]) rfl rfl ⟨e497, e498, e499, e500, e501, trivial⟩⟩), trivial⟩ ?_ trivial
      refine s_ef (d := some 87) rfl rfl rfl (fun dr => r_call Tryz.call119 rfl rfl H) ?_ trivial
      rintro _ h51 ⟨y502, y503, y504, y505, y506, rfl, H⟩
      refine ⟨⟨trivial, trivial, trivial⟩, ?_⟩
      obtain ⟨e508, H⟩ := H
      obtain ⟨h52, e507⟩ : ∃ hh : Heap, hh = hsets h51 p493 0 [(.int .i64 y502), (.int .i64 y503), (.int .i64 y504), (.int .i64 y505), (.int .i64 y506)] := ⟨_, rfl⟩
      have H := H h52 e507
      refine s_st (d := none) (h' := h52) rfl rfl rfl (fun dr => (r_store (v := (.agg #[(.int .i64 y502), (.int .i64 y503), (.int .i64 y504), (.int .i64 y505), (.int .i64 y506)])) Tryz.sizeOf66 rfl rfl rfl (one_all rfl) e508).trans (by rw [e507]; rfl)) ⟨trivial, trivial, trivial⟩ ?_ trivial
      refine s_fin ?_
      exact N_mk (l := [(0, p1), (2, (.pointer v7)), (9, (.pointer (some p27))), (12, (.pointer (some p493)))]) H ⟨rfl, rfl, rfl, rfl, trivial⟩
    ·have H := H.2
     obtain ⟨p509, e510⟩ : ∃ p : Addr, p = ⟨h3.size, 0, none⟩ := ⟨_, rfl⟩
     obtain ⟨h53, e511⟩ : ∃ hh : Heap, hh = h3.push (.cells #[(.int .i64 0), (.int .i64 0), (.int .i64 0), (.int .i64 0), (.int .i64 0)] 66) := ⟨_, rfl⟩
     have H := H p509 h53 e510 e511
     obtain ⟨e512, H⟩ := H
     obtain ⟨e513, H⟩ := H
     obtain ⟨e514, H⟩ := H
     obtain ⟨e515, H⟩ := H
     obtain ⟨e516, H⟩ := H
     obtain ⟨e517, H⟩ := H
     refine s_ef1 (d := some 12) (v := (.pointer (some p509))) (h' := h53) rfl rfl rfl (fun dr => (r_alloc Tryz.zeroValue66).trans (by rw [e510, e511]; rfl)) ⟨(.inl ⟨rfl, fun dr => r_load1 Tryz.isAgg37 rfl e512⟩), (.inl ⟨rfl, fun dr => r_loadN Tryz.isAgg66 Tryz.sizeOf66 (vs := [(.int .i64 x453), (.int .i64 x455), (.int .i64 x457), (.int .i64 x459), (.int .i64 x461)]) rfl rfl ⟨e513, e514, e515, e516, e517, trivial⟩⟩), trivial⟩ ?_ trivial
     refine s_ef (d := some 86) rfl rfl rfl (fun dr => r_call Tryz.call72 rfl rfl H) ?_ trivial
     rintro _ h54 ⟨y518, y519, y520, y521, y522, rfl, H⟩
     obtain ⟨e523, H⟩ := H
     obtain ⟨e524, H⟩ := H
     obtain ⟨e525, H⟩ := H
     obtain ⟨e526, H⟩ := H
     obtain ⟨e527, H⟩ := H
     refine ⟨⟨trivial, (.inl ⟨rfl, fun dr => r_loadN Tryz.isAgg66 Tryz.sizeOf66 (vs := [(.int .i64 x453), (.int .i64 x455), (.int .i64 x457), (.int .i64 x459), (.int .i64 x461)]) rfl rfl ⟨e523, e524, e525, e526, e527, trivial⟩⟩), trivial⟩, ?_⟩
     refine s_ef (d := some 87) rfl rfl rfl (fun dr => r_call Tryz.call119 rfl rfl H) ?_ trivial
     rintro _ h55 ⟨y528, y529, y530, y531, y532, rfl, H⟩
     refine ⟨⟨trivial, trivial, trivial⟩, ?_⟩
     obtain ⟨e534, H⟩ := H
     obtain ⟨h56, e533⟩ : ∃ hh : Heap, hh = hsets h55 p509 0 [(.int .i64 y528), (.int .i64 y529), (.int .i64 y530), (.int .i64 y531), (.int .i64 y532)] := ⟨_, rfl⟩
     have H := H h56 e533
     refine s_st (d := none) (h' := h56) rfl rfl rfl (fun dr => (r_store (v := (.agg #[(.int .i64 y528), (.int .i64 y529), (.int .i64 y530), (.int .i64 y531), (.int .i64 y532)])) Tryz.sizeOf66 rfl rfl rfl (one_all rfl) e534).trans (by rw [e533]; rfl)) ⟨trivial, trivial, trivial⟩ ?_ trivial
     refine s_fin ?_
     exact N_mk (l := [(0, p1), (2, (.pointer v7)), (9, (.pointer (some p27))), (12, (.pointer (some p509)))]) H ⟨rfl, rfl, rfl, rfl, trivial⟩)
  clear eN29
  refine W_draw [0, 0, 2, 6, 14, 30, 63, 0, 255] (.rd 0 (.pu 1 (.pu 2 (.pu 3 (.rd 4 (.ef 5 [4] (.ef 6 [0, 4] (.ef 7 [] (.ef 8 [0, 4] .fin .no) .no) (.ef 7 [] (.ef 6 [0, 4] (.ef 8 [0, 4] .fin .no) .no) .no)) (.ef 7 [] (.ef 5 [4] (.ef 6 [0, 4] (.ef 8 [0, 4] .fin .no) .no) .no) .no))))))) (by kernel_rfl) (by kernel_rfl) ?_
  obtain ⟨x537, e538, H⟩ := H
  obtain ⟨x539, e540, H⟩ := H
  obtain ⟨x541, e542, H⟩ := H
  obtain ⟨x543, e544, H⟩ := H
  obtain ⟨x545, e546, H⟩ := H
  refine s_rd (d := some 31) (v := (.agg #[(.int .i64 x537), (.int .i64 x539), (.int .i64 x541), (.int .i64 x543), (.int .i64 x545)])) rfl rfl rfl (fun dr => r_loadN Tryz.isAgg66 Tryz.sizeOf66 (vs := [(.int .i64 x537), (.int .i64 x539), (.int .i64 x541), (.int .i64 x543), (.int .i64 x545)]) rfl rfl ⟨e538, e540, e542, e544, e546, trivial⟩) ?_
  refine sp 32 (.pointer v7) rfl rfl (r_move rfl) ?_
  obtain ⟨p547, e548, H⟩ := H
  refine sp 33 (.pointer (some p547)) rfl rfl (r_nilCheck rfl e548) ?_
  refine sp 34 (.pointer (some (Addr.add p547 5))) rfl rfl (r_fieldAddr Tryz.underlying127 Tryz.sizeOf113 rfl rfl rfl) ?_
  obtain ⟨x549, e550, H⟩ := H
  refine s_rd (d := some 35) (v := (Sl.v x549)) rfl rfl rfl (fun dr => r_load1 Tryz.isAgg113 rfl e550) ?_
  refine s_or ?_ ?_
  ·have H := H.1
   refine s_ef (d := some 36) rfl rfl rfl (fun dr => r_call Tryz.call120 rfl rfl H) ?_ trivial
   rintro _ h57 ⟨y551, y552, y553, y554, y555, rfl, H⟩
   obtain ⟨e556, H⟩ := H
   obtain ⟨e557, H⟩ := H
   obtain ⟨e558, H⟩ := H
   obtain ⟨e559, H⟩ := H
   obtain ⟨e560, H⟩ := H
   refine ⟨⟨trivial, (.inl ⟨rfl, fun dr => r_loadN Tryz.isAgg66 Tryz.sizeOf66 (vs := [(.int .i64 x537), (.int .i64 x539), (.int .i64 x541), (.int .i64 x543), (.int .i64 x545)]) rfl rfl ⟨e556, e557, e558, e559, e560, trivial⟩⟩), trivial⟩, ?_⟩
   refine s_or ?_ ?_
   ·have H := H.1
    refine s_ef (d := some 37) rfl rfl rfl (fun dr => r_call Tryz.call119 rfl rfl H) ?_ trivial
    rintro _ h58 ⟨y561, y562, y563, y564, y565, rfl, H⟩
    refine ⟨⟨trivial, trivial, trivial⟩, ?_⟩
    obtain ⟨p566, e567⟩ : ∃ p : Addr, p = ⟨h58.size, 0, none⟩ := ⟨_, rfl⟩
    obtain ⟨h59, e568⟩ : ∃ hh : Heap, hh = h58.push (.cells #[(.int .i64 0), (.int .i64 0), (.int .i64 0), (.int .i64 0), (.int .i64 0)] 66) := ⟨_, rfl⟩
    have H := H p566 h59 e567 e568
    obtain ⟨e569, H⟩ := H
    obtain ⟨e570, H⟩ := H
    obtain ⟨e571, H⟩ := H
    obtain ⟨e572, H⟩ := H
    obtain ⟨e573, H⟩ := H
    obtain ⟨e574, H⟩ := H
    refine s_ef1 (d := some 9) (v := (.pointer (some p566))) (h' := h59) rfl rfl rfl (fun dr => (r_alloc Tryz.zeroValue66).trans (by rw [e567, e568]; rfl)) ⟨(.inl ⟨rfl, fun dr => r_load1 Tryz.isAgg113 rfl e569⟩), (.inl ⟨rfl, fun dr => r_loadN Tryz.isAgg66 Tryz.sizeOf66 (vs := [(.int .i64 x537), (.int .i64 x539), (.int .i64 x541), (.int .i64 x543), (.int .i64 x545)]) rfl rfl ⟨e570, e571, e572, e573, e574, trivial⟩⟩), trivial⟩ ?_ trivial
    obtain ⟨e576, H⟩ := H
    obtain ⟨h60, e575⟩ : ∃ hh : Heap, hh = hsets h59 p566 0 [(.int .i64 y561), (.int .i64 y562), (.int .i64 y563), (.int .i64 y564), (.int .i64 y565)] := ⟨_, rfl⟩
    have H := H h60 e575
    refine s_st (d := none) (h' := h60) rfl rfl rfl (fun dr => (r_store (v := (.agg #[(.int .i64 y561), (.int .i64 y562), (.int .i64 y563), (.int .i64 y564), (.int .i64 y565)])) Tryz.sizeOf66 rfl rfl rfl (one_all rfl) e576).trans (by rw [e575]; rfl)) ⟨trivial, trivial, trivial⟩ ?_ trivial
    refine s_fin ?_
    exact N_mk (l := [(0, p1), (2, (.pointer v7)), (4, (.pointer (some p8))), (9, (.pointer (some p566)))]) H ⟨rfl, rfl, rfl, rfl, trivial⟩
   ·have H := H.2
    obtain ⟨p577, e578⟩ : ∃ p : Addr, p = ⟨h57.size, 0, none⟩ := ⟨_, rfl⟩
    obtain ⟨h61, e579⟩ : ∃ hh : Heap, hh = h57.push (.cells #[(.int .i64 0), (.int .i64 0), (.int .i64 0), (.int .i64 0), (.int .i64 0)] 66) := ⟨_, rfl⟩
    have H := H p577 h61 e578 e579
    obtain ⟨e580, H⟩ := H
    obtain ⟨e581, H⟩ := H
    obtain ⟨e582, H⟩ := H
    obtain ⟨e583, H⟩ := H
    obtain ⟨e584, H⟩ := H
    obtain ⟨e585, H⟩ := H
    refine s_ef1 (d := some 9) (v := (.pointer (some p577))) (h' := h61) rfl rfl rfl (fun dr => (r_alloc Tryz.zeroValue66).trans (by rw [e578, e579]; rfl)) ⟨(.inl ⟨rfl, fun dr => r_load1 Tryz.isAgg113 rfl e580⟩), (.inl ⟨rfl, fun dr => r_loadN Tryz.isAgg66 Tryz.sizeOf66 (vs := [(.int .i64 x537), (.int .i64 x539), (.int .i64 x541), (.int .i64 x543), (.int .i64 x545)]) rfl rfl ⟨e581, e582, e583, e584, e585, trivial⟩⟩), trivial⟩ ?_ trivial
    refine s_ef (d := some 37) rfl rfl rfl (fun dr => r_call Tryz.call119 rfl rfl H) ?_ trivial
    rintro _ h62 ⟨y586, y587, y588, y589, y590, rfl, H⟩
    refine ⟨⟨trivial, trivial, trivial⟩, ?_⟩
    obtain ⟨e592, H⟩ := H
    obtain ⟨h63, e591⟩ : ∃ hh : Heap, hh = hsets h62 p577 0 [(.int .i64 y586), (.int .i64 y587), (.int .i64 y588), (.int .i64 y589), (.int .i64 y590)] := ⟨_, rfl⟩
    have H := H h63 e591
    refine s_st (d := none) (h' := h63) rfl rfl rfl (fun dr => (r_store (v := (.agg #[(.int .i64 y586), (.int .i64 y587), (.int .i64 y588), (.int .i64 y589), (.int .i64 y590)])) Tryz.sizeOf66 rfl rfl rfl (one_all rfl) e592).trans (by rw [e591]; rfl)) ⟨trivial, trivial, trivial⟩ ?_ trivial
    refine s_fin ?_
    exact N_mk (l := [(0, p1), (2, (.pointer v7)), (4, (.pointer (some p8))), (9, (.pointer (some p577)))]) H ⟨rfl, rfl, rfl, rfl, trivial⟩
  ·have H := H.2
   obtain ⟨p593, e594⟩ : ∃ p : Addr, p = ⟨h1.size, 0, none⟩ := ⟨_, rfl⟩
   obtain ⟨h64, e595⟩ : ∃ hh : Heap, hh = h1.push (.cells #[(.int .i64 0), (.int .i64 0), (.int .i64 0), (.int .i64 0), (.int .i64 0)] 66) := ⟨_, rfl⟩
   have H := H p593 h64 e594 e595
   obtain ⟨e596, H⟩ := H
   obtain ⟨e597, H⟩ := H
   obtain ⟨e598, H⟩ := H
   obtain ⟨e599, H⟩ := H
   obtain ⟨e600, H⟩ := H
   obtain ⟨e601, H⟩ := H
   refine s_ef1 (d := some 9) (v := (.pointer (some p593))) (h' := h64) rfl rfl rfl (fun dr => (r_alloc Tryz.zeroValue66).trans (by rw [e594, e595]; rfl)) ⟨(.inl ⟨rfl, fun dr => r_load1 Tryz.isAgg113 rfl e596⟩), (.inl ⟨rfl, fun dr => r_loadN Tryz.isAgg66 Tryz.sizeOf66 (vs := [(.int .i64 x537), (.int .i64 x539), (.int .i64 x541), (.int .i64 x543), (.int .i64 x545)]) rfl rfl ⟨e597, e598, e599, e600, e601, trivial⟩⟩), trivial⟩ ?_ trivial
   refine s_ef (d := some 36) rfl rfl rfl (fun dr => r_call Tryz.call120 rfl rfl H) ?_ trivial
   rintro _ h65 ⟨y602, y603, y604, y605, y606, rfl, H⟩
   obtain ⟨e607, H⟩ := H
   obtain ⟨e608, H⟩ := H
   obtain ⟨e609, H⟩ := H
   obtain ⟨e610, H⟩ := H
   obtain ⟨e611, H⟩ := H
   refine ⟨⟨trivial, (.inl ⟨rfl, fun dr => r_loadN Tryz.isAgg66 Tryz.sizeOf66 (vs := [(.int .i64 x537), (.int .i64 x539), (.int .i64 x541), (.int .i64 x543), (.int .i64 x545)]) rfl rfl ⟨e607, e608, e609, e610, e611, trivial⟩⟩), trivial⟩, ?_⟩
   refine s_ef (d := some 37) rfl rfl rfl (fun dr => r_call Tryz.call119 rfl rfl H) ?_ trivial
   rintro _ h66 ⟨y612, y613, y614, y615, y616, rfl, H⟩
   refine ⟨⟨trivial, trivial, trivial⟩, ?_⟩
   obtain ⟨e618, H⟩ := H
   obtain ⟨h67, e617⟩ : ∃ hh : Heap, hh = hsets h66 p593 0 [(.int .i64 y612), (.int .i64 y613), (.int .i64 y614), (.int .i64 y615), (.int .i64 y616)] := ⟨_, rfl⟩
   have H := H h67 e617
   refine s_st (d := none) (h' := h67) rfl rfl rfl (fun dr => (r_store (v := (.agg #[(.int .i64 y612), (.int .i64 y613), (.int .i64 y614), (.int .i64 y615), (.int .i64 y616)])) Tryz.sizeOf66 rfl rfl rfl (one_all rfl) e618).trans (by rw [e617]; rfl)) ⟨trivial, trivial, trivial⟩ ?_ trivial
   refine s_fin ?_
   exact N_mk (l := [(0, p1), (2, (.pointer v7)), (4, (.pointer (some p8))), (9, (.pointer (some p593)))]) H ⟨rfl, rfl, rfl, rfl, trivial⟩
end Go.Proofs.YthkimbiknhebeaaGreatDoor
