/- Typed words of functions, and that they hold: printed by gen.py (an own tool of this claim) off the model's own form of each function. -/
import Derived.Test.YthkimbiknhebeaaGreatDoorProg
import Derived.Test.YthkimbiknhebeaaGreatDoorGMono
import Derived.Test.YthkimbiknhebeaaGreatDoorGStr
namespace Go.Proofs.YthkimbiknhebeaaGreatDoor
open Go Go.RowKit Go.Tw
set_option linter.unusedVariables false
set_option maxRecDepth 100000
theorem slFGRef_26 : SlF Tryz.prog 26 3 1 8 (.int .i64 0) := ⟨Tryz.underlying26, ⟨Tryz.t3, by kernel_rfl, rfl, rfl, rfl⟩, rfl, Tryz.sizeOf3, Tryz.zeroValue3⟩
abbrev ref1_one (r : World) (d1 : Sl) (d2 : Sl) (word3 : ByteArray) (n4 : Int) (h : Heap) (R : Sl → Sl → ByteArray → Heap → Prop) : Prop :=
 CallsH Tryz.prog r 13 [(.agg #[(Sl.v d1), (Sl.v d2)]), (.string word3), (.int .i64 n4)] h fun v h' => ∃ (y5 : Sl) (y6 : Sl) (y7 : ByteArray), v = (.tuple #[(.agg #[(Sl.v y5), (Sl.v y6)]), (.string y7)]) ∧ R y5 y6 y7 h'
abbrev ref1_Answered (r : World) (d1 : Sl) (d2 : Sl) (line3 : ByteArray) (h : Heap) (R : Sl → Sl → ByteArray → Heap → Prop) : Prop :=
 CallsH Tryz.prog r 8 [(.agg #[(Sl.v d1), (Sl.v d2)]), (.string line3)] h fun v h' => ∃ (y4 : Sl) (y5 : Sl) (y6 : ByteArray), v = (.tuple #[(.agg #[(Sl.v y4), (Sl.v y5)]), (.string y6)]) ∧ R y4 y5 y6 h'
def ref1_one_F (r : World) (d1 : Sl) (d2 : Sl) (word3 : ByteArray) (n4 : Int) (h : Heap) (R : Sl → Sl → ByteArray → Heap → Prop) : Prop :=
 New h (.cells #[(Sl.v d1), (Sl.v d2)] 28) fun p5 h1 =>
 New h1 (.cells #[(Sl.v Sl.nil), (Sl.v Sl.nil)] 28) fun p8 h2 =>
 Br (decide (word3 = (⟨#[114, 97, 110, 107]⟩))) (
  LdS h2 (Addr.add p5 0) fun x11 =>
  LdS h2 (Addr.add p5 1) fun x13 =>
  LdS h2 (Addr.add p5 1) fun x15 =>
  ref1_Below r x15 n4 h2 fun y17 h3 =>
  (hcell h3 (Addr.add p5 0) = some (Sl.v x11)) ∧
  (hcell h3 (Addr.add p5 1) = some (Sl.v x13)) ∧
  ref1_Digits r y17 h3 fun y20 h4 =>
  (hcell h4 (Addr.add p5 0) = some (Sl.v x11)) ∧
  (hcell h4 (Addr.add p5 1) = some (Sl.v x13)) ∧
  St h4 p8 2 [(Sl.v x11), (Sl.v x13)] fun h5 =>
  LdS h5 (Addr.add p8 0) fun x25 =>
  LdS h5 (Addr.add p8 1) fun x27 =>
  R x25 x27 y20 h5) (
  Br (decide (word3 = (⟨#[112, 117, 116]⟩))) (
   LdS h2 (Addr.add p5 1) fun x29 =>
   ref1_Cat r x29 Sl.nil h2 fun y31 h6 =>
   New h6 (.cells #[(.int .i64 n4)] 3) fun p32 h7 =>
   App 3 1 8 (.int .i64 0) y31 ((⟨some p32, 1, 1⟩ : Sl)) h7 fun s35 h8 =>
   ref1_Once r s35 h8 fun y36 h9 =>
   St h9 (Addr.add p5 1) 1 [(Sl.v y36)] fun h10 =>
   LdS h10 (Addr.add p5 0) fun x39 =>
   LdS h10 (Addr.add p5 1) fun x41 =>
   LdS h10 (Addr.add p5 1) fun x43 =>
   ref1_Digits r ((x43.len : Int)) h10 fun y45 h11 =>
   (hcell h11 (Addr.add p5 0) = some (Sl.v x39)) ∧
   (hcell h11 (Addr.add p5 1) = some (Sl.v x41)) ∧
   St h11 p8 2 [(Sl.v x39), (Sl.v x41)] fun h12 =>
   LdS h12 (Addr.add p8 0) fun x50 =>
   LdS h12 (Addr.add p8 1) fun x52 =>
   R x50 x52 y45 h12) (
   Br (decide (word3 = (⟨#[100, 114, 111, 112]⟩))) (
    LdS h2 (Addr.add p5 1) fun x54 =>
    New h2 (.cells #[(.int .i64 n4)] 3) fun p56 h13 =>
    ref1_Sifted r x54 ((⟨some p56, 1, 1⟩ : Sl)) false h13 fun y59 h14 =>
    St h14 (Addr.add p5 1) 1 [(Sl.v y59)] fun h15 =>
    LdS h15 (Addr.add p5 0) fun x62 =>
    LdS h15 (Addr.add p5 1) fun x64 =>
    LdS h15 (Addr.add p5 1) fun x66 =>
    ref1_Digits r ((x66.len : Int)) h15 fun y68 h16 =>
    (hcell h16 (Addr.add p5 0) = some (Sl.v x62)) ∧
    (hcell h16 (Addr.add p5 1) = some (Sl.v x64)) ∧
    St h16 p8 2 [(Sl.v x62), (Sl.v x64)] fun h17 =>
    LdS h17 (Addr.add p8 0) fun x73 =>
    LdS h17 (Addr.add p8 1) fun x75 =>
    R x73 x75 y68 h17) (
    ∀ J78 : Bool → Prop, (∀ (x77 : Bool),
     (Br x77 (
      LdS h2 (Addr.add p5 0) fun x80 =>
      LdS h2 (Addr.add p5 1) fun x82 =>
      St h2 p8 2 [(Sl.v x80), (Sl.v x82)] fun h18 =>
      LdS h18 (Addr.add p8 0) fun x86 =>
      LdS h18 (Addr.add p8 1) fun x88 =>
      R x86 x88 (⟨#[69, 114, 114, 82, 97, 110, 103, 101]⟩) h18) (
      LdS h2 (Addr.add p5 0) fun x90 =>
      ref1_Without r x90 n4 h2 fun y92 h19 =>
      St h19 (Addr.add p5 0) 1 [(Sl.v y92)] fun h20 =>
      LdS h20 (Addr.add p5 0) fun x95 =>
      LdS h20 (Addr.add p5 1) fun x97 =>
      LdS h20 (Addr.add p5 0) fun x99 =>
      ref1_Digits r ((x99.len : Int)) h20 fun y101 h21 =>
      (hcell h21 (Addr.add p5 0) = some (Sl.v x95)) ∧
      (hcell h21 (Addr.add p5 1) = some (Sl.v x97)) ∧
      St h21 p8 2 [(Sl.v x95), (Sl.v x97)] fun h22 =>
      LdS h22 (Addr.add p8 0) fun x106 =>
      LdS h22 (Addr.add p8 1) fun x108 =>
      R x106 x108 y101 h22)) →
     J78 x77) →
    Br (decide (n4 < 0)) (
     J78 true) (
     LdS h2 (Addr.add p5 0) fun x112 =>
     J78 (decide (((x112.len : Int)) ≤ n4))))))
theorem ref1_one_of {r : World} {d1 : Sl} {d2 : Sl} {word3 : ByteArray} {n4 : Int} {h : Heap} {R : Sl → Sl → ByteArray → Heap → Prop} (H : ref1_one_F r d1 d2 word3 n4 h R) : ref1_one r d1 d2 word3 n4 h R := by
 unfold ref1_one_F at H
 refine calls_of 64 [.cell 6 28, .tmp 7] Tryz.func13 rfl rfl rfl rfl rfl ?_
 refine W_seq ?_
 refine W_region (.ef 0 [] (.ef 1 [] (.pu 2 .fin) .no) .no) rfl rfl ?_
 obtain ⟨p5, e6⟩ : ∃ p : Addr, p = ⟨h.size, 0, none⟩ := ⟨_, rfl⟩
 obtain ⟨h1, e7⟩ : ∃ hh : Heap, hh = h.push (.cells #[(Sl.v d1), (Sl.v d2)] 28) := ⟨_, rfl⟩
 have H := H p5 h1 e6 e7
 refine s_ef1 (d := some 3) (v := (.pointer (some p5))) (h' := h1) rfl rfl rfl (fun dr => (r_box (v := (.agg #[(Sl.v d1), (Sl.v d2)])) rfl).trans (by rw [e6, e7]; rfl)) trivial ?_ trivial
 obtain ⟨p8, e9⟩ : ∃ p : Addr, p = ⟨h1.size, 0, none⟩ := ⟨_, rfl⟩
 obtain ⟨h2, e10⟩ : ∃ hh : Heap, hh = h1.push (.cells #[(Sl.v Sl.nil), (Sl.v Sl.nil)] 28) := ⟨_, rfl⟩
 have H := H p8 h2 e9 e10
 refine s_ef1 (d := some 6) (v := (.pointer (some p8))) (h' := h2) rfl rfl rfl (fun dr => (r_alloc Tryz.zeroValue28).trans (by rw [e9, e10]; rfl)) trivial ?_ trivial
 refine sp 7 (.string (⟨#[]⟩)) rfl rfl (r_assign rfl) ?_
 refine s_fin ?_
 refine W_seq ?_
 refine W_seq ?_
 refine W_region (.pu 0 (.pu 1 .fin)) rfl rfl ?_
 refine sp 8 (.string word3) rfl rfl (r_move rfl) ?_
 refine sp 9 (.bool (decide (word3 = (⟨#[114, 97, 110, 107]⟩)))) rfl rfl (r_eqlT rfl rfl) ?_
 refine s_fin ?_
 refine W_if (decide (word3 = (⟨#[114, 97, 110, 107]⟩))) rfl (fun g116 => ?_) (fun g116 => ?_)
 ·have H := H.1 g116
  refine W_seq ?_
  refine W_draw [0, 0, 2, 0, 14, 30, 63, 127] (.rd 0 (.pu 1 (.rd 2 (.pu 3 (.ef 4 [2] (.ef 5 [2] (.ef 6 [0, 2] (.pu 7 .fin) .no) .no) .no))))) (by kernel_rfl) (by kernel_rfl) ?_
  obtain ⟨x11, e12, H⟩ := H
  obtain ⟨x13, e14, H⟩ := H
  refine s_rd (d := some 10) (v := (.agg #[(Sl.v x11), (Sl.v x13)])) rfl rfl rfl (fun dr => r_loadN Tryz.isAgg28 Tryz.sizeOf28 (vs := [(Sl.v x11), (Sl.v x13)]) rfl rfl ⟨e12, e14, trivial⟩) ?_
  refine sp 11 (.pointer (some (Addr.add p5 1))) rfl rfl (r_fieldAddr Tryz.underlying28 Tryz.sizeOf26 rfl rfl rfl) ?_
  obtain ⟨x15, e16, H⟩ := H
  refine s_rd (d := some 12) (v := (Sl.v x15)) rfl rfl rfl (fun dr => r_load1 Tryz.isAgg26 rfl e16) ?_
  refine sp 13 (.int .i64 n4) rfl rfl (r_move rfl) ?_
  refine s_ef (d := some 14) rfl rfl rfl (fun dr => r_call Tryz.call35 rfl rfl H) ?_ trivial
  rintro _ h3 ⟨y17, rfl, H⟩
  obtain ⟨e18, H⟩ := H
  obtain ⟨e19, H⟩ := H
  refine ⟨⟨trivial, (.inl ⟨rfl, fun dr => r_loadN Tryz.isAgg28 Tryz.sizeOf28 (vs := [(Sl.v x11), (Sl.v x13)]) rfl rfl ⟨e18, e19, trivial⟩⟩), trivial⟩, ?_⟩
  refine s_ef (d := some 15) rfl rfl rfl (fun dr => r_call Tryz.call16 rfl rfl H) ?_ trivial
  rintro _ h4 ⟨y20, rfl, H⟩
  obtain ⟨e21, H⟩ := H
  obtain ⟨e22, H⟩ := H
  refine ⟨⟨trivial, (.inl ⟨rfl, fun dr => r_loadN Tryz.isAgg28 Tryz.sizeOf28 (vs := [(Sl.v x11), (Sl.v x13)]) rfl rfl ⟨e21, e22, trivial⟩⟩), trivial⟩, ?_⟩
  obtain ⟨e24, H⟩ := H
  obtain ⟨h5, e23⟩ : ∃ hh : Heap, hh = hsets h4 p8 0 [(Sl.v x11), (Sl.v x13)] := ⟨_, rfl⟩
  have H := H h5 e23
  refine s_st (d := none) (h' := h5) rfl rfl rfl (fun dr => (r_store (v := (.agg #[(Sl.v x11), (Sl.v x13)])) Tryz.sizeOf28 rfl rfl rfl (one_all rfl) e24).trans (by rw [e23]; rfl)) ⟨trivial, trivial, trivial⟩ ?_ trivial
  refine sp 7 (.string y20) rfl rfl (r_assign rfl) ?_
  refine s_fin ?_
  refine W_ret ?_
  obtain ⟨x25, e26, H⟩ := H
  obtain ⟨x27, e28, H⟩ := H
  exact ⟨[(.agg #[(Sl.v x25), (Sl.v x27)]), (.string y20)], ⟨_, _, _, rfl, rfl, fun dr => run_loadVarN Tryz.isAgg28 Tryz.sizeOf28 (vs := [(Sl.v x25), (Sl.v x27)]) rfl ⟨e26, e28, trivial⟩, ⟨_, _, rfl, rfl, rfl⟩⟩, x25, x27, y20, rfl, H⟩
 ·have H := H.2 g116
  refine W_skip ?_
  show W _ _ _ _ _ _ _ _
  refine W_seq ?_
  refine W_seq ?_
  refine W_region (.pu 0 (.pu 1 .fin)) rfl rfl ?_
  refine sp 16 (.string word3) rfl rfl (r_move rfl) ?_
  refine sp 17 (.bool (decide (word3 = (⟨#[112, 117, 116]⟩)))) rfl rfl (r_eqlT rfl rfl) ?_
  refine s_fin ?_
  refine W_if (decide (word3 = (⟨#[112, 117, 116]⟩))) rfl (fun g115 => ?_) (fun g115 => ?_)
  ·have H := H.1 g115
   refine W_seq ?_
   refine W_region (.pu 0 (.rl 1 (.ef 2 [] (.pu 3 (.ef 4 [] (.ef 5 [] (.ef 6 [] (.pu 7 (.ef 8 [] .fin .no)) .no) .no) .no)) .no))) rfl rfl ?_
   refine sp 18 (.pointer (some (Addr.add p5 1))) rfl rfl (r_fieldAddr Tryz.underlying28 Tryz.sizeOf26 rfl rfl rfl) ?_
   obtain ⟨x29, e30, H⟩ := H
   refine sl 19 (Sl.v x29) rfl rfl (fun dr => r_load1 Tryz.isAgg26 rfl e30) ?_
   refine sc 20 rfl rfl (fun dr => r_call Tryz.call37 rfl rfl H) ?_
   rintro _ h6 ⟨y31, rfl, H⟩
   refine sp 21 (.int .i64 n4) rfl rfl (r_move rfl) ?_
   obtain ⟨p32, e33⟩ : ∃ p : Addr, p = ⟨h6.size, 0, none⟩ := ⟨_, rfl⟩
   obtain ⟨h7, e34⟩ : ∃ hh : Heap, hh = h6.push (.cells #[(.int .i64 n4)] 3) := ⟨_, rfl⟩
   have H := H p32 h7 e33 e34
   refine s_ef1 (d := some 22) (v := (Sl.v ((⟨some p32, 1, 1⟩ : Sl)))) (h' := h7) rfl rfl rfl (fun dr => (slFGRef_26.build (cells := #[(.int .i64 n4)]) (by decide) rfl (by kernel_rfl)).trans (by rw [e33, e34]; rfl)) trivial ?_ trivial
   refine s_ef (d := some 23) rfl rfl rfl (fun dr => slFGRef_26.append rfl rfl H) ?_ trivial
   rintro _ h8 ⟨s35, rfl, H⟩
   refine ⟨trivial, ?_⟩
   refine sc 24 rfl rfl (fun dr => r_call Tryz.call36 rfl rfl H) ?_
   rintro _ h9 ⟨y36, rfl, H⟩
   refine sp 25 (.pointer (some (Addr.add p5 1))) rfl rfl (r_fieldAddr Tryz.underlying28 Tryz.sizeOf26 rfl rfl rfl) ?_
   obtain ⟨e38, H⟩ := H
   obtain ⟨h10, e37⟩ : ∃ hh : Heap, hh = hsets h9 (Addr.add p5 1) 0 [(Sl.v y36)] := ⟨_, rfl⟩
   have H := H h10 e37
   refine s_st (d := none) (h' := h10) rfl rfl rfl (fun dr => (r_store (v := (Sl.v y36)) Tryz.sizeOf26 rfl rfl rfl (one_all rfl) e38).trans (by rw [e37]; rfl)) trivial ?_ trivial
   refine s_fin ?_
   refine W_seq ?_
   refine W_draw [0, 0, 2, 6, 14, 31, 63] (.rd 0 (.pu 1 (.rd 2 (.pu 3 (.ef 4 [2] (.ef 5 [0, 2] (.pu 6 .fin) .no) .no))))) (by kernel_rfl) (by kernel_rfl) ?_
   obtain ⟨x39, e40, H⟩ := H
   obtain ⟨x41, e42, H⟩ := H
   refine s_rd (d := some 26) (v := (.agg #[(Sl.v x39), (Sl.v x41)])) rfl rfl rfl (fun dr => r_loadN Tryz.isAgg28 Tryz.sizeOf28 (vs := [(Sl.v x39), (Sl.v x41)]) rfl rfl ⟨e40, e42, trivial⟩) ?_
   refine sp 27 (.pointer (some (Addr.add p5 1))) rfl rfl (r_fieldAddr Tryz.underlying28 Tryz.sizeOf26 rfl rfl rfl) ?_
   obtain ⟨x43, e44, H⟩ := H
   refine s_rd (d := some 28) (v := (Sl.v x43)) rfl rfl rfl (fun dr => r_load1 Tryz.isAgg26 rfl e44) ?_
   refine sp 29 (.int .i64 ((x43.len : Int))) rfl rfl (r_len Tryz.underlying26 rfl) ?_
   refine s_ef (d := some 30) rfl rfl rfl (fun dr => r_call Tryz.call16 rfl rfl H) ?_ trivial
   rintro _ h11 ⟨y45, rfl, H⟩
   obtain ⟨e46, H⟩ := H
   obtain ⟨e47, H⟩ := H
   refine ⟨⟨trivial, (.inl ⟨rfl, fun dr => r_loadN Tryz.isAgg28 Tryz.sizeOf28 (vs := [(Sl.v x39), (Sl.v x41)]) rfl rfl ⟨e46, e47, trivial⟩⟩), trivial⟩, ?_⟩
   obtain ⟨e49, H⟩ := H
   obtain ⟨h12, e48⟩ : ∃ hh : Heap, hh = hsets h11 p8 0 [(Sl.v x39), (Sl.v x41)] := ⟨_, rfl⟩
   have H := H h12 e48
   refine s_st (d := none) (h' := h12) rfl rfl rfl (fun dr => (r_store (v := (.agg #[(Sl.v x39), (Sl.v x41)])) Tryz.sizeOf28 rfl rfl rfl (one_all rfl) e49).trans (by rw [e48]; rfl)) ⟨trivial, trivial, trivial⟩ ?_ trivial
   refine sp 7 (.string y45) rfl rfl (r_assign rfl) ?_
   refine s_fin ?_
   refine W_ret ?_
   obtain ⟨x50, e51, H⟩ := H
   obtain ⟨x52, e53, H⟩ := H
   exact ⟨[(.agg #[(Sl.v x50), (Sl.v x52)]), (.string y45)], ⟨_, _, _, rfl, rfl, fun dr => run_loadVarN Tryz.isAgg28 Tryz.sizeOf28 (vs := [(Sl.v x50), (Sl.v x52)]) rfl ⟨e51, e53, trivial⟩, ⟨_, _, rfl, rfl, rfl⟩⟩, x50, x52, y45, rfl, H⟩
  ·have H := H.2 g115
   refine W_skip ?_
   show W _ _ _ _ _ _ _ _
   refine W_seq ?_
   refine W_seq ?_
   refine W_region (.pu 0 (.pu 1 .fin)) rfl rfl ?_
   refine sp 31 (.string word3) rfl rfl (r_move rfl) ?_
   refine sp 32 (.bool (decide (word3 = (⟨#[100, 114, 111, 112]⟩)))) rfl rfl (r_eqlT rfl rfl) ?_
   refine s_fin ?_
   refine W_if (decide (word3 = (⟨#[100, 114, 111, 112]⟩))) rfl (fun g114 => ?_) (fun g114 => ?_)
   ·have H := H.1 g114
    refine W_seq ?_
    refine W_region (.pu 0 (.rl 1 (.pu 2 (.ef 3 [] (.ef 4 [] (.pu 5 (.ef 6 [] .fin .no)) .no) .no)))) rfl rfl ?_
    refine sp 33 (.pointer (some (Addr.add p5 1))) rfl rfl (r_fieldAddr Tryz.underlying28 Tryz.sizeOf26 rfl rfl rfl) ?_
    obtain ⟨x54, e55, H⟩ := H
    refine sl 34 (Sl.v x54) rfl rfl (fun dr => r_load1 Tryz.isAgg26 rfl e55) ?_
    refine sp 35 (.int .i64 n4) rfl rfl (r_move rfl) ?_
    obtain ⟨p56, e57⟩ : ∃ p : Addr, p = ⟨h2.size, 0, none⟩ := ⟨_, rfl⟩
    obtain ⟨h13, e58⟩ : ∃ hh : Heap, hh = h2.push (.cells #[(.int .i64 n4)] 3) := ⟨_, rfl⟩
    have H := H p56 h13 e57 e58
    refine s_ef1 (d := some 36) (v := (Sl.v ((⟨some p56, 1, 1⟩ : Sl)))) (h' := h13) rfl rfl rfl (fun dr => (slFGRef_26.build (cells := #[(.int .i64 n4)]) (by decide) rfl (by kernel_rfl)).trans (by rw [e57, e58]; rfl)) trivial ?_ trivial
    refine sc 37 rfl rfl (fun dr => r_call Tryz.call38 rfl rfl H) ?_
    rintro _ h14 ⟨y59, rfl, H⟩
    refine sp 38 (.pointer (some (Addr.add p5 1))) rfl rfl (r_fieldAddr Tryz.underlying28 Tryz.sizeOf26 rfl rfl rfl) ?_
    obtain ⟨e61, H⟩ := H
    obtain ⟨h15, e60⟩ : ∃ hh : Heap, hh = hsets h14 (Addr.add p5 1) 0 [(Sl.v y59)] := ⟨_, rfl⟩
    have H := H h15 e60
    refine s_st (d := none) (h' := h15) rfl rfl rfl (fun dr => (r_store (v := (Sl.v y59)) Tryz.sizeOf26 rfl rfl rfl (one_all rfl) e61).trans (by rw [e60]; rfl)) trivial ?_ trivial
    refine s_fin ?_
    refine W_seq ?_
    refine W_draw [0, 0, 2, 6, 14, 31, 63] (.rd 0 (.pu 1 (.rd 2 (.pu 3 (.ef 4 [2] (.ef 5 [0, 2] (.pu 6 .fin) .no) .no))))) (by kernel_rfl) (by kernel_rfl) ?_
    obtain ⟨x62, e63, H⟩ := H
    obtain ⟨x64, e65, H⟩ := H
    refine s_rd (d := some 39) (v := (.agg #[(Sl.v x62), (Sl.v x64)])) rfl rfl rfl (fun dr => r_loadN Tryz.isAgg28 Tryz.sizeOf28 (vs := [(Sl.v x62), (Sl.v x64)]) rfl rfl ⟨e63, e65, trivial⟩) ?_
    refine sp 40 (.pointer (some (Addr.add p5 1))) rfl rfl (r_fieldAddr Tryz.underlying28 Tryz.sizeOf26 rfl rfl rfl) ?_
    obtain ⟨x66, e67, H⟩ := H
    refine s_rd (d := some 41) (v := (Sl.v x66)) rfl rfl rfl (fun dr => r_load1 Tryz.isAgg26 rfl e67) ?_
    refine sp 42 (.int .i64 ((x66.len : Int))) rfl rfl (r_len Tryz.underlying26 rfl) ?_
    refine s_ef (d := some 43) rfl rfl rfl (fun dr => r_call Tryz.call16 rfl rfl H) ?_ trivial
    rintro _ h16 ⟨y68, rfl, H⟩
    obtain ⟨e69, H⟩ := H
    obtain ⟨e70, H⟩ := H
    refine ⟨⟨trivial, (.inl ⟨rfl, fun dr => r_loadN Tryz.isAgg28 Tryz.sizeOf28 (vs := [(Sl.v x62), (Sl.v x64)]) rfl rfl ⟨e69, e70, trivial⟩⟩), trivial⟩, ?_⟩
    obtain ⟨e72, H⟩ := H
    obtain ⟨h17, e71⟩ : ∃ hh : Heap, hh = hsets h16 p8 0 [(Sl.v x62), (Sl.v x64)] := ⟨_, rfl⟩
    have H := H h17 e71
    refine s_st (d := none) (h' := h17) rfl rfl rfl (fun dr => (r_store (v := (.agg #[(Sl.v x62), (Sl.v x64)])) Tryz.sizeOf28 rfl rfl rfl (one_all rfl) e72).trans (by rw [e71]; rfl)) ⟨trivial, trivial, trivial⟩ ?_ trivial
    refine sp 7 (.string y68) rfl rfl (r_assign rfl) ?_
    refine s_fin ?_
    refine W_ret ?_
    obtain ⟨x73, e74, H⟩ := H
    obtain ⟨x75, e76, H⟩ := H
    exact ⟨[(.agg #[(Sl.v x73), (Sl.v x75)]), (.string y68)], ⟨_, _, _, rfl, rfl, fun dr => run_loadVarN Tryz.isAgg28 Tryz.sizeOf28 (vs := [(Sl.v x73), (Sl.v x75)]) rfl ⟨e74, e76, trivial⟩, ⟨_, _, rfl, rfl, rfl⟩⟩, x73, x75, y68, rfl, H⟩
   ·have H := H.2 g114
    refine W_skip ?_
    show W _ _ _ _ _ _ _ _
    refine W_seq ?_
    refine W_seq ?_
    refine W_set ?_
    intro N79 eN79
    have H := H (fun (x77 : Bool) => ∀ b, N79 [] (mkE [(2, (.int .i64 n4)), (3, (.pointer (some p5))), (6, (.pointer (some p8))), (52, (.bool x77))] b) h2) (by
     intro x77 H b
     rw [eN79]
     show W _ _ _ _ _ _ _ _
     refine W_if x77 rfl (fun g110 => ?_) (fun g110 => ?_)
     ·have H := H.1 g110
      refine W_seq ?_
      refine W_region (.rl 0 (.ef 1 [] (.pu 2 .fin) .no)) rfl rfl ?_
      obtain ⟨x80, e81, H⟩ := H
      obtain ⟨x82, e83, H⟩ := H
      refine sl 53 (.agg #[(Sl.v x80), (Sl.v x82)]) rfl rfl (fun dr => r_loadN Tryz.isAgg28 Tryz.sizeOf28 (vs := [(Sl.v x80), (Sl.v x82)]) rfl rfl ⟨e81, e83, trivial⟩) ?_
      obtain ⟨e85, H⟩ := H
      obtain ⟨h18, e84⟩ : ∃ hh : Heap, hh = hsets h2 p8 0 [(Sl.v x80), (Sl.v x82)] := ⟨_, rfl⟩
      have H := H h18 e84
      refine s_st (d := none) (h' := h18) rfl rfl rfl (fun dr => (r_store (v := (.agg #[(Sl.v x80), (Sl.v x82)])) Tryz.sizeOf28 rfl rfl rfl (one_all rfl) e85).trans (by rw [e84]; rfl)) trivial ?_ trivial
      refine sp 7 (.string (⟨#[69, 114, 114, 82, 97, 110, 103, 101]⟩)) rfl rfl (r_assign rfl) ?_
      refine s_fin ?_
      refine W_ret ?_
      obtain ⟨x86, e87, H⟩ := H
      obtain ⟨x88, e89, H⟩ := H
      exact ⟨[(.agg #[(Sl.v x86), (Sl.v x88)]), (.string (⟨#[69, 114, 114, 82, 97, 110, 103, 101]⟩))], ⟨_, _, _, rfl, rfl, fun dr => run_loadVarN Tryz.isAgg28 Tryz.sizeOf28 (vs := [(Sl.v x86), (Sl.v x88)]) rfl ⟨e87, e89, trivial⟩, ⟨_, _, rfl, rfl, rfl⟩⟩, x86, x88, (⟨#[69, 114, 114, 82, 97, 110, 103, 101]⟩), rfl, H⟩
     ·have H := H.2 g110
      refine W_skip ?_
      show W _ _ _ _ _ _ _ _
      refine W_seq ?_
      refine W_region (.pu 0 (.rl 1 (.pu 2 (.ef 3 [] (.pu 4 (.ef 5 [] .fin .no)) .no)))) rfl rfl ?_
      refine sp 54 (.pointer (some (Addr.add p5 0))) rfl rfl (r_fieldAddr Tryz.underlying28 Tryz.sizeOf26 rfl rfl rfl) ?_
      obtain ⟨x90, e91, H⟩ := H
      refine sl 55 (Sl.v x90) rfl rfl (fun dr => r_load1 Tryz.isAgg26 rfl e91) ?_
      refine sp 56 (.int .i64 n4) rfl rfl (r_move rfl) ?_
      refine sc 57 rfl rfl (fun dr => r_call Tryz.call39 rfl rfl H) ?_
      rintro _ h19 ⟨y92, rfl, H⟩
      refine sp 58 (.pointer (some (Addr.add p5 0))) rfl rfl (r_fieldAddr Tryz.underlying28 Tryz.sizeOf26 rfl rfl rfl) ?_
      obtain ⟨e94, H⟩ := H
      obtain ⟨h20, e93⟩ : ∃ hh : Heap, hh = hsets h19 (Addr.add p5 0) 0 [(Sl.v y92)] := ⟨_, rfl⟩
      have H := H h20 e93
      refine s_st (d := none) (h' := h20) rfl rfl rfl (fun dr => (r_store (v := (Sl.v y92)) Tryz.sizeOf26 rfl rfl rfl (one_all rfl) e94).trans (by rw [e93]; rfl)) trivial ?_ trivial
      refine s_fin ?_
      refine W_seq ?_
      refine W_draw [0, 0, 2, 6, 14, 31, 63] (.rd 0 (.pu 1 (.rd 2 (.pu 3 (.ef 4 [2] (.ef 5 [0, 2] (.pu 6 .fin) .no) .no))))) (by kernel_rfl) (by kernel_rfl) ?_
      obtain ⟨x95, e96, H⟩ := H
      obtain ⟨x97, e98, H⟩ := H
      refine s_rd (d := some 59) (v := (.agg #[(Sl.v x95), (Sl.v x97)])) rfl rfl rfl (fun dr => r_loadN Tryz.isAgg28 Tryz.sizeOf28 (vs := [(Sl.v x95), (Sl.v x97)]) rfl rfl ⟨e96, e98, trivial⟩) ?_
      refine sp 60 (.pointer (some (Addr.add p5 0))) rfl rfl (r_fieldAddr Tryz.underlying28 Tryz.sizeOf26 rfl rfl rfl) ?_
      obtain ⟨x99, e100, H⟩ := H
      refine s_rd (d := some 61) (v := (Sl.v x99)) rfl rfl rfl (fun dr => r_load1 Tryz.isAgg26 rfl e100) ?_
      refine sp 62 (.int .i64 ((x99.len : Int))) rfl rfl (r_len Tryz.underlying26 rfl) ?_
      refine s_ef (d := some 63) rfl rfl rfl (fun dr => r_call Tryz.call16 rfl rfl H) ?_ trivial
      rintro _ h21 ⟨y101, rfl, H⟩
      obtain ⟨e102, H⟩ := H
      obtain ⟨e103, H⟩ := H
      refine ⟨⟨trivial, (.inl ⟨rfl, fun dr => r_loadN Tryz.isAgg28 Tryz.sizeOf28 (vs := [(Sl.v x95), (Sl.v x97)]) rfl rfl ⟨e102, e103, trivial⟩⟩), trivial⟩, ?_⟩
      obtain ⟨e105, H⟩ := H
      obtain ⟨h22, e104⟩ : ∃ hh : Heap, hh = hsets h21 p8 0 [(Sl.v x95), (Sl.v x97)] := ⟨_, rfl⟩
      have H := H h22 e104
      refine s_st (d := none) (h' := h22) rfl rfl rfl (fun dr => (r_store (v := (.agg #[(Sl.v x95), (Sl.v x97)])) Tryz.sizeOf28 rfl rfl rfl (one_all rfl) e105).trans (by rw [e104]; rfl)) ⟨trivial, trivial, trivial⟩ ?_ trivial
      refine sp 7 (.string y101) rfl rfl (r_assign rfl) ?_
      refine s_fin ?_
      refine W_ret ?_
      obtain ⟨x106, e107, H⟩ := H
      obtain ⟨x108, e109, H⟩ := H
      exact ⟨[(.agg #[(Sl.v x106), (Sl.v x108)]), (.string y101)], ⟨_, _, _, rfl, rfl, fun dr => run_loadVarN Tryz.isAgg28 Tryz.sizeOf28 (vs := [(Sl.v x106), (Sl.v x108)]) rfl ⟨e107, e109, trivial⟩, ⟨_, _, rfl, rfl, rfl⟩⟩, x106, x108, y101, rfl, H⟩)
    clear eN79
    refine W_region (.pu 0 (.pu 1 (.pu 2 (.pu 3 (.pu 4 (.rl 5 (.pu 6 (.pu 7 (.pu 8 .fin))))))))) rfl rfl ?_
    refine sp 44 (.int .i64 n4) rfl rfl (r_move rfl) ?_
    refine sp 45 (.bool (decide (n4 < 0))) rfl rfl (r_lss rfl rfl) ?_
    refine sp 46 (.bool (decide (n4 < 0))) rfl rfl (r_move rfl) ?_
    rcases Bool.eq_false_or_eq_true (decide (n4 < 0)) with g111 | g111
    ·have H := H.1 g111
     refine s_sk (d := some 47) rfl rfl (wants_no rfl rfl rfl rfl g111) ?_
     refine s_sk (d := some 48) rfl rfl (wants_no rfl rfl rfl rfl g111) ?_
     refine s_skl (d := some 49) rfl rfl (wants_no rfl rfl rfl rfl g111) ?_
     refine s_sk (d := some 50) rfl rfl (wants_no rfl rfl rfl rfl g111) ?_
     refine s_sk (d := some 51) rfl rfl (wants_no rfl rfl rfl rfl g111) ?_
     refine sp 52 (.bool true) rfl rfl (r_pick1 rfl g111 rfl) ?_
     refine s_fin ?_
     exact N_mk (l := [(2, (.int .i64 n4)), (3, (.pointer (some p5))), (6, (.pointer (some p8))), (52, (.bool true))]) H ⟨rfl, rfl, rfl, rfl, trivial⟩
    ·have H := H.2 g111
     refine s_pu (d := some 47) (v := (.int .i64 n4)) rfl rfl (wants_yes rfl rfl rfl rfl g111) (r_move rfl) ?_
     refine s_pu (d := some 48) (v := (.pointer (some (Addr.add p5 0)))) rfl rfl (wants_yes rfl rfl rfl rfl g111) (r_fieldAddr Tryz.underlying28 Tryz.sizeOf26 rfl rfl rfl) ?_
     obtain ⟨x112, e113, H⟩ := H
     refine s_rl (d := some 49) (v := (Sl.v x112)) rfl rfl (wants_yes rfl rfl rfl rfl g111) (fun dr => r_load1 Tryz.isAgg26 rfl e113) ?_
     refine s_pu (d := some 50) (v := (.int .i64 ((x112.len : Int)))) rfl rfl (wants_yes rfl rfl rfl rfl g111) (r_len Tryz.underlying26 rfl) ?_
     refine s_pu (d := some 51) (v := (.bool (decide (((x112.len : Int)) ≤ n4)))) rfl rfl (wants_yes rfl rfl rfl rfl g111) (r_geq rfl rfl) ?_
     refine sp 52 (.bool (decide (((x112.len : Int)) ≤ n4))) rfl rfl (r_pick0 rfl g111 rfl) ?_
     refine s_fin ?_
     exact N_mk (l := [(2, (.int .i64 n4)), (3, (.pointer (some p5))), (6, (.pointer (some p8))), (52, (.bool (decide (((x112.len : Int)) ≤ n4))))]) H ⟨rfl, rfl, rfl, rfl, trivial⟩
def ref1_Answered_F (r : World) (d1 : Sl) (d2 : Sl) (line3 : ByteArray) (h : Heap) (R : Sl → Sl → ByteArray → Heap → Prop) : Prop :=
 New h (.cells #[(Sl.v d1), (Sl.v d2)] 28) fun p4 h1 =>
 New h1 (.cells #[(Sl.v Sl.nil), (Sl.v Sl.nil)] 28) fun p7 h2 =>
 ref1_Cut r line3 32 h2 fun y10 h3 =>
 ∀ J12 : Bool → Prop, (∀ (x11 : Bool),
  (∀ J15 : Int → Prop, (∀ (k14 : Int),
   (∀ J18 : Bool → Prop, (∀ (x17 : Bool),
    (∀ J21 : Int → Prop, (∀ (k20 : Int),
     (∀ J24 : Bool → Prop, (∀ (x23 : Bool),
      (∀ J27 : Int → Prop, (∀ (k26 : Int),
       (Br (!decide (((y10.len : Int)) = (w64 (k26 + 1)))) (
        LdS h3 (Addr.add p4 0) fun x29 =>
        LdS h3 (Addr.add p4 1) fun x31 =>
        St h3 p7 2 [(Sl.v x29), (Sl.v x31)] fun h4 =>
        LdS h4 (Addr.add p7 0) fun x35 =>
        LdS h4 (Addr.add p7 1) fun x37 =>
        R x35 x37 (⟨#[69, 114, 114, 83, 121, 110, 116, 97, 120]⟩) h4) (
        ∀ X41 : Sl → Int → Heap → Prop, (∀ (n39 : Sl) (i40 : Int) (h5 : Heap),
         (Br (decide (i40 < ((y10.len : Int)))) (
          Ix y10 i40 1 fun q46 =>
          LdT h5 q46 fun x48 =>
          ref1_NumberOf r x48 h5 fun y50 y51 h6 =>
          Br (!y51) (
           LdS h6 (Addr.add p4 0) fun x52 =>
           LdS h6 (Addr.add p4 1) fun x54 =>
           St h6 p7 2 [(Sl.v x52), (Sl.v x54)] fun h7 =>
           LdS h7 (Addr.add p7 0) fun x58 =>
           LdS h7 (Addr.add p7 1) fun x60 =>
           R x58 x60 (⟨#[69, 114, 114, 83, 121, 110, 116, 97, 120]⟩) h7) (
           New h6 (.cells #[(.int .i64 y50)] 3) fun p62 h8 =>
           App 3 1 8 (.int .i64 0) n39 ((⟨some p62, 1, 1⟩ : Sl)) h8 fun s65 h9 =>
           X41 s65 (w64 (i40 + 1)) h9)) (
          Br (decide (k26 = 1)) (
           LdS h5 (Addr.add p4 0) fun x67 =>
           LdS h5 (Addr.add p4 1) fun x69 =>
           Ix y10 0 1 fun q75 =>
           LdT h5 q75 fun x77 =>
           Ix n39 0 1 fun q83 =>
           LdI h5 q83 fun x85 =>
           ref1_one r x67 x69 x77 x85 h5 fun y87 y88 y89 h10 =>
           St h10 p7 2 [(Sl.v y87), (Sl.v y88)] fun h11 =>
           LdS h11 (Addr.add p7 0) fun x92 =>
           LdS h11 (Addr.add p7 1) fun x94 =>
           R x92 x94 y89 h11) (
           Ix y10 0 1 fun q100 =>
           LdT h5 q100 fun x102 =>
           Br (decide (x102 = (⟨#[108, 105, 115, 116]⟩))) (
            LdS h5 (Addr.add p4 0) fun x104 =>
            LdS h5 (Addr.add p4 1) fun x106 =>
            LdS h5 (Addr.add p4 0) fun x108 =>
            ref1_Text r x108 h5 fun y110 h12 =>
            (hcell h12 (Addr.add p4 0) = some (Sl.v x104)) ∧
            (hcell h12 (Addr.add p4 1) = some (Sl.v x106)) ∧
            St h12 p7 2 [(Sl.v x104), (Sl.v x106)] fun h13 =>
            LdS h13 (Addr.add p7 0) fun x115 =>
            LdS h13 (Addr.add p7 1) fun x117 =>
            R x115 x117 y110 h13) (
            Ix y10 0 1 fun q123 =>
            LdT h5 q123 fun x125 =>
            Br (decide (x125 = (⟨#[115, 101, 116]⟩))) (
             LdS h5 (Addr.add p4 0) fun x127 =>
             LdS h5 (Addr.add p4 1) fun x129 =>
             LdS h5 (Addr.add p4 1) fun x131 =>
             ref1_Text r x131 h5 fun y133 h14 =>
             (hcell h14 (Addr.add p4 0) = some (Sl.v x127)) ∧
             (hcell h14 (Addr.add p4 1) = some (Sl.v x129)) ∧
             St h14 p7 2 [(Sl.v x127), (Sl.v x129)] fun h15 =>
             LdS h15 (Addr.add p7 0) fun x138 =>
             LdS h15 (Addr.add p7 1) fun x140 =>
             R x138 x140 y133 h15) (
             Ix y10 0 1 fun q146 =>
             LdT h5 q146 fun x148 =>
             Br (decide (x148 = (⟨#[105, 110, 115]⟩))) (
              ∀ J151 : Bool → Prop, (∀ (x150 : Bool),
               (Br x150 (
                LdS h5 (Addr.add p4 0) fun x153 =>
                LdS h5 (Addr.add p4 1) fun x155 =>
                St h5 p7 2 [(Sl.v x153), (Sl.v x155)] fun h16 =>
                LdS h16 (Addr.add p7 0) fun x159 =>
                LdS h16 (Addr.add p7 1) fun x161 =>
                R x159 x161 (⟨#[69, 114, 114, 82, 97, 110, 103, 101]⟩) h16) (
                LdS h5 (Addr.add p4 0) fun x163 =>
                Ix n39 0 1 fun q169 =>
                LdI h5 q169 fun x171 =>
                Ix n39 1 1 fun q177 =>
                LdI h5 q177 fun x179 =>
                ref1_With r x163 x171 x179 h5 fun y181 h17 =>
                St h17 (Addr.add p4 0) 1 [(Sl.v y181)] fun h18 =>
                LdS h18 (Addr.add p4 0) fun x184 =>
                LdS h18 (Addr.add p4 1) fun x186 =>
                LdS h18 (Addr.add p4 0) fun x188 =>
                ref1_Digits r ((x188.len : Int)) h18 fun y190 h19 =>
                (hcell h19 (Addr.add p4 0) = some (Sl.v x184)) ∧
                (hcell h19 (Addr.add p4 1) = some (Sl.v x186)) ∧
                St h19 p7 2 [(Sl.v x184), (Sl.v x186)] fun h20 =>
                LdS h20 (Addr.add p7 0) fun x195 =>
                LdS h20 (Addr.add p7 1) fun x197 =>
                R x195 x197 y190 h20)) →
               J151 x150) →
              Ix n39 0 1 fun q204 =>
              LdI h5 q204 fun x206 =>
              Br (decide (x206 < 0)) (
               J151 true) (
               Ix n39 0 1 fun q213 =>
               LdI h5 q213 fun x215 =>
               LdS h5 (Addr.add p4 0) fun x217 =>
               J151 (decide (((x217.len : Int)) < x215)))) (
              ∀ J220 : Bool → Prop, (∀ (x219 : Bool),
               (Br x219 (
                LdS h5 (Addr.add p4 0) fun x222 =>
                LdS h5 (Addr.add p4 1) fun x224 =>
                St h5 p7 2 [(Sl.v x222), (Sl.v x224)] fun h21 =>
                LdS h21 (Addr.add p7 0) fun x228 =>
                LdS h21 (Addr.add p7 1) fun x230 =>
                R x228 x230 (⟨#[69, 114, 114, 82, 97, 110, 103, 101]⟩) h21) (
                Ix y10 0 1 fun q236 =>
                LdT h5 q236 fun x238 =>
                Br (decide (x238 = (⟨#[115, 117, 109]⟩))) (
                 LdS h5 (Addr.add p4 0) fun x240 =>
                 LdS h5 (Addr.add p4 1) fun x242 =>
                 LdS h5 (Addr.add p4 0) fun x244 =>
                 Ix n39 0 1 fun q250 =>
                 LdI h5 q250 fun x252 =>
                 Ix n39 1 1 fun q258 =>
                 LdI h5 q258 fun x260 =>
                 Sub x244 x252 x260 ((x244.cap : Int)) 1 fun s262 =>
                 ref1_SumOf r s262 h5 fun y268 h22 =>
                 (hcell h22 (Addr.add p4 0) = some (Sl.v x240)) ∧
                 (hcell h22 (Addr.add p4 1) = some (Sl.v x242)) ∧
                 ref1_Digits r y268 h22 fun y271 h23 =>
                 (hcell h23 (Addr.add p4 0) = some (Sl.v x240)) ∧
                 (hcell h23 (Addr.add p4 1) = some (Sl.v x242)) ∧
                 St h23 p7 2 [(Sl.v x240), (Sl.v x242)] fun h24 =>
                 LdS h24 (Addr.add p7 0) fun x276 =>
                 LdS h24 (Addr.add p7 1) fun x278 =>
                 R x276 x278 y271 h24) (
                 LdS h5 (Addr.add p4 0) fun x280 =>
                 Ix n39 0 1 fun q286 =>
                 LdI h5 q286 fun x288 =>
                 Ix n39 1 1 fun q294 =>
                 LdI h5 q294 fun x296 =>
                 Sub x280 x288 x296 ((x280.cap : Int)) 1 fun s298 =>
                 St h5 (Addr.add p4 0) 1 [(Sl.v s298)] fun h25 =>
                 LdS h25 (Addr.add p4 0) fun x306 =>
                 LdS h25 (Addr.add p4 1) fun x308 =>
                 LdS h25 (Addr.add p4 0) fun x310 =>
                 ref1_Digits r ((x310.len : Int)) h25 fun y312 h26 =>
                 (hcell h26 (Addr.add p4 0) = some (Sl.v x306)) ∧
                 (hcell h26 (Addr.add p4 1) = some (Sl.v x308)) ∧
                 St h26 p7 2 [(Sl.v x306), (Sl.v x308)] fun h27 =>
                 LdS h27 (Addr.add p7 0) fun x317 =>
                 LdS h27 (Addr.add p7 1) fun x319 =>
                 R x317 x319 y312 h27))) →
               J220 x219) →
              Ix n39 0 1 fun q327 =>
              LdI h5 q327 fun x329 =>
              Br (decide (x329 < 0)) (
               J220 true) (
               Ix n39 1 1 fun q336 =>
               LdI h5 q336 fun x338 =>
               Ix n39 0 1 fun q344 =>
               LdI h5 q344 fun x346 =>
               Br (decide (x338 < x346)) (
                J220 true) (
                Ix n39 1 1 fun q353 =>
                LdI h5 q353 fun x355 =>
                LdS h5 (Addr.add p4 0) fun x357 =>
                J220 (decide (((x357.len : Int)) < x355)))))))))) →
         X41 n39 i40 h5) →
        X41 Sl.nil 1 h3)) →
       J27 k26) →
      Br x23 (
       J27 0) (
       J27 k20)) →
      J24 x23) →
     Ix y10 0 1 fun q370 =>
     LdT h3 q370 fun x372 =>
     Br (decide (x372 = (⟨#[108, 105, 115, 116]⟩))) (
      J24 true) (
      Ix y10 0 1 fun q379 =>
      LdT h3 q379 fun x381 =>
      J24 (decide (x381 = (⟨#[115, 101, 116]⟩))))) →
     J21 k20) →
    Br x17 (
     J21 1) (
     J21 k14)) →
    J18 x17) →
   Ix y10 0 1 fun q388 =>
   LdT h3 q388 fun x390 =>
   Br (decide (x390 = (⟨#[100, 101, 108]⟩))) (
    J18 true) (
    Ix y10 0 1 fun q397 =>
    LdT h3 q397 fun x399 =>
    Br (decide (x399 = (⟨#[112, 117, 116]⟩))) (
     J18 true) (
     Ix y10 0 1 fun q406 =>
     LdT h3 q406 fun x408 =>
     Br (decide (x408 = (⟨#[100, 114, 111, 112]⟩))) (
      J18 true) (
      Ix y10 0 1 fun q415 =>
      LdT h3 q415 fun x417 =>
      J18 (decide (x417 = (⟨#[114, 97, 110, 107]⟩))))))) →
   J15 k14) →
  Br x11 (
   J15 2) (
   J15 ((-1)))) →
  J12 x11) →
 Ix y10 0 1 fun q424 =>
 LdT h3 q424 fun x426 =>
 Br (decide (x426 = (⟨#[105, 110, 115]⟩))) (
  J12 true) (
  Ix y10 0 1 fun q433 =>
  LdT h3 q433 fun x435 =>
  Br (decide (x435 = (⟨#[99, 117, 116]⟩))) (
   J12 true) (
   Ix y10 0 1 fun q442 =>
   LdT h3 q442 fun x444 =>
   J12 (decide (x444 = (⟨#[115, 117, 109]⟩)))))
theorem ref1_Answered_of {r : World} {d1 : Sl} {d2 : Sl} {line3 : ByteArray} {h : Heap} {R : Sl → Sl → ByteArray → Heap → Prop} (H : ref1_Answered_F r d1 d2 line3 h R) : ref1_Answered r d1 d2 line3 h R := by
 unfold ref1_Answered_F at H
 refine calls_of 204 [.cell 4 28, .tmp 5] Tryz.func8 rfl rfl rfl rfl rfl ?_
 refine W_seq ?_
 refine W_region (.ef 0 [] (.ef 1 [] (.pu 2 .fin) .no) .no) rfl rfl ?_
 obtain ⟨p4, e5⟩ : ∃ p : Addr, p = ⟨h.size, 0, none⟩ := ⟨_, rfl⟩
 obtain ⟨h1, e6⟩ : ∃ hh : Heap, hh = h.push (.cells #[(Sl.v d1), (Sl.v d2)] 28) := ⟨_, rfl⟩
 have H := H p4 h1 e5 e6
 refine s_ef1 (d := some 2) (v := (.pointer (some p4))) (h' := h1) rfl rfl rfl (fun dr => (r_box (v := (.agg #[(Sl.v d1), (Sl.v d2)])) rfl).trans (by rw [e5, e6]; rfl)) trivial ?_ trivial
 obtain ⟨p7, e8⟩ : ∃ p : Addr, p = ⟨h1.size, 0, none⟩ := ⟨_, rfl⟩
 obtain ⟨h2, e9⟩ : ∃ hh : Heap, hh = h1.push (.cells #[(Sl.v Sl.nil), (Sl.v Sl.nil)] 28) := ⟨_, rfl⟩
 have H := H p7 h2 e8 e9
 refine s_ef1 (d := some 4) (v := (.pointer (some p7))) (h' := h2) rfl rfl rfl (fun dr => (r_alloc Tryz.zeroValue28).trans (by rw [e8, e9]; rfl)) trivial ?_ trivial
 refine sp 5 (.string (⟨#[]⟩)) rfl rfl (r_assign rfl) ?_
 refine s_fin ?_
 refine W_seq ?_
 refine W_region (.pu 0 (.ef 1 [] (.pu 2 .fin) .no)) rfl rfl ?_
 refine sp 12 (.string line3) rfl rfl (r_move rfl) ?_
 refine sc 13 rfl rfl (fun dr => r_call Tryz.call7 rfl rfl H) ?_
 rintro _ h3 ⟨y10, rfl, H⟩
 refine sp 6 (Sl.v y10) rfl rfl (r_assign rfl) ?_
 refine s_fin ?_
 refine W_seq ?_
 refine W_region (.pu 0 .fin) rfl rfl ?_
 refine sp 7 (.int .i64 ((-1))) rfl rfl (r_assign rfl) ?_
 refine s_fin ?_
 refine W_seq ?_
 refine W_seq ?_
 refine W_set ?_
 intro N13 eN13
 have H := H (fun (x11 : Bool) => ∀ b, N13 [] (mkE [(2, (.pointer (some p4))), (4, (.pointer (some p7))), (6, (Sl.v y10)), (7, (.int .i64 ((-1)))), (29, (.bool x11))] b) h3) (by
  intro x11 H b
  rw [eN13]
  show W _ _ _ _ _ _ _ _
  refine W_set ?_
  intro N16 eN16
  have H := H (fun (k14 : Int) => ∀ b, N16 [] (mkE [(2, (.pointer (some p4))), (4, (.pointer (some p7))), (6, (Sl.v y10)), (7, (.int .i64 k14))] b) h3) (by
   intro k14 H b
   rw [eN16]
   show W _ _ _ _ _ _ _ _
   refine W_seq ?_
   refine W_seq ?_
   refine W_set ?_
   intro N19 eN19
   have H := H (fun (x17 : Bool) => ∀ b, N19 [] (mkE [(2, (.pointer (some p4))), (4, (.pointer (some p7))), (6, (Sl.v y10)), (7, (.int .i64 k14)), (51, (.bool x17))] b) h3) (by
    intro x17 H b
    rw [eN19]
    show W _ _ _ _ _ _ _ _
    refine W_set ?_
    intro N22 eN22
    have H := H (fun (k20 : Int) => ∀ b, N22 [] (mkE [(2, (.pointer (some p4))), (4, (.pointer (some p7))), (6, (Sl.v y10)), (7, (.int .i64 k20))] b) h3) (by
     intro k20 H b
     rw [eN22]
     show W _ _ _ _ _ _ _ _
     refine W_seq ?_
     refine W_seq ?_
     refine W_set ?_
     intro N25 eN25
     have H := H (fun (x23 : Bool) => ∀ b, N25 [] (mkE [(2, (.pointer (some p4))), (4, (.pointer (some p7))), (6, (Sl.v y10)), (7, (.int .i64 k20)), (61, (.bool x23))] b) h3) (by
      intro x23 H b
      rw [eN25]
      show W _ _ _ _ _ _ _ _
      refine W_set ?_
      intro N28 eN28
      have H := H (fun (k26 : Int) => ∀ b, N28 [] (mkE [(2, (.pointer (some p4))), (4, (.pointer (some p7))), (6, (Sl.v y10)), (7, (.int .i64 k26))] b) h3) (by
       intro k26 H b
       rw [eN28]
       show W _ _ _ _ _ _ _ _
       refine W_seq ?_
       refine W_seq ?_
       refine W_region (.pu 0 (.pu 1 (.pu 2 (.pu 3 (.pu 4 .fin))))) rfl rfl ?_
       refine sp 62 (Sl.v y10) rfl rfl (r_move rfl) ?_
       refine sp 63 (.int .i64 ((y10.len : Int))) rfl rfl (r_len Tryz.underlying23 rfl) ?_
       refine sp 64 (.int .i64 k26) rfl rfl (r_move rfl) ?_
       refine sp 65 (.int .i64 (w64 (k26 + 1))) rfl rfl (r_add rfl rfl) ?_
       refine sp 66 (.bool (!decide (((y10.len : Int)) = (w64 (k26 + 1))))) rfl rfl (r_neq rfl rfl) ?_
       refine s_fin ?_
       refine W_if (!decide (((y10.len : Int)) = (w64 (k26 + 1)))) rfl (fun g364 => ?_) (fun g364 => ?_)
       ·have H := H.1 g364
        refine W_seq ?_
        refine W_region (.rl 0 (.ef 1 [] (.pu 2 .fin) .no)) rfl rfl ?_
        obtain ⟨x29, e30, H⟩ := H
        obtain ⟨x31, e32, H⟩ := H
        refine sl 67 (.agg #[(Sl.v x29), (Sl.v x31)]) rfl rfl (fun dr => r_loadN Tryz.isAgg28 Tryz.sizeOf28 (vs := [(Sl.v x29), (Sl.v x31)]) rfl rfl ⟨e30, e32, trivial⟩) ?_
        obtain ⟨e34, H⟩ := H
        obtain ⟨h4, e33⟩ : ∃ hh : Heap, hh = hsets h3 p7 0 [(Sl.v x29), (Sl.v x31)] := ⟨_, rfl⟩
        have H := H h4 e33
        refine s_st (d := none) (h' := h4) rfl rfl rfl (fun dr => (r_store (v := (.agg #[(Sl.v x29), (Sl.v x31)])) Tryz.sizeOf28 rfl rfl rfl (one_all rfl) e34).trans (by rw [e33]; rfl)) trivial ?_ trivial
        refine sp 5 (.string (⟨#[69, 114, 114, 83, 121, 110, 116, 97, 120]⟩)) rfl rfl (r_assign rfl) ?_
        refine s_fin ?_
        refine W_ret ?_
        obtain ⟨x35, e36, H⟩ := H
        obtain ⟨x37, e38, H⟩ := H
        exact ⟨[(.agg #[(Sl.v x35), (Sl.v x37)]), (.string (⟨#[69, 114, 114, 83, 121, 110, 116, 97, 120]⟩))], ⟨_, _, _, rfl, rfl, fun dr => run_loadVarN Tryz.isAgg28 Tryz.sizeOf28 (vs := [(Sl.v x35), (Sl.v x37)]) rfl ⟨e36, e38, trivial⟩, ⟨_, _, rfl, rfl, rfl⟩⟩, x35, x37, (⟨#[69, 114, 114, 83, 121, 110, 116, 97, 120]⟩), rfl, H⟩
       ·have H := H.2 g364
        refine W_skip ?_
        show W _ _ _ _ _ _ _ _
        refine W_seq ?_
        refine W_region (.pu 0 .fin) rfl rfl ?_
        refine sp 8 (Sl.v Sl.nil) rfl rfl (r_assign rfl) ?_
        refine s_fin ?_
        refine W_seq ?_
        refine W_seq ?_
        refine W_region (.pu 0 .fin) rfl rfl ?_
        refine sp 9 (.int .i64 1) rfl rfl (r_assign rfl) ?_
        refine s_fin ?_
        refine W_block ?_
        refine W_loop (WL_mk (l := [(2, (.pointer (some p4))), (4, (.pointer (some p7))), (6, (Sl.v y10)), (7, (.int .i64 k26)), (8, (Sl.v Sl.nil)), (9, (.int .i64 1))]) ?_ ⟨rfl, rfl, rfl, rfl, rfl, rfl, trivial⟩)
        refine H (fun (n39 : Sl) (i40 : Int) (h5 : Heap) => ∀ b, WL _ _ _ _ _ _ (mkE [(2, (.pointer (some p4))), (4, (.pointer (some p7))), (6, (Sl.v y10)), (7, (.int .i64 k26)), (8, (Sl.v n39)), (9, (.int .i64 i40))] b) h5) ?_
        intro n39 i40 h5 H b
        refine WL_round ?_
        refine W_seq ?_
        refine W_seq ?_
        refine W_region (.pu 0 (.pu 1 (.pu 2 (.pu 3 .fin)))) rfl rfl ?_
        refine sp 68 (.int .i64 i40) rfl rfl (r_move rfl) ?_
        refine sp 69 (Sl.v y10) rfl rfl (r_move rfl) ?_
        refine sp 70 (.int .i64 ((y10.len : Int))) rfl rfl (r_len Tryz.underlying23 rfl) ?_
        refine sp 71 (.bool (decide (i40 < ((y10.len : Int))))) rfl rfl (r_lss rfl rfl) ?_
        refine s_fin ?_
        refine W_if (decide (i40 < ((y10.len : Int)))) rfl (fun g363 => ?_) (fun g363 => ?_)
        ·have H := H.1 g363
         refine W_skip ?_
         show W _ _ _ _ _ _ _ _
         refine W_seq ?_
         refine W_block ?_
         refine W_seq ?_
         refine W_region (.pu 0 (.pu 1 (.pu 2 (.rl 3 (.ef 4 [] (.pu 5 (.pu 6 (.pu 7 (.pu 8 (.pu 9 .fin))))) .no))))) rfl rfl ?_
         refine sp 75 (Sl.v y10) rfl rfl (r_move rfl) ?_
         refine sp 76 (.int .i64 i40) rfl rfl (r_move rfl) ?_
         obtain ⟨p42, e43, e44, e45, H⟩ := H
         obtain ⟨q46, e47⟩ : ∃ q : Addr, q = Addr.add p42 (Int.toNat i40 * 1) := ⟨_, rfl⟩
         rw [← e47] at H
         refine sp 77 (.pointer (some q46)) rfl rfl (fun w => (r_indexAddr Tryz.underlying23 Tryz.sizeOf9 rfl rfl e43 e44 e45 w).trans (by rw [e47])) ?_
         obtain ⟨x48, e49, H⟩ := H
         refine sl 78 (.string x48) rfl rfl (fun dr => r_load1 Tryz.isAgg9 rfl e49) ?_
         refine sc 79 rfl rfl (fun dr => r_call Tryz.call12 rfl rfl H) ?_
         rintro _ h6 ⟨y50, y51, rfl, H⟩
         refine sp 74 (.tuple #[(.int .i64 y50), (.bool y51)]) rfl rfl (r_move rfl) ?_
         refine sp 80 (.int .i64 y50) rfl rfl (r_extract rfl rfl) ?_
         refine sp 81 (.bool y51) rfl rfl (r_extract rfl rfl) ?_
         refine sp 10 (.int .i64 y50) rfl rfl (r_assign rfl) ?_
         refine sp 11 (.bool y51) rfl rfl (r_assign rfl) ?_
         refine s_fin ?_
         refine W_seq ?_
         refine W_seq ?_
         refine W_region (.pu 0 (.pu 1 .fin)) rfl rfl ?_
         refine sp 82 (.bool y51) rfl rfl (r_move rfl) ?_
         refine sp 83 (.bool (!y51)) rfl rfl (r_not rfl) ?_
         refine s_fin ?_
         refine W_if (!y51) rfl (fun g66 => ?_) (fun g66 => ?_)
         ·have H := H.1 g66
          refine W_seq ?_
          refine W_region (.rl 0 (.ef 1 [] (.pu 2 .fin) .no)) rfl rfl ?_
          obtain ⟨x52, e53, H⟩ := H
          obtain ⟨x54, e55, H⟩ := H
          refine sl 84 (.agg #[(Sl.v x52), (Sl.v x54)]) rfl rfl (fun dr => r_loadN Tryz.isAgg28 Tryz.sizeOf28 (vs := [(Sl.v x52), (Sl.v x54)]) rfl rfl ⟨e53, e55, trivial⟩) ?_
          obtain ⟨e57, H⟩ := H
          obtain ⟨h7, e56⟩ : ∃ hh : Heap, hh = hsets h6 p7 0 [(Sl.v x52), (Sl.v x54)] := ⟨_, rfl⟩
          have H := H h7 e56
          refine s_st (d := none) (h' := h7) rfl rfl rfl (fun dr => (r_store (v := (.agg #[(Sl.v x52), (Sl.v x54)])) Tryz.sizeOf28 rfl rfl rfl (one_all rfl) e57).trans (by rw [e56]; rfl)) trivial ?_ trivial
          refine sp 5 (.string (⟨#[69, 114, 114, 83, 121, 110, 116, 97, 120]⟩)) rfl rfl (r_assign rfl) ?_
          refine s_fin ?_
          refine W_ret ?_
          obtain ⟨x58, e59, H⟩ := H
          obtain ⟨x60, e61, H⟩ := H
          exact ⟨[(.agg #[(Sl.v x58), (Sl.v x60)]), (.string (⟨#[69, 114, 114, 83, 121, 110, 116, 97, 120]⟩))], ⟨_, _, _, rfl, rfl, fun dr => run_loadVarN Tryz.isAgg28 Tryz.sizeOf28 (vs := [(Sl.v x58), (Sl.v x60)]) rfl ⟨e59, e61, trivial⟩, ⟨_, _, rfl, rfl, rfl⟩⟩, x58, x60, (⟨#[69, 114, 114, 83, 121, 110, 116, 97, 120]⟩), rfl, H⟩
         ·have H := H.2 g66
          refine W_skip ?_
          show W _ _ _ _ _ _ _ _
          refine W_region (.pu 0 (.pu 1 (.ef 2 [] (.ef 3 [] (.pu 4 .fin) .no) .no))) rfl rfl ?_
          refine sp 85 (Sl.v n39) rfl rfl (r_move rfl) ?_
          refine sp 86 (.int .i64 y50) rfl rfl (r_move rfl) ?_
          obtain ⟨p62, e63⟩ : ∃ p : Addr, p = ⟨h6.size, 0, none⟩ := ⟨_, rfl⟩
          obtain ⟨h8, e64⟩ : ∃ hh : Heap, hh = h6.push (.cells #[(.int .i64 y50)] 3) := ⟨_, rfl⟩
          have H := H p62 h8 e63 e64
          refine s_ef1 (d := some 87) (v := (Sl.v ((⟨some p62, 1, 1⟩ : Sl)))) (h' := h8) rfl rfl rfl (fun dr => (slFGRef_26.build (cells := #[(.int .i64 y50)]) (by decide) rfl (by kernel_rfl)).trans (by rw [e63, e64]; rfl)) trivial ?_ trivial
          refine s_ef (d := some 88) rfl rfl rfl (fun dr => slFGRef_26.append rfl rfl H) ?_ trivial
          rintro _ h9 ⟨s65, rfl, H⟩
          refine ⟨trivial, ?_⟩
          refine sp 8 (Sl.v s65) rfl rfl (r_assign rfl) ?_
          refine s_fin ?_
          refine W_region (.pu 0 (.pu 1 (.pu 2 .fin))) rfl rfl ?_
          refine sp 72 (.int .i64 i40) rfl rfl (r_move rfl) ?_
          refine sp 73 (.int .i64 (w64 (i40 + 1))) rfl rfl (r_add rfl rfl) ?_
          refine sp 9 (.int .i64 (w64 (i40 + 1))) rfl rfl (r_assign rfl) ?_
          refine s_fin ?_
          exact WL_mk (l := [(2, (.pointer (some p4))), (4, (.pointer (some p7))), (6, (Sl.v y10)), (7, (.int .i64 k26)), (8, (Sl.v s65)), (9, (.int .i64 (w64 (i40 + 1))))]) H ⟨rfl, rfl, rfl, rfl, rfl, rfl, trivial⟩
        ·have H := H.2 g363
         refine W_exit (inX_here ?_)
         show W _ _ _ _ _ _ _ _
         refine W_seq ?_
         refine W_seq ?_
         refine W_region (.pu 0 (.pu 1 .fin)) rfl rfl ?_
         refine sp 89 (.int .i64 k26) rfl rfl (r_move rfl) ?_
         refine sp 90 (.bool (decide (k26 = 1))) rfl rfl (r_eql rfl rfl) ?_
         refine s_fin ?_
         refine W_if (decide (k26 = 1)) rfl (fun g362 => ?_) (fun g362 => ?_)
         ·have H := H.1 g362
          refine W_seq ?_
          refine W_draw [0, 0, 2, 6, 0, 16, 48, 127, 255, 255, 1023, 2047] (.rd 0 (.pu 1 (.pu 2 (.rd 3 (.pu 4 (.pu 5 (.rd 6 (.ef 7 [0, 3, 6] (.pu 8 (.pu 9 (.ef 10 [0, 3, 6] (.pu 11 .fin) .no))) .no)))))))) (by kernel_rfl) (by kernel_rfl) ?_
          obtain ⟨x67, e68, H⟩ := H
          obtain ⟨x69, e70, H⟩ := H
          refine s_rd (d := some 91) (v := (.agg #[(Sl.v x67), (Sl.v x69)])) rfl rfl rfl (fun dr => r_loadN Tryz.isAgg28 Tryz.sizeOf28 (vs := [(Sl.v x67), (Sl.v x69)]) rfl rfl ⟨e68, e70, trivial⟩) ?_
          refine sp 92 (Sl.v y10) rfl rfl (r_move rfl) ?_
          obtain ⟨p71, e72, e73, e74, H⟩ := H
          obtain ⟨q75, e76⟩ : ∃ q : Addr, q = Addr.add p71 (Int.toNat 0 * 1) := ⟨_, rfl⟩
          rw [← e76] at H
          refine sp 93 (.pointer (some q75)) rfl rfl (fun w => (r_indexAddr Tryz.underlying23 Tryz.sizeOf9 rfl rfl e72 e73 e74 w).trans (by rw [e76])) ?_
          obtain ⟨x77, e78, H⟩ := H
          refine s_rd (d := some 94) (v := (.string x77)) rfl rfl rfl (fun dr => r_load1 Tryz.isAgg9 rfl e78) ?_
          refine sp 95 (Sl.v n39) rfl rfl (r_move rfl) ?_
          obtain ⟨p79, e80, e81, e82, H⟩ := H
          obtain ⟨q83, e84⟩ : ∃ q : Addr, q = Addr.add p79 (Int.toNat 0 * 1) := ⟨_, rfl⟩
          rw [← e84] at H
          refine sp 96 (.pointer (some q83)) rfl rfl (fun w => (r_indexAddr Tryz.underlying26 Tryz.sizeOf3 rfl rfl e80 e81 e82 w).trans (by rw [e84])) ?_
          obtain ⟨x85, e86, H⟩ := H
          refine s_rd (d := some 97) (v := (.int .i64 x85)) rfl rfl rfl (fun dr => r_load1 Tryz.isAgg3 rfl e86) ?_
          refine s_ef (d := some 98) rfl rfl rfl (fun dr => r_call Tryz.call13 rfl rfl H) ?_ trivial
          rintro _ h10 ⟨y87, y88, y89, rfl, H⟩
          refine ⟨⟨trivial, trivial, trivial, trivial⟩, ?_⟩
          refine sp 99 (.agg #[(Sl.v y87), (Sl.v y88)]) rfl rfl (r_extract rfl rfl) ?_
          refine sp 100 (.string y89) rfl rfl (r_extract rfl rfl) ?_
          obtain ⟨e91, H⟩ := H
          obtain ⟨h11, e90⟩ : ∃ hh : Heap, hh = hsets h10 p7 0 [(Sl.v y87), (Sl.v y88)] := ⟨_, rfl⟩
          have H := H h11 e90
          refine s_st (d := none) (h' := h11) rfl rfl rfl (fun dr => (r_store (v := (.agg #[(Sl.v y87), (Sl.v y88)])) Tryz.sizeOf28 rfl rfl rfl (one_all rfl) e91).trans (by rw [e90]; rfl)) ⟨trivial, trivial, trivial, trivial⟩ ?_ trivial
          refine sp 5 (.string y89) rfl rfl (r_assign rfl) ?_
          refine s_fin ?_
          refine W_ret ?_
          obtain ⟨x92, e93, H⟩ := H
          obtain ⟨x94, e95, H⟩ := H
          exact ⟨[(.agg #[(Sl.v x92), (Sl.v x94)]), (.string y89)], ⟨_, _, _, rfl, rfl, fun dr => run_loadVarN Tryz.isAgg28 Tryz.sizeOf28 (vs := [(Sl.v x92), (Sl.v x94)]) rfl ⟨e93, e95, trivial⟩, ⟨_, _, rfl, rfl, rfl⟩⟩, x92, x94, y89, rfl, H⟩
         ·have H := H.2 g362
          refine W_skip ?_
          show W _ _ _ _ _ _ _ _
          refine W_seq ?_
          refine W_seq ?_
          refine W_region (.pu 0 (.pu 1 (.rl 2 (.pu 3 .fin)))) rfl rfl ?_
          refine sp 101 (Sl.v y10) rfl rfl (r_move rfl) ?_
          obtain ⟨p96, e97, e98, e99, H⟩ := H
          obtain ⟨q100, e101⟩ : ∃ q : Addr, q = Addr.add p96 (Int.toNat 0 * 1) := ⟨_, rfl⟩
          rw [← e101] at H
          refine sp 102 (.pointer (some q100)) rfl rfl (fun w => (r_indexAddr Tryz.underlying23 Tryz.sizeOf9 rfl rfl e97 e98 e99 w).trans (by rw [e101])) ?_
          obtain ⟨x102, e103, H⟩ := H
          refine sl 103 (.string x102) rfl rfl (fun dr => r_load1 Tryz.isAgg9 rfl e103) ?_
          refine sp 104 (.bool (decide (x102 = (⟨#[108, 105, 115, 116]⟩)))) rfl rfl (r_eqlT rfl rfl) ?_
          refine s_fin ?_
          refine W_if (decide (x102 = (⟨#[108, 105, 115, 116]⟩))) rfl (fun g361 => ?_) (fun g361 => ?_)
          ·have H := H.1 g361
           refine W_seq ?_
           refine W_draw [0, 0, 2, 6, 15, 31] (.rd 0 (.pu 1 (.rd 2 (.ef 3 [2] (.ef 4 [0, 2] (.pu 5 .fin) .no) .no)))) (by kernel_rfl) (by kernel_rfl) ?_
           obtain ⟨x104, e105, H⟩ := H
           obtain ⟨x106, e107, H⟩ := H
           refine s_rd (d := some 105) (v := (.agg #[(Sl.v x104), (Sl.v x106)])) rfl rfl rfl (fun dr => r_loadN Tryz.isAgg28 Tryz.sizeOf28 (vs := [(Sl.v x104), (Sl.v x106)]) rfl rfl ⟨e105, e107, trivial⟩) ?_
           refine sp 106 (.pointer (some (Addr.add p4 0))) rfl rfl (r_fieldAddr Tryz.underlying28 Tryz.sizeOf26 rfl rfl rfl) ?_
           obtain ⟨x108, e109, H⟩ := H
           refine s_rd (d := some 107) (v := (Sl.v x108)) rfl rfl rfl (fun dr => r_load1 Tryz.isAgg26 rfl e109) ?_
           refine s_ef (d := some 108) rfl rfl rfl (fun dr => r_call Tryz.call14 rfl rfl H) ?_ trivial
           rintro _ h12 ⟨y110, rfl, H⟩
           obtain ⟨e111, H⟩ := H
           obtain ⟨e112, H⟩ := H
           refine ⟨⟨trivial, (.inl ⟨rfl, fun dr => r_loadN Tryz.isAgg28 Tryz.sizeOf28 (vs := [(Sl.v x104), (Sl.v x106)]) rfl rfl ⟨e111, e112, trivial⟩⟩), trivial⟩, ?_⟩
           obtain ⟨e114, H⟩ := H
           obtain ⟨h13, e113⟩ : ∃ hh : Heap, hh = hsets h12 p7 0 [(Sl.v x104), (Sl.v x106)] := ⟨_, rfl⟩
           have H := H h13 e113
           refine s_st (d := none) (h' := h13) rfl rfl rfl (fun dr => (r_store (v := (.agg #[(Sl.v x104), (Sl.v x106)])) Tryz.sizeOf28 rfl rfl rfl (one_all rfl) e114).trans (by rw [e113]; rfl)) ⟨trivial, trivial, trivial⟩ ?_ trivial
           refine sp 5 (.string y110) rfl rfl (r_assign rfl) ?_
           refine s_fin ?_
           refine W_ret ?_
           obtain ⟨x115, e116, H⟩ := H
           obtain ⟨x117, e118, H⟩ := H
           exact ⟨[(.agg #[(Sl.v x115), (Sl.v x117)]), (.string y110)], ⟨_, _, _, rfl, rfl, fun dr => run_loadVarN Tryz.isAgg28 Tryz.sizeOf28 (vs := [(Sl.v x115), (Sl.v x117)]) rfl ⟨e116, e118, trivial⟩, ⟨_, _, rfl, rfl, rfl⟩⟩, x115, x117, y110, rfl, H⟩
          ·have H := H.2 g361
           refine W_skip ?_
           show W _ _ _ _ _ _ _ _
           refine W_seq ?_
           refine W_seq ?_
           refine W_region (.pu 0 (.pu 1 (.rl 2 (.pu 3 .fin)))) rfl rfl ?_
           refine sp 109 (Sl.v y10) rfl rfl (r_move rfl) ?_
           obtain ⟨p119, e120, e121, e122, H⟩ := H
           obtain ⟨q123, e124⟩ : ∃ q : Addr, q = Addr.add p119 (Int.toNat 0 * 1) := ⟨_, rfl⟩
           rw [← e124] at H
           refine sp 110 (.pointer (some q123)) rfl rfl (fun w => (r_indexAddr Tryz.underlying23 Tryz.sizeOf9 rfl rfl e120 e121 e122 w).trans (by rw [e124])) ?_
           obtain ⟨x125, e126, H⟩ := H
           refine sl 111 (.string x125) rfl rfl (fun dr => r_load1 Tryz.isAgg9 rfl e126) ?_
           refine sp 112 (.bool (decide (x125 = (⟨#[115, 101, 116]⟩)))) rfl rfl (r_eqlT rfl rfl) ?_
           refine s_fin ?_
           refine W_if (decide (x125 = (⟨#[115, 101, 116]⟩))) rfl (fun g360 => ?_) (fun g360 => ?_)
           ·have H := H.1 g360
            refine W_seq ?_
            refine W_draw [0, 0, 2, 6, 15, 31] (.rd 0 (.pu 1 (.rd 2 (.ef 3 [2] (.ef 4 [0, 2] (.pu 5 .fin) .no) .no)))) (by kernel_rfl) (by kernel_rfl) ?_
            obtain ⟨x127, e128, H⟩ := H
            obtain ⟨x129, e130, H⟩ := H
            refine s_rd (d := some 113) (v := (.agg #[(Sl.v x127), (Sl.v x129)])) rfl rfl rfl (fun dr => r_loadN Tryz.isAgg28 Tryz.sizeOf28 (vs := [(Sl.v x127), (Sl.v x129)]) rfl rfl ⟨e128, e130, trivial⟩) ?_
            refine sp 114 (.pointer (some (Addr.add p4 1))) rfl rfl (r_fieldAddr Tryz.underlying28 Tryz.sizeOf26 rfl rfl rfl) ?_
            obtain ⟨x131, e132, H⟩ := H
            refine s_rd (d := some 115) (v := (Sl.v x131)) rfl rfl rfl (fun dr => r_load1 Tryz.isAgg26 rfl e132) ?_
            refine s_ef (d := some 116) rfl rfl rfl (fun dr => r_call Tryz.call14 rfl rfl H) ?_ trivial
            rintro _ h14 ⟨y133, rfl, H⟩
            obtain ⟨e134, H⟩ := H
            obtain ⟨e135, H⟩ := H
            refine ⟨⟨trivial, (.inl ⟨rfl, fun dr => r_loadN Tryz.isAgg28 Tryz.sizeOf28 (vs := [(Sl.v x127), (Sl.v x129)]) rfl rfl ⟨e134, e135, trivial⟩⟩), trivial⟩, ?_⟩
            obtain ⟨e137, H⟩ := H
            obtain ⟨h15, e136⟩ : ∃ hh : Heap, hh = hsets h14 p7 0 [(Sl.v x127), (Sl.v x129)] := ⟨_, rfl⟩
            have H := H h15 e136
            refine s_st (d := none) (h' := h15) rfl rfl rfl (fun dr => (r_store (v := (.agg #[(Sl.v x127), (Sl.v x129)])) Tryz.sizeOf28 rfl rfl rfl (one_all rfl) e137).trans (by rw [e136]; rfl)) ⟨trivial, trivial, trivial⟩ ?_ trivial
            refine sp 5 (.string y133) rfl rfl (r_assign rfl) ?_
            refine s_fin ?_
            refine W_ret ?_
            obtain ⟨x138, e139, H⟩ := H
            obtain ⟨x140, e141, H⟩ := H
            exact ⟨[(.agg #[(Sl.v x138), (Sl.v x140)]), (.string y133)], ⟨_, _, _, rfl, rfl, fun dr => run_loadVarN Tryz.isAgg28 Tryz.sizeOf28 (vs := [(Sl.v x138), (Sl.v x140)]) rfl ⟨e139, e141, trivial⟩, ⟨_, _, rfl, rfl, rfl⟩⟩, x138, x140, y133, rfl, H⟩
           ·have H := H.2 g360
            refine W_skip ?_
            show W _ _ _ _ _ _ _ _
            refine W_seq ?_
            refine W_seq ?_
            refine W_region (.pu 0 (.pu 1 (.rl 2 (.pu 3 .fin)))) rfl rfl ?_
            refine sp 117 (Sl.v y10) rfl rfl (r_move rfl) ?_
            obtain ⟨p142, e143, e144, e145, H⟩ := H
            obtain ⟨q146, e147⟩ : ∃ q : Addr, q = Addr.add p142 (Int.toNat 0 * 1) := ⟨_, rfl⟩
            rw [← e147] at H
            refine sp 118 (.pointer (some q146)) rfl rfl (fun w => (r_indexAddr Tryz.underlying23 Tryz.sizeOf9 rfl rfl e143 e144 e145 w).trans (by rw [e147])) ?_
            obtain ⟨x148, e149, H⟩ := H
            refine sl 119 (.string x148) rfl rfl (fun dr => r_load1 Tryz.isAgg9 rfl e149) ?_
            refine sp 120 (.bool (decide (x148 = (⟨#[105, 110, 115]⟩)))) rfl rfl (r_eqlT rfl rfl) ?_
            refine s_fin ?_
            refine W_if (decide (x148 = (⟨#[105, 110, 115]⟩))) rfl (fun g359 => ?_) (fun g359 => ?_)
            ·have H := H.1 g359
             refine W_seq ?_
             refine W_seq ?_
             refine W_set ?_
             intro N152 eN152
             have H := H (fun (x150 : Bool) => ∀ b, N152 [] (mkE [(2, (.pointer (some p4))), (4, (.pointer (some p7))), (8, (Sl.v n39)), (133, (.bool x150))] b) h5) (by
              intro x150 H b
              rw [eN152]
              show W _ _ _ _ _ _ _ _
              refine W_if x150 rfl (fun g199 => ?_) (fun g199 => ?_)
              ·have H := H.1 g199
               refine W_seq ?_
               refine W_region (.rl 0 (.ef 1 [] (.pu 2 .fin) .no)) rfl rfl ?_
               obtain ⟨x153, e154, H⟩ := H
               obtain ⟨x155, e156, H⟩ := H
               refine sl 134 (.agg #[(Sl.v x153), (Sl.v x155)]) rfl rfl (fun dr => r_loadN Tryz.isAgg28 Tryz.sizeOf28 (vs := [(Sl.v x153), (Sl.v x155)]) rfl rfl ⟨e154, e156, trivial⟩) ?_
               obtain ⟨e158, H⟩ := H
               obtain ⟨h16, e157⟩ : ∃ hh : Heap, hh = hsets h5 p7 0 [(Sl.v x153), (Sl.v x155)] := ⟨_, rfl⟩
               have H := H h16 e157
               refine s_st (d := none) (h' := h16) rfl rfl rfl (fun dr => (r_store (v := (.agg #[(Sl.v x153), (Sl.v x155)])) Tryz.sizeOf28 rfl rfl rfl (one_all rfl) e158).trans (by rw [e157]; rfl)) trivial ?_ trivial
               refine sp 5 (.string (⟨#[69, 114, 114, 82, 97, 110, 103, 101]⟩)) rfl rfl (r_assign rfl) ?_
               refine s_fin ?_
               refine W_ret ?_
               obtain ⟨x159, e160, H⟩ := H
               obtain ⟨x161, e162, H⟩ := H
               exact ⟨[(.agg #[(Sl.v x159), (Sl.v x161)]), (.string (⟨#[69, 114, 114, 82, 97, 110, 103, 101]⟩))], ⟨_, _, _, rfl, rfl, fun dr => run_loadVarN Tryz.isAgg28 Tryz.sizeOf28 (vs := [(Sl.v x159), (Sl.v x161)]) rfl ⟨e160, e162, trivial⟩, ⟨_, _, rfl, rfl, rfl⟩⟩, x159, x161, (⟨#[69, 114, 114, 82, 97, 110, 103, 101]⟩), rfl, H⟩
              ·have H := H.2 g199
               refine W_skip ?_
               show W _ _ _ _ _ _ _ _
               refine W_seq ?_
               refine W_draw [0, 1, 0, 4, 12, 0, 32, 96, 255, 511, 1023] (.pu 0 (.rd 1 (.pu 2 (.pu 3 (.rd 4 (.pu 5 (.pu 6 (.rd 7 (.ef 8 [1, 4, 7] (.pu 9 (.ef 10 [1, 4, 7] .fin .no)) .no))))))))) (by kernel_rfl) (by kernel_rfl) ?_
               refine sp 135 (.pointer (some (Addr.add p4 0))) rfl rfl (r_fieldAddr Tryz.underlying28 Tryz.sizeOf26 rfl rfl rfl) ?_
               obtain ⟨x163, e164, H⟩ := H
               refine s_rd (d := some 136) (v := (Sl.v x163)) rfl rfl rfl (fun dr => r_load1 Tryz.isAgg26 rfl e164) ?_
               refine sp 137 (Sl.v n39) rfl rfl (r_move rfl) ?_
               obtain ⟨p165, e166, e167, e168, H⟩ := H
               obtain ⟨q169, e170⟩ : ∃ q : Addr, q = Addr.add p165 (Int.toNat 0 * 1) := ⟨_, rfl⟩
               rw [← e170] at H
               refine sp 138 (.pointer (some q169)) rfl rfl (fun w => (r_indexAddr Tryz.underlying26 Tryz.sizeOf3 rfl rfl e166 e167 e168 w).trans (by rw [e170])) ?_
               obtain ⟨x171, e172, H⟩ := H
               refine s_rd (d := some 139) (v := (.int .i64 x171)) rfl rfl rfl (fun dr => r_load1 Tryz.isAgg3 rfl e172) ?_
               refine sp 140 (Sl.v n39) rfl rfl (r_move rfl) ?_
               obtain ⟨p173, e174, e175, e176, H⟩ := H
               obtain ⟨q177, e178⟩ : ∃ q : Addr, q = Addr.add p173 (Int.toNat 1 * 1) := ⟨_, rfl⟩
               rw [← e178] at H
               refine sp 141 (.pointer (some q177)) rfl rfl (fun w => (r_indexAddr Tryz.underlying26 Tryz.sizeOf3 rfl rfl e174 e175 e176 w).trans (by rw [e178])) ?_
               obtain ⟨x179, e180, H⟩ := H
               refine s_rd (d := some 142) (v := (.int .i64 x179)) rfl rfl rfl (fun dr => r_load1 Tryz.isAgg3 rfl e180) ?_
               refine s_ef (d := some 143) rfl rfl rfl (fun dr => r_call Tryz.call15 rfl rfl H) ?_ trivial
               rintro _ h17 ⟨y181, rfl, H⟩
               refine ⟨⟨trivial, trivial, trivial, trivial⟩, ?_⟩
               refine sp 144 (.pointer (some (Addr.add p4 0))) rfl rfl (r_fieldAddr Tryz.underlying28 Tryz.sizeOf26 rfl rfl rfl) ?_
               obtain ⟨e183, H⟩ := H
               obtain ⟨h18, e182⟩ : ∃ hh : Heap, hh = hsets h17 (Addr.add p4 0) 0 [(Sl.v y181)] := ⟨_, rfl⟩
               have H := H h18 e182
               refine s_st (d := none) (h' := h18) rfl rfl rfl (fun dr => (r_store (v := (Sl.v y181)) Tryz.sizeOf26 rfl rfl rfl (one_all rfl) e183).trans (by rw [e182]; rfl)) ⟨trivial, trivial, trivial, trivial⟩ ?_ trivial
               refine s_fin ?_
               refine W_seq ?_
               refine W_draw [0, 0, 2, 6, 14, 31, 63] (.rd 0 (.pu 1 (.rd 2 (.pu 3 (.ef 4 [2] (.ef 5 [0, 2] (.pu 6 .fin) .no) .no))))) (by kernel_rfl) (by kernel_rfl) ?_
               obtain ⟨x184, e185, H⟩ := H
               obtain ⟨x186, e187, H⟩ := H
               refine s_rd (d := some 145) (v := (.agg #[(Sl.v x184), (Sl.v x186)])) rfl rfl rfl (fun dr => r_loadN Tryz.isAgg28 Tryz.sizeOf28 (vs := [(Sl.v x184), (Sl.v x186)]) rfl rfl ⟨e185, e187, trivial⟩) ?_
               refine sp 146 (.pointer (some (Addr.add p4 0))) rfl rfl (r_fieldAddr Tryz.underlying28 Tryz.sizeOf26 rfl rfl rfl) ?_
               obtain ⟨x188, e189, H⟩ := H
               refine s_rd (d := some 147) (v := (Sl.v x188)) rfl rfl rfl (fun dr => r_load1 Tryz.isAgg26 rfl e189) ?_
               refine sp 148 (.int .i64 ((x188.len : Int))) rfl rfl (r_len Tryz.underlying26 rfl) ?_
               refine s_ef (d := some 149) rfl rfl rfl (fun dr => r_call Tryz.call16 rfl rfl H) ?_ trivial
               rintro _ h19 ⟨y190, rfl, H⟩
               obtain ⟨e191, H⟩ := H
               obtain ⟨e192, H⟩ := H
               refine ⟨⟨trivial, (.inl ⟨rfl, fun dr => r_loadN Tryz.isAgg28 Tryz.sizeOf28 (vs := [(Sl.v x184), (Sl.v x186)]) rfl rfl ⟨e191, e192, trivial⟩⟩), trivial⟩, ?_⟩
               obtain ⟨e194, H⟩ := H
               obtain ⟨h20, e193⟩ : ∃ hh : Heap, hh = hsets h19 p7 0 [(Sl.v x184), (Sl.v x186)] := ⟨_, rfl⟩
               have H := H h20 e193
               refine s_st (d := none) (h' := h20) rfl rfl rfl (fun dr => (r_store (v := (.agg #[(Sl.v x184), (Sl.v x186)])) Tryz.sizeOf28 rfl rfl rfl (one_all rfl) e194).trans (by rw [e193]; rfl)) ⟨trivial, trivial, trivial⟩ ?_ trivial
               refine sp 5 (.string y190) rfl rfl (r_assign rfl) ?_
               refine s_fin ?_
               refine W_ret ?_
               obtain ⟨x195, e196, H⟩ := H
               obtain ⟨x197, e198, H⟩ := H
               exact ⟨[(.agg #[(Sl.v x195), (Sl.v x197)]), (.string y190)], ⟨_, _, _, rfl, rfl, fun dr => run_loadVarN Tryz.isAgg28 Tryz.sizeOf28 (vs := [(Sl.v x195), (Sl.v x197)]) rfl ⟨e196, e198, trivial⟩, ⟨_, _, rfl, rfl, rfl⟩⟩, x195, x197, y190, rfl, H⟩)
             clear eN152
             refine W_draw [0, 1, 3, 7, 15, 31, 63, 127, 31, 287, 799, 2047, 4095] (.pu 0 (.pu 1 (.rd 2 (.pu 3 (.pu 4 (.pu 5 (.pu 6 (.rd 7 (.pu 8 (.rd 9 (.pu 10 (.pu 11 (.pu 12 .fin))))))))))))) (by kernel_rfl) (by kernel_rfl) ?_
             refine sp 121 (Sl.v n39) rfl rfl (r_move rfl) ?_
             obtain ⟨p200, e201, e202, e203, H⟩ := H
             obtain ⟨q204, e205⟩ : ∃ q : Addr, q = Addr.add p200 (Int.toNat 0 * 1) := ⟨_, rfl⟩
             rw [← e205] at H
             refine sp 122 (.pointer (some q204)) rfl rfl (fun w => (r_indexAddr Tryz.underlying26 Tryz.sizeOf3 rfl rfl e201 e202 e203 w).trans (by rw [e205])) ?_
             obtain ⟨x206, e207, H⟩ := H
             refine s_rd (d := some 123) (v := (.int .i64 x206)) rfl rfl rfl (fun dr => r_load1 Tryz.isAgg3 rfl e207) ?_
             refine sp 124 (.bool (decide (x206 < 0))) rfl rfl (r_lss rfl rfl) ?_
             refine sp 125 (.bool (decide (x206 < 0))) rfl rfl (r_move rfl) ?_
             rcases Bool.eq_false_or_eq_true (decide (x206 < 0)) with g208 | g208
             ·have H := H.1 g208
              refine s_sk (d := some 126) rfl rfl (wants_no rfl rfl rfl rfl g208) ?_
              refine s_sk (d := some 127) rfl rfl (wants_no rfl rfl rfl rfl g208) ?_
              refine s_skd (d := some 128) rfl rfl (wants_no rfl rfl rfl rfl g208) ?_
              refine s_sk (d := some 129) rfl rfl (wants_no rfl rfl rfl rfl g208) ?_
              refine s_skd (d := some 130) rfl rfl (wants_no rfl rfl rfl rfl g208) ?_
              refine s_sk (d := some 131) rfl rfl (wants_no rfl rfl rfl rfl g208) ?_
              refine s_sk (d := some 132) rfl rfl (wants_no rfl rfl rfl rfl g208) ?_
              refine sp 133 (.bool true) rfl rfl (r_pick1 rfl g208 rfl) ?_
              refine s_fin ?_
              exact N_mk (l := [(2, (.pointer (some p4))), (4, (.pointer (some p7))), (8, (Sl.v n39)), (133, (.bool true))]) H ⟨rfl, rfl, rfl, rfl, trivial⟩
             ·have H := H.2 g208
              refine s_pu (d := some 126) (v := (Sl.v n39)) rfl rfl (wants_yes rfl rfl rfl rfl g208) (r_move rfl) ?_
              obtain ⟨p209, e210, e211, e212, H⟩ := H
              obtain ⟨q213, e214⟩ : ∃ q : Addr, q = Addr.add p209 (Int.toNat 0 * 1) := ⟨_, rfl⟩
              rw [← e214] at H
              refine s_pu (d := some 127) (v := (.pointer (some q213))) rfl rfl (wants_yes rfl rfl rfl rfl g208) (fun w => (r_indexAddr Tryz.underlying26 Tryz.sizeOf3 rfl rfl e210 e211 e212 w).trans (by rw [e214])) ?_
              obtain ⟨x215, e216, H⟩ := H
              refine s_rd (d := some 128) (v := (.int .i64 x215)) rfl rfl (wants_yes rfl rfl rfl rfl g208) (fun dr => r_load1 Tryz.isAgg3 rfl e216) ?_
              refine s_pu (d := some 129) (v := (.pointer (some (Addr.add p4 0)))) rfl rfl (wants_yes rfl rfl rfl rfl g208) (r_fieldAddr Tryz.underlying28 Tryz.sizeOf26 rfl rfl rfl) ?_
              obtain ⟨x217, e218, H⟩ := H
              refine s_rd (d := some 130) (v := (Sl.v x217)) rfl rfl (wants_yes rfl rfl rfl rfl g208) (fun dr => r_load1 Tryz.isAgg26 rfl e218) ?_
              refine s_pu (d := some 131) (v := (.int .i64 ((x217.len : Int)))) rfl rfl (wants_yes rfl rfl rfl rfl g208) (r_len Tryz.underlying26 rfl) ?_
              refine s_pu (d := some 132) (v := (.bool (decide (((x217.len : Int)) < x215)))) rfl rfl (wants_yes rfl rfl rfl rfl g208) (r_gtr rfl rfl) ?_
              refine sp 133 (.bool (decide (((x217.len : Int)) < x215))) rfl rfl (r_pick0 rfl g208 rfl) ?_
              refine s_fin ?_
              exact N_mk (l := [(2, (.pointer (some p4))), (4, (.pointer (some p7))), (8, (Sl.v n39)), (133, (.bool (decide (((x217.len : Int)) < x215))))]) H ⟨rfl, rfl, rfl, rfl, trivial⟩
            ·have H := H.2 g359
             refine W_skip ?_
             show W _ _ _ _ _ _ _ _
             refine W_seq ?_
             refine W_seq ?_
             refine W_set ?_
             intro N221 eN221
             have H := H (fun (x219 : Bool) => ∀ b, N221 [] (mkE [(2, (.pointer (some p4))), (4, (.pointer (some p7))), (6, (Sl.v y10)), (8, (Sl.v n39)), (171, (.bool x219))] b) h5) (by
              intro x219 H b
              rw [eN221]
              show W _ _ _ _ _ _ _ _
              refine W_if x219 rfl (fun g322 => ?_) (fun g322 => ?_)
              ·have H := H.1 g322
               refine W_seq ?_
               refine W_region (.rl 0 (.ef 1 [] (.pu 2 .fin) .no)) rfl rfl ?_
               obtain ⟨x222, e223, H⟩ := H
               obtain ⟨x224, e225, H⟩ := H
               refine sl 172 (.agg #[(Sl.v x222), (Sl.v x224)]) rfl rfl (fun dr => r_loadN Tryz.isAgg28 Tryz.sizeOf28 (vs := [(Sl.v x222), (Sl.v x224)]) rfl rfl ⟨e223, e225, trivial⟩) ?_
               obtain ⟨e227, H⟩ := H
               obtain ⟨h21, e226⟩ : ∃ hh : Heap, hh = hsets h5 p7 0 [(Sl.v x222), (Sl.v x224)] := ⟨_, rfl⟩
               have H := H h21 e226
               refine s_st (d := none) (h' := h21) rfl rfl rfl (fun dr => (r_store (v := (.agg #[(Sl.v x222), (Sl.v x224)])) Tryz.sizeOf28 rfl rfl rfl (one_all rfl) e227).trans (by rw [e226]; rfl)) trivial ?_ trivial
               refine sp 5 (.string (⟨#[69, 114, 114, 82, 97, 110, 103, 101]⟩)) rfl rfl (r_assign rfl) ?_
               refine s_fin ?_
               refine W_ret ?_
               obtain ⟨x228, e229, H⟩ := H
               obtain ⟨x230, e231, H⟩ := H
               exact ⟨[(.agg #[(Sl.v x228), (Sl.v x230)]), (.string (⟨#[69, 114, 114, 82, 97, 110, 103, 101]⟩))], ⟨_, _, _, rfl, rfl, fun dr => run_loadVarN Tryz.isAgg28 Tryz.sizeOf28 (vs := [(Sl.v x228), (Sl.v x230)]) rfl ⟨e229, e231, trivial⟩, ⟨_, _, rfl, rfl, rfl⟩⟩, x228, x230, (⟨#[69, 114, 114, 82, 97, 110, 103, 101]⟩), rfl, H⟩
              ·have H := H.2 g322
               refine W_skip ?_
               show W _ _ _ _ _ _ _ _
               refine W_seq ?_
               refine W_seq ?_
               refine W_region (.pu 0 (.pu 1 (.rl 2 (.pu 3 .fin)))) rfl rfl ?_
               refine sp 173 (Sl.v y10) rfl rfl (r_move rfl) ?_
               obtain ⟨p232, e233, e234, e235, H⟩ := H
               obtain ⟨q236, e237⟩ : ∃ q : Addr, q = Addr.add p232 (Int.toNat 0 * 1) := ⟨_, rfl⟩
               rw [← e237] at H
               refine sp 174 (.pointer (some q236)) rfl rfl (fun w => (r_indexAddr Tryz.underlying23 Tryz.sizeOf9 rfl rfl e233 e234 e235 w).trans (by rw [e237])) ?_
               obtain ⟨x238, e239, H⟩ := H
               refine sl 175 (.string x238) rfl rfl (fun dr => r_load1 Tryz.isAgg9 rfl e239) ?_
               refine sp 176 (.bool (decide (x238 = (⟨#[115, 117, 109]⟩)))) rfl rfl (r_eqlT rfl rfl) ?_
               refine s_fin ?_
               refine W_if (decide (x238 = (⟨#[115, 117, 109]⟩))) rfl (fun g321 => ?_) (fun g321 => ?_)
               ·have H := H.1 g321
                refine W_seq ?_
                refine W_draw [0, 0, 2, 0, 8, 24, 0, 64, 192, 510, 1022, 2046, 4095, 8191] (.rd 0 (.pu 1 (.rd 2 (.pu 3 (.pu 4 (.rd 5 (.pu 6 (.pu 7 (.rd 8 (.pu 9 (.ef 10 [2, 5, 8] (.ef 11 [2, 5, 8] (.ef 12 [0, 2, 5, 8] (.pu 13 .fin) .no) .no) .no))))))))))) (by kernel_rfl) (by kernel_rfl) ?_
                obtain ⟨x240, e241, H⟩ := H
                obtain ⟨x242, e243, H⟩ := H
                refine s_rd (d := some 177) (v := (.agg #[(Sl.v x240), (Sl.v x242)])) rfl rfl rfl (fun dr => r_loadN Tryz.isAgg28 Tryz.sizeOf28 (vs := [(Sl.v x240), (Sl.v x242)]) rfl rfl ⟨e241, e243, trivial⟩) ?_
                refine sp 178 (.pointer (some (Addr.add p4 0))) rfl rfl (r_fieldAddr Tryz.underlying28 Tryz.sizeOf26 rfl rfl rfl) ?_
                obtain ⟨x244, e245, H⟩ := H
                refine s_rd (d := some 179) (v := (Sl.v x244)) rfl rfl rfl (fun dr => r_load1 Tryz.isAgg26 rfl e245) ?_
                refine sp 180 (Sl.v n39) rfl rfl (r_move rfl) ?_
                obtain ⟨p246, e247, e248, e249, H⟩ := H
                obtain ⟨q250, e251⟩ : ∃ q : Addr, q = Addr.add p246 (Int.toNat 0 * 1) := ⟨_, rfl⟩
                rw [← e251] at H
                refine sp 181 (.pointer (some q250)) rfl rfl (fun w => (r_indexAddr Tryz.underlying26 Tryz.sizeOf3 rfl rfl e247 e248 e249 w).trans (by rw [e251])) ?_
                obtain ⟨x252, e253, H⟩ := H
                refine s_rd (d := some 182) (v := (.int .i64 x252)) rfl rfl rfl (fun dr => r_load1 Tryz.isAgg3 rfl e253) ?_
                refine sp 183 (Sl.v n39) rfl rfl (r_move rfl) ?_
                obtain ⟨p254, e255, e256, e257, H⟩ := H
                obtain ⟨q258, e259⟩ : ∃ q : Addr, q = Addr.add p254 (Int.toNat 1 * 1) := ⟨_, rfl⟩
                rw [← e259] at H
                refine sp 184 (.pointer (some q258)) rfl rfl (fun w => (r_indexAddr Tryz.underlying26 Tryz.sizeOf3 rfl rfl e255 e256 e257 w).trans (by rw [e259])) ?_
                obtain ⟨x260, e261, H⟩ := H
                refine s_rd (d := some 185) (v := (.int .i64 x260)) rfl rfl rfl (fun dr => r_load1 Tryz.isAgg3 rfl e261) ?_
                obtain ⟨e263, e264, e265, e266, H⟩ := H
                obtain ⟨s262, e267⟩ : ∃ t : Sl, t = ⟨sliceA x244.a (Int.toNat ((x244.cap : Int))) (Int.toNat x252) 1, Int.toNat x260 - Int.toNat x252, Int.toNat ((x244.cap : Int)) - Int.toNat x252⟩ := ⟨_, rfl⟩
                have H := H s262 e267
                refine sp 186 (Sl.v s262) rfl rfl (fun w => (r_slice (lo := (.some (.tmp 182))) (hi := (.some (.tmp 185))) (mx := .none) Tryz.underlying26 Tryz.sizeOf3 rfl ((x244.cap : Int)) x260 x252 rfl ⟨_, rfl⟩ ⟨_, rfl⟩ e263 e264 (.inr e265) e266 w).trans (by rw [e267]; rfl)) ?_
                refine s_ef (d := some 187) rfl rfl rfl (fun dr => r_call Tryz.call17 rfl rfl H) ?_ trivial
                rintro _ h22 ⟨y268, rfl, H⟩
                obtain ⟨e269, H⟩ := H
                obtain ⟨e270, H⟩ := H
                refine ⟨⟨trivial, trivial, trivial, (.inl ⟨rfl, fun dr => r_loadN Tryz.isAgg28 Tryz.sizeOf28 (vs := [(Sl.v x240), (Sl.v x242)]) rfl rfl ⟨e269, e270, trivial⟩⟩), trivial⟩, ?_⟩
                refine s_ef (d := some 188) rfl rfl rfl (fun dr => r_call Tryz.call16 rfl rfl H) ?_ trivial
                rintro _ h23 ⟨y271, rfl, H⟩
                obtain ⟨e272, H⟩ := H
                obtain ⟨e273, H⟩ := H
                refine ⟨⟨trivial, trivial, trivial, (.inl ⟨rfl, fun dr => r_loadN Tryz.isAgg28 Tryz.sizeOf28 (vs := [(Sl.v x240), (Sl.v x242)]) rfl rfl ⟨e272, e273, trivial⟩⟩), trivial⟩, ?_⟩
                obtain ⟨e275, H⟩ := H
                obtain ⟨h24, e274⟩ : ∃ hh : Heap, hh = hsets h23 p7 0 [(Sl.v x240), (Sl.v x242)] := ⟨_, rfl⟩
                have H := H h24 e274
                refine s_st (d := none) (h' := h24) rfl rfl rfl (fun dr => (r_store (v := (.agg #[(Sl.v x240), (Sl.v x242)])) Tryz.sizeOf28 rfl rfl rfl (one_all rfl) e275).trans (by rw [e274]; rfl)) ⟨trivial, trivial, trivial, trivial, trivial⟩ ?_ trivial
                refine sp 5 (.string y271) rfl rfl (r_assign rfl) ?_
                refine s_fin ?_
                refine W_ret ?_
                obtain ⟨x276, e277, H⟩ := H
                obtain ⟨x278, e279, H⟩ := H
                exact ⟨[(.agg #[(Sl.v x276), (Sl.v x278)]), (.string y271)], ⟨_, _, _, rfl, rfl, fun dr => run_loadVarN Tryz.isAgg28 Tryz.sizeOf28 (vs := [(Sl.v x276), (Sl.v x278)]) rfl ⟨e277, e279, trivial⟩, ⟨_, _, rfl, rfl, rfl⟩⟩, x276, x278, y271, rfl, H⟩
               ·have H := H.2 g321
                refine W_skip ?_
                show W _ _ _ _ _ _ _ _
                refine W_seq ?_
                refine W_draw [0, 1, 0, 4, 12, 0, 32, 96, 255, 511, 1023] (.pu 0 (.rd 1 (.pu 2 (.pu 3 (.rd 4 (.pu 5 (.pu 6 (.rd 7 (.pu 8 (.pu 9 (.ef 10 [1, 4, 7] .fin .no))))))))))) (by kernel_rfl) (by kernel_rfl) ?_
                refine sp 189 (.pointer (some (Addr.add p4 0))) rfl rfl (r_fieldAddr Tryz.underlying28 Tryz.sizeOf26 rfl rfl rfl) ?_
                obtain ⟨x280, e281, H⟩ := H
                refine s_rd (d := some 190) (v := (Sl.v x280)) rfl rfl rfl (fun dr => r_load1 Tryz.isAgg26 rfl e281) ?_
                refine sp 191 (Sl.v n39) rfl rfl (r_move rfl) ?_
                obtain ⟨p282, e283, e284, e285, H⟩ := H
                obtain ⟨q286, e287⟩ : ∃ q : Addr, q = Addr.add p282 (Int.toNat 0 * 1) := ⟨_, rfl⟩
                rw [← e287] at H
                refine sp 192 (.pointer (some q286)) rfl rfl (fun w => (r_indexAddr Tryz.underlying26 Tryz.sizeOf3 rfl rfl e283 e284 e285 w).trans (by rw [e287])) ?_
                obtain ⟨x288, e289, H⟩ := H
                refine s_rd (d := some 193) (v := (.int .i64 x288)) rfl rfl rfl (fun dr => r_load1 Tryz.isAgg3 rfl e289) ?_
                refine sp 194 (Sl.v n39) rfl rfl (r_move rfl) ?_
                obtain ⟨p290, e291, e292, e293, H⟩ := H
                obtain ⟨q294, e295⟩ : ∃ q : Addr, q = Addr.add p290 (Int.toNat 1 * 1) := ⟨_, rfl⟩
                rw [← e295] at H
                refine sp 195 (.pointer (some q294)) rfl rfl (fun w => (r_indexAddr Tryz.underlying26 Tryz.sizeOf3 rfl rfl e291 e292 e293 w).trans (by rw [e295])) ?_
                obtain ⟨x296, e297, H⟩ := H
                refine s_rd (d := some 196) (v := (.int .i64 x296)) rfl rfl rfl (fun dr => r_load1 Tryz.isAgg3 rfl e297) ?_
                obtain ⟨e299, e300, e301, e302, H⟩ := H
                obtain ⟨s298, e303⟩ : ∃ t : Sl, t = ⟨sliceA x280.a (Int.toNat ((x280.cap : Int))) (Int.toNat x288) 1, Int.toNat x296 - Int.toNat x288, Int.toNat ((x280.cap : Int)) - Int.toNat x288⟩ := ⟨_, rfl⟩
                have H := H s298 e303
                refine sp 197 (Sl.v s298) rfl rfl (fun w => (r_slice (lo := (.some (.tmp 193))) (hi := (.some (.tmp 196))) (mx := .none) Tryz.underlying26 Tryz.sizeOf3 rfl ((x280.cap : Int)) x296 x288 rfl ⟨_, rfl⟩ ⟨_, rfl⟩ e299 e300 (.inr e301) e302 w).trans (by rw [e303]; rfl)) ?_
                refine sp 198 (.pointer (some (Addr.add p4 0))) rfl rfl (r_fieldAddr Tryz.underlying28 Tryz.sizeOf26 rfl rfl rfl) ?_
                obtain ⟨e305, H⟩ := H
                obtain ⟨h25, e304⟩ : ∃ hh : Heap, hh = hsets h5 (Addr.add p4 0) 0 [(Sl.v s298)] := ⟨_, rfl⟩
                have H := H h25 e304
                refine s_st (d := none) (h' := h25) rfl rfl rfl (fun dr => (r_store (v := (Sl.v s298)) Tryz.sizeOf26 rfl rfl rfl (one_all rfl) e305).trans (by rw [e304]; rfl)) ⟨trivial, trivial, trivial, trivial⟩ ?_ trivial
                refine s_fin ?_
                refine W_seq ?_
                refine W_draw [0, 0, 2, 6, 14, 31, 63] (.rd 0 (.pu 1 (.rd 2 (.pu 3 (.ef 4 [2] (.ef 5 [0, 2] (.pu 6 .fin) .no) .no))))) (by kernel_rfl) (by kernel_rfl) ?_
                obtain ⟨x306, e307, H⟩ := H
                obtain ⟨x308, e309, H⟩ := H
                refine s_rd (d := some 199) (v := (.agg #[(Sl.v x306), (Sl.v x308)])) rfl rfl rfl (fun dr => r_loadN Tryz.isAgg28 Tryz.sizeOf28 (vs := [(Sl.v x306), (Sl.v x308)]) rfl rfl ⟨e307, e309, trivial⟩) ?_
                refine sp 200 (.pointer (some (Addr.add p4 0))) rfl rfl (r_fieldAddr Tryz.underlying28 Tryz.sizeOf26 rfl rfl rfl) ?_
                obtain ⟨x310, e311, H⟩ := H
                refine s_rd (d := some 201) (v := (Sl.v x310)) rfl rfl rfl (fun dr => r_load1 Tryz.isAgg26 rfl e311) ?_
                refine sp 202 (.int .i64 ((x310.len : Int))) rfl rfl (r_len Tryz.underlying26 rfl) ?_
                refine s_ef (d := some 203) rfl rfl rfl (fun dr => r_call Tryz.call16 rfl rfl H) ?_ trivial
                rintro _ h26 ⟨y312, rfl, H⟩
                obtain ⟨e313, H⟩ := H
                obtain ⟨e314, H⟩ := H
                refine ⟨⟨trivial, (.inl ⟨rfl, fun dr => r_loadN Tryz.isAgg28 Tryz.sizeOf28 (vs := [(Sl.v x306), (Sl.v x308)]) rfl rfl ⟨e313, e314, trivial⟩⟩), trivial⟩, ?_⟩
                obtain ⟨e316, H⟩ := H
                obtain ⟨h27, e315⟩ : ∃ hh : Heap, hh = hsets h26 p7 0 [(Sl.v x306), (Sl.v x308)] := ⟨_, rfl⟩
                have H := H h27 e315
                refine s_st (d := none) (h' := h27) rfl rfl rfl (fun dr => (r_store (v := (.agg #[(Sl.v x306), (Sl.v x308)])) Tryz.sizeOf28 rfl rfl rfl (one_all rfl) e316).trans (by rw [e315]; rfl)) ⟨trivial, trivial, trivial⟩ ?_ trivial
                refine sp 5 (.string y312) rfl rfl (r_assign rfl) ?_
                refine s_fin ?_
                refine W_ret ?_
                obtain ⟨x317, e318, H⟩ := H
                obtain ⟨x319, e320, H⟩ := H
                exact ⟨[(.agg #[(Sl.v x317), (Sl.v x319)]), (.string y312)], ⟨_, _, _, rfl, rfl, fun dr => run_loadVarN Tryz.isAgg28 Tryz.sizeOf28 (vs := [(Sl.v x317), (Sl.v x319)]) rfl ⟨e318, e320, trivial⟩, ⟨_, _, rfl, rfl, rfl⟩⟩, x317, x319, y312, rfl, H⟩)
             clear eN221
             refine W_draw [0, 1, 3, 7, 15, 31, 63, 127, 31, 287, 799, 2047, 4095, 8191, 16383, 32767, 65535, 16383, 147455, 409599, 1048575, 2097151] (.pu 0 (.pu 1 (.rd 2 (.pu 3 (.pu 4 (.pu 5 (.pu 6 (.rd 7 (.pu 8 (.pu 9 (.rd 10 (.pu 11 (.pu 12 (.pu 13 (.pu 14 (.pu 15 (.rd 16 (.pu 17 (.rd 18 (.pu 19 (.pu 20 (.pu 21 .fin)))))))))))))))))))))) (by kernel_rfl) (by kernel_rfl) ?_
             refine sp 150 (Sl.v n39) rfl rfl (r_move rfl) ?_
             obtain ⟨p323, e324, e325, e326, H⟩ := H
             obtain ⟨q327, e328⟩ : ∃ q : Addr, q = Addr.add p323 (Int.toNat 0 * 1) := ⟨_, rfl⟩
             rw [← e328] at H
             refine sp 151 (.pointer (some q327)) rfl rfl (fun w => (r_indexAddr Tryz.underlying26 Tryz.sizeOf3 rfl rfl e324 e325 e326 w).trans (by rw [e328])) ?_
             obtain ⟨x329, e330, H⟩ := H
             refine s_rd (d := some 152) (v := (.int .i64 x329)) rfl rfl rfl (fun dr => r_load1 Tryz.isAgg3 rfl e330) ?_
             refine sp 153 (.bool (decide (x329 < 0))) rfl rfl (r_lss rfl rfl) ?_
             refine sp 154 (.bool (decide (x329 < 0))) rfl rfl (r_move rfl) ?_
             rcases Bool.eq_false_or_eq_true (decide (x329 < 0)) with g331 | g331
             ·have H := H.1 g331
              refine s_sk (d := some 155) rfl rfl (wants_no rfl rfl rfl rfl g331) ?_
              refine s_sk (d := some 156) rfl rfl (wants_no rfl rfl rfl rfl g331) ?_
              refine s_skd (d := some 157) rfl rfl (wants_no rfl rfl rfl rfl g331) ?_
              refine s_sk (d := some 158) rfl rfl (wants_no rfl rfl rfl rfl g331) ?_
              refine s_sk (d := some 159) rfl rfl (wants_no rfl rfl rfl rfl g331) ?_
              refine s_skd (d := some 160) rfl rfl (wants_no rfl rfl rfl rfl g331) ?_
              refine s_sk (d := some 161) rfl rfl (wants_no rfl rfl rfl rfl g331) ?_
              refine sp 162 (.bool true) rfl rfl (r_pick1 rfl g331 rfl) ?_
              refine sp 163 (.bool true) rfl rfl (r_move rfl) ?_
              refine s_sk (d := some 164) rfl rfl (wants_no rfl rfl rfl rfl rfl) ?_
              refine s_sk (d := some 165) rfl rfl (wants_no rfl rfl rfl rfl rfl) ?_
              refine s_skd (d := some 166) rfl rfl (wants_no rfl rfl rfl rfl rfl) ?_
              refine s_sk (d := some 167) rfl rfl (wants_no rfl rfl rfl rfl rfl) ?_
              refine s_skd (d := some 168) rfl rfl (wants_no rfl rfl rfl rfl rfl) ?_
              refine s_sk (d := some 169) rfl rfl (wants_no rfl rfl rfl rfl rfl) ?_
              refine s_sk (d := some 170) rfl rfl (wants_no rfl rfl rfl rfl rfl) ?_
              refine sp 171 (.bool true) rfl rfl (r_pick1 rfl rfl rfl) ?_
              refine s_fin ?_
              exact N_mk (l := [(2, (.pointer (some p4))), (4, (.pointer (some p7))), (6, (Sl.v y10)), (8, (Sl.v n39)), (171, (.bool true))]) H ⟨rfl, rfl, rfl, rfl, rfl, trivial⟩
             ·have H := H.2 g331
              refine s_pu (d := some 155) (v := (Sl.v n39)) rfl rfl (wants_yes rfl rfl rfl rfl g331) (r_move rfl) ?_
              obtain ⟨p332, e333, e334, e335, H⟩ := H
              obtain ⟨q336, e337⟩ : ∃ q : Addr, q = Addr.add p332 (Int.toNat 1 * 1) := ⟨_, rfl⟩
              rw [← e337] at H
              refine s_pu (d := some 156) (v := (.pointer (some q336))) rfl rfl (wants_yes rfl rfl rfl rfl g331) (fun w => (r_indexAddr Tryz.underlying26 Tryz.sizeOf3 rfl rfl e333 e334 e335 w).trans (by rw [e337])) ?_
              obtain ⟨x338, e339, H⟩ := H
              refine s_rd (d := some 157) (v := (.int .i64 x338)) rfl rfl (wants_yes rfl rfl rfl rfl g331) (fun dr => r_load1 Tryz.isAgg3 rfl e339) ?_
              refine s_pu (d := some 158) (v := (Sl.v n39)) rfl rfl (wants_yes rfl rfl rfl rfl g331) (r_move rfl) ?_
              obtain ⟨p340, e341, e342, e343, H⟩ := H
              obtain ⟨q344, e345⟩ : ∃ q : Addr, q = Addr.add p340 (Int.toNat 0 * 1) := ⟨_, rfl⟩
              rw [← e345] at H
              refine s_pu (d := some 159) (v := (.pointer (some q344))) rfl rfl (wants_yes rfl rfl rfl rfl g331) (fun w => (r_indexAddr Tryz.underlying26 Tryz.sizeOf3 rfl rfl e341 e342 e343 w).trans (by rw [e345])) ?_
              obtain ⟨x346, e347, H⟩ := H
              refine s_rd (d := some 160) (v := (.int .i64 x346)) rfl rfl (wants_yes rfl rfl rfl rfl g331) (fun dr => r_load1 Tryz.isAgg3 rfl e347) ?_
              refine s_pu (d := some 161) (v := (.bool (decide (x338 < x346)))) rfl rfl (wants_yes rfl rfl rfl rfl g331) (r_lss rfl rfl) ?_
              refine sp 162 (.bool (decide (x338 < x346))) rfl rfl (r_pick0 rfl g331 rfl) ?_
              refine sp 163 (.bool (decide (x338 < x346))) rfl rfl (r_move rfl) ?_
              rcases Bool.eq_false_or_eq_true (decide (x338 < x346)) with g348 | g348
              ·have H := H.1 g348
               refine s_sk (d := some 164) rfl rfl (wants_no rfl rfl rfl rfl g348) ?_
               refine s_sk (d := some 165) rfl rfl (wants_no rfl rfl rfl rfl g348) ?_
               refine s_skd (d := some 166) rfl rfl (wants_no rfl rfl rfl rfl g348) ?_
               refine s_sk (d := some 167) rfl rfl (wants_no rfl rfl rfl rfl g348) ?_
               refine s_skd (d := some 168) rfl rfl (wants_no rfl rfl rfl rfl g348) ?_
               refine s_sk (d := some 169) rfl rfl (wants_no rfl rfl rfl rfl g348) ?_
               refine s_sk (d := some 170) rfl rfl (wants_no rfl rfl rfl rfl g348) ?_
               refine sp 171 (.bool true) rfl rfl (r_pick1 rfl g348 rfl) ?_
               refine s_fin ?_
               exact N_mk (l := [(2, (.pointer (some p4))), (4, (.pointer (some p7))), (6, (Sl.v y10)), (8, (Sl.v n39)), (171, (.bool true))]) H ⟨rfl, rfl, rfl, rfl, rfl, trivial⟩
              ·have H := H.2 g348
               refine s_pu (d := some 164) (v := (Sl.v n39)) rfl rfl (wants_yes rfl rfl rfl rfl g348) (r_move rfl) ?_
               obtain ⟨p349, e350, e351, e352, H⟩ := H
               obtain ⟨q353, e354⟩ : ∃ q : Addr, q = Addr.add p349 (Int.toNat 1 * 1) := ⟨_, rfl⟩
               rw [← e354] at H
               refine s_pu (d := some 165) (v := (.pointer (some q353))) rfl rfl (wants_yes rfl rfl rfl rfl g348) (fun w => (r_indexAddr Tryz.underlying26 Tryz.sizeOf3 rfl rfl e350 e351 e352 w).trans (by rw [e354])) ?_
               obtain ⟨x355, e356, H⟩ := H
               refine s_rd (d := some 166) (v := (.int .i64 x355)) rfl rfl (wants_yes rfl rfl rfl rfl g348) (fun dr => r_load1 Tryz.isAgg3 rfl e356) ?_
               refine s_pu (d := some 167) (v := (.pointer (some (Addr.add p4 0)))) rfl rfl (wants_yes rfl rfl rfl rfl g348) (r_fieldAddr Tryz.underlying28 Tryz.sizeOf26 rfl rfl rfl) ?_
               obtain ⟨x357, e358, H⟩ := H
               refine s_rd (d := some 168) (v := (Sl.v x357)) rfl rfl (wants_yes rfl rfl rfl rfl g348) (fun dr => r_load1 Tryz.isAgg26 rfl e358) ?_
               refine s_pu (d := some 169) (v := (.int .i64 ((x357.len : Int)))) rfl rfl (wants_yes rfl rfl rfl rfl g348) (r_len Tryz.underlying26 rfl) ?_
               refine s_pu (d := some 170) (v := (.bool (decide (((x357.len : Int)) < x355)))) rfl rfl (wants_yes rfl rfl rfl rfl g348) (r_gtr rfl rfl) ?_
               refine sp 171 (.bool (decide (((x357.len : Int)) < x355))) rfl rfl (r_pick0 rfl g348 rfl) ?_
               refine s_fin ?_
               exact N_mk (l := [(2, (.pointer (some p4))), (4, (.pointer (some p7))), (6, (Sl.v y10)), (8, (Sl.v n39)), (171, (.bool (decide (((x357.len : Int)) < x355))))]) H ⟨rfl, rfl, rfl, rfl, rfl, trivial⟩)
      clear eN28
      refine W_if x23 rfl (fun g365 => ?_) (fun g365 => ?_)
      ·have H := H.1 g365
       refine W_region (.pu 0 .fin) rfl rfl ?_
       refine sp 7 (.int .i64 0) rfl rfl (r_assign rfl) ?_
       refine s_fin ?_
       exact N_mk (l := [(2, (.pointer (some p4))), (4, (.pointer (some p7))), (6, (Sl.v y10)), (7, (.int .i64 0))]) H ⟨rfl, rfl, rfl, rfl, trivial⟩
      ·have H := H.2 g365
       refine W_skip ?_
       exact N_mk (l := [(2, (.pointer (some p4))), (4, (.pointer (some p7))), (6, (Sl.v y10)), (7, (.int .i64 k20))]) H ⟨rfl, rfl, rfl, rfl, trivial⟩)
     clear eN25
     refine W_region (.pu 0 (.pu 1 (.rl 2 (.pu 3 (.pu 4 (.pu 5 (.pu 6 (.rl 7 (.pu 8 (.pu 9 .fin)))))))))) rfl rfl ?_
     refine sp 52 (Sl.v y10) rfl rfl (r_move rfl) ?_
     obtain ⟨p366, e367, e368, e369, H⟩ := H
     obtain ⟨q370, e371⟩ : ∃ q : Addr, q = Addr.add p366 (Int.toNat 0 * 1) := ⟨_, rfl⟩
     rw [← e371] at H
     refine sp 53 (.pointer (some q370)) rfl rfl (fun w => (r_indexAddr Tryz.underlying23 Tryz.sizeOf9 rfl rfl e367 e368 e369 w).trans (by rw [e371])) ?_
     obtain ⟨x372, e373, H⟩ := H
     refine sl 54 (.string x372) rfl rfl (fun dr => r_load1 Tryz.isAgg9 rfl e373) ?_
     refine sp 55 (.bool (decide (x372 = (⟨#[108, 105, 115, 116]⟩)))) rfl rfl (r_eqlT rfl rfl) ?_
     refine sp 56 (.bool (decide (x372 = (⟨#[108, 105, 115, 116]⟩)))) rfl rfl (r_move rfl) ?_
     rcases Bool.eq_false_or_eq_true (decide (x372 = (⟨#[108, 105, 115, 116]⟩))) with g374 | g374
     ·have H := H.1 g374
      refine s_sk (d := some 57) rfl rfl (wants_no rfl rfl rfl rfl g374) ?_
      refine s_sk (d := some 58) rfl rfl (wants_no rfl rfl rfl rfl g374) ?_
      refine s_skl (d := some 59) rfl rfl (wants_no rfl rfl rfl rfl g374) ?_
      refine s_sk (d := some 60) rfl rfl (wants_no rfl rfl rfl rfl g374) ?_
      refine sp 61 (.bool true) rfl rfl (r_pick1 rfl g374 rfl) ?_
      refine s_fin ?_
      exact N_mk (l := [(2, (.pointer (some p4))), (4, (.pointer (some p7))), (6, (Sl.v y10)), (7, (.int .i64 k20)), (61, (.bool true))]) H ⟨rfl, rfl, rfl, rfl, rfl, trivial⟩
     ·have H := H.2 g374
      refine s_pu (d := some 57) (v := (Sl.v y10)) rfl rfl (wants_yes rfl rfl rfl rfl g374) (r_move rfl) ?_
      obtain ⟨p375, e376, e377, e378, H⟩ := H
      obtain ⟨q379, e380⟩ : ∃ q : Addr, q = Addr.add p375 (Int.toNat 0 * 1) := ⟨_, rfl⟩
      rw [← e380] at H
      refine s_pu (d := some 58) (v := (.pointer (some q379))) rfl rfl (wants_yes rfl rfl rfl rfl g374) (fun w => (r_indexAddr Tryz.underlying23 Tryz.sizeOf9 rfl rfl e376 e377 e378 w).trans (by rw [e380])) ?_
      obtain ⟨x381, e382, H⟩ := H
      refine s_rl (d := some 59) (v := (.string x381)) rfl rfl (wants_yes rfl rfl rfl rfl g374) (fun dr => r_load1 Tryz.isAgg9 rfl e382) ?_
      refine s_pu (d := some 60) (v := (.bool (decide (x381 = (⟨#[115, 101, 116]⟩))))) rfl rfl (wants_yes rfl rfl rfl rfl g374) (r_eqlT rfl rfl) ?_
      refine sp 61 (.bool (decide (x381 = (⟨#[115, 101, 116]⟩)))) rfl rfl (r_pick0 rfl g374 rfl) ?_
      refine s_fin ?_
      exact N_mk (l := [(2, (.pointer (some p4))), (4, (.pointer (some p7))), (6, (Sl.v y10)), (7, (.int .i64 k20)), (61, (.bool (decide (x381 = (⟨#[115, 101, 116]⟩)))))]) H ⟨rfl, rfl, rfl, rfl, rfl, trivial⟩)
    clear eN22
    refine W_if x17 rfl (fun g383 => ?_) (fun g383 => ?_)
    ·have H := H.1 g383
     refine W_region (.pu 0 .fin) rfl rfl ?_
     refine sp 7 (.int .i64 1) rfl rfl (r_assign rfl) ?_
     refine s_fin ?_
     exact N_mk (l := [(2, (.pointer (some p4))), (4, (.pointer (some p7))), (6, (Sl.v y10)), (7, (.int .i64 1))]) H ⟨rfl, rfl, rfl, rfl, trivial⟩
    ·have H := H.2 g383
     refine W_skip ?_
     exact N_mk (l := [(2, (.pointer (some p4))), (4, (.pointer (some p7))), (6, (Sl.v y10)), (7, (.int .i64 k14))]) H ⟨rfl, rfl, rfl, rfl, trivial⟩)
   clear eN19
   refine W_region (.pu 0 (.pu 1 (.rl 2 (.pu 3 (.pu 4 (.pu 5 (.pu 6 (.rl 7 (.pu 8 (.pu 9 (.pu 10 (.pu 11 (.pu 12 (.rl 13 (.pu 14 (.pu 15 (.pu 16 (.pu 17 (.pu 18 (.rl 19 (.pu 20 (.pu 21 .fin)))))))))))))))))))))) rfl rfl ?_
   refine sp 30 (Sl.v y10) rfl rfl (r_move rfl) ?_
   obtain ⟨p384, e385, e386, e387, H⟩ := H
   obtain ⟨q388, e389⟩ : ∃ q : Addr, q = Addr.add p384 (Int.toNat 0 * 1) := ⟨_, rfl⟩
   rw [← e389] at H
   refine sp 31 (.pointer (some q388)) rfl rfl (fun w => (r_indexAddr Tryz.underlying23 Tryz.sizeOf9 rfl rfl e385 e386 e387 w).trans (by rw [e389])) ?_
   obtain ⟨x390, e391, H⟩ := H
   refine sl 32 (.string x390) rfl rfl (fun dr => r_load1 Tryz.isAgg9 rfl e391) ?_
   refine sp 33 (.bool (decide (x390 = (⟨#[100, 101, 108]⟩)))) rfl rfl (r_eqlT rfl rfl) ?_
   refine sp 34 (.bool (decide (x390 = (⟨#[100, 101, 108]⟩)))) rfl rfl (r_move rfl) ?_
   rcases Bool.eq_false_or_eq_true (decide (x390 = (⟨#[100, 101, 108]⟩))) with g392 | g392
   ·have H := H.1 g392
    refine s_sk (d := some 35) rfl rfl (wants_no rfl rfl rfl rfl g392) ?_
    refine s_sk (d := some 36) rfl rfl (wants_no rfl rfl rfl rfl g392) ?_
    refine s_skl (d := some 37) rfl rfl (wants_no rfl rfl rfl rfl g392) ?_
    refine s_sk (d := some 38) rfl rfl (wants_no rfl rfl rfl rfl g392) ?_
    refine sp 39 (.bool true) rfl rfl (r_pick1 rfl g392 rfl) ?_
    refine sp 40 (.bool true) rfl rfl (r_move rfl) ?_
    refine s_sk (d := some 41) rfl rfl (wants_no rfl rfl rfl rfl rfl) ?_
    refine s_sk (d := some 42) rfl rfl (wants_no rfl rfl rfl rfl rfl) ?_
    refine s_skl (d := some 43) rfl rfl (wants_no rfl rfl rfl rfl rfl) ?_
    refine s_sk (d := some 44) rfl rfl (wants_no rfl rfl rfl rfl rfl) ?_
    refine sp 45 (.bool true) rfl rfl (r_pick1 rfl rfl rfl) ?_
    refine sp 46 (.bool true) rfl rfl (r_move rfl) ?_
    refine s_sk (d := some 47) rfl rfl (wants_no rfl rfl rfl rfl rfl) ?_
    refine s_sk (d := some 48) rfl rfl (wants_no rfl rfl rfl rfl rfl) ?_
    refine s_skl (d := some 49) rfl rfl (wants_no rfl rfl rfl rfl rfl) ?_
    refine s_sk (d := some 50) rfl rfl (wants_no rfl rfl rfl rfl rfl) ?_
    refine sp 51 (.bool true) rfl rfl (r_pick1 rfl rfl rfl) ?_
    refine s_fin ?_
    exact N_mk (l := [(2, (.pointer (some p4))), (4, (.pointer (some p7))), (6, (Sl.v y10)), (7, (.int .i64 k14)), (51, (.bool true))]) H ⟨rfl, rfl, rfl, rfl, rfl, trivial⟩
   ·have H := H.2 g392
    refine s_pu (d := some 35) (v := (Sl.v y10)) rfl rfl (wants_yes rfl rfl rfl rfl g392) (r_move rfl) ?_
    obtain ⟨p393, e394, e395, e396, H⟩ := H
    obtain ⟨q397, e398⟩ : ∃ q : Addr, q = Addr.add p393 (Int.toNat 0 * 1) := ⟨_, rfl⟩
    rw [← e398] at H
    refine s_pu (d := some 36) (v := (.pointer (some q397))) rfl rfl (wants_yes rfl rfl rfl rfl g392) (fun w => (r_indexAddr Tryz.underlying23 Tryz.sizeOf9 rfl rfl e394 e395 e396 w).trans (by rw [e398])) ?_
    obtain ⟨x399, e400, H⟩ := H
    refine s_rl (d := some 37) (v := (.string x399)) rfl rfl (wants_yes rfl rfl rfl rfl g392) (fun dr => r_load1 Tryz.isAgg9 rfl e400) ?_
    refine s_pu (d := some 38) (v := (.bool (decide (x399 = (⟨#[112, 117, 116]⟩))))) rfl rfl (wants_yes rfl rfl rfl rfl g392) (r_eqlT rfl rfl) ?_
    refine sp 39 (.bool (decide (x399 = (⟨#[112, 117, 116]⟩)))) rfl rfl (r_pick0 rfl g392 rfl) ?_
    refine sp 40 (.bool (decide (x399 = (⟨#[112, 117, 116]⟩)))) rfl rfl (r_move rfl) ?_
    rcases Bool.eq_false_or_eq_true (decide (x399 = (⟨#[112, 117, 116]⟩))) with g401 | g401
    ·have H := H.1 g401
     refine s_sk (d := some 41) rfl rfl (wants_no rfl rfl rfl rfl g401) ?_
     refine s_sk (d := some 42) rfl rfl (wants_no rfl rfl rfl rfl g401) ?_
     refine s_skl (d := some 43) rfl rfl (wants_no rfl rfl rfl rfl g401) ?_
     refine s_sk (d := some 44) rfl rfl (wants_no rfl rfl rfl rfl g401) ?_
     refine sp 45 (.bool true) rfl rfl (r_pick1 rfl g401 rfl) ?_
     refine sp 46 (.bool true) rfl rfl (r_move rfl) ?_
     refine s_sk (d := some 47) rfl rfl (wants_no rfl rfl rfl rfl rfl) ?_
     refine s_sk (d := some 48) rfl rfl (wants_no rfl rfl rfl rfl rfl) ?_
     refine s_skl (d := some 49) rfl rfl (wants_no rfl rfl rfl rfl rfl) ?_
     refine s_sk (d := some 50) rfl rfl (wants_no rfl rfl rfl rfl rfl) ?_
     refine sp 51 (.bool true) rfl rfl (r_pick1 rfl rfl rfl) ?_
     refine s_fin ?_
     exact N_mk (l := [(2, (.pointer (some p4))), (4, (.pointer (some p7))), (6, (Sl.v y10)), (7, (.int .i64 k14)), (51, (.bool true))]) H ⟨rfl, rfl, rfl, rfl, rfl, trivial⟩
    ·have H := H.2 g401
     refine s_pu (d := some 41) (v := (Sl.v y10)) rfl rfl (wants_yes rfl rfl rfl rfl g401) (r_move rfl) ?_
     obtain ⟨p402, e403, e404, e405, H⟩ := H
     obtain ⟨q406, e407⟩ : ∃ q : Addr, q = Addr.add p402 (Int.toNat 0 * 1) := ⟨_, rfl⟩
     rw [← e407] at H
     refine s_pu (d := some 42) (v := (.pointer (some q406))) rfl rfl (wants_yes rfl rfl rfl rfl g401) (fun w => (r_indexAddr Tryz.underlying23 Tryz.sizeOf9 rfl rfl e403 e404 e405 w).trans (by rw [e407])) ?_
     obtain ⟨x408, e409, H⟩ := H
     refine s_rl (d := some 43) (v := (.string x408)) rfl rfl (wants_yes rfl rfl rfl rfl g401) (fun dr => r_load1 Tryz.isAgg9 rfl e409) ?_
     refine s_pu (d := some 44) (v := (.bool (decide (x408 = (⟨#[100, 114, 111, 112]⟩))))) rfl rfl (wants_yes rfl rfl rfl rfl g401) (r_eqlT rfl rfl) ?_
     refine sp 45 (.bool (decide (x408 = (⟨#[100, 114, 111, 112]⟩)))) rfl rfl (r_pick0 rfl g401 rfl) ?_
     refine sp 46 (.bool (decide (x408 = (⟨#[100, 114, 111, 112]⟩)))) rfl rfl (r_move rfl) ?_
     rcases Bool.eq_false_or_eq_true (decide (x408 = (⟨#[100, 114, 111, 112]⟩))) with g410 | g410
     ·have H := H.1 g410
      refine s_sk (d := some 47) rfl rfl (wants_no rfl rfl rfl rfl g410) ?_
      refine s_sk (d := some 48) rfl rfl (wants_no rfl rfl rfl rfl g410) ?_
      refine s_skl (d := some 49) rfl rfl (wants_no rfl rfl rfl rfl g410) ?_
      refine s_sk (d := some 50) rfl rfl (wants_no rfl rfl rfl rfl g410) ?_
      refine sp 51 (.bool true) rfl rfl (r_pick1 rfl g410 rfl) ?_
      refine s_fin ?_
      exact N_mk (l := [(2, (.pointer (some p4))), (4, (.pointer (some p7))), (6, (Sl.v y10)), (7, (.int .i64 k14)), (51, (.bool true))]) H ⟨rfl, rfl, rfl, rfl, rfl, trivial⟩
     ·have H := H.2 g410
      refine s_pu (d := some 47) (v := (Sl.v y10)) rfl rfl (wants_yes rfl rfl rfl rfl g410) (r_move rfl) ?_
      obtain ⟨p411, e412, e413, e414, H⟩ := H
      obtain ⟨q415, e416⟩ : ∃ q : Addr, q = Addr.add p411 (Int.toNat 0 * 1) := ⟨_, rfl⟩
      rw [← e416] at H
      refine s_pu (d := some 48) (v := (.pointer (some q415))) rfl rfl (wants_yes rfl rfl rfl rfl g410) (fun w => (r_indexAddr Tryz.underlying23 Tryz.sizeOf9 rfl rfl e412 e413 e414 w).trans (by rw [e416])) ?_
      obtain ⟨x417, e418, H⟩ := H
      refine s_rl (d := some 49) (v := (.string x417)) rfl rfl (wants_yes rfl rfl rfl rfl g410) (fun dr => r_load1 Tryz.isAgg9 rfl e418) ?_
      refine s_pu (d := some 50) (v := (.bool (decide (x417 = (⟨#[114, 97, 110, 107]⟩))))) rfl rfl (wants_yes rfl rfl rfl rfl g410) (r_eqlT rfl rfl) ?_
      refine sp 51 (.bool (decide (x417 = (⟨#[114, 97, 110, 107]⟩)))) rfl rfl (r_pick0 rfl g410 rfl) ?_
      refine s_fin ?_
      exact N_mk (l := [(2, (.pointer (some p4))), (4, (.pointer (some p7))), (6, (Sl.v y10)), (7, (.int .i64 k14)), (51, (.bool (decide (x417 = (⟨#[114, 97, 110, 107]⟩)))))]) H ⟨rfl, rfl, rfl, rfl, rfl, trivial⟩)
  clear eN16
  refine W_if x11 rfl (fun g419 => ?_) (fun g419 => ?_)
  ·have H := H.1 g419
   refine W_region (.pu 0 .fin) rfl rfl ?_
   refine sp 7 (.int .i64 2) rfl rfl (r_assign rfl) ?_
   refine s_fin ?_
   exact N_mk (l := [(2, (.pointer (some p4))), (4, (.pointer (some p7))), (6, (Sl.v y10)), (7, (.int .i64 2))]) H ⟨rfl, rfl, rfl, rfl, trivial⟩
  ·have H := H.2 g419
   refine W_skip ?_
   exact N_mk (l := [(2, (.pointer (some p4))), (4, (.pointer (some p7))), (6, (Sl.v y10)), (7, (.int .i64 ((-1))))]) H ⟨rfl, rfl, rfl, rfl, trivial⟩)
 clear eN13
 refine W_region (.pu 0 (.pu 1 (.rl 2 (.pu 3 (.pu 4 (.pu 5 (.pu 6 (.rl 7 (.pu 8 (.pu 9 (.pu 10 (.pu 11 (.pu 12 (.rl 13 (.pu 14 (.pu 15 .fin)))))))))))))))) rfl rfl ?_
 refine sp 14 (Sl.v y10) rfl rfl (r_move rfl) ?_
 obtain ⟨p420, e421, e422, e423, H⟩ := H
 obtain ⟨q424, e425⟩ : ∃ q : Addr, q = Addr.add p420 (Int.toNat 0 * 1) := ⟨_, rfl⟩
 rw [← e425] at H
 refine sp 15 (.pointer (some q424)) rfl rfl (fun w => (r_indexAddr Tryz.underlying23 Tryz.sizeOf9 rfl rfl e421 e422 e423 w).trans (by rw [e425])) ?_
 obtain ⟨x426, e427, H⟩ := H
 refine sl 16 (.string x426) rfl rfl (fun dr => r_load1 Tryz.isAgg9 rfl e427) ?_
 refine sp 17 (.bool (decide (x426 = (⟨#[105, 110, 115]⟩)))) rfl rfl (r_eqlT rfl rfl) ?_
 refine sp 18 (.bool (decide (x426 = (⟨#[105, 110, 115]⟩)))) rfl rfl (r_move rfl) ?_
 rcases Bool.eq_false_or_eq_true (decide (x426 = (⟨#[105, 110, 115]⟩))) with g428 | g428
 ·have H := H.1 g428
  refine s_sk (d := some 19) rfl rfl (wants_no rfl rfl rfl rfl g428) ?_
  refine s_sk (d := some 20) rfl rfl (wants_no rfl rfl rfl rfl g428) ?_
  refine s_skl (d := some 21) rfl rfl (wants_no rfl rfl rfl rfl g428) ?_
  refine s_sk (d := some 22) rfl rfl (wants_no rfl rfl rfl rfl g428) ?_
  refine sp 23 (.bool true) rfl rfl (r_pick1 rfl g428 rfl) ?_
  refine sp 24 (.bool true) rfl rfl (r_move rfl) ?_
  refine s_sk (d := some 25) rfl rfl (wants_no rfl rfl rfl rfl rfl) ?_
  refine s_sk (d := some 26) rfl rfl (wants_no rfl rfl rfl rfl rfl) ?_
  refine s_skl (d := some 27) rfl rfl (wants_no rfl rfl rfl rfl rfl) ?_
  refine s_sk (d := some 28) rfl rfl (wants_no rfl rfl rfl rfl rfl) ?_
  refine sp 29 (.bool true) rfl rfl (r_pick1 rfl rfl rfl) ?_
  refine s_fin ?_
  exact N_mk (l := [(2, (.pointer (some p4))), (4, (.pointer (some p7))), (6, (Sl.v y10)), (7, (.int .i64 ((-1)))), (29, (.bool true))]) H ⟨rfl, rfl, rfl, rfl, rfl, trivial⟩
 ·have H := H.2 g428
  refine s_pu (d := some 19) (v := (Sl.v y10)) rfl rfl (wants_yes rfl rfl rfl rfl g428) (r_move rfl) ?_
  obtain ⟨p429, e430, e431, e432, H⟩ := H
  obtain ⟨q433, e434⟩ : ∃ q : Addr, q = Addr.add p429 (Int.toNat 0 * 1) := ⟨_, rfl⟩
  rw [← e434] at H
  refine s_pu (d := some 20) (v := (.pointer (some q433))) rfl rfl (wants_yes rfl rfl rfl rfl g428) (fun w => (r_indexAddr Tryz.underlying23 Tryz.sizeOf9 rfl rfl e430 e431 e432 w).trans (by rw [e434])) ?_
  obtain ⟨x435, e436, H⟩ := H
  refine s_rl (d := some 21) (v := (.string x435)) rfl rfl (wants_yes rfl rfl rfl rfl g428) (fun dr => r_load1 Tryz.isAgg9 rfl e436) ?_
  refine s_pu (d := some 22) (v := (.bool (decide (x435 = (⟨#[99, 117, 116]⟩))))) rfl rfl (wants_yes rfl rfl rfl rfl g428) (r_eqlT rfl rfl) ?_
  refine sp 23 (.bool (decide (x435 = (⟨#[99, 117, 116]⟩)))) rfl rfl (r_pick0 rfl g428 rfl) ?_
  refine sp 24 (.bool (decide (x435 = (⟨#[99, 117, 116]⟩)))) rfl rfl (r_move rfl) ?_
  rcases Bool.eq_false_or_eq_true (decide (x435 = (⟨#[99, 117, 116]⟩))) with g437 | g437
  ·have H := H.1 g437
   refine s_sk (d := some 25) rfl rfl (wants_no rfl rfl rfl rfl g437) ?_
   refine s_sk (d := some 26) rfl rfl (wants_no rfl rfl rfl rfl g437) ?_
   refine s_skl (d := some 27) rfl rfl (wants_no rfl rfl rfl rfl g437) ?_
   refine s_sk (d := some 28) rfl rfl (wants_no rfl rfl rfl rfl g437) ?_
   refine sp 29 (.bool true) rfl rfl (r_pick1 rfl g437 rfl) ?_
   refine s_fin ?_
   exact N_mk (l := [(2, (.pointer (some p4))), (4, (.pointer (some p7))), (6, (Sl.v y10)), (7, (.int .i64 ((-1)))), (29, (.bool true))]) H ⟨rfl, rfl, rfl, rfl, rfl, trivial⟩
  ·have H := H.2 g437
   refine s_pu (d := some 25) (v := (Sl.v y10)) rfl rfl (wants_yes rfl rfl rfl rfl g437) (r_move rfl) ?_
   obtain ⟨p438, e439, e440, e441, H⟩ := H
   obtain ⟨q442, e443⟩ : ∃ q : Addr, q = Addr.add p438 (Int.toNat 0 * 1) := ⟨_, rfl⟩
   rw [← e443] at H
   refine s_pu (d := some 26) (v := (.pointer (some q442))) rfl rfl (wants_yes rfl rfl rfl rfl g437) (fun w => (r_indexAddr Tryz.underlying23 Tryz.sizeOf9 rfl rfl e439 e440 e441 w).trans (by rw [e443])) ?_
   obtain ⟨x444, e445, H⟩ := H
   refine s_rl (d := some 27) (v := (.string x444)) rfl rfl (wants_yes rfl rfl rfl rfl g437) (fun dr => r_load1 Tryz.isAgg9 rfl e445) ?_
   refine s_pu (d := some 28) (v := (.bool (decide (x444 = (⟨#[115, 117, 109]⟩))))) rfl rfl (wants_yes rfl rfl rfl rfl g437) (r_eqlT rfl rfl) ?_
   refine sp 29 (.bool (decide (x444 = (⟨#[115, 117, 109]⟩)))) rfl rfl (r_pick0 rfl g437 rfl) ?_
   refine s_fin ?_
   exact N_mk (l := [(2, (.pointer (some p4))), (4, (.pointer (some p7))), (6, (Sl.v y10)), (7, (.int .i64 ((-1)))), (29, (.bool (decide (x444 = (⟨#[115, 117, 109]⟩)))))]) H ⟨rfl, rfl, rfl, rfl, rfl, trivial⟩
end Go.Proofs.YthkimbiknhebeaaGreatDoor
