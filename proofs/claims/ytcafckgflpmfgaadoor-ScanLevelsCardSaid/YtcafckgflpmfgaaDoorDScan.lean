/- Typed words of functions, and that they hold: printed by gen.py (an own tool of this claim) off the model's own form of each function. -/
import Derived.Test.YtcafckgflpmfgaaDoorProg
import Derived.Test.YtcafckgflpmfgaaDoorDBas
import Derived.Test.YtcafckgflpmfgaaDoorDErr
namespace Go.Proofs.YtcafckgflpmfgaaDoor
open Go Go.RowKit Go.Tw
set_option linter.unusedVariables false

abbrev txtDScan1 : ByteArray := ⟨#[99, 97, 110, 110, 111, 116, 32, 98, 101, 32, 108, 101, 115, 115, 32, 116, 104, 97, 110, 32, 49]⟩
theorem slFDScan_22 : SlF Tryd.prog 22 3 1 8 (.int .i64 0) := ⟨Tryd.underlying22, ⟨Tryd.t3, by kernel_rfl, rfl, rfl, rfl⟩, rfl, Tryd.sizeOf3, Tryd.zeroValue3⟩
theorem slFDScan_56 : SlF Tryd.prog 56 22 1 24 (Sl.v Sl.nil) := ⟨Tryd.underlying56, ⟨Tryd.t22, by kernel_rfl, rfl, rfl, rfl⟩, rfl, Tryd.sizeOf22, Tryd.zeroValue22⟩

/-! ### the calls -/

abbrev scan_Fold (r : World) (n1 : Int) (l2 : Sl) (h : Heap) (R : Int → Value → Heap → Prop) : Prop :=
  CallsH Tryd.prog r 33 [(.int .i64 n1), (Sl.v l2)] h fun v h' => ∃ (y3 : Int) (y4 : Value), v = (.tuple #[(.int .i64 y3), y4]) ∧ R y3 y4 h'

theorem scan_Fold.mono {r : World} {n1 : Int} {l2 : Sl} {h : Heap} {R R' : Int → Value → Heap → Prop} (H : scan_Fold r n1 l2 h R) (hr : ∀ y3 y4 h, R y3 y4 h → R' y3 y4 h) : scan_Fold r n1 l2 h R' :=
  CallsH.mono H fun _ _ hx => by
    obtain ⟨y3, y4, hv, hR⟩ := hx
    exact ⟨y3, y4, hv, hr _ _ _ hR⟩

abbrev scan_Scan (r : World) (n1 : Int) (l2 : Sl) (h : Heap) (R : Sl → Value → Heap → Prop) : Prop :=
  CallsH Tryd.prog r 34 [(.int .i64 n1), (Sl.v l2)] h fun v h' => ∃ (y3 : Sl) (y4 : Value), v = (.tuple #[(Sl.v y3), y4]) ∧ R y3 y4 h'

theorem scan_Scan.mono {r : World} {n1 : Int} {l2 : Sl} {h : Heap} {R R' : Sl → Value → Heap → Prop} (H : scan_Scan r n1 l2 h R) (hr : ∀ y3 y4 h, R y3 y4 h → R' y3 y4 h) : scan_Scan r n1 l2 h R' :=
  CallsH.mono H fun _ _ hx => by
    obtain ⟨y3, y4, hv, hR⟩ := hx
    exact ⟨y3, y4, hv, hr _ _ _ hR⟩

abbrev scan_Take (r : World) (n1 : Int) (a2 : Int) (vb3 : Int) (h : Heap) (R : Int → Value → Heap → Prop) : Prop :=
  CallsH Tryd.prog r 32 [(.int .i64 n1), (.int .i64 a2), (.int .i64 vb3)] h fun v h' => ∃ (y4 : Int) (y5 : Value), v = (.tuple #[(.int .i64 y4), y5]) ∧ R y4 y5 h'

theorem scan_Take.mono {r : World} {n1 : Int} {a2 : Int} {vb3 : Int} {h : Heap} {R R' : Int → Value → Heap → Prop} (H : scan_Take r n1 a2 vb3 h R) (hr : ∀ y4 y5 h, R y4 y5 h → R' y4 y5 h) : scan_Take r n1 a2 vb3 h R' :=
  CallsH.mono H fun _ _ hx => by
    obtain ⟨y4, y5, hv, hR⟩ := hx
    exact ⟨y4, y5, hv, hr _ _ _ hR⟩

abbrev scan_Before (r : World) (n1 : Int) (l2 : Sl) (h : Heap) (R : Sl → Value → Heap → Prop) : Prop :=
  CallsH Tryd.prog r 35 [(.int .i64 n1), (Sl.v l2)] h fun v h' => ∃ (y3 : Sl) (y4 : Value), v = (.tuple #[(Sl.v y3), y4]) ∧ R y3 y4 h'

theorem scan_Before.mono {r : World} {n1 : Int} {l2 : Sl} {h : Heap} {R R' : Sl → Value → Heap → Prop} (H : scan_Before r n1 l2 h R) (hr : ∀ y3 y4 h, R y3 y4 h → R' y3 y4 h) : scan_Before r n1 l2 h R' :=
  CallsH.mono H fun _ _ hx => by
    obtain ⟨y3, y4, hv, hR⟩ := hx
    exact ⟨y3, y4, hv, hr _ _ _ hR⟩

abbrev scan_Levels (r : World) (n1 : Int) (l2 : Sl) (h : Heap) (R : Sl → Value → Heap → Prop) : Prop :=
  CallsH Tryd.prog r 37 [(.int .i64 n1), (Sl.v l2)] h fun v h' => ∃ (y3 : Sl) (y4 : Value), v = (.tuple #[(Sl.v y3), y4]) ∧ R y3 y4 h'

theorem scan_Levels.mono {r : World} {n1 : Int} {l2 : Sl} {h : Heap} {R R' : Sl → Value → Heap → Prop} (H : scan_Levels r n1 l2 h R) (hr : ∀ y3 y4 h, R y3 y4 h → R' y3 y4 h) : scan_Levels r n1 l2 h R' :=
  CallsH.mono H fun _ _ hx => by
    obtain ⟨y3, y4, hv, hR⟩ := hx
    exact ⟨y3, y4, hv, hr _ _ _ hR⟩

abbrev scan_of (r : World) (n1 : Int) (h : Heap) (R : Int → Value → Value → Heap → Prop) : Prop :=
  CallsH Tryd.prog r 78 [(.int .i64 n1)] h fun v h' => ∃ (y2 : Int) (y3 : Value) (y4 : Value), v = (.tuple #[(.agg #[(.int .i64 y2), y3]), y4]) ∧ R y2 y3 y4 h'

theorem scan_of.mono {r : World} {n1 : Int} {h : Heap} {R R' : Int → Value → Value → Heap → Prop} (H : scan_of r n1 h R) (hr : ∀ y2 y3 y4 h, R y2 y3 y4 h → R' y2 y3 y4 h) : scan_of r n1 h R' :=
  CallsH.mono H fun _ _ hx => by
    obtain ⟨y2, y3, y4, hv, hR⟩ := hx
    exact ⟨y2, y3, y4, hv, hr _ _ _ _ hR⟩

abbrev scan_op_sweep (r : World) (o1 : Int) (o2 : Value) (l3 : Sl) (h : Heap) (R : Sl → Int → Heap → Prop) : Prop :=
  CallsH Tryd.prog r 79 [(.agg #[(.int .i64 o1), o2]), (Sl.v l3)] h fun v h' => ∃ (y4 : Sl) (y5 : Int), v = (.tuple #[(Sl.v y4), (.int .i64 y5)]) ∧ R y4 y5 h'

theorem scan_op_sweep.mono {r : World} {o1 : Int} {o2 : Value} {l3 : Sl} {h : Heap} {R R' : Sl → Int → Heap → Prop} (H : scan_op_sweep r o1 o2 l3 h R) (hr : ∀ y4 y5 h, R y4 y5 h → R' y4 y5 h) : scan_op_sweep r o1 o2 l3 h R' :=
  CallsH.mono H fun _ _ hx => by
    obtain ⟨y4, y5, hv, hR⟩ := hx
    exact ⟨y4, y5, hv, hr _ _ _ hR⟩

abbrev scan_of_1 (r : World) (a1 : Int) (vb2 : Int) (h : Heap) (R : Int → Heap → Prop) : Prop :=
  CallsH Tryd.prog r 108 [(.int .i64 a1), (.int .i64 vb2)] h fun v h' => ∃ (y3 : Int), v = (.int .i64 y3) ∧ R y3 h'

theorem scan_of_1.mono {r : World} {a1 : Int} {vb2 : Int} {h : Heap} {R R' : Int → Heap → Prop} (H : scan_of_1 r a1 vb2 h R) (hr : ∀ y3 h, R y3 h → R' y3 h) : scan_of_1 r a1 vb2 h R' :=
  CallsH.mono H fun _ _ hx => by
    obtain ⟨y3, hv, hR⟩ := hx
    exact ⟨y3, hv, hr _ _ hR⟩

abbrev scan_of_2 (r : World) (a1 : Int) (vb2 : Int) (h : Heap) (R : Int → Heap → Prop) : Prop :=
  CallsH Tryd.prog r 109 [(.int .i64 a1), (.int .i64 vb2)] h fun v h' => ∃ (y3 : Int), v = (.int .i64 y3) ∧ R y3 h'

theorem scan_of_2.mono {r : World} {a1 : Int} {vb2 : Int} {h : Heap} {R R' : Int → Heap → Prop} (H : scan_of_2 r a1 vb2 h R) (hr : ∀ y3 h, R y3 h → R' y3 h) : scan_of_2 r a1 vb2 h R' :=
  CallsH.mono H fun _ _ hx => by
    obtain ⟨y3, hv, hR⟩ := hx
    exact ⟨y3, hv, hr _ _ hR⟩

abbrev scan_of_3 (r : World) (a1 : Int) (vb2 : Int) (h : Heap) (R : Int → Heap → Prop) : Prop :=
  CallsH Tryd.prog r 110 [(.int .i64 a1), (.int .i64 vb2)] h fun v h' => ∃ (y3 : Int), v = (.int .i64 y3) ∧ R y3 h'

theorem scan_of_3.mono {r : World} {a1 : Int} {vb2 : Int} {h : Heap} {R R' : Int → Heap → Prop} (H : scan_of_3 r a1 vb2 h R) (hr : ∀ y3 h, R y3 h → R' y3 h) : scan_of_3 r a1 vb2 h R' :=
  CallsH.mono H fun _ _ hx => by
    obtain ⟨y3, hv, hR⟩ := hx
    exact ⟨y3, hv, hr _ _ hR⟩

abbrev scan_of_4 (r : World) (a1 : Int) (vb2 : Int) (h : Heap) (R : Int → Heap → Prop) : Prop :=
  CallsH Tryd.prog r 111 [(.int .i64 a1), (.int .i64 vb2)] h fun v h' => ∃ (y3 : Int), v = (.int .i64 y3) ∧ R y3 h'

theorem scan_of_4.mono {r : World} {a1 : Int} {vb2 : Int} {h : Heap} {R R' : Int → Heap → Prop} (H : scan_of_4 r a1 vb2 h R) (hr : ∀ y3 h, R y3 h → R' y3 h) : scan_of_4 r a1 vb2 h R' :=
  CallsH.mono H fun _ _ hx => by
    obtain ⟨y3, hv, hR⟩ := hx
    exact ⟨y3, hv, hr _ _ hR⟩

abbrev scan_op_pairs (r : World) (o1 : Int) (o2 : Value) (l3 : Sl) (h : Heap) (R : Sl → Heap → Prop) : Prop :=
  CallsH Tryd.prog r 80 [(.agg #[(.int .i64 o1), o2]), (Sl.v l3)] h fun v h' => ∃ (y4 : Sl), v = (Sl.v y4) ∧ R y4 h'

theorem scan_op_pairs.mono {r : World} {o1 : Int} {o2 : Value} {l3 : Sl} {h : Heap} {R R' : Sl → Heap → Prop} (H : scan_op_pairs r o1 o2 l3 h R) (hr : ∀ y4 h, R y4 h → R' y4 h) : scan_op_pairs r o1 o2 l3 h R' :=
  CallsH.mono H fun _ _ hx => by
    obtain ⟨y4, hv, hR⟩ := hx
    exact ⟨y4, hv, hr _ _ hR⟩

abbrev slices_Chunk_int_int (r : World) (s1 : Sl) (n2 : Int) (h : Heap) (R : Value → Heap → Prop) : Prop :=
  CallsH Tryd.prog r 112 [(Sl.v s1), (.int .i64 n2)] h R

theorem slices_Chunk_int_int.mono {r : World} {s1 : Sl} {n2 : Int} {h : Heap} {R R' : Value → Heap → Prop} (H : slices_Chunk_int_int r s1 n2 h R) (hr : ∀ y h, R y h → R' y h) : slices_Chunk_int_int r s1 n2 h R' := CallsH.mono H hr

abbrev slices_Chunk_int_int_1 (r : World) (yield1 : Value) (c2 : Addr) (c3 : Addr) (h : Heap) (R : Heap → Prop) : Prop :=
  CallsH Tryd.prog r 133 [yield1, (.pointer (some c2)), (.pointer (some c3))] h fun v h' => v = (.tuple #[]) ∧ R  h'

theorem slices_Chunk_int_int_1.mono {r : World} {yield1 : Value} {c2 : Addr} {c3 : Addr} {h : Heap} {R R' : Heap → Prop} (H : slices_Chunk_int_int_1 r yield1 c2 c3 h R) (hr : ∀  h, R  h → R'  h) : slices_Chunk_int_int_1 r yield1 c2 c3 h R' :=
  CallsH.mono H fun _ _ hx => by
    obtain ⟨hv, hR⟩ := hx
    exact ⟨hv, hr _ hR⟩

abbrev law5_scanned (r : World)  (h : Heap) (R : Bool → Heap → Prop) : Prop :=
  CallsH Tryd.prog r 26 [] h fun v h' => ∃ (y1 : Bool), v = (.bool y1) ∧ R y1 h'

theorem law5_scanned.mono {r : World}  {h : Heap} {R R' : Bool → Heap → Prop} (H : law5_scanned r  h R) (hr : ∀ y1 h, R y1 h → R' y1 h) : law5_scanned r  h R' :=
  CallsH.mono H fun _ _ hx => by
    obtain ⟨y1, hv, hR⟩ := hx
    exact ⟨y1, hv, hr _ _ hR⟩

/-! ### scan_Fold -/

def scan_Fold_F (r : World) (n1 : Int) (l2 : Sl) (h : Heap) (R : Int → Value → Heap → Prop) : Prop :=
  scan_of r n1 h fun y3 y4 y5 h1 =>
  New h1 (.cells #[(.int .i64 0), .nilFunc] 106) fun p6 h2 =>
  (one y4 = true) ∧
  St h2 p6 2 [(.int .i64 y3), y4] fun h3 =>
  (isIface y5 = true) ∧
  Br (!(isNil y5)) (
    R 0 y5 h3) (
    LdI h3 (Addr.add p6 0) fun x12 =>
    LdV h3 (Addr.add p6 1) fun x14 =>
    scan_op_sweep r x12 x14 l2 h3 fun y16 y17 h4 =>
    R y17 .nilIface h4)

set_option maxRecDepth 100000 in
theorem scan_Fold_of {r : World} {n1 : Int} {l2 : Sl} {h : Heap} {R : Int → Value → Heap → Prop} (H : scan_Fold_F r n1 l2 h R) : scan_Fold r n1 l2 h R := by
  unfold scan_Fold_F at H
  refine calls_of 25 [.tmp 4, .tmp 5] Tryd.func33 rfl rfl rfl rfl rfl ?_
  refine W_seq ?_
  refine W_region (.pu 0 (.pu 1 .fin)) rfl rfl ?_
  refine s_pu (d := some 4) (v := (.int .i64 0)) rfl rfl rfl (r_assign rfl) ?_
  refine s_pu (d := some 5) (v := .nilIface) rfl rfl rfl (r_assign rfl) ?_
  refine s_fin ?_
  show W _ _ _ _ _ _ _ _
  refine W_seq ?_
  refine W_region (.pu 0 (.ef 1 [] (.pu 2 (.pu 3 (.pu 4 (.ef 5 [] (.ef 6 [] (.pu 7 .fin) .no) .no)))) .no)) rfl rfl ?_
  refine s_pu (d := some 11) (v := (.int .i64 n1)) rfl rfl rfl (r_move rfl) ?_
  refine s_ef (d := some 12) rfl rfl rfl (fun dr => r_call Tryd.call78 rfl rfl H) ?_ trivial
  rintro _ h1 ⟨y3, y4, y5, rfl, H⟩
  refine ⟨trivial, ?_⟩
  refine s_pu (d := some 10) (v := (.tuple #[(.agg #[(.int .i64 y3), y4]), y5])) rfl rfl rfl (r_move rfl) ?_
  refine s_pu (d := some 13) (v := (.agg #[(.int .i64 y3), y4])) rfl rfl rfl (r_extract rfl rfl) ?_
  refine s_pu (d := some 14) (v := y5) rfl rfl rfl (r_extract rfl rfl) ?_
  obtain ⟨p6, e7⟩ : ∃ p : Addr, p = ⟨h1.size, 0, none⟩ := ⟨_, rfl⟩
  obtain ⟨h2, e8⟩ : ∃ hh : Heap, hh = h1.push (.cells #[(.int .i64 0), .nilFunc] 106) := ⟨_, rfl⟩
  have H := H p6 h2 e7 e8
  refine s_ef1 (d := some 6) (v := (.pointer (some p6))) (h' := h2) rfl rfl rfl (fun dr => (r_alloc Tryd.zeroValue106).trans (by rw [e7, e8]; rfl)) trivial ?_ trivial
  obtain ⟨e19, H⟩ := H
  obtain ⟨e10, H⟩ := H
  obtain ⟨h3, e9⟩ : ∃ hh : Heap, hh = hsets h2 p6 0 [(.int .i64 y3), y4] := ⟨_, rfl⟩
  have H := H h3 e9
  refine s_st (d := none) (h' := h3) rfl rfl rfl (fun dr => (r_store (v := (.agg #[(.int .i64 y3), y4])) Tryd.sizeOf106 rfl rfl rfl (one_all (show List.all [(.int .i64 y3), y4] one = true by simp only [List.all_cons, List.all_nil, e19]; rfl)) e10).trans (by rw [e9]; rfl)) trivial ?_ trivial
  refine s_pu (d := some 7) (v := y5) rfl rfl rfl (r_assign rfl) ?_
  refine s_fin ?_
  show W _ _ _ _ _ _ _ _
  refine W_seq ?_
  refine W_seq ?_
  refine W_region (.pu 0 (.pu 1 .fin)) rfl rfl ?_
  refine s_pu (d := some 15) (v := y5) rfl rfl rfl (r_move rfl) ?_
  obtain ⟨e11, H⟩ := H
  refine s_pu (d := some 16) (v := (.bool (!(isNil y5)))) rfl rfl rfl (r_notNilI Tryd.underlying26 rfl e11 rfl) ?_
  refine s_fin ?_
  show W _ _ _ _ _ _ _ _
  refine W_if (!(isNil y5)) rfl (fun g18 => ?_) (fun g18 => ?_)
  · have H := H.1 g18
    refine W_seq ?_
    refine W_region (.pu 0 (.pu 1 (.pu 2 .fin))) rfl rfl ?_
    refine s_pu (d := some 17) (v := y5) rfl rfl rfl (r_move rfl) ?_
    refine s_pu (d := some 4) (v := (.int .i64 0)) rfl rfl rfl (r_assign rfl) ?_
    refine s_pu (d := some 5) (v := y5) rfl rfl rfl (r_assign rfl) ?_
    refine s_fin ?_
    show W _ _ _ _ _ _ _ _
    refine W_ret ?_
    exact ⟨[(.int .i64 0), y5], ⟨_, _, rfl, rfl, ⟨_, _, rfl, rfl, rfl⟩⟩, 0, y5, rfl, H⟩
  · have H := H.2 g18
    refine W_skip ?_
    show W _ _ _ _ _ _ _ _
    refine W_seq ?_
    refine W_region (.rl 0 (.pu 1 (.ef 2 [] (.pu 3 (.pu 4 (.pu 5 (.pu 6 (.pu 7 .fin))))) .no))) rfl rfl ?_
    obtain ⟨x12, e13, H⟩ := H
    obtain ⟨x14, e15, H⟩ := H
    refine s_rl (d := some 19) (v := (.agg #[(.int .i64 x12), x14])) rfl rfl rfl (fun dr => r_loadN Tryd.isAgg106 Tryd.sizeOf106 (vs := [(.int .i64 x12), x14]) rfl rfl ⟨e13, e15, trivial⟩) ?_
    refine s_pu (d := some 20) (v := (Sl.v l2)) rfl rfl rfl (r_move rfl) ?_
    refine s_ef (d := some 21) rfl rfl rfl (fun dr => r_call Tryd.call79 rfl rfl H) ?_ trivial
    rintro _ h4 ⟨y16, y17, rfl, H⟩
    refine ⟨trivial, ?_⟩
    refine s_pu (d := some 18) (v := (.tuple #[(Sl.v y16), (.int .i64 y17)])) rfl rfl rfl (r_move rfl) ?_
    refine s_pu (d := some 22) (v := (Sl.v y16)) rfl rfl rfl (r_extract rfl rfl) ?_
    refine s_pu (d := some 23) (v := (.int .i64 y17)) rfl rfl rfl (r_extract rfl rfl) ?_
    refine s_pu (d := some 8) (v := (Sl.v y16)) rfl rfl rfl (r_assign rfl) ?_
    refine s_pu (d := some 9) (v := (.int .i64 y17)) rfl rfl rfl (r_assign rfl) ?_
    refine s_fin ?_
    show W _ _ _ _ _ _ _ _
    refine W_seq ?_
    refine W_region (.pu 0 (.pu 1 (.pu 2 .fin))) rfl rfl ?_
    refine s_pu (d := some 24) (v := (.int .i64 y17)) rfl rfl rfl (r_move rfl) ?_
    refine s_pu (d := some 4) (v := (.int .i64 y17)) rfl rfl rfl (r_assign rfl) ?_
    refine s_pu (d := some 5) (v := .nilIface) rfl rfl rfl (r_assign rfl) ?_
    refine s_fin ?_
    show W _ _ _ _ _ _ _ _
    refine W_ret ?_
    exact ⟨[(.int .i64 y17), .nilIface], ⟨_, _, rfl, rfl, ⟨_, _, rfl, rfl, rfl⟩⟩, y17, .nilIface, rfl, H⟩

/-! ### scan_Scan -/

def scan_Scan_F (r : World) (n1 : Int) (l2 : Sl) (h : Heap) (R : Sl → Value → Heap → Prop) : Prop :=
  scan_of r n1 h fun y3 y4 y5 h1 =>
  New h1 (.cells #[(.int .i64 0), .nilFunc] 106) fun p6 h2 =>
  (one y4 = true) ∧
  St h2 p6 2 [(.int .i64 y3), y4] fun h3 =>
  (isIface y5 = true) ∧
  Br (!(isNil y5)) (
    R Sl.nil y5 h3) (
    LdI h3 (Addr.add p6 0) fun x12 =>
    LdV h3 (Addr.add p6 1) fun x14 =>
    scan_op_sweep r x12 x14 l2 h3 fun y16 y17 h4 =>
    ∀ X19 : Int → Heap → Prop, (∀ (x18 : Int) (h5 : Heap),
      (Br (decide (x18 < ((y16.len : Int)))) (
        LdV h5 (Addr.add p6 1) fun x20 =>
        Ix y16 x18 1 fun q26 =>
        LdI h5 q26 fun x28 =>
        Ix l2 x18 1 fun q34 =>
        LdI h5 q34 fun x36 =>
        CallV Tryd.prog r x20 [(.int .i64 x28), (.int .i64 x36)] h5 fun v47 h6 => ∃ (y38 : Int), v47 = (.int .i64 y38) ∧
        Ix y16 x18 1 fun q43 =>
        St h6 q43 1 [(.int .i64 y38)] fun h7 =>
        X19 (w64 (x18 + 1)) h7) (
        R y16 .nilIface h5)) →
      X19 x18 h5) →
    X19 0 h4)

set_option maxRecDepth 100000 in
theorem scan_Scan_of {r : World} {n1 : Int} {l2 : Sl} {h : Heap} {R : Sl → Value → Heap → Prop} (H : scan_Scan_F r n1 l2 h R) : scan_Scan r n1 l2 h R := by
  unfold scan_Scan_F at H
  refine calls_of 46 [.tmp 4, .tmp 5] Tryd.func34 rfl rfl rfl rfl rfl ?_
  refine W_seq ?_
  refine W_region (.pu 0 (.pu 1 .fin)) rfl rfl ?_
  refine s_pu (d := some 4) (v := (Sl.v Sl.nil)) rfl rfl rfl (r_assign rfl) ?_
  refine s_pu (d := some 5) (v := .nilIface) rfl rfl rfl (r_assign rfl) ?_
  refine s_fin ?_
  show W _ _ _ _ _ _ _ _
  refine W_seq ?_
  refine W_region (.pu 0 (.ef 1 [] (.pu 2 (.pu 3 (.pu 4 (.ef 5 [] (.ef 6 [] (.pu 7 .fin) .no) .no)))) .no)) rfl rfl ?_
  refine s_pu (d := some 12) (v := (.int .i64 n1)) rfl rfl rfl (r_move rfl) ?_
  refine s_ef (d := some 13) rfl rfl rfl (fun dr => r_call Tryd.call78 rfl rfl H) ?_ trivial
  rintro _ h1 ⟨y3, y4, y5, rfl, H⟩
  refine ⟨trivial, ?_⟩
  refine s_pu (d := some 11) (v := (.tuple #[(.agg #[(.int .i64 y3), y4]), y5])) rfl rfl rfl (r_move rfl) ?_
  refine s_pu (d := some 14) (v := (.agg #[(.int .i64 y3), y4])) rfl rfl rfl (r_extract rfl rfl) ?_
  refine s_pu (d := some 15) (v := y5) rfl rfl rfl (r_extract rfl rfl) ?_
  obtain ⟨p6, e7⟩ : ∃ p : Addr, p = ⟨h1.size, 0, none⟩ := ⟨_, rfl⟩
  obtain ⟨h2, e8⟩ : ∃ hh : Heap, hh = h1.push (.cells #[(.int .i64 0), .nilFunc] 106) := ⟨_, rfl⟩
  have H := H p6 h2 e7 e8
  refine s_ef1 (d := some 6) (v := (.pointer (some p6))) (h' := h2) rfl rfl rfl (fun dr => (r_alloc Tryd.zeroValue106).trans (by rw [e7, e8]; rfl)) trivial ?_ trivial
  obtain ⟨e50, H⟩ := H
  obtain ⟨e10, H⟩ := H
  obtain ⟨h3, e9⟩ : ∃ hh : Heap, hh = hsets h2 p6 0 [(.int .i64 y3), y4] := ⟨_, rfl⟩
  have H := H h3 e9
  refine s_st (d := none) (h' := h3) rfl rfl rfl (fun dr => (r_store (v := (.agg #[(.int .i64 y3), y4])) Tryd.sizeOf106 rfl rfl rfl (one_all (show List.all [(.int .i64 y3), y4] one = true by simp only [List.all_cons, List.all_nil, e50]; rfl)) e10).trans (by rw [e9]; rfl)) trivial ?_ trivial
  refine s_pu (d := some 7) (v := y5) rfl rfl rfl (r_assign rfl) ?_
  refine s_fin ?_
  show W _ _ _ _ _ _ _ _
  refine W_seq ?_
  refine W_seq ?_
  refine W_region (.pu 0 (.pu 1 .fin)) rfl rfl ?_
  refine s_pu (d := some 16) (v := y5) rfl rfl rfl (r_move rfl) ?_
  obtain ⟨e11, H⟩ := H
  refine s_pu (d := some 17) (v := (.bool (!(isNil y5)))) rfl rfl rfl (r_notNilI Tryd.underlying26 rfl e11 rfl) ?_
  refine s_fin ?_
  show W _ _ _ _ _ _ _ _
  refine W_if (!(isNil y5)) rfl (fun g49 => ?_) (fun g49 => ?_)
  · have H := H.1 g49
    refine W_seq ?_
    refine W_region (.pu 0 (.pu 1 (.pu 2 .fin))) rfl rfl ?_
    refine s_pu (d := some 18) (v := y5) rfl rfl rfl (r_move rfl) ?_
    refine s_pu (d := some 4) (v := (Sl.v Sl.nil)) rfl rfl rfl (r_assign rfl) ?_
    refine s_pu (d := some 5) (v := y5) rfl rfl rfl (r_assign rfl) ?_
    refine s_fin ?_
    show W _ _ _ _ _ _ _ _
    refine W_ret ?_
    exact ⟨[(Sl.v Sl.nil), y5], ⟨_, _, rfl, rfl, ⟨_, _, rfl, rfl, rfl⟩⟩, Sl.nil, y5, rfl, H⟩
  · have H := H.2 g49
    refine W_skip ?_
    show W _ _ _ _ _ _ _ _
    refine W_seq ?_
    refine W_region (.rl 0 (.pu 1 (.ef 2 [] (.pu 3 (.pu 4 (.pu 5 (.pu 6 (.pu 7 .fin))))) .no))) rfl rfl ?_
    obtain ⟨x12, e13, H⟩ := H
    obtain ⟨x14, e15, H⟩ := H
    refine s_rl (d := some 20) (v := (.agg #[(.int .i64 x12), x14])) rfl rfl rfl (fun dr => r_loadN Tryd.isAgg106 Tryd.sizeOf106 (vs := [(.int .i64 x12), x14]) rfl rfl ⟨e13, e15, trivial⟩) ?_
    refine s_pu (d := some 21) (v := (Sl.v l2)) rfl rfl rfl (r_move rfl) ?_
    refine s_ef (d := some 22) rfl rfl rfl (fun dr => r_call Tryd.call79 rfl rfl H) ?_ trivial
    rintro _ h4 ⟨y16, y17, rfl, H⟩
    refine ⟨trivial, ?_⟩
    refine s_pu (d := some 19) (v := (.tuple #[(Sl.v y16), (.int .i64 y17)])) rfl rfl rfl (r_move rfl) ?_
    refine s_pu (d := some 23) (v := (Sl.v y16)) rfl rfl rfl (r_extract rfl rfl) ?_
    refine s_pu (d := some 24) (v := (.int .i64 y17)) rfl rfl rfl (r_extract rfl rfl) ?_
    refine s_pu (d := some 8) (v := (Sl.v y16)) rfl rfl rfl (r_assign rfl) ?_
    refine s_pu (d := some 9) (v := (.int .i64 y17)) rfl rfl rfl (r_assign rfl) ?_
    refine s_fin ?_
    show W _ _ _ _ _ _ _ _
    refine W_seq ?_
    refine W_seq ?_
    refine W_region (.pu 0 (.pu 1 (.pu 2 .fin))) rfl rfl ?_
    refine s_pu (d := some 25) (v := (Sl.v y16)) rfl rfl rfl (r_move rfl) ?_
    refine s_pu (d := some 26) (v := (.int .i64 ((y16.len : Int)))) rfl rfl rfl (r_len Tryd.underlying22 rfl) ?_
    refine s_pu (d := some 27) (v := (.int .i64 0)) rfl rfl rfl (r_move rfl) ?_
    refine s_fin ?_
    show W _ _ _ _ _ _ _ _
    refine W_block ?_
    refine W_loop (WL_mk (l := [(1, (Sl.v l2)), (6, (.pointer (some p6))), (8, (Sl.v y16)), (26, (.int .i64 ((y16.len : Int)))), (27, (.int .i64 0))]) ?_ ⟨rfl, rfl, rfl, rfl, rfl, trivial⟩)
    refine H (fun (x18 : Int) (h5 : Heap) => ∀ b, WL _ _ _ _ _ _ (mkE [(1, (Sl.v l2)), (6, (.pointer (some p6))), (8, (Sl.v y16)), (26, (.int .i64 ((y16.len : Int)))), (27, (.int .i64 x18))] b) h5) ?_
    intro x18 h5 H b
    refine WL_round ?_
    refine W_seq ?_
    refine W_region (.pu 0 .fin) rfl rfl ?_
    refine s_pu (d := some 28) (v := (.bool (decide (x18 < ((y16.len : Int)))))) rfl rfl rfl (r_lss rfl rfl) ?_
    refine s_fin ?_
    show W _ _ _ _ _ _ _ _
    refine W_seq ?_
    refine W_if (decide (x18 < ((y16.len : Int)))) rfl (fun g48 => ?_) (fun g48 => ?_)
    · have H := H.1 g48
      refine W_skip ?_
      show W _ _ _ _ _ _ _ _
      refine W_seq ?_
      refine W_block ?_
      refine W_seq ?_
      refine W_region (.pu 0 (.pu 1 .fin)) rfl rfl ?_
      refine s_pu (d := some 29) (v := (.int .i64 x18)) rfl rfl rfl (r_move rfl) ?_
      refine s_pu (d := some 10) (v := (.int .i64 x18)) rfl rfl rfl (r_assign rfl) ?_
      refine s_fin ?_
      show W _ _ _ _ _ _ _ _
      refine W_draw [0, 0, 0, 4, 0, 0, 48, 112, 0, 0, 768, 1792, 4092, 8191, 16383] (.pu 0 (.pu 1 (.pu 2 (.rd 3 (.pu 4 (.pu 5 (.pu 6 (.rd 7 (.pu 8 (.pu 9 (.pu 10 (.rd 11 (.ef 12 [3, 7, 11] (.pu 13 (.ef 14 [3, 7, 11] .fin .no)) .no))))))))))))) (by kernel_rfl) (by kernel_rfl) ?_
      refine s_pu (d := some 30) (v := (Sl.v y16)) rfl rfl rfl (r_move rfl) ?_
      refine s_pu (d := some 31) (v := (.int .i64 x18)) rfl rfl rfl (r_move rfl) ?_
      refine s_pu (d := some 32) (v := (.pointer (some (Addr.add p6 1)))) rfl rfl rfl (r_fieldAddr Tryd.underlying106 Tryd.sizeOf103 rfl rfl rfl) ?_
      obtain ⟨x20, e21, H⟩ := H
      refine s_rd (d := some 33) (v := x20) rfl rfl rfl (fun dr => r_load1 Tryd.isAgg103 rfl e21) ?_
      refine s_pu (d := some 34) (v := (Sl.v y16)) rfl rfl rfl (r_move rfl) ?_
      refine s_pu (d := some 35) (v := (.int .i64 x18)) rfl rfl rfl (r_move rfl) ?_
      obtain ⟨p22, e23, e24, e25, H⟩ := H
      obtain ⟨q26, e27⟩ : ∃ q : Addr, q = Addr.add p22 (Int.toNat x18 * 1) := ⟨_, rfl⟩
      rw [← e27] at H
      refine s_pu (d := some 36) (v := (.pointer (some q26))) rfl rfl rfl (fun w => (r_indexAddr Tryd.underlying22 Tryd.sizeOf3 rfl rfl e23 e24 e25 w).trans (by rw [e27])) ?_
      obtain ⟨x28, e29, H⟩ := H
      refine s_rd (d := some 37) (v := (.int .i64 x28)) rfl rfl rfl (fun dr => r_load1 Tryd.isAgg3 rfl e29) ?_
      refine s_pu (d := some 38) (v := (Sl.v l2)) rfl rfl rfl (r_move rfl) ?_
      refine s_pu (d := some 39) (v := (.int .i64 x18)) rfl rfl rfl (r_move rfl) ?_
      obtain ⟨p30, e31, e32, e33, H⟩ := H
      obtain ⟨q34, e35⟩ : ∃ q : Addr, q = Addr.add p30 (Int.toNat x18 * 1) := ⟨_, rfl⟩
      rw [← e35] at H
      refine s_pu (d := some 40) (v := (.pointer (some q34))) rfl rfl rfl (fun w => (r_indexAddr Tryd.underlying22 Tryd.sizeOf3 rfl rfl e31 e32 e33 w).trans (by rw [e35])) ?_
      obtain ⟨x36, e37, H⟩ := H
      refine s_rd (d := some 41) (v := (.int .i64 x36)) rfl rfl rfl (fun dr => r_load1 Tryd.isAgg3 rfl e37) ?_
      refine s_ef (d := some 42) rfl rfl rfl (fun dr => r_callV rfl rfl H) ?_ trivial
      rintro _ h6 ⟨y38, rfl, H⟩
      refine ⟨⟨trivial, trivial, trivial, trivial⟩, ?_⟩
      obtain ⟨p39, e40, e41, e42, H⟩ := H
      obtain ⟨q43, e44⟩ : ∃ q : Addr, q = Addr.add p39 (Int.toNat x18 * 1) := ⟨_, rfl⟩
      rw [← e44] at H
      refine s_pu (d := some 43) (v := (.pointer (some q43))) rfl rfl rfl (fun w => (r_indexAddr Tryd.underlying22 Tryd.sizeOf3 rfl rfl e40 e41 e42 w).trans (by rw [e44])) ?_
      obtain ⟨e46, H⟩ := H
      obtain ⟨h7, e45⟩ : ∃ hh : Heap, hh = hsets h6 q43 0 [(.int .i64 y38)] := ⟨_, rfl⟩
      have H := H h7 e45
      refine s_st (d := none) (h' := h7) rfl rfl rfl (fun dr => (r_store (v := (.int .i64 y38)) Tryd.sizeOf3 rfl rfl rfl (one_all rfl) e46).trans (by rw [e45]; rfl)) ⟨trivial, trivial, trivial, trivial⟩ ?_ trivial
      refine s_fin ?_
      show W _ _ _ _ _ _ _ _
      refine W_region (.pu 0 (.pu 1 .fin)) rfl rfl ?_
      refine s_pu (d := some 44) (v := (.int .i64 (w64 (x18 + 1)))) rfl rfl rfl (r_add rfl rfl) ?_
      refine s_pu (d := some 27) (v := (.int .i64 (w64 (x18 + 1)))) rfl rfl rfl (r_move rfl) ?_
      refine s_fin ?_
      exact WL_mk (l := [(1, (Sl.v l2)), (6, (.pointer (some p6))), (8, (Sl.v y16)), (26, (.int .i64 ((y16.len : Int)))), (27, (.int .i64 (w64 (x18 + 1))))]) H ⟨rfl, rfl, rfl, rfl, rfl, trivial⟩
    · have H := H.2 g48
      refine W_exit (inX_here ?_)
      show W _ _ _ _ _ _ _ _
      refine W_seq ?_
      refine W_region (.pu 0 (.pu 1 (.pu 2 .fin))) rfl rfl ?_
      refine s_pu (d := some 45) (v := (Sl.v y16)) rfl rfl rfl (r_move rfl) ?_
      refine s_pu (d := some 4) (v := (Sl.v y16)) rfl rfl rfl (r_assign rfl) ?_
      refine s_pu (d := some 5) (v := .nilIface) rfl rfl rfl (r_assign rfl) ?_
      refine s_fin ?_
      show W _ _ _ _ _ _ _ _
      refine W_ret ?_
      exact ⟨[(Sl.v y16), .nilIface], ⟨_, _, rfl, rfl, ⟨_, _, rfl, rfl, rfl⟩⟩, y16, .nilIface, rfl, H⟩

/-! ### scan_Take -/

def scan_Take_F (r : World) (n1 : Int) (a2 : Int) (vb3 : Int) (h : Heap) (R : Int → Value → Heap → Prop) : Prop :=
  scan_of r n1 h fun y4 y5 y6 h1 =>
  New h1 (.cells #[(.int .i64 0), .nilFunc] 106) fun p7 h2 =>
  (one y5 = true) ∧
  St h2 p7 2 [(.int .i64 y4), y5] fun h3 =>
  (isIface y6 = true) ∧
  Br (!(isNil y6)) (
    R 0 y6 h3) (
    LdV h3 (Addr.add p7 1) fun x13 =>
    CallV Tryd.prog r x13 [(.int .i64 a2), (.int .i64 vb3)] h3 fun v16 h4 => ∃ (y15 : Int), v16 = (.int .i64 y15) ∧
    R y15 .nilIface h4)

set_option maxRecDepth 100000 in
theorem scan_Take_of {r : World} {n1 : Int} {a2 : Int} {vb3 : Int} {h : Heap} {R : Int → Value → Heap → Prop} (H : scan_Take_F r n1 a2 vb3 h R) : scan_Take r n1 a2 vb3 h R := by
  unfold scan_Take_F at H
  refine calls_of 23 [.tmp 6, .tmp 7] Tryd.func32 rfl rfl rfl rfl rfl ?_
  refine W_seq ?_
  refine W_region (.pu 0 (.pu 1 .fin)) rfl rfl ?_
  refine s_pu (d := some 6) (v := (.int .i64 0)) rfl rfl rfl (r_assign rfl) ?_
  refine s_pu (d := some 7) (v := .nilIface) rfl rfl rfl (r_assign rfl) ?_
  refine s_fin ?_
  show W _ _ _ _ _ _ _ _
  refine W_seq ?_
  refine W_region (.pu 0 (.ef 1 [] (.pu 2 (.pu 3 (.pu 4 (.ef 5 [] (.ef 6 [] (.pu 7 .fin) .no) .no)))) .no)) rfl rfl ?_
  refine s_pu (d := some 11) (v := (.int .i64 n1)) rfl rfl rfl (r_move rfl) ?_
  refine s_ef (d := some 12) rfl rfl rfl (fun dr => r_call Tryd.call78 rfl rfl H) ?_ trivial
  rintro _ h1 ⟨y4, y5, y6, rfl, H⟩
  refine ⟨trivial, ?_⟩
  refine s_pu (d := some 10) (v := (.tuple #[(.agg #[(.int .i64 y4), y5]), y6])) rfl rfl rfl (r_move rfl) ?_
  refine s_pu (d := some 13) (v := (.agg #[(.int .i64 y4), y5])) rfl rfl rfl (r_extract rfl rfl) ?_
  refine s_pu (d := some 14) (v := y6) rfl rfl rfl (r_extract rfl rfl) ?_
  obtain ⟨p7, e8⟩ : ∃ p : Addr, p = ⟨h1.size, 0, none⟩ := ⟨_, rfl⟩
  obtain ⟨h2, e9⟩ : ∃ hh : Heap, hh = h1.push (.cells #[(.int .i64 0), .nilFunc] 106) := ⟨_, rfl⟩
  have H := H p7 h2 e8 e9
  refine s_ef1 (d := some 8) (v := (.pointer (some p7))) (h' := h2) rfl rfl rfl (fun dr => (r_alloc Tryd.zeroValue106).trans (by rw [e8, e9]; rfl)) trivial ?_ trivial
  obtain ⟨e18, H⟩ := H
  obtain ⟨e11, H⟩ := H
  obtain ⟨h3, e10⟩ : ∃ hh : Heap, hh = hsets h2 p7 0 [(.int .i64 y4), y5] := ⟨_, rfl⟩
  have H := H h3 e10
  refine s_st (d := none) (h' := h3) rfl rfl rfl (fun dr => (r_store (v := (.agg #[(.int .i64 y4), y5])) Tryd.sizeOf106 rfl rfl rfl (one_all (show List.all [(.int .i64 y4), y5] one = true by simp only [List.all_cons, List.all_nil, e18]; rfl)) e11).trans (by rw [e10]; rfl)) trivial ?_ trivial
  refine s_pu (d := some 9) (v := y6) rfl rfl rfl (r_assign rfl) ?_
  refine s_fin ?_
  show W _ _ _ _ _ _ _ _
  refine W_seq ?_
  refine W_seq ?_
  refine W_region (.pu 0 (.pu 1 .fin)) rfl rfl ?_
  refine s_pu (d := some 15) (v := y6) rfl rfl rfl (r_move rfl) ?_
  obtain ⟨e12, H⟩ := H
  refine s_pu (d := some 16) (v := (.bool (!(isNil y6)))) rfl rfl rfl (r_notNilI Tryd.underlying26 rfl e12 rfl) ?_
  refine s_fin ?_
  show W _ _ _ _ _ _ _ _
  refine W_if (!(isNil y6)) rfl (fun g17 => ?_) (fun g17 => ?_)
  · have H := H.1 g17
    refine W_seq ?_
    refine W_region (.pu 0 (.pu 1 (.pu 2 .fin))) rfl rfl ?_
    refine s_pu (d := some 17) (v := y6) rfl rfl rfl (r_move rfl) ?_
    refine s_pu (d := some 6) (v := (.int .i64 0)) rfl rfl rfl (r_assign rfl) ?_
    refine s_pu (d := some 7) (v := y6) rfl rfl rfl (r_assign rfl) ?_
    refine s_fin ?_
    show W _ _ _ _ _ _ _ _
    refine W_ret ?_
    exact ⟨[(.int .i64 0), y6], ⟨_, _, rfl, rfl, ⟨_, _, rfl, rfl, rfl⟩⟩, 0, y6, rfl, H⟩
  · have H := H.2 g17
    refine W_skip ?_
    show W _ _ _ _ _ _ _ _
    refine W_seq ?_
    refine W_region (.pu 0 (.rl 1 (.pu 2 (.pu 3 (.ef 4 [] (.pu 5 (.pu 6 .fin)) .no))))) rfl rfl ?_
    refine s_pu (d := some 18) (v := (.pointer (some (Addr.add p7 1)))) rfl rfl rfl (r_fieldAddr Tryd.underlying106 Tryd.sizeOf103 rfl rfl rfl) ?_
    obtain ⟨x13, e14, H⟩ := H
    refine s_rl (d := some 19) (v := x13) rfl rfl rfl (fun dr => r_load1 Tryd.isAgg103 rfl e14) ?_
    refine s_pu (d := some 20) (v := (.int .i64 a2)) rfl rfl rfl (r_move rfl) ?_
    refine s_pu (d := some 21) (v := (.int .i64 vb3)) rfl rfl rfl (r_move rfl) ?_
    refine s_ef (d := some 22) rfl rfl rfl (fun dr => r_callV rfl rfl H) ?_ trivial
    rintro _ h4 ⟨y15, rfl, H⟩
    refine ⟨trivial, ?_⟩
    refine s_pu (d := some 6) (v := (.int .i64 y15)) rfl rfl rfl (r_assign rfl) ?_
    refine s_pu (d := some 7) (v := .nilIface) rfl rfl rfl (r_assign rfl) ?_
    refine s_fin ?_
    show W _ _ _ _ _ _ _ _
    refine W_ret ?_
    exact ⟨[(.int .i64 y15), .nilIface], ⟨_, _, rfl, rfl, ⟨_, _, rfl, rfl, rfl⟩⟩, y15, .nilIface, rfl, H⟩

/-! ### scan_Before -/

def scan_Before_F (r : World) (n1 : Int) (l2 : Sl) (h : Heap) (R : Sl → Value → Heap → Prop) : Prop :=
  scan_of r n1 h fun y3 y4 y5 h1 =>
  New h1 (.cells #[(.int .i64 0), .nilFunc] 106) fun p6 h2 =>
  (one y4 = true) ∧
  St h2 p6 2 [(.int .i64 y3), y4] fun h3 =>
  (isIface y5 = true) ∧
  Br (!(isNil y5)) (
    R Sl.nil y5 h3) (
    LdI h3 (Addr.add p6 0) fun x12 =>
    LdV h3 (Addr.add p6 1) fun x14 =>
    scan_op_sweep r x12 x14 l2 h3 fun y16 y17 h4 =>
    R y16 .nilIface h4)

set_option maxRecDepth 100000 in
theorem scan_Before_of {r : World} {n1 : Int} {l2 : Sl} {h : Heap} {R : Sl → Value → Heap → Prop} (H : scan_Before_F r n1 l2 h R) : scan_Before r n1 l2 h R := by
  unfold scan_Before_F at H
  refine calls_of 25 [.tmp 4, .tmp 5] Tryd.func35 rfl rfl rfl rfl rfl ?_
  refine W_seq ?_
  refine W_region (.pu 0 (.pu 1 .fin)) rfl rfl ?_
  refine s_pu (d := some 4) (v := (Sl.v Sl.nil)) rfl rfl rfl (r_assign rfl) ?_
  refine s_pu (d := some 5) (v := .nilIface) rfl rfl rfl (r_assign rfl) ?_
  refine s_fin ?_
  show W _ _ _ _ _ _ _ _
  refine W_seq ?_
  refine W_region (.pu 0 (.ef 1 [] (.pu 2 (.pu 3 (.pu 4 (.ef 5 [] (.ef 6 [] (.pu 7 .fin) .no) .no)))) .no)) rfl rfl ?_
  refine s_pu (d := some 11) (v := (.int .i64 n1)) rfl rfl rfl (r_move rfl) ?_
  refine s_ef (d := some 12) rfl rfl rfl (fun dr => r_call Tryd.call78 rfl rfl H) ?_ trivial
  rintro _ h1 ⟨y3, y4, y5, rfl, H⟩
  refine ⟨trivial, ?_⟩
  refine s_pu (d := some 10) (v := (.tuple #[(.agg #[(.int .i64 y3), y4]), y5])) rfl rfl rfl (r_move rfl) ?_
  refine s_pu (d := some 13) (v := (.agg #[(.int .i64 y3), y4])) rfl rfl rfl (r_extract rfl rfl) ?_
  refine s_pu (d := some 14) (v := y5) rfl rfl rfl (r_extract rfl rfl) ?_
  obtain ⟨p6, e7⟩ : ∃ p : Addr, p = ⟨h1.size, 0, none⟩ := ⟨_, rfl⟩
  obtain ⟨h2, e8⟩ : ∃ hh : Heap, hh = h1.push (.cells #[(.int .i64 0), .nilFunc] 106) := ⟨_, rfl⟩
  have H := H p6 h2 e7 e8
  refine s_ef1 (d := some 6) (v := (.pointer (some p6))) (h' := h2) rfl rfl rfl (fun dr => (r_alloc Tryd.zeroValue106).trans (by rw [e7, e8]; rfl)) trivial ?_ trivial
  obtain ⟨e19, H⟩ := H
  obtain ⟨e10, H⟩ := H
  obtain ⟨h3, e9⟩ : ∃ hh : Heap, hh = hsets h2 p6 0 [(.int .i64 y3), y4] := ⟨_, rfl⟩
  have H := H h3 e9
  refine s_st (d := none) (h' := h3) rfl rfl rfl (fun dr => (r_store (v := (.agg #[(.int .i64 y3), y4])) Tryd.sizeOf106 rfl rfl rfl (one_all (show List.all [(.int .i64 y3), y4] one = true by simp only [List.all_cons, List.all_nil, e19]; rfl)) e10).trans (by rw [e9]; rfl)) trivial ?_ trivial
  refine s_pu (d := some 7) (v := y5) rfl rfl rfl (r_assign rfl) ?_
  refine s_fin ?_
  show W _ _ _ _ _ _ _ _
  refine W_seq ?_
  refine W_seq ?_
  refine W_region (.pu 0 (.pu 1 .fin)) rfl rfl ?_
  refine s_pu (d := some 15) (v := y5) rfl rfl rfl (r_move rfl) ?_
  obtain ⟨e11, H⟩ := H
  refine s_pu (d := some 16) (v := (.bool (!(isNil y5)))) rfl rfl rfl (r_notNilI Tryd.underlying26 rfl e11 rfl) ?_
  refine s_fin ?_
  show W _ _ _ _ _ _ _ _
  refine W_if (!(isNil y5)) rfl (fun g18 => ?_) (fun g18 => ?_)
  · have H := H.1 g18
    refine W_seq ?_
    refine W_region (.pu 0 (.pu 1 (.pu 2 .fin))) rfl rfl ?_
    refine s_pu (d := some 17) (v := y5) rfl rfl rfl (r_move rfl) ?_
    refine s_pu (d := some 4) (v := (Sl.v Sl.nil)) rfl rfl rfl (r_assign rfl) ?_
    refine s_pu (d := some 5) (v := y5) rfl rfl rfl (r_assign rfl) ?_
    refine s_fin ?_
    show W _ _ _ _ _ _ _ _
    refine W_ret ?_
    exact ⟨[(Sl.v Sl.nil), y5], ⟨_, _, rfl, rfl, ⟨_, _, rfl, rfl, rfl⟩⟩, Sl.nil, y5, rfl, H⟩
  · have H := H.2 g18
    refine W_skip ?_
    show W _ _ _ _ _ _ _ _
    refine W_seq ?_
    refine W_region (.rl 0 (.pu 1 (.ef 2 [] (.pu 3 (.pu 4 (.pu 5 (.pu 6 (.pu 7 .fin))))) .no))) rfl rfl ?_
    obtain ⟨x12, e13, H⟩ := H
    obtain ⟨x14, e15, H⟩ := H
    refine s_rl (d := some 19) (v := (.agg #[(.int .i64 x12), x14])) rfl rfl rfl (fun dr => r_loadN Tryd.isAgg106 Tryd.sizeOf106 (vs := [(.int .i64 x12), x14]) rfl rfl ⟨e13, e15, trivial⟩) ?_
    refine s_pu (d := some 20) (v := (Sl.v l2)) rfl rfl rfl (r_move rfl) ?_
    refine s_ef (d := some 21) rfl rfl rfl (fun dr => r_call Tryd.call79 rfl rfl H) ?_ trivial
    rintro _ h4 ⟨y16, y17, rfl, H⟩
    refine ⟨trivial, ?_⟩
    refine s_pu (d := some 18) (v := (.tuple #[(Sl.v y16), (.int .i64 y17)])) rfl rfl rfl (r_move rfl) ?_
    refine s_pu (d := some 22) (v := (Sl.v y16)) rfl rfl rfl (r_extract rfl rfl) ?_
    refine s_pu (d := some 23) (v := (.int .i64 y17)) rfl rfl rfl (r_extract rfl rfl) ?_
    refine s_pu (d := some 8) (v := (Sl.v y16)) rfl rfl rfl (r_assign rfl) ?_
    refine s_pu (d := some 9) (v := (.int .i64 y17)) rfl rfl rfl (r_assign rfl) ?_
    refine s_fin ?_
    show W _ _ _ _ _ _ _ _
    refine W_seq ?_
    refine W_region (.pu 0 (.pu 1 (.pu 2 .fin))) rfl rfl ?_
    refine s_pu (d := some 24) (v := (Sl.v y16)) rfl rfl rfl (r_move rfl) ?_
    refine s_pu (d := some 4) (v := (Sl.v y16)) rfl rfl rfl (r_assign rfl) ?_
    refine s_pu (d := some 5) (v := .nilIface) rfl rfl rfl (r_assign rfl) ?_
    refine s_fin ?_
    show W _ _ _ _ _ _ _ _
    refine W_ret ?_
    exact ⟨[(Sl.v y16), .nilIface], ⟨_, _, rfl, rfl, ⟨_, _, rfl, rfl, rfl⟩⟩, y16, .nilIface, rfl, H⟩

/-! ### scan_Levels -/

def scan_Levels_F (r : World) (n1 : Int) (l2 : Sl) (h : Heap) (R : Sl → Value → Heap → Prop) : Prop :=
  scan_of r n1 h fun y3 y4 y5 h1 =>
  New h1 (.cells #[(.int .i64 0), .nilFunc] 106) fun p6 h2 =>
  (one y4 = true) ∧
  St h2 p6 2 [(.int .i64 y3), y4] fun h3 =>
  (isIface y5 = true) ∧
  Br (!(isNil y5)) (
    R Sl.nil y5 h3) (
    Br (decide (((l2.len : Int)) = 0)) (
      R Sl.nil ((.iface 29 (.int .i64 2))) h3) (
      slices_Clone_int_int r l2 h3 fun y12 h4 =>
      New h4 (.cells #[(Sl.v y12)] 22) fun p13 h5 =>
      ∀ X18 : Sl → Sl → Heap → Prop, (∀ (l16 : Sl) (out17 : Sl) (h6 : Heap),
        (Br (decide (1 < ((l16.len : Int)))) (
          LdI h6 (Addr.add p6 0) fun x19 =>
          LdV h6 (Addr.add p6 1) fun x21 =>
          scan_op_pairs r x19 x21 l16 h6 fun y23 h7 =>
          New h7 (.cells #[(Sl.v y23)] 22) fun p24 h8 =>
          App 22 1 24 (Sl.v Sl.nil) out17 ((⟨some p24, 1, 1⟩ : Sl)) h8 fun s27 h9 =>
          X18 y23 s27 h9) (
          R out17 .nilIface h6)) →
        X18 l16 out17 h6) →
      X18 l2 ((⟨some p13, 1, 1⟩ : Sl)) h5))

set_option maxRecDepth 100000 in
theorem scan_Levels_of {r : World} {n1 : Int} {l2 : Sl} {h : Heap} {R : Sl → Value → Heap → Prop} (H : scan_Levels_F r n1 l2 h R) : scan_Levels r n1 l2 h R := by
  unfold scan_Levels_F at H
  refine calls_of 35 [.tmp 4, .tmp 5] Tryd.func37 rfl rfl rfl rfl rfl ?_
  refine W_seq ?_
  refine W_region (.pu 0 (.pu 1 .fin)) rfl rfl ?_
  refine s_pu (d := some 4) (v := (Sl.v Sl.nil)) rfl rfl rfl (r_assign rfl) ?_
  refine s_pu (d := some 5) (v := .nilIface) rfl rfl rfl (r_assign rfl) ?_
  refine s_fin ?_
  show W _ _ _ _ _ _ _ _
  refine W_seq ?_
  refine W_region (.pu 0 (.ef 1 [] (.pu 2 (.pu 3 (.pu 4 (.ef 5 [] (.ef 6 [] (.pu 7 .fin) .no) .no)))) .no)) rfl rfl ?_
  refine s_pu (d := some 10) (v := (.int .i64 n1)) rfl rfl rfl (r_move rfl) ?_
  refine s_ef (d := some 11) rfl rfl rfl (fun dr => r_call Tryd.call78 rfl rfl H) ?_ trivial
  rintro _ h1 ⟨y3, y4, y5, rfl, H⟩
  refine ⟨trivial, ?_⟩
  refine s_pu (d := some 9) (v := (.tuple #[(.agg #[(.int .i64 y3), y4]), y5])) rfl rfl rfl (r_move rfl) ?_
  refine s_pu (d := some 12) (v := (.agg #[(.int .i64 y3), y4])) rfl rfl rfl (r_extract rfl rfl) ?_
  refine s_pu (d := some 13) (v := y5) rfl rfl rfl (r_extract rfl rfl) ?_
  obtain ⟨p6, e7⟩ : ∃ p : Addr, p = ⟨h1.size, 0, none⟩ := ⟨_, rfl⟩
  obtain ⟨h2, e8⟩ : ∃ hh : Heap, hh = h1.push (.cells #[(.int .i64 0), .nilFunc] 106) := ⟨_, rfl⟩
  have H := H p6 h2 e7 e8
  refine s_ef1 (d := some 6) (v := (.pointer (some p6))) (h' := h2) rfl rfl rfl (fun dr => (r_alloc Tryd.zeroValue106).trans (by rw [e7, e8]; rfl)) trivial ?_ trivial
  obtain ⟨e31, H⟩ := H
  obtain ⟨e10, H⟩ := H
  obtain ⟨h3, e9⟩ : ∃ hh : Heap, hh = hsets h2 p6 0 [(.int .i64 y3), y4] := ⟨_, rfl⟩
  have H := H h3 e9
  refine s_st (d := none) (h' := h3) rfl rfl rfl (fun dr => (r_store (v := (.agg #[(.int .i64 y3), y4])) Tryd.sizeOf106 rfl rfl rfl (one_all (show List.all [(.int .i64 y3), y4] one = true by simp only [List.all_cons, List.all_nil, e31]; rfl)) e10).trans (by rw [e9]; rfl)) trivial ?_ trivial
  refine s_pu (d := some 7) (v := y5) rfl rfl rfl (r_assign rfl) ?_
  refine s_fin ?_
  show W _ _ _ _ _ _ _ _
  refine W_seq ?_
  refine W_seq ?_
  refine W_region (.pu 0 (.pu 1 .fin)) rfl rfl ?_
  refine s_pu (d := some 14) (v := y5) rfl rfl rfl (r_move rfl) ?_
  obtain ⟨e11, H⟩ := H
  refine s_pu (d := some 15) (v := (.bool (!(isNil y5)))) rfl rfl rfl (r_notNilI Tryd.underlying26 rfl e11 rfl) ?_
  refine s_fin ?_
  show W _ _ _ _ _ _ _ _
  refine W_if (!(isNil y5)) rfl (fun g30 => ?_) (fun g30 => ?_)
  · have H := H.1 g30
    refine W_seq ?_
    refine W_region (.pu 0 (.pu 1 (.pu 2 .fin))) rfl rfl ?_
    refine s_pu (d := some 16) (v := y5) rfl rfl rfl (r_move rfl) ?_
    refine s_pu (d := some 4) (v := (Sl.v Sl.nil)) rfl rfl rfl (r_assign rfl) ?_
    refine s_pu (d := some 5) (v := y5) rfl rfl rfl (r_assign rfl) ?_
    refine s_fin ?_
    show W _ _ _ _ _ _ _ _
    refine W_ret ?_
    exact ⟨[(Sl.v Sl.nil), y5], ⟨_, _, rfl, rfl, ⟨_, _, rfl, rfl, rfl⟩⟩, Sl.nil, y5, rfl, H⟩
  · have H := H.2 g30
    refine W_skip ?_
    show W _ _ _ _ _ _ _ _
    refine W_seq ?_
    refine W_seq ?_
    refine W_region (.pu 0 (.pu 1 (.pu 2 .fin))) rfl rfl ?_
    refine s_pu (d := some 17) (v := (Sl.v l2)) rfl rfl rfl (r_move rfl) ?_
    refine s_pu (d := some 18) (v := (.int .i64 ((l2.len : Int)))) rfl rfl rfl (r_len Tryd.underlying22 rfl) ?_
    refine s_pu (d := some 19) (v := (.bool (decide (((l2.len : Int)) = 0)))) rfl rfl rfl (r_eql rfl rfl) ?_
    refine s_fin ?_
    show W _ _ _ _ _ _ _ _
    refine W_if (decide (((l2.len : Int)) = 0)) rfl (fun g29 => ?_) (fun g29 => ?_)
    · have H := H.1 g29
      refine W_seq ?_
      refine W_region (.pu 0 (.pu 1 (.pu 2 .fin))) rfl rfl ?_
      refine s_pu (d := some 20) (v := ((.iface 29 (.int .i64 2)))) rfl rfl rfl (r_iface Tryd.underlying29 rfl rfl) ?_
      refine s_pu (d := some 4) (v := (Sl.v Sl.nil)) rfl rfl rfl (r_assign rfl) ?_
      refine s_pu (d := some 5) (v := ((.iface 29 (.int .i64 2)))) rfl rfl rfl (r_assign rfl) ?_
      refine s_fin ?_
      show W _ _ _ _ _ _ _ _
      refine W_ret ?_
      exact ⟨[(Sl.v Sl.nil), ((.iface 29 (.int .i64 2)))], ⟨_, _, rfl, rfl, ⟨_, _, rfl, rfl, rfl⟩⟩, Sl.nil, ((.iface 29 (.int .i64 2))), rfl, H⟩
    · have H := H.2 g29
      refine W_skip ?_
      show W _ _ _ _ _ _ _ _
      refine W_seq ?_
      refine W_region (.pu 0 (.ef 1 [] (.ef 2 [] (.pu 3 .fin) .no) .no)) rfl rfl ?_
      refine s_pu (d := some 21) (v := (Sl.v l2)) rfl rfl rfl (r_move rfl) ?_
      refine s_ef (d := some 22) rfl rfl rfl (fun dr => r_call Tryd.call73 rfl rfl H) ?_ trivial
      rintro _ h4 ⟨y12, rfl, H⟩
      refine ⟨trivial, ?_⟩
      obtain ⟨p13, e14⟩ : ∃ p : Addr, p = ⟨h4.size, 0, none⟩ := ⟨_, rfl⟩
      obtain ⟨h5, e15⟩ : ∃ hh : Heap, hh = h4.push (.cells #[(Sl.v y12)] 22) := ⟨_, rfl⟩
      have H := H p13 h5 e14 e15
      refine s_ef1 (d := some 23) (v := (Sl.v ((⟨some p13, 1, 1⟩ : Sl)))) (h' := h5) rfl rfl rfl (fun dr => (slFDScan_56.build (cells := #[(Sl.v y12)]) (by decide) rfl (by kernel_rfl)).trans (by rw [e14, e15]; rfl)) trivial ?_ trivial
      refine s_pu (d := some 8) (v := (Sl.v ((⟨some p13, 1, 1⟩ : Sl)))) rfl rfl rfl (r_assign rfl) ?_
      refine s_fin ?_
      show W _ _ _ _ _ _ _ _
      refine W_seq ?_
      refine W_block ?_
      refine W_loop (WL_mk (l := [(1, (Sl.v l2)), (6, (.pointer (some p6))), (8, (Sl.v ((⟨some p13, 1, 1⟩ : Sl))))]) ?_ ⟨rfl, rfl, rfl, trivial⟩)
      refine H (fun (l16 : Sl) (out17 : Sl) (h6 : Heap) => ∀ b, WL _ _ _ _ _ _ (mkE [(1, (Sl.v l16)), (6, (.pointer (some p6))), (8, (Sl.v out17))] b) h6) ?_
      intro l16 out17 h6 H b
      refine WL_round ?_
      refine W_seq ?_
      refine W_seq ?_
      refine W_region (.pu 0 (.pu 1 (.pu 2 .fin))) rfl rfl ?_
      refine s_pu (d := some 24) (v := (Sl.v l16)) rfl rfl rfl (r_move rfl) ?_
      refine s_pu (d := some 25) (v := (.int .i64 ((l16.len : Int)))) rfl rfl rfl (r_len Tryd.underlying22 rfl) ?_
      refine s_pu (d := some 26) (v := (.bool (decide (1 < ((l16.len : Int)))))) rfl rfl rfl (r_gtr rfl rfl) ?_
      refine s_fin ?_
      show W _ _ _ _ _ _ _ _
      refine W_if (decide (1 < ((l16.len : Int)))) rfl (fun g28 => ?_) (fun g28 => ?_)
      · have H := H.1 g28
        refine W_skip ?_
        show W _ _ _ _ _ _ _ _
        refine W_block ?_
        refine W_seq ?_
        refine W_region (.rl 0 (.pu 1 (.ef 2 [] (.pu 3 .fin) .no))) rfl rfl ?_
        obtain ⟨x19, e20, H⟩ := H
        obtain ⟨x21, e22, H⟩ := H
        refine s_rl (d := some 27) (v := (.agg #[(.int .i64 x19), x21])) rfl rfl rfl (fun dr => r_loadN Tryd.isAgg106 Tryd.sizeOf106 (vs := [(.int .i64 x19), x21]) rfl rfl ⟨e20, e22, trivial⟩) ?_
        refine s_pu (d := some 28) (v := (Sl.v l16)) rfl rfl rfl (r_move rfl) ?_
        refine s_ef (d := some 29) rfl rfl rfl (fun dr => r_call Tryd.call80 rfl rfl H) ?_ trivial
        rintro _ h7 ⟨y23, rfl, H⟩
        refine ⟨trivial, ?_⟩
        refine s_pu (d := some 1) (v := (Sl.v y23)) rfl rfl rfl (r_assign rfl) ?_
        refine s_fin ?_
        show W _ _ _ _ _ _ _ _
        refine W_region (.pu 0 (.pu 1 (.ef 2 [] (.ef 3 [] (.pu 4 .fin) .no) .no))) rfl rfl ?_
        refine s_pu (d := some 30) (v := (Sl.v out17)) rfl rfl rfl (r_move rfl) ?_
        refine s_pu (d := some 31) (v := (Sl.v y23)) rfl rfl rfl (r_move rfl) ?_
        obtain ⟨p24, e25⟩ : ∃ p : Addr, p = ⟨h7.size, 0, none⟩ := ⟨_, rfl⟩
        obtain ⟨h8, e26⟩ : ∃ hh : Heap, hh = h7.push (.cells #[(Sl.v y23)] 22) := ⟨_, rfl⟩
        have H := H p24 h8 e25 e26
        refine s_ef1 (d := some 32) (v := (Sl.v ((⟨some p24, 1, 1⟩ : Sl)))) (h' := h8) rfl rfl rfl (fun dr => (slFDScan_56.build (cells := #[(Sl.v y23)]) (by decide) rfl (by kernel_rfl)).trans (by rw [e25, e26]; rfl)) trivial ?_ trivial
        refine s_ef (d := some 33) rfl rfl rfl (fun dr => slFDScan_56.append rfl rfl H) ?_ trivial
        rintro _ h9 ⟨s27, rfl, H⟩
        refine ⟨trivial, ?_⟩
        refine s_pu (d := some 8) (v := (Sl.v s27)) rfl rfl rfl (r_assign rfl) ?_
        refine s_fin ?_
        exact WL_mk (l := [(1, (Sl.v y23)), (6, (.pointer (some p6))), (8, (Sl.v s27))]) H ⟨rfl, rfl, rfl, trivial⟩
      · have H := H.2 g28
        refine W_exit (inX_here ?_)
        show W _ _ _ _ _ _ _ _
        refine W_seq ?_
        refine W_region (.pu 0 (.pu 1 (.pu 2 .fin))) rfl rfl ?_
        refine s_pu (d := some 34) (v := (Sl.v out17)) rfl rfl rfl (r_move rfl) ?_
        refine s_pu (d := some 4) (v := (Sl.v out17)) rfl rfl rfl (r_assign rfl) ?_
        refine s_pu (d := some 5) (v := .nilIface) rfl rfl rfl (r_assign rfl) ?_
        refine s_fin ?_
        show W _ _ _ _ _ _ _ _
        refine W_ret ?_
        exact ⟨[(Sl.v out17), .nilIface], ⟨_, _, rfl, rfl, ⟨_, _, rfl, rfl, rfl⟩⟩, out17, .nilIface, rfl, H⟩

/-! ### scan_of -/

def scan_of_F (r : World) (n1 : Int) (h : Heap) (R : Int → Value → Value → Heap → Prop) : Prop :=
  New h (.cells #[(.int .i64 0), .nilFunc] 106) fun p2 h1 =>
  Br (decide (n1 = 1)) (
    St h1 p2 2 [(.int .i64 0), ((.func (.func 108) #[] #[]))] fun h2 =>
    LdI h2 (Addr.add p2 0) fun x7 =>
    LdV h2 (Addr.add p2 1) fun x9 =>
    R x7 x9 .nilIface h2) (
    Br (decide (n1 = 2)) (
      St h1 p2 2 [(.int .i64 ((-9223372036854775808))), ((.func (.func 109) #[] #[]))] fun h3 =>
      LdI h3 (Addr.add p2 0) fun x13 =>
      LdV h3 (Addr.add p2 1) fun x15 =>
      R x13 x15 .nilIface h3) (
      Br (decide (n1 = 3)) (
        St h1 p2 2 [(.int .i64 9223372036854775807), ((.func (.func 110) #[] #[]))] fun h4 =>
        LdI h4 (Addr.add p2 0) fun x19 =>
        LdV h4 (Addr.add p2 1) fun x21 =>
        R x19 x21 .nilIface h4) (
        Br (decide (n1 = 4)) (
          St h1 p2 2 [(.int .i64 0), ((.func (.func 111) #[] #[]))] fun h5 =>
          LdI h5 (Addr.add p2 0) fun x25 =>
          LdV h5 (Addr.add p2 1) fun x27 =>
          R x25 x27 .nilIface h5) (
          St h1 p2 2 [(.int .i64 0), .nilFunc] fun h6 =>
          LdI h6 (Addr.add p2 0) fun x31 =>
          LdV h6 (Addr.add p2 1) fun x33 =>
          R x31 x33 ((.iface 29 (.int .i64 3))) h6))))

set_option maxRecDepth 100000 in
theorem scan_of_of {r : World} {n1 : Int} {h : Heap} {R : Int → Value → Value → Heap → Prop} (H : scan_of_F r n1 h R) : scan_of r n1 h R := by
  unfold scan_of_F at H
  refine calls_of 19 [.cell 2 106, .tmp 3] Tryd.func78 rfl rfl rfl rfl rfl ?_
  refine W_seq ?_
  refine W_region (.ef 0 [] (.pu 1 .fin) .no) rfl rfl ?_
  obtain ⟨p2, e3⟩ : ∃ p : Addr, p = ⟨h.size, 0, none⟩ := ⟨_, rfl⟩
  obtain ⟨h1, e4⟩ : ∃ hh : Heap, hh = h.push (.cells #[(.int .i64 0), .nilFunc] 106) := ⟨_, rfl⟩
  have H := H p2 h1 e3 e4
  refine s_ef1 (d := some 2) (v := (.pointer (some p2))) (h' := h1) rfl rfl rfl (fun dr => (r_alloc Tryd.zeroValue106).trans (by rw [e3, e4]; rfl)) trivial ?_ trivial
  refine s_pu (d := some 3) (v := .nilIface) rfl rfl rfl (r_assign rfl) ?_
  refine s_fin ?_
  show W _ _ _ _ _ _ _ _
  refine W_seq ?_
  refine W_seq ?_
  refine W_region (.pu 0 .fin) rfl rfl ?_
  refine s_pu (d := some 4) (v := (.int .i64 n1)) rfl rfl rfl (r_move rfl) ?_
  refine s_fin ?_
  show W _ _ _ _ _ _ _ _
  refine W_block ?_
  refine W_seq ?_
  refine W_region (.pu 0 (.pu 1 .fin)) rfl rfl ?_
  refine s_pu (d := some 6) (v := (.bool (decide (n1 = 1)))) rfl rfl rfl (r_eql rfl rfl) ?_
  refine s_pu (d := some 5) (v := (.bool (decide (n1 = 1)))) rfl rfl rfl (r_assign rfl) ?_
  refine s_fin ?_
  show W _ _ _ _ _ _ _ _
  refine W_if (decide (n1 = 1)) rfl (fun g38 => ?_) (fun g38 => ?_)
  · have H := H.1 g38
    refine W_seq ?_
    refine W_region (.pu 0 (.ef 1 [] (.pu 2 .fin) .no)) rfl rfl ?_
    refine s_pu (d := some 7) (v := (.agg #[(.int .i64 0), ((.func (.func 108) #[] #[]))])) rfl rfl rfl (fun w => by kernel_rfl) ?_
    obtain ⟨e6, H⟩ := H
    obtain ⟨h2, e5⟩ : ∃ hh : Heap, hh = hsets h1 p2 0 [(.int .i64 0), ((.func (.func 108) #[] #[]))] := ⟨_, rfl⟩
    have H := H h2 e5
    refine s_st (d := none) (h' := h2) rfl rfl rfl (fun dr => (r_store (v := (.agg #[(.int .i64 0), ((.func (.func 108) #[] #[]))])) Tryd.sizeOf106 rfl rfl rfl (one_all rfl) e6).trans (by rw [e5]; rfl)) trivial ?_ trivial
    refine s_pu (d := some 3) (v := .nilIface) rfl rfl rfl (r_assign rfl) ?_
    refine s_fin ?_
    show W _ _ _ _ _ _ _ _
    refine W_ret ?_
    obtain ⟨x7, e8, H⟩ := H
    obtain ⟨x9, e10, H⟩ := H
    exact ⟨[(.agg #[(.int .i64 x7), x9]), .nilIface], ⟨_, _, _, rfl, rfl, fun dr => run_loadVarN Tryd.isAgg106 Tryd.sizeOf106 (vs := [(.int .i64 x7), x9]) rfl ⟨e8, e10, trivial⟩, ⟨_, _, rfl, rfl, rfl⟩⟩, x7, x9, .nilIface, rfl, H⟩
  · have H := H.2 g38
    refine W_seq ?_
    refine W_region (.pu 0 (.pu 1 .fin)) rfl rfl ?_
    refine s_pu (d := some 9) (v := (.bool (decide (n1 = 2)))) rfl rfl rfl (r_eql rfl rfl) ?_
    refine s_pu (d := some 8) (v := (.bool (decide (n1 = 2)))) rfl rfl rfl (r_assign rfl) ?_
    refine s_fin ?_
    show W _ _ _ _ _ _ _ _
    refine W_if (decide (n1 = 2)) rfl (fun g37 => ?_) (fun g37 => ?_)
    · have H := H.1 g37
      refine W_seq ?_
      refine W_region (.pu 0 (.ef 1 [] (.pu 2 .fin) .no)) rfl rfl ?_
      refine s_pu (d := some 10) (v := (.agg #[(.int .i64 ((-9223372036854775808))), ((.func (.func 109) #[] #[]))])) rfl rfl rfl (fun w => by kernel_rfl) ?_
      obtain ⟨e12, H⟩ := H
      obtain ⟨h3, e11⟩ : ∃ hh : Heap, hh = hsets h1 p2 0 [(.int .i64 ((-9223372036854775808))), ((.func (.func 109) #[] #[]))] := ⟨_, rfl⟩
      have H := H h3 e11
      refine s_st (d := none) (h' := h3) rfl rfl rfl (fun dr => (r_store (v := (.agg #[(.int .i64 ((-9223372036854775808))), ((.func (.func 109) #[] #[]))])) Tryd.sizeOf106 rfl rfl rfl (one_all rfl) e12).trans (by rw [e11]; rfl)) trivial ?_ trivial
      refine s_pu (d := some 3) (v := .nilIface) rfl rfl rfl (r_assign rfl) ?_
      refine s_fin ?_
      show W _ _ _ _ _ _ _ _
      refine W_ret ?_
      obtain ⟨x13, e14, H⟩ := H
      obtain ⟨x15, e16, H⟩ := H
      exact ⟨[(.agg #[(.int .i64 x13), x15]), .nilIface], ⟨_, _, _, rfl, rfl, fun dr => run_loadVarN Tryd.isAgg106 Tryd.sizeOf106 (vs := [(.int .i64 x13), x15]) rfl ⟨e14, e16, trivial⟩, ⟨_, _, rfl, rfl, rfl⟩⟩, x13, x15, .nilIface, rfl, H⟩
    · have H := H.2 g37
      refine W_seq ?_
      refine W_region (.pu 0 (.pu 1 .fin)) rfl rfl ?_
      refine s_pu (d := some 12) (v := (.bool (decide (n1 = 3)))) rfl rfl rfl (r_eql rfl rfl) ?_
      refine s_pu (d := some 11) (v := (.bool (decide (n1 = 3)))) rfl rfl rfl (r_assign rfl) ?_
      refine s_fin ?_
      show W _ _ _ _ _ _ _ _
      refine W_if (decide (n1 = 3)) rfl (fun g36 => ?_) (fun g36 => ?_)
      · have H := H.1 g36
        refine W_seq ?_
        refine W_region (.pu 0 (.ef 1 [] (.pu 2 .fin) .no)) rfl rfl ?_
        refine s_pu (d := some 13) (v := (.agg #[(.int .i64 9223372036854775807), ((.func (.func 110) #[] #[]))])) rfl rfl rfl (fun w => by kernel_rfl) ?_
        obtain ⟨e18, H⟩ := H
        obtain ⟨h4, e17⟩ : ∃ hh : Heap, hh = hsets h1 p2 0 [(.int .i64 9223372036854775807), ((.func (.func 110) #[] #[]))] := ⟨_, rfl⟩
        have H := H h4 e17
        refine s_st (d := none) (h' := h4) rfl rfl rfl (fun dr => (r_store (v := (.agg #[(.int .i64 9223372036854775807), ((.func (.func 110) #[] #[]))])) Tryd.sizeOf106 rfl rfl rfl (one_all rfl) e18).trans (by rw [e17]; rfl)) trivial ?_ trivial
        refine s_pu (d := some 3) (v := .nilIface) rfl rfl rfl (r_assign rfl) ?_
        refine s_fin ?_
        show W _ _ _ _ _ _ _ _
        refine W_ret ?_
        obtain ⟨x19, e20, H⟩ := H
        obtain ⟨x21, e22, H⟩ := H
        exact ⟨[(.agg #[(.int .i64 x19), x21]), .nilIface], ⟨_, _, _, rfl, rfl, fun dr => run_loadVarN Tryd.isAgg106 Tryd.sizeOf106 (vs := [(.int .i64 x19), x21]) rfl ⟨e20, e22, trivial⟩, ⟨_, _, rfl, rfl, rfl⟩⟩, x19, x21, .nilIface, rfl, H⟩
      · have H := H.2 g36
        refine W_seq ?_
        refine W_region (.pu 0 (.pu 1 .fin)) rfl rfl ?_
        refine s_pu (d := some 15) (v := (.bool (decide (n1 = 4)))) rfl rfl rfl (r_eql rfl rfl) ?_
        refine s_pu (d := some 14) (v := (.bool (decide (n1 = 4)))) rfl rfl rfl (r_assign rfl) ?_
        refine s_fin ?_
        show W _ _ _ _ _ _ _ _
        refine W_if (decide (n1 = 4)) rfl (fun g35 => ?_) (fun g35 => ?_)
        · have H := H.1 g35
          refine W_seq ?_
          refine W_region (.pu 0 (.ef 1 [] (.pu 2 .fin) .no)) rfl rfl ?_
          refine s_pu (d := some 16) (v := (.agg #[(.int .i64 0), ((.func (.func 111) #[] #[]))])) rfl rfl rfl (fun w => by kernel_rfl) ?_
          obtain ⟨e24, H⟩ := H
          obtain ⟨h5, e23⟩ : ∃ hh : Heap, hh = hsets h1 p2 0 [(.int .i64 0), ((.func (.func 111) #[] #[]))] := ⟨_, rfl⟩
          have H := H h5 e23
          refine s_st (d := none) (h' := h5) rfl rfl rfl (fun dr => (r_store (v := (.agg #[(.int .i64 0), ((.func (.func 111) #[] #[]))])) Tryd.sizeOf106 rfl rfl rfl (one_all rfl) e24).trans (by rw [e23]; rfl)) trivial ?_ trivial
          refine s_pu (d := some 3) (v := .nilIface) rfl rfl rfl (r_assign rfl) ?_
          refine s_fin ?_
          show W _ _ _ _ _ _ _ _
          refine W_ret ?_
          obtain ⟨x25, e26, H⟩ := H
          obtain ⟨x27, e28, H⟩ := H
          exact ⟨[(.agg #[(.int .i64 x25), x27]), .nilIface], ⟨_, _, _, rfl, rfl, fun dr => run_loadVarN Tryd.isAgg106 Tryd.sizeOf106 (vs := [(.int .i64 x25), x27]) rfl ⟨e26, e28, trivial⟩, ⟨_, _, rfl, rfl, rfl⟩⟩, x25, x27, .nilIface, rfl, H⟩
        · have H := H.2 g35
          refine W_skip ?_
          show W _ _ _ _ _ _ _ _
          refine W_seq ?_
          refine W_region (.pu 0 (.pu 1 (.ef 2 [] (.pu 3 .fin) .no))) rfl rfl ?_
          refine s_pu (d := some 17) (v := (.agg #[(.int .i64 0), .nilFunc])) rfl rfl rfl (fun w => by kernel_rfl) ?_
          refine s_pu (d := some 18) (v := ((.iface 29 (.int .i64 3)))) rfl rfl rfl (r_iface Tryd.underlying29 rfl rfl) ?_
          obtain ⟨e30, H⟩ := H
          obtain ⟨h6, e29⟩ : ∃ hh : Heap, hh = hsets h1 p2 0 [(.int .i64 0), .nilFunc] := ⟨_, rfl⟩
          have H := H h6 e29
          refine s_st (d := none) (h' := h6) rfl rfl rfl (fun dr => (r_store (v := (.agg #[(.int .i64 0), .nilFunc])) Tryd.sizeOf106 rfl rfl rfl (one_all rfl) e30).trans (by rw [e29]; rfl)) trivial ?_ trivial
          refine s_pu (d := some 3) (v := ((.iface 29 (.int .i64 3)))) rfl rfl rfl (r_assign rfl) ?_
          refine s_fin ?_
          show W _ _ _ _ _ _ _ _
          refine W_ret ?_
          obtain ⟨x31, e32, H⟩ := H
          obtain ⟨x33, e34, H⟩ := H
          exact ⟨[(.agg #[(.int .i64 x31), x33]), ((.iface 29 (.int .i64 3)))], ⟨_, _, _, rfl, rfl, fun dr => run_loadVarN Tryd.isAgg106 Tryd.sizeOf106 (vs := [(.int .i64 x31), x33]) rfl ⟨e32, e34, trivial⟩, ⟨_, _, rfl, rfl, rfl⟩⟩, x31, x33, ((.iface 29 (.int .i64 3))), rfl, H⟩

/-! ### scan_op_sweep -/

def scan_op_sweep_F (r : World) (o1 : Int) (o2 : Value) (l3 : Sl) (h : Heap) (R : Sl → Int → Heap → Prop) : Prop :=
  New h (.cells #[(.int .i64 o1), o2] 106) fun p4 h1 =>
  Br (decide (((l3.len : Int)) = 0)) (
    LdI h1 (Addr.add p4 0) fun x7 =>
    R Sl.nil x7 h1) (
    Br (decide (((l3.len : Int)) = 1)) (
      ∀ J11 : Sl → Int → Heap → Prop, (∀ (x9 : Sl) (x10 : Int) (h2 : Heap),
        (R x9 x10 h2) →
        J11 x9 x10 h2) →
      LdI h1 (Addr.add p4 0) fun x13 =>
      LdV h1 (Addr.add p4 1) fun x15 =>
      LdI h1 (Addr.add p4 0) fun x17 =>
      Ix l3 0 1 fun q23 =>
      LdI h1 q23 fun x25 =>
      (New h1 (.cells #[(.int .i64 x13)] 3) fun p27 h3 =>
      (hcell h3 q23 = some (.int .i64 x25)) ∧
      (hcell h3 (Addr.add p4 0) = some (.int .i64 x17)) ∧
      (hcell h3 (Addr.add p4 1) = some x15) ∧
      CallV Tryd.prog r x15 [(.int .i64 x17), (.int .i64 x25)] h3 fun v35 h4 => ∃ (y33 : Int), v35 = (.int .i64 y33) ∧
      (hcell h4 (Addr.add p4 0) = some (.int .i64 x13)) ∧
      J11 ((⟨some p27, 1, 1⟩ : Sl)) y33 h4) ∧
      (CallV Tryd.prog r x15 [(.int .i64 x17), (.int .i64 x25)] h1 fun v44 h5 => ∃ (y36 : Int), v44 = (.int .i64 y36) ∧
      (hcell h5 (Addr.add p4 0) = some (.int .i64 x13)) ∧
      New h5 (.cells #[(.int .i64 x13)] 3) fun p38 h6 =>
      (hcell h6 q23 = some (.int .i64 x25)) ∧
      (hcell h6 (Addr.add p4 0) = some (.int .i64 x17)) ∧
      (hcell h6 (Addr.add p4 1) = some x15) ∧
      J11 ((⟨some p38, 1, 1⟩ : Sl)) y36 h6)) (
      LdI h1 (Addr.add p4 0) fun x45 =>
      LdV h1 (Addr.add p4 1) fun x47 =>
      LdI h1 (Addr.add p4 0) fun x49 =>
      LdV h1 (Addr.add p4 1) fun x51 =>
      scan_op_pairs r x49 x51 l3 h1 fun y53 h7 =>
      (hcell h7 (Addr.add p4 0) = some (.int .i64 x45)) ∧
      (hcell h7 (Addr.add p4 1) = some x47) ∧
      scan_op_sweep r x45 x47 y53 h7 fun y56 y57 h8 =>
      ∀ X60 : Sl → Int → Heap → Prop, (∀ (out58 : Sl) (x59 : Int) (h9 : Heap),
        (Br (decide (x59 < ((l3.len : Int)))) (
          Ix y56 (w64 (Int.tdiv x59 2)) 1 fun q65 =>
          LdI h9 q65 fun x67 =>
          ∀ J70 : Int → Heap → Prop, (∀ (x69 : Int) (h10 : Heap),
            (New h10 (.cells #[(.int .i64 x69)] 3) fun p72 h11 =>
            App 3 1 8 (.int .i64 0) out58 ((⟨some p72, 1, 1⟩ : Sl)) h11 fun s75 h12 =>
            X60 s75 (w64 (x59 + 1)) h12) →
            J70 x69 h10) →
          Br (decide ((Int.tmod x59 2) = 1)) (
            LdV h9 (Addr.add p4 1) fun x76 =>
            Ix l3 (w64 (x59 - 1)) 1 fun q82 =>
            LdI h9 q82 fun x84 =>
            CallV Tryd.prog r x76 [(.int .i64 x67), (.int .i64 x84)] h9 fun v87 h13 => ∃ (y86 : Int), v87 = (.int .i64 y86) ∧
            J70 y86 h13) (
            J70 x67 h9)) (
          R out58 y57 h9)) →
        X60 out58 x59 h9) →
      X60 Sl.nil 0 h8))

set_option maxRecDepth 100000 in
theorem scan_op_sweep_of {r : World} {o1 : Int} {o2 : Value} {l3 : Sl} {h : Heap} {R : Sl → Int → Heap → Prop} (H : scan_op_sweep_F r o1 o2 l3 h R) : scan_op_sweep r o1 o2 l3 h R := by
  unfold scan_op_sweep_F at H
  refine calls_of 67 [.tmp 4, .tmp 5] Tryd.func79 rfl rfl rfl rfl rfl ?_
  refine W_seq ?_
  refine W_region (.ef 0 [] (.pu 1 (.pu 2 .fin)) .no) rfl rfl ?_
  obtain ⟨p4, e5⟩ : ∃ p : Addr, p = ⟨h.size, 0, none⟩ := ⟨_, rfl⟩
  obtain ⟨h1, e6⟩ : ∃ hh : Heap, hh = h.push (.cells #[(.int .i64 o1), o2] 106) := ⟨_, rfl⟩
  have H := H p4 h1 e5 e6
  refine s_ef1 (d := some 2) (v := (.pointer (some p4))) (h' := h1) rfl rfl rfl (fun dr => (r_box (v := (.agg #[(.int .i64 o1), o2])) rfl).trans (by rw [e5, e6]; rfl)) trivial ?_ trivial
  refine s_pu (d := some 4) (v := (Sl.v Sl.nil)) rfl rfl rfl (r_assign rfl) ?_
  refine s_pu (d := some 5) (v := (.int .i64 0)) rfl rfl rfl (r_assign rfl) ?_
  refine s_fin ?_
  show W _ _ _ _ _ _ _ _
  refine W_seq ?_
  refine W_seq ?_
  refine W_region (.pu 0 (.pu 1 .fin)) rfl rfl ?_
  refine s_pu (d := some 11) (v := (Sl.v l3)) rfl rfl rfl (r_move rfl) ?_
  refine s_pu (d := some 12) (v := (.int .i64 ((l3.len : Int)))) rfl rfl rfl (r_len Tryd.underlying22 rfl) ?_
  refine s_fin ?_
  show W _ _ _ _ _ _ _ _
  refine W_block ?_
  refine W_seq ?_
  refine W_region (.pu 0 (.pu 1 .fin)) rfl rfl ?_
  refine s_pu (d := some 14) (v := (.bool (decide (((l3.len : Int)) = 0)))) rfl rfl rfl (r_eql rfl rfl) ?_
  refine s_pu (d := some 13) (v := (.bool (decide (((l3.len : Int)) = 0)))) rfl rfl rfl (r_assign rfl) ?_
  refine s_fin ?_
  show W _ _ _ _ _ _ _ _
  refine W_if (decide (((l3.len : Int)) = 0)) rfl (fun g91 => ?_) (fun g91 => ?_)
  · have H := H.1 g91
    refine W_seq ?_
    refine W_draw [0, 1, 0, 7] (.pu 0 (.rd 1 (.pu 2 (.pu 3 .fin)))) (by kernel_rfl) (by kernel_rfl) ?_
    refine s_pu (d := some 15) (v := (.pointer (some (Addr.add p4 0)))) rfl rfl rfl (r_fieldAddr Tryd.underlying106 Tryd.sizeOf3 rfl rfl rfl) ?_
    obtain ⟨x7, e8, H⟩ := H
    refine s_rd (d := some 16) (v := (.int .i64 x7)) rfl rfl rfl (fun dr => r_load1 Tryd.isAgg3 rfl e8) ?_
    refine s_pu (d := some 4) (v := (Sl.v Sl.nil)) rfl rfl rfl (r_assign rfl) ?_
    refine s_pu (d := some 5) (v := (.int .i64 x7)) rfl rfl rfl (r_assign rfl) ?_
    refine s_fin ?_
    show W _ _ _ _ _ _ _ _
    refine W_ret ?_
    exact ⟨[(Sl.v Sl.nil), (.int .i64 x7)], ⟨_, _, rfl, rfl, ⟨_, _, rfl, rfl, rfl⟩⟩, Sl.nil, x7, rfl, H⟩
  · have H := H.2 g91
    refine W_seq ?_
    refine W_region (.pu 0 (.pu 1 .fin)) rfl rfl ?_
    refine s_pu (d := some 18) (v := (.bool (decide (((l3.len : Int)) = 1)))) rfl rfl rfl (r_eql rfl rfl) ?_
    refine s_pu (d := some 17) (v := (.bool (decide (((l3.len : Int)) = 1)))) rfl rfl rfl (r_assign rfl) ?_
    refine s_fin ?_
    show W _ _ _ _ _ _ _ _
    refine W_if (decide (((l3.len : Int)) = 1)) rfl (fun g90 => ?_) (fun g90 => ?_)
    · have H := H.1 g90
      refine W_seq ?_
      refine W_set ?_
      intro N12 eN12
      have H := H (fun (x9 : Sl) (x10 : Int) (h2 : Heap) => ∀ b, N12 [] (mkE [(4, (Sl.v x9)), (5, (.int .i64 x10))] b) h2) (by
        intro x9 x10 h2 H b
        rw [eN12]
        show W _ _ _ _ _ _ _ _
        refine W_ret ?_
        exact ⟨[(Sl.v x9), (.int .i64 x10)], ⟨_, _, rfl, rfl, ⟨_, _, rfl, rfl, rfl⟩⟩, x9, x10, rfl, H⟩)
      clear eN12
      refine W_draw [0, 1, 3, 0, 8, 0, 32, 0, 128, 384, 1016, 2047, 4095] (.pu 0 (.rd 1 (.pu 3 (.rd 4 (.pu 5 (.rd 6 (.pu 7 (.pu 8 (.rd 9 (.ef 2 [1] (.ef 10 [4, 6, 9] (.pu 11 (.pu 12 .fin)) .no) (.ef 10 [4, 6, 9] (.ef 2 [1] (.pu 11 (.pu 12 .fin)) .no) .no))))))))))) (by kernel_rfl) (by kernel_rfl) ?_
      refine s_pu (d := some 19) (v := (.pointer (some (Addr.add p4 0)))) rfl rfl rfl (r_fieldAddr Tryd.underlying106 Tryd.sizeOf3 rfl rfl rfl) ?_
      obtain ⟨x13, e14, H⟩ := H
      refine s_rd (d := some 20) (v := (.int .i64 x13)) rfl rfl rfl (fun dr => r_load1 Tryd.isAgg3 rfl e14) ?_
      refine s_pu (d := some 22) (v := (.pointer (some (Addr.add p4 1)))) rfl rfl rfl (r_fieldAddr Tryd.underlying106 Tryd.sizeOf103 rfl rfl rfl) ?_
      obtain ⟨x15, e16, H⟩ := H
      refine s_rd (d := some 23) (v := x15) rfl rfl rfl (fun dr => r_load1 Tryd.isAgg103 rfl e16) ?_
      refine s_pu (d := some 24) (v := (.pointer (some (Addr.add p4 0)))) rfl rfl rfl (r_fieldAddr Tryd.underlying106 Tryd.sizeOf3 rfl rfl rfl) ?_
      obtain ⟨x17, e18, H⟩ := H
      refine s_rd (d := some 25) (v := (.int .i64 x17)) rfl rfl rfl (fun dr => r_load1 Tryd.isAgg3 rfl e18) ?_
      refine s_pu (d := some 26) (v := (Sl.v l3)) rfl rfl rfl (r_move rfl) ?_
      obtain ⟨p19, e20, e21, e22, H⟩ := H
      obtain ⟨q23, e24⟩ : ∃ q : Addr, q = Addr.add p19 (Int.toNat 0 * 1) := ⟨_, rfl⟩
      rw [← e24] at H
      refine s_pu (d := some 27) (v := (.pointer (some q23))) rfl rfl rfl (fun w => (r_indexAddr Tryd.underlying22 Tryd.sizeOf3 rfl rfl e20 e21 e22 w).trans (by rw [e24])) ?_
      obtain ⟨x25, e26, H⟩ := H
      refine s_rd (d := some 28) (v := (.int .i64 x25)) rfl rfl rfl (fun dr => r_load1 Tryd.isAgg3 rfl e26) ?_
      refine s_or ?_ ?_
      · have H := H.1
        obtain ⟨p27, e28⟩ : ∃ p : Addr, p = ⟨h1.size, 0, none⟩ := ⟨_, rfl⟩
        obtain ⟨h3, e29⟩ : ∃ hh : Heap, hh = h1.push (.cells #[(.int .i64 x13)] 3) := ⟨_, rfl⟩
        have H := H p27 h3 e28 e29
        obtain ⟨e30, H⟩ := H
        obtain ⟨e31, H⟩ := H
        obtain ⟨e32, H⟩ := H
        refine s_ef1 (d := some 21) (v := (Sl.v ((⟨some p27, 1, 1⟩ : Sl)))) (h' := h3) rfl rfl rfl (fun dr => (slFDScan_22.build (cells := #[(.int .i64 x13)]) (by decide) rfl (by kernel_rfl)).trans (by rw [e28, e29]; rfl)) ⟨(.inl ⟨rfl, fun dr => r_load1 Tryd.isAgg3 rfl e30⟩), (.inl ⟨rfl, fun dr => r_load1 Tryd.isAgg3 rfl e31⟩), (.inl ⟨rfl, fun dr => r_load1 Tryd.isAgg103 rfl e32⟩), trivial, trivial⟩ ?_ trivial
        refine s_ef (d := some 29) rfl rfl rfl (fun dr => r_callV rfl rfl H) ?_ trivial
        rintro _ h4 ⟨y33, rfl, H⟩
        obtain ⟨e34, H⟩ := H
        refine ⟨⟨trivial, trivial, trivial, (.inl ⟨rfl, fun dr => r_load1 Tryd.isAgg3 rfl e34⟩), trivial⟩, ?_⟩
        refine s_pu (d := some 4) (v := (Sl.v ((⟨some p27, 1, 1⟩ : Sl)))) rfl rfl rfl (r_assign rfl) ?_
        refine s_pu (d := some 5) (v := (.int .i64 y33)) rfl rfl rfl (r_assign rfl) ?_
        refine s_fin ?_
        exact N_mk (l := [(4, (Sl.v ((⟨some p27, 1, 1⟩ : Sl)))), (5, (.int .i64 y33))]) H ⟨rfl, rfl, trivial⟩
      · have H := H.2
        refine s_ef (d := some 29) rfl rfl rfl (fun dr => r_callV rfl rfl H) ?_ trivial
        rintro _ h5 ⟨y36, rfl, H⟩
        obtain ⟨e37, H⟩ := H
        refine ⟨⟨trivial, trivial, trivial, (.inl ⟨rfl, fun dr => r_load1 Tryd.isAgg3 rfl e37⟩), trivial⟩, ?_⟩
        obtain ⟨p38, e39⟩ : ∃ p : Addr, p = ⟨h5.size, 0, none⟩ := ⟨_, rfl⟩
        obtain ⟨h6, e40⟩ : ∃ hh : Heap, hh = h5.push (.cells #[(.int .i64 x13)] 3) := ⟨_, rfl⟩
        have H := H p38 h6 e39 e40
        obtain ⟨e41, H⟩ := H
        obtain ⟨e42, H⟩ := H
        obtain ⟨e43, H⟩ := H
        refine s_ef1 (d := some 21) (v := (Sl.v ((⟨some p38, 1, 1⟩ : Sl)))) (h' := h6) rfl rfl rfl (fun dr => (slFDScan_22.build (cells := #[(.int .i64 x13)]) (by decide) rfl (by kernel_rfl)).trans (by rw [e39, e40]; rfl)) ⟨(.inl ⟨rfl, fun dr => r_load1 Tryd.isAgg3 rfl e41⟩), (.inl ⟨rfl, fun dr => r_load1 Tryd.isAgg3 rfl e42⟩), (.inl ⟨rfl, fun dr => r_load1 Tryd.isAgg103 rfl e43⟩), trivial, trivial⟩ ?_ trivial
        refine s_pu (d := some 4) (v := (Sl.v ((⟨some p38, 1, 1⟩ : Sl)))) rfl rfl rfl (r_assign rfl) ?_
        refine s_pu (d := some 5) (v := (.int .i64 y36)) rfl rfl rfl (r_assign rfl) ?_
        refine s_fin ?_
        exact N_mk (l := [(4, (Sl.v ((⟨some p38, 1, 1⟩ : Sl)))), (5, (.int .i64 y36))]) H ⟨rfl, rfl, trivial⟩
    · have H := H.2 g90
      refine W_skip ?_
      show W _ _ _ _ _ _ _ _
      refine W_seq ?_
      refine W_draw [0, 0, 0, 6, 15, 31, 63, 63, 127, 511] (.rd 0 (.rd 1 (.pu 2 (.ef 3 [1] (.ef 4 [0, 1] (.pu 5 (.pu 6 (.pu 7 (.pu 8 (.pu 9 .fin))))) .no) .no)))) (by kernel_rfl) (by kernel_rfl) ?_
      obtain ⟨x45, e46, H⟩ := H
      obtain ⟨x47, e48, H⟩ := H
      refine s_rd (d := some 31) (v := (.agg #[(.int .i64 x45), x47])) rfl rfl rfl (fun dr => r_loadN Tryd.isAgg106 Tryd.sizeOf106 (vs := [(.int .i64 x45), x47]) rfl rfl ⟨e46, e48, trivial⟩) ?_
      obtain ⟨x49, e50, H⟩ := H
      obtain ⟨x51, e52, H⟩ := H
      refine s_rd (d := some 32) (v := (.agg #[(.int .i64 x49), x51])) rfl rfl rfl (fun dr => r_loadN Tryd.isAgg106 Tryd.sizeOf106 (vs := [(.int .i64 x49), x51]) rfl rfl ⟨e50, e52, trivial⟩) ?_
      refine s_pu (d := some 33) (v := (Sl.v l3)) rfl rfl rfl (r_move rfl) ?_
      refine s_ef (d := some 34) rfl rfl rfl (fun dr => r_call Tryd.call80 rfl rfl H) ?_ trivial
      rintro _ h7 ⟨y53, rfl, H⟩
      obtain ⟨e54, H⟩ := H
      obtain ⟨e55, H⟩ := H
      refine ⟨⟨trivial, (.inl ⟨rfl, fun dr => r_loadN Tryd.isAgg106 Tryd.sizeOf106 (vs := [(.int .i64 x45), x47]) rfl rfl ⟨e54, e55, trivial⟩⟩), trivial⟩, ?_⟩
      refine s_ef (d := some 35) rfl rfl rfl (fun dr => r_call Tryd.call79 rfl rfl H) ?_ trivial
      rintro _ h8 ⟨y56, y57, rfl, H⟩
      refine ⟨⟨trivial, trivial, trivial⟩, ?_⟩
      refine s_pu (d := some 30) (v := (.tuple #[(Sl.v y56), (.int .i64 y57)])) rfl rfl rfl (r_move rfl) ?_
      refine s_pu (d := some 36) (v := (Sl.v y56)) rfl rfl rfl (r_extract rfl rfl) ?_
      refine s_pu (d := some 37) (v := (.int .i64 y57)) rfl rfl rfl (r_extract rfl rfl) ?_
      refine s_pu (d := some 6) (v := (Sl.v y56)) rfl rfl rfl (r_assign rfl) ?_
      refine s_pu (d := some 7) (v := (.int .i64 y57)) rfl rfl rfl (r_assign rfl) ?_
      refine s_fin ?_
      show W _ _ _ _ _ _ _ _
      refine W_seq ?_
      refine W_region (.pu 0 .fin) rfl rfl ?_
      refine s_pu (d := some 8) (v := (Sl.v Sl.nil)) rfl rfl rfl (r_assign rfl) ?_
      refine s_fin ?_
      show W _ _ _ _ _ _ _ _
      refine W_seq ?_
      refine W_seq ?_
      refine W_region (.pu 0 (.pu 1 (.pu 2 .fin))) rfl rfl ?_
      refine s_pu (d := some 38) (v := (Sl.v l3)) rfl rfl rfl (r_move rfl) ?_
      refine s_pu (d := some 39) (v := (.int .i64 ((l3.len : Int)))) rfl rfl rfl (r_len Tryd.underlying22 rfl) ?_
      refine s_pu (d := some 40) (v := (.int .i64 0)) rfl rfl rfl (r_move rfl) ?_
      refine s_fin ?_
      show W _ _ _ _ _ _ _ _
      refine W_block ?_
      refine W_loop (WL_mk (l := [(1, (Sl.v l3)), (2, (.pointer (some p4))), (6, (Sl.v y56)), (7, (.int .i64 y57)), (8, (Sl.v Sl.nil)), (39, (.int .i64 ((l3.len : Int)))), (40, (.int .i64 0))]) ?_ ⟨rfl, rfl, rfl, rfl, rfl, rfl, rfl, trivial⟩)
      refine H (fun (out58 : Sl) (x59 : Int) (h9 : Heap) => ∀ b, WL _ _ _ _ _ _ (mkE [(1, (Sl.v l3)), (2, (.pointer (some p4))), (6, (Sl.v y56)), (7, (.int .i64 y57)), (8, (Sl.v out58)), (39, (.int .i64 ((l3.len : Int)))), (40, (.int .i64 x59))] b) h9) ?_
      intro out58 x59 h9 H b
      refine WL_round ?_
      refine W_seq ?_
      refine W_region (.pu 0 .fin) rfl rfl ?_
      refine s_pu (d := some 41) (v := (.bool (decide (x59 < ((l3.len : Int)))))) rfl rfl rfl (r_lss rfl rfl) ?_
      refine s_fin ?_
      show W _ _ _ _ _ _ _ _
      refine W_seq ?_
      refine W_if (decide (x59 < ((l3.len : Int)))) rfl (fun g89 => ?_) (fun g89 => ?_)
      · have H := H.1 g89
        refine W_skip ?_
        show W _ _ _ _ _ _ _ _
        refine W_seq ?_
        refine W_block ?_
        refine W_seq ?_
        refine W_region (.pu 0 (.pu 1 .fin)) rfl rfl ?_
        refine s_pu (d := some 42) (v := (.int .i64 x59)) rfl rfl rfl (r_move rfl) ?_
        refine s_pu (d := some 9) (v := (.int .i64 x59)) rfl rfl rfl (r_assign rfl) ?_
        refine s_fin ?_
        show W _ _ _ _ _ _ _ _
        refine W_seq ?_
        refine W_region (.pu 0 (.pu 1 (.pu 2 (.pu 3 (.rl 4 (.pu 5 .fin)))))) rfl rfl ?_
        refine s_pu (d := some 43) (v := (Sl.v y56)) rfl rfl rfl (r_move rfl) ?_
        refine s_pu (d := some 44) (v := (.int .i64 x59)) rfl rfl rfl (r_move rfl) ?_
        refine s_pu (d := some 45) (v := (.int .i64 (w64 (Int.tdiv x59 2)))) rfl rfl rfl (r_quo rfl rfl (by decide)) ?_
        obtain ⟨p61, e62, e63, e64, H⟩ := H
        obtain ⟨q65, e66⟩ : ∃ q : Addr, q = Addr.add p61 (Int.toNat (w64 (Int.tdiv x59 2)) * 1) := ⟨_, rfl⟩
        rw [← e66] at H
        refine s_pu (d := some 46) (v := (.pointer (some q65))) rfl rfl rfl (fun w => (r_indexAddr Tryd.underlying22 Tryd.sizeOf3 rfl rfl e62 e63 e64 w).trans (by rw [e66])) ?_
        obtain ⟨x67, e68, H⟩ := H
        refine s_rl (d := some 47) (v := (.int .i64 x67)) rfl rfl rfl (fun dr => r_load1 Tryd.isAgg3 rfl e68) ?_
        refine s_pu (d := some 10) (v := (.int .i64 x67)) rfl rfl rfl (r_assign rfl) ?_
        refine s_fin ?_
        show W _ _ _ _ _ _ _ _
        refine W_seq ?_
        refine W_seq ?_
        refine W_region (.pu 0 (.pu 1 (.pu 2 .fin))) rfl rfl ?_
        refine s_pu (d := some 48) (v := (.int .i64 x59)) rfl rfl rfl (r_move rfl) ?_
        refine s_pu (d := some 49) (v := (.int .i64 (Int.tmod x59 2))) rfl rfl rfl (r_rem rfl rfl (by decide)) ?_
        refine s_pu (d := some 50) (v := (.bool (decide ((Int.tmod x59 2) = 1)))) rfl rfl rfl (r_eql rfl rfl) ?_
        refine s_fin ?_
        show W _ _ _ _ _ _ _ _
        refine W_set ?_
        intro N71 eN71
        have H := H (fun (x69 : Int) (h10 : Heap) => ∀ b, N71 [] (mkE [(1, (Sl.v l3)), (2, (.pointer (some p4))), (6, (Sl.v y56)), (7, (.int .i64 y57)), (8, (Sl.v out58)), (10, (.int .i64 x69)), (39, (.int .i64 ((l3.len : Int)))), (40, (.int .i64 x59))] b) h10) (by
          intro x69 h10 H b
          rw [eN71]
          show W _ _ _ _ _ _ _ _
          refine W_region (.pu 0 (.pu 1 (.ef 2 [] (.ef 3 [] (.pu 4 .fin) .no) .no))) rfl rfl ?_
          refine s_pu (d := some 60) (v := (Sl.v out58)) rfl rfl rfl (r_move rfl) ?_
          refine s_pu (d := some 61) (v := (.int .i64 x69)) rfl rfl rfl (r_move rfl) ?_
          obtain ⟨p72, e73⟩ : ∃ p : Addr, p = ⟨h10.size, 0, none⟩ := ⟨_, rfl⟩
          obtain ⟨h11, e74⟩ : ∃ hh : Heap, hh = h10.push (.cells #[(.int .i64 x69)] 3) := ⟨_, rfl⟩
          have H := H p72 h11 e73 e74
          refine s_ef1 (d := some 62) (v := (Sl.v ((⟨some p72, 1, 1⟩ : Sl)))) (h' := h11) rfl rfl rfl (fun dr => (slFDScan_22.build (cells := #[(.int .i64 x69)]) (by decide) rfl (by kernel_rfl)).trans (by rw [e73, e74]; rfl)) trivial ?_ trivial
          refine s_ef (d := some 63) rfl rfl rfl (fun dr => slFDScan_22.append rfl rfl H) ?_ trivial
          rintro _ h12 ⟨s75, rfl, H⟩
          refine ⟨trivial, ?_⟩
          refine s_pu (d := some 8) (v := (Sl.v s75)) rfl rfl rfl (r_assign rfl) ?_
          refine s_fin ?_
          show W _ _ _ _ _ _ _ _
          refine W_region (.pu 0 (.pu 1 .fin)) rfl rfl ?_
          refine s_pu (d := some 64) (v := (.int .i64 (w64 (x59 + 1)))) rfl rfl rfl (r_add rfl rfl) ?_
          refine s_pu (d := some 40) (v := (.int .i64 (w64 (x59 + 1)))) rfl rfl rfl (r_move rfl) ?_
          refine s_fin ?_
          exact WL_mk (l := [(1, (Sl.v l3)), (2, (.pointer (some p4))), (6, (Sl.v y56)), (7, (.int .i64 y57)), (8, (Sl.v s75)), (39, (.int .i64 ((l3.len : Int)))), (40, (.int .i64 (w64 (x59 + 1))))]) H ⟨rfl, rfl, rfl, rfl, rfl, rfl, rfl, trivial⟩)
        clear eN71
        refine W_if (decide ((Int.tmod x59 2) = 1)) rfl (fun g88 => ?_) (fun g88 => ?_)
        · have H := H.1 g88
          refine W_draw [0, 1, 0, 0, 0, 16, 56, 120, 255, 511] (.pu 0 (.rd 1 (.pu 2 (.pu 3 (.pu 4 (.pu 5 (.pu 6 (.rd 7 (.ef 8 [1, 7] (.pu 9 .fin) .no))))))))) (by kernel_rfl) (by kernel_rfl) ?_
          refine s_pu (d := some 51) (v := (.pointer (some (Addr.add p4 1)))) rfl rfl rfl (r_fieldAddr Tryd.underlying106 Tryd.sizeOf103 rfl rfl rfl) ?_
          obtain ⟨x76, e77, H⟩ := H
          refine s_rd (d := some 52) (v := x76) rfl rfl rfl (fun dr => r_load1 Tryd.isAgg103 rfl e77) ?_
          refine s_pu (d := some 53) (v := (.int .i64 x67)) rfl rfl rfl (r_move rfl) ?_
          refine s_pu (d := some 54) (v := (Sl.v l3)) rfl rfl rfl (r_move rfl) ?_
          refine s_pu (d := some 55) (v := (.int .i64 x59)) rfl rfl rfl (r_move rfl) ?_
          refine s_pu (d := some 56) (v := (.int .i64 (w64 (x59 - 1)))) rfl rfl rfl (r_sub rfl rfl) ?_
          obtain ⟨p78, e79, e80, e81, H⟩ := H
          obtain ⟨q82, e83⟩ : ∃ q : Addr, q = Addr.add p78 (Int.toNat (w64 (x59 - 1)) * 1) := ⟨_, rfl⟩
          rw [← e83] at H
          refine s_pu (d := some 57) (v := (.pointer (some q82))) rfl rfl rfl (fun w => (r_indexAddr Tryd.underlying22 Tryd.sizeOf3 rfl rfl e79 e80 e81 w).trans (by rw [e83])) ?_
          obtain ⟨x84, e85, H⟩ := H
          refine s_rd (d := some 58) (v := (.int .i64 x84)) rfl rfl rfl (fun dr => r_load1 Tryd.isAgg3 rfl e85) ?_
          refine s_ef (d := some 59) rfl rfl rfl (fun dr => r_callV rfl rfl H) ?_ trivial
          rintro _ h13 ⟨y86, rfl, H⟩
          refine ⟨⟨trivial, trivial, trivial⟩, ?_⟩
          refine s_pu (d := some 10) (v := (.int .i64 y86)) rfl rfl rfl (r_assign rfl) ?_
          refine s_fin ?_
          exact N_mk (l := [(1, (Sl.v l3)), (2, (.pointer (some p4))), (6, (Sl.v y56)), (7, (.int .i64 y57)), (8, (Sl.v out58)), (10, (.int .i64 y86)), (39, (.int .i64 ((l3.len : Int)))), (40, (.int .i64 x59))]) H ⟨rfl, rfl, rfl, rfl, rfl, rfl, rfl, rfl, trivial⟩
        · have H := H.2 g88
          refine W_skip ?_
          exact N_mk (l := [(1, (Sl.v l3)), (2, (.pointer (some p4))), (6, (Sl.v y56)), (7, (.int .i64 y57)), (8, (Sl.v out58)), (10, (.int .i64 x67)), (39, (.int .i64 ((l3.len : Int)))), (40, (.int .i64 x59))]) H ⟨rfl, rfl, rfl, rfl, rfl, rfl, rfl, rfl, trivial⟩
      · have H := H.2 g89
        refine W_exit (inX_here ?_)
        show W _ _ _ _ _ _ _ _
        refine W_seq ?_
        refine W_region (.pu 0 (.pu 1 (.pu 2 (.pu 3 .fin)))) rfl rfl ?_
        refine s_pu (d := some 65) (v := (Sl.v out58)) rfl rfl rfl (r_move rfl) ?_
        refine s_pu (d := some 66) (v := (.int .i64 y57)) rfl rfl rfl (r_move rfl) ?_
        refine s_pu (d := some 4) (v := (Sl.v out58)) rfl rfl rfl (r_assign rfl) ?_
        refine s_pu (d := some 5) (v := (.int .i64 y57)) rfl rfl rfl (r_assign rfl) ?_
        refine s_fin ?_
        show W _ _ _ _ _ _ _ _
        refine W_ret ?_
        exact ⟨[(Sl.v out58), (.int .i64 y57)], ⟨_, _, rfl, rfl, ⟨_, _, rfl, rfl, rfl⟩⟩, out58, y57, rfl, H⟩

/-! ### scan_of_1 -/

def scan_of_1_F (r : World) (a1 : Int) (vb2 : Int) (h : Heap) (R : Int → Heap → Prop) : Prop :=
  R (w64 (a1 + vb2)) h

set_option maxRecDepth 100000 in
theorem scan_of_1_of {r : World} {a1 : Int} {vb2 : Int} {h : Heap} {R : Int → Heap → Prop} (H : scan_of_1_F r a1 vb2 h R) : scan_of_1 r a1 vb2 h R := by
  unfold scan_of_1_F at H
  refine calls_of 8 [.tmp 4] Tryd.func108 rfl rfl rfl rfl rfl ?_
  refine W_seq ?_
  refine W_region (.pu 0 .fin) rfl rfl ?_
  refine s_pu (d := some 4) (v := (.int .i64 0)) rfl rfl rfl (r_assign rfl) ?_
  refine s_fin ?_
  show W _ _ _ _ _ _ _ _
  refine W_seq ?_
  refine W_region (.pu 0 (.pu 1 (.pu 2 (.pu 3 .fin)))) rfl rfl ?_
  refine s_pu (d := some 5) (v := (.int .i64 a1)) rfl rfl rfl (r_move rfl) ?_
  refine s_pu (d := some 6) (v := (.int .i64 vb2)) rfl rfl rfl (r_move rfl) ?_
  refine s_pu (d := some 7) (v := (.int .i64 (w64 (a1 + vb2)))) rfl rfl rfl (r_add rfl rfl) ?_
  refine s_pu (d := some 4) (v := (.int .i64 (w64 (a1 + vb2)))) rfl rfl rfl (r_assign rfl) ?_
  refine s_fin ?_
  show W _ _ _ _ _ _ _ _
  refine W_ret ?_
  exact ⟨[(.int .i64 (w64 (a1 + vb2)))], ⟨_, _, rfl, rfl, rfl⟩, (w64 (a1 + vb2)), rfl, H⟩

/-! ### scan_of_2 -/

def scan_of_2_F (r : World) (a1 : Int) (vb2 : Int) (h : Heap) (R : Int → Heap → Prop) : Prop :=
  R (max a1 vb2) h

set_option maxRecDepth 100000 in
theorem scan_of_2_of {r : World} {a1 : Int} {vb2 : Int} {h : Heap} {R : Int → Heap → Prop} (H : scan_of_2_F r a1 vb2 h R) : scan_of_2 r a1 vb2 h R := by
  unfold scan_of_2_F at H
  refine calls_of 8 [.tmp 4] Tryd.func109 rfl rfl rfl rfl rfl ?_
  refine W_seq ?_
  refine W_region (.pu 0 .fin) rfl rfl ?_
  refine s_pu (d := some 4) (v := (.int .i64 0)) rfl rfl rfl (r_assign rfl) ?_
  refine s_fin ?_
  show W _ _ _ _ _ _ _ _
  refine W_seq ?_
  refine W_region (.pu 0 (.pu 1 (.pu 2 (.pu 3 .fin)))) rfl rfl ?_
  refine s_pu (d := some 5) (v := (.int .i64 a1)) rfl rfl rfl (r_move rfl) ?_
  refine s_pu (d := some 6) (v := (.int .i64 vb2)) rfl rfl rfl (r_move rfl) ?_
  refine s_pu (d := some 7) (v := (.int .i64 (max a1 vb2))) rfl rfl rfl (r_max rfl rfl) ?_
  refine s_pu (d := some 4) (v := (.int .i64 (max a1 vb2))) rfl rfl rfl (r_assign rfl) ?_
  refine s_fin ?_
  show W _ _ _ _ _ _ _ _
  refine W_ret ?_
  exact ⟨[(.int .i64 (max a1 vb2))], ⟨_, _, rfl, rfl, rfl⟩, (max a1 vb2), rfl, H⟩

/-! ### scan_of_3 -/

def scan_of_3_F (r : World) (a1 : Int) (vb2 : Int) (h : Heap) (R : Int → Heap → Prop) : Prop :=
  R (min a1 vb2) h

set_option maxRecDepth 100000 in
theorem scan_of_3_of {r : World} {a1 : Int} {vb2 : Int} {h : Heap} {R : Int → Heap → Prop} (H : scan_of_3_F r a1 vb2 h R) : scan_of_3 r a1 vb2 h R := by
  unfold scan_of_3_F at H
  refine calls_of 8 [.tmp 4] Tryd.func110 rfl rfl rfl rfl rfl ?_
  refine W_seq ?_
  refine W_region (.pu 0 .fin) rfl rfl ?_
  refine s_pu (d := some 4) (v := (.int .i64 0)) rfl rfl rfl (r_assign rfl) ?_
  refine s_fin ?_
  show W _ _ _ _ _ _ _ _
  refine W_seq ?_
  refine W_region (.pu 0 (.pu 1 (.pu 2 (.pu 3 .fin)))) rfl rfl ?_
  refine s_pu (d := some 5) (v := (.int .i64 a1)) rfl rfl rfl (r_move rfl) ?_
  refine s_pu (d := some 6) (v := (.int .i64 vb2)) rfl rfl rfl (r_move rfl) ?_
  refine s_pu (d := some 7) (v := (.int .i64 (min a1 vb2))) rfl rfl rfl (r_min rfl rfl) ?_
  refine s_pu (d := some 4) (v := (.int .i64 (min a1 vb2))) rfl rfl rfl (r_assign rfl) ?_
  refine s_fin ?_
  show W _ _ _ _ _ _ _ _
  refine W_ret ?_
  exact ⟨[(.int .i64 (min a1 vb2))], ⟨_, _, rfl, rfl, rfl⟩, (min a1 vb2), rfl, H⟩

/-! ### scan_of_4 -/

def scan_of_4_F (r : World) (a1 : Int) (vb2 : Int) (h : Heap) (R : Int → Heap → Prop) : Prop :=
  R (bXor .i64 a1 vb2) h

set_option maxRecDepth 100000 in
theorem scan_of_4_of {r : World} {a1 : Int} {vb2 : Int} {h : Heap} {R : Int → Heap → Prop} (H : scan_of_4_F r a1 vb2 h R) : scan_of_4 r a1 vb2 h R := by
  unfold scan_of_4_F at H
  refine calls_of 8 [.tmp 4] Tryd.func111 rfl rfl rfl rfl rfl ?_
  refine W_seq ?_
  refine W_region (.pu 0 .fin) rfl rfl ?_
  refine s_pu (d := some 4) (v := (.int .i64 0)) rfl rfl rfl (r_assign rfl) ?_
  refine s_fin ?_
  show W _ _ _ _ _ _ _ _
  refine W_seq ?_
  refine W_region (.pu 0 (.pu 1 (.pu 2 (.pu 3 .fin)))) rfl rfl ?_
  refine s_pu (d := some 5) (v := (.int .i64 a1)) rfl rfl rfl (r_move rfl) ?_
  refine s_pu (d := some 6) (v := (.int .i64 vb2)) rfl rfl rfl (r_move rfl) ?_
  refine s_pu (d := some 7) (v := (.int .i64 (bXor .i64 a1 vb2))) rfl rfl rfl (r_xor rfl rfl) ?_
  refine s_pu (d := some 4) (v := (.int .i64 (bXor .i64 a1 vb2))) rfl rfl rfl (r_assign rfl) ?_
  refine s_fin ?_
  show W _ _ _ _ _ _ _ _
  refine W_ret ?_
  exact ⟨[(.int .i64 (bXor .i64 a1 vb2))], ⟨_, _, rfl, rfl, rfl⟩, (bXor .i64 a1 vb2), rfl, H⟩

/-! ### scan_op_pairs -/

def scan_op_pairs_F (r : World) (o1 : Int) (o2 : Value) (l3 : Sl) (h : Heap) (R : Sl → Heap → Prop) : Prop :=
  New h (.cells #[(.int .i64 o1), o2] 106) fun p4 h1 =>
  New h1 (.cells #[(Sl.v Sl.nil)] 22) fun p7 h2 =>
  slices_Chunk_int_int r l3 2 h2 fun y10 h3 =>
  ∀ (D11 : Nat) (o12 : Obj) (h4 : Heap), D11 = Array.size h3 → h4 = (h3.push (.deferred (some []))).push o12 → notCells o12 = true →
    (∀ (a21 : Sl) (h5 : Heap) (K13 : Value → Heap → Prop), (h5[D11 + 1]? = some o12) →
      (∀ h8 : Heap, h8 = hput h5 (D11 + 1) (busyO o12) →
        Br (decide (((a21.len : Int)) = 2)) (
          LdS h8 p7 fun x22 =>
          LdV h8 (Addr.add p4 1) fun x24 =>
          Ix a21 0 1 fun q30 =>
          LdI h8 q30 fun x32 =>
          Ix a21 1 1 fun q38 =>
          LdI h8 q38 fun x40 =>
          CallV Tryd.prog r x24 [(.int .i64 x32), (.int .i64 x40)] h8 fun v51 h9 => ∃ (y42 : Int), v51 = (.int .i64 y42) ∧
          (hcell h9 p7 = some (Sl.v x22)) ∧
          New h9 (.cells #[(.int .i64 y42)] 3) fun p44 h10 =>
          (hcell h10 p7 = some (Sl.v x22)) ∧
          App 3 1 8 (.int .i64 0) x22 ((⟨some p44, 1, 1⟩ : Sl)) h10 fun s48 h11 =>
          St h11 p7 1 [(Sl.v s48)] fun h12 =>
          (h12[D11 + 1]? = some (busyO o12)) ∧ K13 (.bool true) (hput h12 (D11 + 1) o12)) (
          LdS h8 p7 fun x52 =>
          Ix a21 0 1 fun q58 =>
          LdI h8 q58 fun x60 =>
          New h8 (.cells #[(.int .i64 x60)] 3) fun p62 h13 =>
          (hcell h13 p7 = some (Sl.v x52)) ∧
          App 3 1 8 (.int .i64 0) x52 ((⟨some p62, 1, 1⟩ : Sl)) h13 fun s66 h14 =>
          St h14 p7 1 [(Sl.v s66)] fun h15 =>
          (h15[D11 + 1]? = some (busyO o12)) ∧ K13 (.bool true) (hput h15 (D11 + 1) o12))) →
      YieldH Tryd.prog r (D11 + 1) [(Sl.v a21)] h5 K13) →
  CallF Tryd.prog r y10 [.func (.yield (D11 + 1)) #[] #[]] h4 fun _ h6 => (h6[D11 + 1]? = some o12) ∧ ∀ (o20 : Obj) (h7 : Heap), h7 = hput h6 (D11 + 1) o20 →
  LdS h7 p7 fun x70 =>
  (h7[D11]? = some (.deferred (some []))) ∧ ∀ h16 : Heap, h16 = hput h7 D11 (.deferred none) →
  R x70 h16

set_option maxRecDepth 100000 in
theorem scan_op_pairs_of {r : World} {o1 : Int} {o2 : Value} {l3 : Sl} {h : Heap} {R : Sl → Heap → Prop} (H : scan_op_pairs_F r o1 o2 l3 h R) : scan_op_pairs r o1 o2 l3 h R := by
  unfold scan_op_pairs_F at H
  refine calls_of 32 [.tmp 4] Tryd.func80 rfl rfl rfl rfl rfl ?_
  refine W_seq ?_
  refine W_region (.ef 0 [] (.pu 1 .fin) .no) rfl rfl ?_
  obtain ⟨p4, e5⟩ : ∃ p : Addr, p = ⟨h.size, 0, none⟩ := ⟨_, rfl⟩
  obtain ⟨h1, e6⟩ : ∃ hh : Heap, hh = h.push (.cells #[(.int .i64 o1), o2] 106) := ⟨_, rfl⟩
  have H := H p4 h1 e5 e6
  refine s_ef1 (d := some 2) (v := (.pointer (some p4))) (h' := h1) rfl rfl rfl (fun dr => (r_box (v := (.agg #[(.int .i64 o1), o2])) rfl).trans (by rw [e5, e6]; rfl)) trivial ?_ trivial
  refine s_pu (d := some 4) (v := (Sl.v Sl.nil)) rfl rfl rfl (r_assign rfl) ?_
  refine s_fin ?_
  show W _ _ _ _ _ _ _ _
  refine W_seq ?_
  refine W_region (.ef 0 [] .fin .no) rfl rfl ?_
  obtain ⟨p7, e8⟩ : ∃ p : Addr, p = ⟨h1.size, 0, none⟩ := ⟨_, rfl⟩
  obtain ⟨h2, e9⟩ : ∃ hh : Heap, hh = h1.push (.cells #[(Sl.v Sl.nil)] 22) := ⟨_, rfl⟩
  have H := H p7 h2 e8 e9
  refine s_ef1 (d := some 5) (v := (.pointer (some p7))) (h' := h2) rfl rfl rfl (fun dr => (r_alloc Tryd.zeroValue22).trans (by rw [e8, e9]; rfl)) trivial ?_ trivial
  refine s_fin ?_
  show W _ _ _ _ _ _ _ _
  refine W_seq ?_
  refine W_seq ?_
  refine W_region (.pu 0 (.ef 1 [] .fin .no)) rfl rfl ?_
  refine s_pu (d := some 7) (v := (Sl.v l3)) rfl rfl rfl (r_move rfl) ?_
  refine s_ef (d := some 8) rfl rfl rfl (fun dr => r_call Tryd.call112 rfl rfl H) ?_ trivial
  rintro y10 h3 H
  refine ⟨trivial, ?_⟩
  refine s_fin ?_
  show W _ _ _ _ _ _ _ _
  refine W_block ?_
  refine W_rangeFunc rfl (fun fn o12 e14 => ?_)
  obtain ⟨D11, e15⟩ : ∃ D : Nat, D = Array.size h3 := ⟨_, rfl⟩
  rw [← e15] at e14 ⊢
  obtain ⟨h4, e16⟩ : ∃ hh : Heap, hh = (h3.push (.deferred (some []))).push o12 := ⟨_, rfl⟩
  rw [← e16]
  have H := H D11 o12 h4 e15 e16 (by rw [e14]; rfl) (by
    intro a21 h5 K13 e19 H
    refine round_of e14 e19 rfl ?_
    refine W_region (.pu 0 .fin) rfl rfl ?_
    refine s_pu (d := some 6) (v := (Sl.v a21)) rfl rfl rfl (r_assign rfl) ?_
    refine s_fin ?_
    refine ⟨rfl, ?_⟩
    obtain ⟨h8, e17⟩ : ∃ hh : Heap, hh = hput h5 (D11 + 1) (busyO o12) := ⟨_, rfl⟩
    rw [← e17]
    have H := H h8 e17
    refine W_block ?_
    refine W_seq ?_
    refine W_region (.pu 0 (.pu 1 (.pu 2 .fin))) rfl rfl ?_
    refine s_pu (d := some 10) (v := (Sl.v a21)) rfl rfl rfl (r_move rfl) ?_
    refine s_pu (d := some 11) (v := (.int .i64 ((a21.len : Int)))) rfl rfl rfl (r_len Tryd.underlying22 rfl) ?_
    refine s_pu (d := some 12) (v := (.bool (decide (((a21.len : Int)) = 2)))) rfl rfl rfl (r_eql rfl rfl) ?_
    refine s_fin ?_
    show W _ _ _ _ _ _ _ _
    refine W_if (decide (((a21.len : Int)) = 2)) rfl (fun g69 => ?_) (fun g69 => ?_)
    · have H := H.1 g69
      refine W_draw [0, 0, 2, 0, 8, 24, 0, 64, 192, 510, 1022, 2047, 4095] (.rd 0 (.pu 1 (.rd 2 (.pu 3 (.pu 4 (.rd 5 (.pu 6 (.pu 7 (.rd 8 (.ef 9 [2, 5, 8] (.ef 10 [2, 5, 8] (.ef 11 [0, 2, 5, 8] (.ef 12 [0, 2, 5, 8] .fin .no) .no) .no) .no)))))))))) (by kernel_rfl) (by kernel_rfl) ?_
      obtain ⟨x22, e23, H⟩ := H
      refine s_rd (d := some 13) (v := (Sl.v x22)) rfl rfl rfl (fun dr => r_load1 Tryd.isAgg22 rfl e23) ?_
      refine s_pu (d := some 14) (v := (.pointer (some (Addr.add p4 1)))) rfl rfl rfl (r_fieldAddr Tryd.underlying106 Tryd.sizeOf103 rfl rfl rfl) ?_
      obtain ⟨x24, e25, H⟩ := H
      refine s_rd (d := some 15) (v := x24) rfl rfl rfl (fun dr => r_load1 Tryd.isAgg103 rfl e25) ?_
      refine s_pu (d := some 16) (v := (Sl.v a21)) rfl rfl rfl (r_move rfl) ?_
      obtain ⟨p26, e27, e28, e29, H⟩ := H
      obtain ⟨q30, e31⟩ : ∃ q : Addr, q = Addr.add p26 (Int.toNat 0 * 1) := ⟨_, rfl⟩
      rw [← e31] at H
      refine s_pu (d := some 17) (v := (.pointer (some q30))) rfl rfl rfl (fun w => (r_indexAddr Tryd.underlying22 Tryd.sizeOf3 rfl rfl e27 e28 e29 w).trans (by rw [e31])) ?_
      obtain ⟨x32, e33, H⟩ := H
      refine s_rd (d := some 18) (v := (.int .i64 x32)) rfl rfl rfl (fun dr => r_load1 Tryd.isAgg3 rfl e33) ?_
      refine s_pu (d := some 19) (v := (Sl.v a21)) rfl rfl rfl (r_move rfl) ?_
      obtain ⟨p34, e35, e36, e37, H⟩ := H
      obtain ⟨q38, e39⟩ : ∃ q : Addr, q = Addr.add p34 (Int.toNat 1 * 1) := ⟨_, rfl⟩
      rw [← e39] at H
      refine s_pu (d := some 20) (v := (.pointer (some q38))) rfl rfl rfl (fun w => (r_indexAddr Tryd.underlying22 Tryd.sizeOf3 rfl rfl e35 e36 e37 w).trans (by rw [e39])) ?_
      obtain ⟨x40, e41, H⟩ := H
      refine s_rd (d := some 21) (v := (.int .i64 x40)) rfl rfl rfl (fun dr => r_load1 Tryd.isAgg3 rfl e41) ?_
      refine s_ef (d := some 22) rfl rfl rfl (fun dr => r_callV rfl rfl H) ?_ trivial
      rintro _ h9 ⟨y42, rfl, H⟩
      obtain ⟨e43, H⟩ := H
      refine ⟨⟨trivial, trivial, trivial, (.inl ⟨rfl, fun dr => r_load1 Tryd.isAgg22 rfl e43⟩), trivial⟩, ?_⟩
      obtain ⟨p44, e45⟩ : ∃ p : Addr, p = ⟨h9.size, 0, none⟩ := ⟨_, rfl⟩
      obtain ⟨h10, e46⟩ : ∃ hh : Heap, hh = h9.push (.cells #[(.int .i64 y42)] 3) := ⟨_, rfl⟩
      have H := H p44 h10 e45 e46
      obtain ⟨e47, H⟩ := H
      refine s_ef1 (d := some 23) (v := (Sl.v ((⟨some p44, 1, 1⟩ : Sl)))) (h' := h10) rfl rfl rfl (fun dr => (slFDScan_22.build (cells := #[(.int .i64 y42)]) (by decide) rfl (by kernel_rfl)).trans (by rw [e45, e46]; rfl)) ⟨trivial, trivial, trivial, (.inl ⟨rfl, fun dr => r_load1 Tryd.isAgg22 rfl e47⟩), trivial⟩ ?_ trivial
      refine s_ef (d := some 24) rfl rfl rfl (fun dr => slFDScan_22.append rfl rfl H) ?_ trivial
      rintro _ h11 ⟨s48, rfl, H⟩
      refine ⟨⟨trivial, trivial, trivial, trivial, trivial⟩, ?_⟩
      obtain ⟨e50, H⟩ := H
      obtain ⟨h12, e49⟩ : ∃ hh : Heap, hh = hsets h11 p7 0 [(Sl.v s48)] := ⟨_, rfl⟩
      have H := H h12 e49
      refine s_st (d := none) (h' := h12) rfl rfl rfl (fun dr => (r_store (v := (Sl.v s48)) Tryd.sizeOf22 rfl rfl rfl (one_all rfl) e50).trans (by rw [e49]; rfl)) ⟨trivial, trivial, trivial, trivial, trivial⟩ ?_ trivial
      refine s_fin ?_
      exact H
    · have H := H.2 g69
      refine W_draw [0, 0, 2, 6, 14, 31, 63] (.rd 0 (.pu 1 (.pu 2 (.rd 3 (.ef 4 [3] (.ef 5 [0, 3] (.ef 6 [0, 3] .fin .no) .no) .no))))) (by kernel_rfl) (by kernel_rfl) ?_
      obtain ⟨x52, e53, H⟩ := H
      refine s_rd (d := some 25) (v := (Sl.v x52)) rfl rfl rfl (fun dr => r_load1 Tryd.isAgg22 rfl e53) ?_
      refine s_pu (d := some 26) (v := (Sl.v a21)) rfl rfl rfl (r_move rfl) ?_
      obtain ⟨p54, e55, e56, e57, H⟩ := H
      obtain ⟨q58, e59⟩ : ∃ q : Addr, q = Addr.add p54 (Int.toNat 0 * 1) := ⟨_, rfl⟩
      rw [← e59] at H
      refine s_pu (d := some 27) (v := (.pointer (some q58))) rfl rfl rfl (fun w => (r_indexAddr Tryd.underlying22 Tryd.sizeOf3 rfl rfl e55 e56 e57 w).trans (by rw [e59])) ?_
      obtain ⟨x60, e61, H⟩ := H
      refine s_rd (d := some 28) (v := (.int .i64 x60)) rfl rfl rfl (fun dr => r_load1 Tryd.isAgg3 rfl e61) ?_
      obtain ⟨p62, e63⟩ : ∃ p : Addr, p = ⟨h8.size, 0, none⟩ := ⟨_, rfl⟩
      obtain ⟨h13, e64⟩ : ∃ hh : Heap, hh = h8.push (.cells #[(.int .i64 x60)] 3) := ⟨_, rfl⟩
      have H := H p62 h13 e63 e64
      obtain ⟨e65, H⟩ := H
      refine s_ef1 (d := some 29) (v := (Sl.v ((⟨some p62, 1, 1⟩ : Sl)))) (h' := h13) rfl rfl rfl (fun dr => (slFDScan_22.build (cells := #[(.int .i64 x60)]) (by decide) rfl (by kernel_rfl)).trans (by rw [e63, e64]; rfl)) ⟨trivial, (.inl ⟨rfl, fun dr => r_load1 Tryd.isAgg22 rfl e65⟩), trivial⟩ ?_ trivial
      refine s_ef (d := some 30) rfl rfl rfl (fun dr => slFDScan_22.append rfl rfl H) ?_ trivial
      rintro _ h14 ⟨s66, rfl, H⟩
      refine ⟨⟨trivial, trivial, trivial⟩, ?_⟩
      obtain ⟨e68, H⟩ := H
      obtain ⟨h15, e67⟩ : ∃ hh : Heap, hh = hsets h14 p7 0 [(Sl.v s66)] := ⟨_, rfl⟩
      have H := H h15 e67
      refine s_st (d := none) (h' := h15) rfl rfl rfl (fun dr => (r_store (v := (Sl.v s66)) Tryd.sizeOf22 rfl rfl rfl (one_all rfl) e68).trans (by rw [e67]; rfl)) ⟨trivial, trivial, trivial⟩ ?_ trivial
      refine s_fin ?_
      exact H)
  refine CallF.mono H (fun _ h6 hx => ?_)
  obtain ⟨e19, H⟩ := hx
  refine ⟨e19, fun o20 => ?_⟩
  obtain ⟨h7, e18⟩ : ∃ hh : Heap, hh = hput h6 (D11 + 1) o20 := ⟨_, rfl⟩
  rw [← e18]
  have H := H o20 h7 e18
  show W _ _ _ _ _ _ _ _
  refine W_seq ?_
  refine W_region (.rl 0 (.pu 1 .fin)) rfl rfl ?_
  obtain ⟨x70, e71, H⟩ := H
  refine s_rl (d := some 31) (v := (Sl.v x70)) rfl rfl rfl (fun dr => r_load1 Tryd.isAgg22 rfl e71) ?_
  refine s_pu (d := some 4) (v := (Sl.v x70)) rfl rfl rfl (r_assign rfl) ?_
  refine s_fin ?_
  show W _ _ _ _ _ _ _ _
  refine W_ret ?_
  obtain ⟨e73, H⟩ := H
  obtain ⟨h16, e72⟩ : ∃ hh : Heap, hh = hput h7 D11 (.deferred none) := ⟨_, rfl⟩
  have H := H h16 e72
  refine ⟨D11, rfl, e73, ?_⟩
  rw [← e72]
  exact ⟨[(Sl.v x70)], ⟨_, _, rfl, rfl, rfl⟩, x70, rfl, H⟩

/-! ### slices_Chunk_int_int -/

def slices_Chunk_int_int_F (r : World) (s1 : Sl) (n2 : Int) (h : Heap) (R : Value → Heap → Prop) : Prop :=
  New h (.cells #[(Sl.v s1)] 22) fun p3 h1 =>
  New h1 (.cells #[(.int .i64 n2)] 3) fun p6 h2 =>
  LdI h2 p6 fun x9 =>
  ∀ J11 : Heap → Prop, (∀ (h3 : Heap),
    (R ((.func (.func 133) #[] #[(.pointer (some p3)), (.pointer (some p6))])) h3) →
    J11 h3) →
  Br (decide (x9 < 1)) (
    False) (
    J11 h2)

set_option maxRecDepth 100000 in
theorem slices_Chunk_int_int_of {r : World} {s1 : Sl} {n2 : Int} {h : Heap} {R : Value → Heap → Prop} (H : slices_Chunk_int_int_F r s1 n2 h R) : slices_Chunk_int_int r s1 n2 h R := by
  unfold slices_Chunk_int_int_F at H
  refine calls_of 9 [.tmp 4] Tryd.func112 rfl rfl rfl rfl rfl ?_
  refine W_seq ?_
  refine W_region (.ef 0 [] (.ef 1 [] (.pu 2 .fin) .no) .no) rfl rfl ?_
  obtain ⟨p3, e4⟩ : ∃ p : Addr, p = ⟨h.size, 0, none⟩ := ⟨_, rfl⟩
  obtain ⟨h1, e5⟩ : ∃ hh : Heap, hh = h.push (.cells #[(Sl.v s1)] 22) := ⟨_, rfl⟩
  have H := H p3 h1 e4 e5
  refine s_ef1 (d := some 2) (v := (.pointer (some p3))) (h' := h1) rfl rfl rfl (fun dr => (r_box (v := (Sl.v s1)) rfl).trans (by rw [e4, e5]; rfl)) trivial ?_ trivial
  obtain ⟨p6, e7⟩ : ∃ p : Addr, p = ⟨h1.size, 0, none⟩ := ⟨_, rfl⟩
  obtain ⟨h2, e8⟩ : ∃ hh : Heap, hh = h1.push (.cells #[(.int .i64 n2)] 3) := ⟨_, rfl⟩
  have H := H p6 h2 e7 e8
  refine s_ef1 (d := some 3) (v := (.pointer (some p6))) (h' := h2) rfl rfl rfl (fun dr => (r_box (v := (.int .i64 n2)) rfl).trans (by rw [e7, e8]; rfl)) trivial ?_ trivial
  refine s_pu (d := some 4) (v := .nilFunc) rfl rfl rfl (r_assign rfl) ?_
  refine s_fin ?_
  show W _ _ _ _ _ _ _ _
  refine W_seq ?_
  refine W_seq ?_
  refine W_region (.rl 0 (.pu 1 .fin)) rfl rfl ?_
  obtain ⟨x9, e10, H⟩ := H
  refine s_rl (d := some 5) (v := (.int .i64 x9)) rfl rfl rfl (fun dr => r_load1 Tryd.isAgg3 rfl e10) ?_
  refine s_pu (d := some 6) (v := (.bool (decide (x9 < 1)))) rfl rfl rfl (r_lss rfl rfl) ?_
  refine s_fin ?_
  show W _ _ _ _ _ _ _ _
  refine W_set ?_
  intro N12 eN12
  have H := H (fun (h3 : Heap) => ∀ b, N12 [] (mkE [(2, (.pointer (some p3))), (3, (.pointer (some p6)))] b) h3) (by
    intro h3 H b
    rw [eN12]
    show W _ _ _ _ _ _ _ _
    refine W_seq ?_
    refine W_region (.pu 0 (.pu 1 .fin)) rfl rfl ?_
    refine s_pu (d := some 8) (v := ((.func (.func 133) #[] #[(.pointer (some p3)), (.pointer (some p6))]))) rfl rfl rfl (r_makeFunc rfl rfl) ?_
    refine s_pu (d := some 4) (v := ((.func (.func 133) #[] #[(.pointer (some p3)), (.pointer (some p6))]))) rfl rfl rfl (r_assign rfl) ?_
    refine s_fin ?_
    show W _ _ _ _ _ _ _ _
    refine W_ret ?_
    exact ⟨[((.func (.func 133) #[] #[(.pointer (some p3)), (.pointer (some p6))]))], ⟨_, _, rfl, rfl, rfl⟩, H⟩)
  clear eN12
  refine W_if (decide (x9 < 1)) rfl (fun g13 => ?_) (fun g13 => ?_)
  · have H := H.1 g13
    refine W_region (.pu 0 (.ef 1 [] .fin .no)) rfl rfl ?_
    refine s_pu (d := some 7) (v := ((.iface 9 (.string txtDScan1)))) rfl rfl rfl (r_iface Tryd.underlying9 rfl rfl) ?_
    exact H.elim
  · have H := H.2 g13
    refine W_skip ?_
    exact N_mk (l := [(2, (.pointer (some p3))), (3, (.pointer (some p6)))]) H ⟨rfl, rfl, trivial⟩

/-! ### slices_Chunk_int_int_1 -/

def slices_Chunk_int_int_1_F (r : World) (yield1 : Value) (c2 : Addr) (c3 : Addr) (h : Heap) (R : Heap → Prop) : Prop :=
  ∀ X5 : Int → Heap → Prop, (∀ (i4 : Int) (h1 : Heap),
    (LdS h1 c2 fun x6 =>
    Br (decide (i4 < ((x6.len : Int)))) (
      LdI h1 c3 fun x8 =>
      LdS h1 c2 fun x10 =>
      Sub x10 i4 ((x10.len : Int)) ((x10.cap : Int)) 1 fun s12 =>
      LdS h1 c2 fun x18 =>
      Sub x18 i4 (w64 (i4 + (min x8 ((s12.len : Int))))) (w64 (i4 + (min x8 ((s12.len : Int))))) 1 fun s20 =>
      CallV Tryd.prog r yield1 [(Sl.v s20)] h1 fun v30 h2 => ∃ (y26 : Bool), v30 = (.bool y26) ∧
      Br (!y26) (
        R h2) (
        LdI h2 c3 fun x27 =>
        X5 (w64 (i4 + x27)) h2)) (
      R h1)) →
    X5 i4 h1) →
  X5 0 h

set_option maxRecDepth 100000 in
theorem slices_Chunk_int_int_1_of {r : World} {yield1 : Value} {c2 : Addr} {c3 : Addr} {h : Heap} {R : Heap → Prop} (H : slices_Chunk_int_int_1_F r yield1 c2 c3 h R) : slices_Chunk_int_int_1 r yield1 c2 c3 h R := by
  unfold slices_Chunk_int_int_1_F at H
  refine calls_of 31 [] Tryd.func133 rfl rfl rfl rfl rfl ?_
  refine W_seq ?_
  refine W_region (.pu 0 .fin) rfl rfl ?_
  refine s_pu (d := some 4) (v := (.int .i64 0)) rfl rfl rfl (r_assign rfl) ?_
  refine s_fin ?_
  show W _ _ _ _ _ _ _ _
  refine W_block ?_
  refine W_loop (WL_mk (l := [(0, yield1), (1, (.pointer (some c2))), (2, (.pointer (some c3))), (4, (.int .i64 0))]) ?_ ⟨rfl, rfl, rfl, rfl, trivial⟩)
  refine H (fun (i4 : Int) (h1 : Heap) => ∀ b, WL _ _ _ _ _ _ (mkE [(0, yield1), (1, (.pointer (some c2))), (2, (.pointer (some c3))), (4, (.int .i64 i4))] b) h1) ?_
  intro i4 h1 H b
  refine WL_round ?_
  refine W_seq ?_
  refine W_seq ?_
  refine W_region (.pu 0 (.rl 1 (.pu 2 (.pu 3 .fin)))) rfl rfl ?_
  refine s_pu (d := some 6) (v := (.int .i64 i4)) rfl rfl rfl (r_move rfl) ?_
  obtain ⟨x6, e7, H⟩ := H
  refine s_rl (d := some 7) (v := (Sl.v x6)) rfl rfl rfl (fun dr => r_load1 Tryd.isAgg22 rfl e7) ?_
  refine s_pu (d := some 8) (v := (.int .i64 ((x6.len : Int)))) rfl rfl rfl (r_len Tryd.underlying22 rfl) ?_
  refine s_pu (d := some 9) (v := (.bool (decide (i4 < ((x6.len : Int)))))) rfl rfl rfl (r_lss rfl rfl) ?_
  refine s_fin ?_
  show W _ _ _ _ _ _ _ _
  refine W_if (decide (i4 < ((x6.len : Int)))) rfl (fun g31 => ?_) (fun g31 => ?_)
  · have H := H.1 g31
    refine W_skip ?_
    show W _ _ _ _ _ _ _ _
    refine W_seq ?_
    refine W_block ?_
    refine W_seq ?_
    refine W_draw [0, 0, 0, 6, 14, 31, 63] (.rd 0 (.rd 1 (.pu 2 (.pu 3 (.pu 4 (.pu 5 (.pu 6 .fin))))))) (by kernel_rfl) (by kernel_rfl) ?_
    obtain ⟨x8, e9, H⟩ := H
    refine s_rd (d := some 13) (v := (.int .i64 x8)) rfl rfl rfl (fun dr => r_load1 Tryd.isAgg3 rfl e9) ?_
    obtain ⟨x10, e11, H⟩ := H
    refine s_rd (d := some 14) (v := (Sl.v x10)) rfl rfl rfl (fun dr => r_load1 Tryd.isAgg22 rfl e11) ?_
    refine s_pu (d := some 15) (v := (.int .i64 i4)) rfl rfl rfl (r_move rfl) ?_
    obtain ⟨e13, e14, e15, e16, H⟩ := H
    obtain ⟨s12, e17⟩ : ∃ t : Sl, t = ⟨sliceA x10.a (Int.toNat ((x10.cap : Int))) (Int.toNat i4) 1, Int.toNat ((x10.len : Int)) - Int.toNat i4, Int.toNat ((x10.cap : Int)) - Int.toNat i4⟩ := ⟨_, rfl⟩
    have H := H s12 e17
    refine s_pu (d := some 16) (v := (Sl.v s12)) rfl rfl rfl (fun w => (r_slice (lo := (.some (.tmp 15))) (hi := .none) (mx := .none) Tryd.underlying22 Tryd.sizeOf3 rfl ((x10.cap : Int)) ((x10.len : Int)) i4 rfl ⟨rfl, rfl⟩ ⟨_, rfl⟩ e13 e14 (.inl rfl) e16 w).trans (by rw [e17]; rfl)) ?_
    refine s_pu (d := some 17) (v := (.int .i64 ((s12.len : Int)))) rfl rfl rfl (r_len Tryd.underlying22 rfl) ?_
    refine s_pu (d := some 18) (v := (.int .i64 (min x8 ((s12.len : Int))))) rfl rfl rfl (r_min rfl rfl) ?_
    refine s_pu (d := some 5) (v := (.int .i64 (min x8 ((s12.len : Int))))) rfl rfl rfl (r_assign rfl) ?_
    refine s_fin ?_
    show W _ _ _ _ _ _ _ _
    refine W_seq ?_
    refine W_region (.pu 0 (.rl 1 (.pu 2 (.pu 3 (.pu 4 (.pu 5 (.pu 6 (.pu 7 (.pu 8 (.pu 9 (.ef 10 [] (.pu 11 .fin) .no))))))))))) rfl rfl ?_
    refine s_pu (d := some 19) (v := yield1) rfl rfl rfl (r_move rfl) ?_
    obtain ⟨x18, e19, H⟩ := H
    refine s_rl (d := some 20) (v := (Sl.v x18)) rfl rfl rfl (fun dr => r_load1 Tryd.isAgg22 rfl e19) ?_
    refine s_pu (d := some 21) (v := (.int .i64 i4)) rfl rfl rfl (r_move rfl) ?_
    refine s_pu (d := some 22) (v := (.int .i64 i4)) rfl rfl rfl (r_move rfl) ?_
    refine s_pu (d := some 23) (v := (.int .i64 (min x8 ((s12.len : Int))))) rfl rfl rfl (r_move rfl) ?_
    refine s_pu (d := some 24) (v := (.int .i64 (w64 (i4 + (min x8 ((s12.len : Int))))))) rfl rfl rfl (r_add rfl rfl) ?_
    refine s_pu (d := some 25) (v := (.int .i64 i4)) rfl rfl rfl (r_move rfl) ?_
    refine s_pu (d := some 26) (v := (.int .i64 (min x8 ((s12.len : Int))))) rfl rfl rfl (r_move rfl) ?_
    refine s_pu (d := some 27) (v := (.int .i64 (w64 (i4 + (min x8 ((s12.len : Int))))))) rfl rfl rfl (r_add rfl rfl) ?_
    obtain ⟨e21, e22, e23, e24, H⟩ := H
    obtain ⟨s20, e25⟩ : ∃ t : Sl, t = ⟨sliceA x18.a (Int.toNat (w64 (i4 + (min x8 ((s12.len : Int)))))) (Int.toNat i4) 1, Int.toNat (w64 (i4 + (min x8 ((s12.len : Int))))) - Int.toNat i4, Int.toNat (w64 (i4 + (min x8 ((s12.len : Int))))) - Int.toNat i4⟩ := ⟨_, rfl⟩
    have H := H s20 e25
    refine s_pu (d := some 28) (v := (Sl.v s20)) rfl rfl rfl (fun w => (r_slice (lo := (.some (.tmp 21))) (hi := (.some (.tmp 24))) (mx := (.some (.tmp 27))) Tryd.underlying22 Tryd.sizeOf3 rfl (w64 (i4 + (min x8 ((s12.len : Int))))) (w64 (i4 + (min x8 ((s12.len : Int))))) i4 ⟨_, rfl⟩ ⟨_, rfl⟩ ⟨_, rfl⟩ e21 e22 (.inr e23) e24 w).trans (by rw [e25]; rfl)) ?_
    refine s_ef (d := some 29) rfl rfl rfl (fun dr => r_callV rfl rfl H) ?_ trivial
    rintro _ h2 ⟨y26, rfl, H⟩
    refine ⟨trivial, ?_⟩
    refine s_pu (d := some 30) (v := (.bool (!y26))) rfl rfl rfl (r_not rfl) ?_
    refine s_fin ?_
    show W _ _ _ _ _ _ _ _
    refine W_if (!y26) rfl (fun g29 => ?_) (fun g29 => ?_)
    · have H := H.1 g29
      refine W_ret ?_
      exact ⟨[], rfl, rfl, H⟩
    · have H := H.2 g29
      refine W_skip ?_
      show W _ _ _ _ _ _ _ _
      refine W_region (.pu 0 (.rl 1 (.pu 2 (.pu 3 .fin)))) rfl rfl ?_
      refine s_pu (d := some 10) (v := (.int .i64 i4)) rfl rfl rfl (r_move rfl) ?_
      obtain ⟨x27, e28, H⟩ := H
      refine s_rl (d := some 11) (v := (.int .i64 x27)) rfl rfl rfl (fun dr => r_load1 Tryd.isAgg3 rfl e28) ?_
      refine s_pu (d := some 12) (v := (.int .i64 (w64 (i4 + x27)))) rfl rfl rfl (r_add rfl rfl) ?_
      refine s_pu (d := some 4) (v := (.int .i64 (w64 (i4 + x27)))) rfl rfl rfl (r_assign rfl) ?_
      refine s_fin ?_
      exact WL_mk (l := [(0, yield1), (1, (.pointer (some c2))), (2, (.pointer (some c3))), (4, (.int .i64 (w64 (i4 + x27))))]) H ⟨rfl, rfl, rfl, rfl, trivial⟩
  · have H := H.2 g31
    refine W_exit (inX_here ?_)
    exact ⟨[], rfl, rfl, H⟩

/-! ### law5_scanned -/

def law5_scanned_F (r : World)  (h : Heap) (R : Bool → Heap → Prop) : Prop :=
  New h (.cells #[(.int .i64 5), (.int .i64 3)] 3) fun p1 h1 =>
  scan_Scan r 1 ((⟨some p1, 2, 2⟩ : Sl)) h1 fun y4 y5 h2 =>
  New h2 (.cells #[(.int .i64 5), (.int .i64 8)] 3) fun p6 h3 =>
  same_Ints r y4 ((⟨some p6, 2, 2⟩ : Sl)) h3 fun y9 h4 =>
  (isIface y5 = true) ∧
  R ((isNil y5) && y9) h4

set_option maxRecDepth 100000 in
theorem law5_scanned_of {r : World}  {h : Heap} {R : Bool → Heap → Prop} (H : law5_scanned_F r  h R) : law5_scanned r  h R := by
  unfold law5_scanned_F at H
  refine calls_of 17 [.tmp 0] Tryd.func26 rfl rfl rfl rfl rfl ?_
  refine W_seq ?_
  refine W_region (.pu 0 .fin) rfl rfl ?_
  refine s_pu (d := some 0) (v := (.bool false)) rfl rfl rfl (r_assign rfl) ?_
  refine s_fin ?_
  show W _ _ _ _ _ _ _ _
  refine W_seq ?_
  refine W_region (.ef 0 [] (.ef 1 [] (.pu 2 (.pu 3 (.pu 4 (.pu 5 (.pu 6 .fin))))) .no) .no) rfl rfl ?_
  obtain ⟨p1, e2⟩ : ∃ p : Addr, p = ⟨h.size, 0, none⟩ := ⟨_, rfl⟩
  obtain ⟨h1, e3⟩ : ∃ hh : Heap, hh = h.push (.cells #[(.int .i64 5), (.int .i64 3)] 3) := ⟨_, rfl⟩
  have H := H p1 h1 e2 e3
  refine s_ef1 (d := some 5) (v := (Sl.v ((⟨some p1, 2, 2⟩ : Sl)))) (h' := h1) rfl rfl rfl (fun dr => (slFDScan_22.build (cells := #[(.int .i64 5), (.int .i64 3)]) (by decide) rfl (by kernel_rfl)).trans (by rw [e2, e3]; rfl)) trivial ?_ trivial
  refine s_ef (d := some 6) rfl rfl rfl (fun dr => r_call Tryd.call34 rfl rfl H) ?_ trivial
  rintro _ h2 ⟨y4, y5, rfl, H⟩
  refine ⟨trivial, ?_⟩
  refine s_pu (d := some 4) (v := (.tuple #[(Sl.v y4), y5])) rfl rfl rfl (r_move rfl) ?_
  refine s_pu (d := some 7) (v := (Sl.v y4)) rfl rfl rfl (r_extract rfl rfl) ?_
  refine s_pu (d := some 8) (v := y5) rfl rfl rfl (r_extract rfl rfl) ?_
  refine s_pu (d := some 1) (v := (Sl.v y4)) rfl rfl rfl (r_assign rfl) ?_
  refine s_pu (d := some 2) (v := y5) rfl rfl rfl (r_assign rfl) ?_
  refine s_fin ?_
  show W _ _ _ _ _ _ _ _
  refine W_seq ?_
  refine W_region (.pu 0 (.ef 1 [] (.ef 2 [] (.pu 3 .fin) .no) .no)) rfl rfl ?_
  refine s_pu (d := some 9) (v := (Sl.v y4)) rfl rfl rfl (r_move rfl) ?_
  obtain ⟨p6, e7⟩ : ∃ p : Addr, p = ⟨h2.size, 0, none⟩ := ⟨_, rfl⟩
  obtain ⟨h3, e8⟩ : ∃ hh : Heap, hh = h2.push (.cells #[(.int .i64 5), (.int .i64 8)] 3) := ⟨_, rfl⟩
  have H := H p6 h3 e7 e8
  refine s_ef1 (d := some 10) (v := (Sl.v ((⟨some p6, 2, 2⟩ : Sl)))) (h' := h3) rfl rfl rfl (fun dr => (slFDScan_22.build (cells := #[(.int .i64 5), (.int .i64 8)]) (by decide) rfl (by kernel_rfl)).trans (by rw [e7, e8]; rfl)) trivial ?_ trivial
  refine s_ef (d := some 11) rfl rfl rfl (fun dr => r_call Tryd.call17 rfl rfl H) ?_ trivial
  rintro _ h4 ⟨y9, rfl, H⟩
  refine ⟨trivial, ?_⟩
  refine s_pu (d := some 3) (v := (.bool y9)) rfl rfl rfl (r_assign rfl) ?_
  refine s_fin ?_
  show W _ _ _ _ _ _ _ _
  refine W_seq ?_
  refine W_region (.pu 0 (.pu 1 (.pu 2 (.pu 3 (.pu 4 (.pu 5 .fin)))))) rfl rfl ?_
  refine s_pu (d := some 12) (v := y5) rfl rfl rfl (r_move rfl) ?_
  obtain ⟨e10, H⟩ := H
  refine s_pu (d := some 13) (v := (.bool (isNil y5))) rfl rfl rfl (r_nilI Tryd.underlying26 rfl e10 rfl) ?_
  refine s_pu (d := some 14) (v := (.bool (isNil y5))) rfl rfl rfl (r_move rfl) ?_
  refine S_meet (l := [(16, (.bool ((isNil y5) && y9)))]) (i := 2) ?_ (fun HJ => ?_)
  · intro b
    show S _ _ _ _ _ _
    refine s_pu (d := some 0) (v := (.bool ((isNil y5) && y9))) rfl rfl rfl (r_assign rfl) ?_
    refine s_fin ?_
    show W _ _ _ _ _ _ _ _
    refine W_ret ?_
    exact ⟨[(.bool ((isNil y5) && y9))], ⟨_, _, rfl, rfl, rfl⟩, ((isNil y5) && y9), rfl, H⟩
  · rcases Bool.eq_false_or_eq_true (isNil y5) with g11 | g11
    · refine s_pu (d := some 15) (v := (.bool y9)) rfl rfl (wants_yes rfl rfl rfl rfl g11) (r_move rfl) ?_
      refine s_pu (d := some 16) (v := (.bool y9)) rfl rfl rfl (r_pick1 rfl g11 rfl) ?_
      exact S_mk (l := [(16, (.bool ((isNil y5) && y9)))]) HJ ⟨(by rw [g11]; rfl), trivial⟩
    · refine s_sk (d := some 15) rfl rfl (wants_no rfl rfl rfl rfl g11) ?_
      refine s_pu (d := some 16) (v := (.bool false)) rfl rfl rfl (r_pick0 rfl g11 rfl) ?_
      exact S_mk (l := [(16, (.bool ((isNil y5) && y9)))]) HJ ⟨(by rw [g11]; rfl), trivial⟩

end Go.Proofs.YtcafckgflpmfgaaDoor
