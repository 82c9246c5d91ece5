/- Typed words of functions, and that they hold: printed by gen.py (an own tool of this claim) off the model's own form of each function. -/
import Derived.Test.YtcafckgflpmfgaaDoorProg
import Derived.Test.YtcafckgflpmfgaaDoorDScan
namespace Go.Proofs.YtcafckgflpmfgaaDoor
open Go Go.RowKit Go.Tw
set_option linter.unusedVariables false

theorem slFDScanR_22 : SlF Tryd.prog 22 3 1 8 (.int .i64 0) := ⟨Tryd.underlying22, ⟨Tryd.t3, by kernel_rfl, rfl, rfl, rfl⟩, rfl, Tryd.sizeOf3, Tryd.zeroValue3⟩
theorem slFDScanR_56 : SlF Tryd.prog 56 22 1 24 (Sl.v Sl.nil) := ⟨Tryd.underlying56, ⟨Tryd.t22, by kernel_rfl, rfl, rfl, rfl⟩, rfl, Tryd.sizeOf22, Tryd.zeroValue22⟩

/-! ### the calls -/

abbrev ref1_Op (r : World) (op1 : Int) (h : Heap) (R : Bool → Heap → Prop) : Prop :=
  CallsH Tryd.prog r 27 [(.int .i64 op1)] h fun v h' => ∃ (y2 : Bool), v = (.bool y2) ∧ R y2 h'

theorem ref1_Op.mono {r : World} {op1 : Int} {h : Heap} {R R' : Bool → Heap → Prop} (H : ref1_Op r op1 h R) (hr : ∀ y2 h, R y2 h → R' y2 h) : ref1_Op r op1 h R' :=
  CallsH.mono H fun _ _ hx => by
    obtain ⟨y2, hv, hR⟩ := hx
    exact ⟨y2, hv, hr _ _ hR⟩

abbrev ref1_Taken (r : World) (op1 : Int) (a2 : Int) (vb3 : Int) (h : Heap) (R : Int → Heap → Prop) : Prop :=
  CallsH Tryd.prog r 28 [(.int .i64 op1), (.int .i64 a2), (.int .i64 vb3)] h fun v h' => ∃ (y4 : Int), v = (.int .i64 y4) ∧ R y4 h'

theorem ref1_Taken.mono {r : World} {op1 : Int} {a2 : Int} {vb3 : Int} {h : Heap} {R R' : Int → Heap → Prop} (H : ref1_Taken r op1 a2 vb3 h R) (hr : ∀ y4 h, R y4 h → R' y4 h) : ref1_Taken r op1 a2 vb3 h R' :=
  CallsH.mono H fun _ _ hx => by
    obtain ⟨y4, hv, hR⟩ := hx
    exact ⟨y4, hv, hr _ _ hR⟩

abbrev ref1_Scanned (r : World) (op1 : Int) (l2 : Sl) (h : Heap) (R : Sl → Heap → Prop) : Prop :=
  CallsH Tryd.prog r 29 [(.int .i64 op1), (Sl.v l2)] h fun v h' => ∃ (y3 : Sl), v = (Sl.v y3) ∧ R y3 h'

theorem ref1_Scanned.mono {r : World} {op1 : Int} {l2 : Sl} {h : Heap} {R R' : Sl → Heap → Prop} (H : ref1_Scanned r op1 l2 h R) (hr : ∀ y3 h, R y3 h → R' y3 h) : ref1_Scanned r op1 l2 h R' :=
  CallsH.mono H fun _ _ hx => by
    obtain ⟨y3, hv, hR⟩ := hx
    exact ⟨y3, hv, hr _ _ hR⟩

abbrev ref1_Nought (r : World) (op1 : Int) (h : Heap) (R : Int → Heap → Prop) : Prop :=
  CallsH Tryd.prog r 30 [(.int .i64 op1)] h fun v h' => ∃ (y2 : Int), v = (.int .i64 y2) ∧ R y2 h'

theorem ref1_Nought.mono {r : World} {op1 : Int} {h : Heap} {R R' : Int → Heap → Prop} (H : ref1_Nought r op1 h R) (hr : ∀ y2 h, R y2 h → R' y2 h) : ref1_Nought r op1 h R' :=
  CallsH.mono H fun _ _ hx => by
    obtain ⟨y2, hv, hR⟩ := hx
    exact ⟨y2, hv, hr _ _ hR⟩

abbrev ref1_Paired (r : World) (op1 : Int) (l2 : Sl) (h : Heap) (R : Sl → Heap → Prop) : Prop :=
  CallsH Tryd.prog r 36 [(.int .i64 op1), (Sl.v l2)] h fun v h' => ∃ (y3 : Sl), v = (Sl.v y3) ∧ R y3 h'

theorem ref1_Paired.mono {r : World} {op1 : Int} {l2 : Sl} {h : Heap} {R R' : Sl → Heap → Prop} (H : ref1_Paired r op1 l2 h R) (hr : ∀ y3 h, R y3 h → R' y3 h) : ref1_Paired r op1 l2 h R' :=
  CallsH.mono H fun _ _ hx => by
    obtain ⟨y3, hv, hR⟩ := hx
    exact ⟨y3, hv, hr _ _ hR⟩

abbrev law5_ScanTells (r : World) (op1 : Int) (l2 : Sl) (a3 : Int) (vb4 : Int) (h : Heap) (R : Bool → Heap → Prop) : Prop :=
  CallsH Tryd.prog r 5 [(.int .i64 op1), (Sl.v l2), (.int .i64 a3), (.int .i64 vb4)] h fun v h' => ∃ (y5 : Bool), v = (.bool y5) ∧ R y5 h'

theorem law5_ScanTells.mono {r : World} {op1 : Int} {l2 : Sl} {a3 : Int} {vb4 : Int} {h : Heap} {R R' : Bool → Heap → Prop} (H : law5_ScanTells r op1 l2 a3 vb4 h R) (hr : ∀ y5 h, R y5 h → R' y5 h) : law5_ScanTells r op1 l2 a3 vb4 h R' :=
  CallsH.mono H fun _ _ hx => by
    obtain ⟨y5, hv, hR⟩ := hx
    exact ⟨y5, hv, hr _ _ hR⟩

abbrev law5_ScanLevels (r : World) (op1 : Int) (l2 : Sl) (h : Heap) (R : Bool → Heap → Prop) : Prop :=
  CallsH Tryd.prog r 6 [(.int .i64 op1), (Sl.v l2)] h fun v h' => ∃ (y3 : Bool), v = (.bool y3) ∧ R y3 h'

theorem law5_ScanLevels.mono {r : World} {op1 : Int} {l2 : Sl} {h : Heap} {R R' : Bool → Heap → Prop} (H : law5_ScanLevels r op1 l2 h R) (hr : ∀ y3 h, R y3 h → R' y3 h) : law5_ScanLevels r op1 l2 h R' :=
  CallsH.mono H fun _ _ hx => by
    obtain ⟨y3, hv, hR⟩ := hx
    exact ⟨y3, hv, hr _ _ hR⟩

/-! ### ref1_Op -/

def ref1_Op_F (r : World) (op1 : Int) (h : Heap) (R : Bool → Heap → Prop) : Prop :=
  R ((decide (1 ≤ op1)) && (decide (op1 ≤ 4))) h

set_option maxRecDepth 100000 in
theorem ref1_Op_of {r : World} {op1 : Int} {h : Heap} {R : Bool → Heap → Prop} (H : ref1_Op_F r op1 h R) : ref1_Op r op1 h R := by
  unfold ref1_Op_F at H
  refine calls_of 9 [.tmp 2] Tryd.func27 rfl rfl rfl rfl rfl ?_
  refine W_seq ?_
  refine W_region (.pu 0 .fin) rfl rfl ?_
  refine s_pu (d := some 2) (v := (.bool false)) rfl rfl rfl (r_assign rfl) ?_
  refine s_fin ?_
  show W _ _ _ _ _ _ _ _
  refine W_seq ?_
  refine W_region (.pu 0 (.pu 1 (.pu 2 (.pu 3 (.pu 4 (.pu 5 (.pu 6 .fin))))))) rfl rfl ?_
  refine s_pu (d := some 3) (v := (.int .i64 op1)) rfl rfl rfl (r_move rfl) ?_
  refine s_pu (d := some 4) (v := (.bool (decide (1 ≤ op1)))) rfl rfl rfl (r_geq rfl rfl) ?_
  refine s_pu (d := some 5) (v := (.bool (decide (1 ≤ op1)))) rfl rfl rfl (r_move rfl) ?_
  refine S_meet (l := [(8, (.bool ((decide (1 ≤ op1)) && (decide (op1 ≤ 4)))))]) (i := 3) ?_ (fun HJ => ?_)
  · intro b
    show S _ _ _ _ _ _
    refine s_pu (d := some 2) (v := (.bool ((decide (1 ≤ op1)) && (decide (op1 ≤ 4))))) rfl rfl rfl (r_assign rfl) ?_
    refine s_fin ?_
    show W _ _ _ _ _ _ _ _
    refine W_ret ?_
    exact ⟨[(.bool ((decide (1 ≤ op1)) && (decide (op1 ≤ 4))))], ⟨_, _, rfl, rfl, rfl⟩, ((decide (1 ≤ op1)) && (decide (op1 ≤ 4))), rfl, H⟩
  · rcases Bool.eq_false_or_eq_true (decide (1 ≤ op1)) with g2 | g2
    · refine s_pu (d := some 6) (v := (.int .i64 op1)) rfl rfl (wants_yes rfl rfl rfl rfl g2) (r_move rfl) ?_
      refine s_pu (d := some 7) (v := (.bool (decide (op1 ≤ 4)))) rfl rfl (wants_yes rfl rfl rfl rfl g2) (r_leq rfl rfl) ?_
      refine s_pu (d := some 8) (v := (.bool (decide (op1 ≤ 4)))) rfl rfl rfl (r_pick1 rfl g2 rfl) ?_
      exact S_mk (l := [(8, (.bool ((decide (1 ≤ op1)) && (decide (op1 ≤ 4)))))]) HJ ⟨(by rw [g2]; rfl), trivial⟩
    · refine s_sk (d := some 6) rfl rfl (wants_no rfl rfl rfl rfl g2) ?_
      refine s_sk (d := some 7) rfl rfl (wants_no rfl rfl rfl rfl g2) ?_
      refine s_pu (d := some 8) (v := (.bool false)) rfl rfl rfl (r_pick0 rfl g2 rfl) ?_
      exact S_mk (l := [(8, (.bool ((decide (1 ≤ op1)) && (decide (op1 ≤ 4)))))]) HJ ⟨(by rw [g2]; rfl), trivial⟩

/-! ### ref1_Taken -/

def ref1_Taken_F (r : World) (op1 : Int) (a2 : Int) (vb3 : Int) (h : Heap) (R : Int → Heap → Prop) : Prop :=
  Br (decide (op1 = 1)) (
    R (w64 (a2 + vb3)) h) (
    Br (decide (op1 = 2)) (
      R (max a2 vb3) h) (
      Br (decide (op1 = 3)) (
        R (min a2 vb3) h) (
        R (bXor .i64 a2 vb3) h)))

set_option maxRecDepth 100000 in
theorem ref1_Taken_of {r : World} {op1 : Int} {a2 : Int} {vb3 : Int} {h : Heap} {R : Int → Heap → Prop} (H : ref1_Taken_F r op1 a2 vb3 h R) : ref1_Taken r op1 a2 vb3 h R := by
  unfold ref1_Taken_F at H
  refine calls_of 25 [.tmp 6] Tryd.func28 rfl rfl rfl rfl rfl ?_
  refine W_seq ?_
  refine W_region (.pu 0 .fin) rfl rfl ?_
  refine s_pu (d := some 6) (v := (.int .i64 0)) rfl rfl rfl (r_assign rfl) ?_
  refine s_fin ?_
  show W _ _ _ _ _ _ _ _
  refine W_seq ?_
  refine W_seq ?_
  refine W_region (.pu 0 (.pu 1 .fin)) rfl rfl ?_
  refine s_pu (d := some 7) (v := (.int .i64 op1)) rfl rfl rfl (r_move rfl) ?_
  refine s_pu (d := some 8) (v := (.bool (decide (op1 = 1)))) rfl rfl rfl (r_eql rfl rfl) ?_
  refine s_fin ?_
  show W _ _ _ _ _ _ _ _
  refine W_if (decide (op1 = 1)) rfl (fun g6 => ?_) (fun g6 => ?_)
  · have H := H.1 g6
    refine W_seq ?_
    refine W_region (.pu 0 (.pu 1 (.pu 2 (.pu 3 .fin)))) rfl rfl ?_
    refine s_pu (d := some 9) (v := (.int .i64 a2)) rfl rfl rfl (r_move rfl) ?_
    refine s_pu (d := some 10) (v := (.int .i64 vb3)) rfl rfl rfl (r_move rfl) ?_
    refine s_pu (d := some 11) (v := (.int .i64 (w64 (a2 + vb3)))) rfl rfl rfl (r_add rfl rfl) ?_
    refine s_pu (d := some 6) (v := (.int .i64 (w64 (a2 + vb3)))) rfl rfl rfl (r_assign rfl) ?_
    refine s_fin ?_
    show W _ _ _ _ _ _ _ _
    refine W_ret ?_
    exact ⟨[(.int .i64 (w64 (a2 + vb3)))], ⟨_, _, rfl, rfl, rfl⟩, (w64 (a2 + vb3)), rfl, H⟩
  · have H := H.2 g6
    refine W_skip ?_
    show W _ _ _ _ _ _ _ _
    refine W_seq ?_
    refine W_seq ?_
    refine W_region (.pu 0 (.pu 1 .fin)) rfl rfl ?_
    refine s_pu (d := some 12) (v := (.int .i64 op1)) rfl rfl rfl (r_move rfl) ?_
    refine s_pu (d := some 13) (v := (.bool (decide (op1 = 2)))) rfl rfl rfl (r_eql rfl rfl) ?_
    refine s_fin ?_
    show W _ _ _ _ _ _ _ _
    refine W_if (decide (op1 = 2)) rfl (fun g5 => ?_) (fun g5 => ?_)
    · have H := H.1 g5
      refine W_seq ?_
      refine W_region (.pu 0 (.pu 1 (.pu 2 (.pu 3 .fin)))) rfl rfl ?_
      refine s_pu (d := some 14) (v := (.int .i64 a2)) rfl rfl rfl (r_move rfl) ?_
      refine s_pu (d := some 15) (v := (.int .i64 vb3)) rfl rfl rfl (r_move rfl) ?_
      refine s_pu (d := some 16) (v := (.int .i64 (max a2 vb3))) rfl rfl rfl (r_max rfl rfl) ?_
      refine s_pu (d := some 6) (v := (.int .i64 (max a2 vb3))) rfl rfl rfl (r_assign rfl) ?_
      refine s_fin ?_
      show W _ _ _ _ _ _ _ _
      refine W_ret ?_
      exact ⟨[(.int .i64 (max a2 vb3))], ⟨_, _, rfl, rfl, rfl⟩, (max a2 vb3), rfl, H⟩
    · have H := H.2 g5
      refine W_skip ?_
      show W _ _ _ _ _ _ _ _
      refine W_seq ?_
      refine W_seq ?_
      refine W_region (.pu 0 (.pu 1 .fin)) rfl rfl ?_
      refine s_pu (d := some 17) (v := (.int .i64 op1)) rfl rfl rfl (r_move rfl) ?_
      refine s_pu (d := some 18) (v := (.bool (decide (op1 = 3)))) rfl rfl rfl (r_eql rfl rfl) ?_
      refine s_fin ?_
      show W _ _ _ _ _ _ _ _
      refine W_if (decide (op1 = 3)) rfl (fun g4 => ?_) (fun g4 => ?_)
      · have H := H.1 g4
        refine W_seq ?_
        refine W_region (.pu 0 (.pu 1 (.pu 2 (.pu 3 .fin)))) rfl rfl ?_
        refine s_pu (d := some 19) (v := (.int .i64 a2)) rfl rfl rfl (r_move rfl) ?_
        refine s_pu (d := some 20) (v := (.int .i64 vb3)) rfl rfl rfl (r_move rfl) ?_
        refine s_pu (d := some 21) (v := (.int .i64 (min a2 vb3))) rfl rfl rfl (r_min rfl rfl) ?_
        refine s_pu (d := some 6) (v := (.int .i64 (min a2 vb3))) rfl rfl rfl (r_assign rfl) ?_
        refine s_fin ?_
        show W _ _ _ _ _ _ _ _
        refine W_ret ?_
        exact ⟨[(.int .i64 (min a2 vb3))], ⟨_, _, rfl, rfl, rfl⟩, (min a2 vb3), rfl, H⟩
      · have H := H.2 g4
        refine W_skip ?_
        show W _ _ _ _ _ _ _ _
        refine W_seq ?_
        refine W_region (.pu 0 (.pu 1 (.pu 2 (.pu 3 .fin)))) rfl rfl ?_
        refine s_pu (d := some 22) (v := (.int .i64 a2)) rfl rfl rfl (r_move rfl) ?_
        refine s_pu (d := some 23) (v := (.int .i64 vb3)) rfl rfl rfl (r_move rfl) ?_
        refine s_pu (d := some 24) (v := (.int .i64 (bXor .i64 a2 vb3))) rfl rfl rfl (r_xor rfl rfl) ?_
        refine s_pu (d := some 6) (v := (.int .i64 (bXor .i64 a2 vb3))) rfl rfl rfl (r_assign rfl) ?_
        refine s_fin ?_
        show W _ _ _ _ _ _ _ _
        refine W_ret ?_
        exact ⟨[(.int .i64 (bXor .i64 a2 vb3))], ⟨_, _, rfl, rfl, rfl⟩, (bXor .i64 a2 vb3), rfl, H⟩

/-! ### ref1_Scanned -/

def ref1_Scanned_F (r : World) (op1 : Int) (l2 : Sl) (h : Heap) (R : Sl → Heap → Prop) : Prop :=
  ref1_Nought r op1 h fun y3 h1 =>
  ∀ X7 : Sl → Int → Int → Heap → Prop, (∀ (out4 : Sl) (so5 : Int) (i6 : Int) (h2 : Heap),
    (Br (decide (i6 < ((l2.len : Int)))) (
      Ix l2 i6 1 fun q12 =>
      LdI h2 q12 fun x14 =>
      ref1_Taken r op1 so5 x14 h2 fun y16 h3 =>
      New h3 (.cells #[(.int .i64 y16)] 3) fun p17 h4 =>
      App 3 1 8 (.int .i64 0) out4 ((⟨some p17, 1, 1⟩ : Sl)) h4 fun s20 h5 =>
      X7 s20 y16 (w64 (i6 + 1)) h5) (
      R out4 h2)) →
    X7 out4 so5 i6 h2) →
  X7 Sl.nil y3 0 h1

set_option maxRecDepth 100000 in
theorem ref1_Scanned_of {r : World} {op1 : Int} {l2 : Sl} {h : Heap} {R : Sl → Heap → Prop} (H : ref1_Scanned_F r op1 l2 h R) : ref1_Scanned r op1 l2 h R := by
  unfold ref1_Scanned_F at H
  refine calls_of 28 [.tmp 4] Tryd.func29 rfl rfl rfl rfl rfl ?_
  refine W_seq ?_
  refine W_region (.pu 0 .fin) rfl rfl ?_
  refine s_pu (d := some 4) (v := (Sl.v Sl.nil)) rfl rfl rfl (r_assign rfl) ?_
  refine s_fin ?_
  show W _ _ _ _ _ _ _ _
  refine W_seq ?_
  refine W_region (.pu 0 .fin) rfl rfl ?_
  refine s_pu (d := some 5) (v := (Sl.v Sl.nil)) rfl rfl rfl (r_assign rfl) ?_
  refine s_fin ?_
  show W _ _ _ _ _ _ _ _
  refine W_seq ?_
  refine W_region (.pu 0 (.ef 1 [] (.pu 2 .fin) .no)) rfl rfl ?_
  refine s_pu (d := some 8) (v := (.int .i64 op1)) rfl rfl rfl (r_move rfl) ?_
  refine s_ef (d := some 9) rfl rfl rfl (fun dr => r_call Tryd.call30 rfl rfl H) ?_ trivial
  rintro _ h1 ⟨y3, rfl, H⟩
  refine ⟨trivial, ?_⟩
  refine s_pu (d := some 6) (v := (.int .i64 y3)) rfl rfl rfl (r_assign rfl) ?_
  refine s_fin ?_
  show W _ _ _ _ _ _ _ _
  refine W_seq ?_
  refine W_seq ?_
  refine W_region (.pu 0 .fin) rfl rfl ?_
  refine s_pu (d := some 7) (v := (.int .i64 0)) rfl rfl rfl (r_assign rfl) ?_
  refine s_fin ?_
  show W _ _ _ _ _ _ _ _
  refine W_block ?_
  refine W_loop (WL_mk (l := [(0, (.int .i64 op1)), (1, (Sl.v l2)), (5, (Sl.v Sl.nil)), (6, (.int .i64 y3)), (7, (.int .i64 0))]) ?_ ⟨rfl, rfl, rfl, rfl, rfl, trivial⟩)
  refine H (fun (out4 : Sl) (so5 : Int) (i6 : Int) (h2 : Heap) => ∀ b, WL _ _ _ _ _ _ (mkE [(0, (.int .i64 op1)), (1, (Sl.v l2)), (5, (Sl.v out4)), (6, (.int .i64 so5)), (7, (.int .i64 i6))] b) h2) ?_
  intro out4 so5 i6 h2 H b
  refine WL_round ?_
  refine W_seq ?_
  refine W_seq ?_
  refine W_region (.pu 0 (.pu 1 (.pu 2 (.pu 3 .fin)))) rfl rfl ?_
  refine s_pu (d := some 10) (v := (.int .i64 i6)) rfl rfl rfl (r_move rfl) ?_
  refine s_pu (d := some 11) (v := (Sl.v l2)) rfl rfl rfl (r_move rfl) ?_
  refine s_pu (d := some 12) (v := (.int .i64 ((l2.len : Int)))) rfl rfl rfl (r_len Tryd.underlying22 rfl) ?_
  refine s_pu (d := some 13) (v := (.bool (decide (i6 < ((l2.len : Int)))))) rfl rfl rfl (r_lss rfl rfl) ?_
  refine s_fin ?_
  show W _ _ _ _ _ _ _ _
  refine W_if (decide (i6 < ((l2.len : Int)))) rfl (fun g21 => ?_) (fun g21 => ?_)
  · have H := H.1 g21
    refine W_skip ?_
    show W _ _ _ _ _ _ _ _
    refine W_seq ?_
    refine W_block ?_
    refine W_seq ?_
    refine W_region (.pu 0 (.pu 1 (.pu 2 (.pu 3 (.pu 4 (.rl 5 (.ef 6 [] (.pu 7 .fin) .no))))))) rfl rfl ?_
    refine s_pu (d := some 16) (v := (.int .i64 op1)) rfl rfl rfl (r_move rfl) ?_
    refine s_pu (d := some 17) (v := (.int .i64 so5)) rfl rfl rfl (r_move rfl) ?_
    refine s_pu (d := some 18) (v := (Sl.v l2)) rfl rfl rfl (r_move rfl) ?_
    refine s_pu (d := some 19) (v := (.int .i64 i6)) rfl rfl rfl (r_move rfl) ?_
    obtain ⟨p8, e9, e10, e11, H⟩ := H
    obtain ⟨q12, e13⟩ : ∃ q : Addr, q = Addr.add p8 (Int.toNat i6 * 1) := ⟨_, rfl⟩
    rw [← e13] at H
    refine s_pu (d := some 20) (v := (.pointer (some q12))) rfl rfl rfl (fun w => (r_indexAddr Tryd.underlying22 Tryd.sizeOf3 rfl rfl e9 e10 e11 w).trans (by rw [e13])) ?_
    obtain ⟨x14, e15, H⟩ := H
    refine s_rl (d := some 21) (v := (.int .i64 x14)) rfl rfl rfl (fun dr => r_load1 Tryd.isAgg3 rfl e15) ?_
    refine s_ef (d := some 22) rfl rfl rfl (fun dr => r_call Tryd.call28 rfl rfl H) ?_ trivial
    rintro _ h3 ⟨y16, rfl, H⟩
    refine ⟨trivial, ?_⟩
    refine s_pu (d := some 6) (v := (.int .i64 y16)) rfl rfl rfl (r_assign rfl) ?_
    refine s_fin ?_
    show W _ _ _ _ _ _ _ _
    refine W_region (.pu 0 (.pu 1 (.ef 2 [] (.ef 3 [] (.pu 4 .fin) .no) .no))) rfl rfl ?_
    refine s_pu (d := some 23) (v := (Sl.v out4)) rfl rfl rfl (r_move rfl) ?_
    refine s_pu (d := some 24) (v := (.int .i64 y16)) rfl rfl rfl (r_move rfl) ?_
    obtain ⟨p17, e18⟩ : ∃ p : Addr, p = ⟨h3.size, 0, none⟩ := ⟨_, rfl⟩
    obtain ⟨h4, e19⟩ : ∃ hh : Heap, hh = h3.push (.cells #[(.int .i64 y16)] 3) := ⟨_, rfl⟩
    have H := H p17 h4 e18 e19
    refine s_ef1 (d := some 25) (v := (Sl.v ((⟨some p17, 1, 1⟩ : Sl)))) (h' := h4) rfl rfl rfl (fun dr => (slFDScanR_22.build (cells := #[(.int .i64 y16)]) (by decide) rfl (by kernel_rfl)).trans (by rw [e18, e19]; rfl)) trivial ?_ trivial
    refine s_ef (d := some 26) rfl rfl rfl (fun dr => slFDScanR_22.append rfl rfl H) ?_ trivial
    rintro _ h5 ⟨s20, rfl, H⟩
    refine ⟨trivial, ?_⟩
    refine s_pu (d := some 5) (v := (Sl.v s20)) rfl rfl rfl (r_assign rfl) ?_
    refine s_fin ?_
    show W _ _ _ _ _ _ _ _
    refine W_region (.pu 0 (.pu 1 (.pu 2 .fin))) rfl rfl ?_
    refine s_pu (d := some 14) (v := (.int .i64 i6)) rfl rfl rfl (r_move rfl) ?_
    refine s_pu (d := some 15) (v := (.int .i64 (w64 (i6 + 1)))) rfl rfl rfl (r_add rfl rfl) ?_
    refine s_pu (d := some 7) (v := (.int .i64 (w64 (i6 + 1)))) rfl rfl rfl (r_assign rfl) ?_
    refine s_fin ?_
    exact WL_mk (l := [(0, (.int .i64 op1)), (1, (Sl.v l2)), (5, (Sl.v s20)), (6, (.int .i64 y16)), (7, (.int .i64 (w64 (i6 + 1))))]) H ⟨rfl, rfl, rfl, rfl, rfl, trivial⟩
  · have H := H.2 g21
    refine W_exit (inX_here ?_)
    show W _ _ _ _ _ _ _ _
    refine W_seq ?_
    refine W_region (.pu 0 (.pu 1 .fin)) rfl rfl ?_
    refine s_pu (d := some 27) (v := (Sl.v out4)) rfl rfl rfl (r_move rfl) ?_
    refine s_pu (d := some 4) (v := (Sl.v out4)) rfl rfl rfl (r_assign rfl) ?_
    refine s_fin ?_
    show W _ _ _ _ _ _ _ _
    refine W_ret ?_
    exact ⟨[(Sl.v out4)], ⟨_, _, rfl, rfl, rfl⟩, out4, rfl, H⟩

/-! ### ref1_Nought -/

def ref1_Nought_F (r : World) (op1 : Int) (h : Heap) (R : Int → Heap → Prop) : Prop :=
  Br (decide (op1 = 2)) (
    R ((-9223372036854775808)) h) (
    Br (decide (op1 = 3)) (
      R 9223372036854775807 h) (
      R 0 h))

set_option maxRecDepth 100000 in
theorem ref1_Nought_of {r : World} {op1 : Int} {h : Heap} {R : Int → Heap → Prop} (H : ref1_Nought_F r op1 h R) : ref1_Nought r op1 h R := by
  unfold ref1_Nought_F at H
  refine calls_of 7 [.tmp 2] Tryd.func30 rfl rfl rfl rfl rfl ?_
  refine W_seq ?_
  refine W_region (.pu 0 .fin) rfl rfl ?_
  refine s_pu (d := some 2) (v := (.int .i64 0)) rfl rfl rfl (r_assign rfl) ?_
  refine s_fin ?_
  show W _ _ _ _ _ _ _ _
  refine W_seq ?_
  refine W_seq ?_
  refine W_region (.pu 0 (.pu 1 .fin)) rfl rfl ?_
  refine s_pu (d := some 3) (v := (.int .i64 op1)) rfl rfl rfl (r_move rfl) ?_
  refine s_pu (d := some 4) (v := (.bool (decide (op1 = 2)))) rfl rfl rfl (r_eql rfl rfl) ?_
  refine s_fin ?_
  show W _ _ _ _ _ _ _ _
  refine W_if (decide (op1 = 2)) rfl (fun g3 => ?_) (fun g3 => ?_)
  · have H := H.1 g3
    refine W_seq ?_
    refine W_region (.pu 0 .fin) rfl rfl ?_
    refine s_pu (d := some 2) (v := (.int .i64 ((-9223372036854775808)))) rfl rfl rfl (r_assign rfl) ?_
    refine s_fin ?_
    show W _ _ _ _ _ _ _ _
    refine W_ret ?_
    exact ⟨[(.int .i64 ((-9223372036854775808)))], ⟨_, _, rfl, rfl, rfl⟩, ((-9223372036854775808)), rfl, H⟩
  · have H := H.2 g3
    refine W_skip ?_
    show W _ _ _ _ _ _ _ _
    refine W_seq ?_
    refine W_seq ?_
    refine W_region (.pu 0 (.pu 1 .fin)) rfl rfl ?_
    refine s_pu (d := some 5) (v := (.int .i64 op1)) rfl rfl rfl (r_move rfl) ?_
    refine s_pu (d := some 6) (v := (.bool (decide (op1 = 3)))) rfl rfl rfl (r_eql rfl rfl) ?_
    refine s_fin ?_
    show W _ _ _ _ _ _ _ _
    refine W_if (decide (op1 = 3)) rfl (fun g2 => ?_) (fun g2 => ?_)
    · have H := H.1 g2
      refine W_seq ?_
      refine W_region (.pu 0 .fin) rfl rfl ?_
      refine s_pu (d := some 2) (v := (.int .i64 9223372036854775807)) rfl rfl rfl (r_assign rfl) ?_
      refine s_fin ?_
      show W _ _ _ _ _ _ _ _
      refine W_ret ?_
      exact ⟨[(.int .i64 9223372036854775807)], ⟨_, _, rfl, rfl, rfl⟩, 9223372036854775807, rfl, H⟩
    · have H := H.2 g2
      refine W_skip ?_
      show W _ _ _ _ _ _ _ _
      refine W_seq ?_
      refine W_region (.pu 0 .fin) rfl rfl ?_
      refine s_pu (d := some 2) (v := (.int .i64 0)) rfl rfl rfl (r_assign rfl) ?_
      refine s_fin ?_
      show W _ _ _ _ _ _ _ _
      refine W_ret ?_
      exact ⟨[(.int .i64 0)], ⟨_, _, rfl, rfl, rfl⟩, 0, rfl, H⟩

/-! ### ref1_Paired -/

def ref1_Paired_F (r : World) (op1 : Int) (l2 : Sl) (h : Heap) (R : Sl → Heap → Prop) : Prop :=
  ∀ X5 : Sl → Int → Heap → Prop, (∀ (out3 : Sl) (i4 : Int) (h1 : Heap),
    (Br (decide (i4 < ((l2.len : Int)))) (
      ∀ J7 : Sl → Heap → Prop, (∀ (out6 : Sl) (h2 : Heap),
        (X5 out6 (w64 (i4 + 2)) h2) →
        J7 out6 h2) →
      Br (decide ((w64 (i4 + 1)) < ((l2.len : Int)))) (
        Ix l2 i4 1 fun q13 =>
        LdI h1 q13 fun x15 =>
        Ix l2 (w64 (i4 + 1)) 1 fun q21 =>
        LdI h1 q21 fun x23 =>
        ref1_Taken r op1 x15 x23 h1 fun y25 h3 =>
        New h3 (.cells #[(.int .i64 y25)] 3) fun p26 h4 =>
        App 3 1 8 (.int .i64 0) out3 ((⟨some p26, 1, 1⟩ : Sl)) h4 fun s29 h5 =>
        J7 s29 h5) (
        Ix l2 i4 1 fun q34 =>
        LdI h1 q34 fun x36 =>
        New h1 (.cells #[(.int .i64 x36)] 3) fun p38 h6 =>
        App 3 1 8 (.int .i64 0) out3 ((⟨some p38, 1, 1⟩ : Sl)) h6 fun s41 h7 =>
        J7 s41 h7)) (
      R out3 h1)) →
    X5 out3 i4 h1) →
  X5 Sl.nil 0 h

set_option maxRecDepth 100000 in
theorem ref1_Paired_of {r : World} {op1 : Int} {l2 : Sl} {h : Heap} {R : Sl → Heap → Prop} (H : ref1_Paired_F r op1 l2 h R) : ref1_Paired r op1 l2 h R := by
  unfold ref1_Paired_F at H
  refine calls_of 40 [.tmp 4] Tryd.func36 rfl rfl rfl rfl rfl ?_
  refine W_seq ?_
  refine W_region (.pu 0 .fin) rfl rfl ?_
  refine s_pu (d := some 4) (v := (Sl.v Sl.nil)) rfl rfl rfl (r_assign rfl) ?_
  refine s_fin ?_
  show W _ _ _ _ _ _ _ _
  refine W_seq ?_
  refine W_region (.pu 0 .fin) rfl rfl ?_
  refine s_pu (d := some 5) (v := (Sl.v Sl.nil)) rfl rfl rfl (r_assign rfl) ?_
  refine s_fin ?_
  show W _ _ _ _ _ _ _ _
  refine W_seq ?_
  refine W_seq ?_
  refine W_region (.pu 0 .fin) rfl rfl ?_
  refine s_pu (d := some 6) (v := (.int .i64 0)) rfl rfl rfl (r_assign rfl) ?_
  refine s_fin ?_
  show W _ _ _ _ _ _ _ _
  refine W_block ?_
  refine W_loop (WL_mk (l := [(0, (.int .i64 op1)), (1, (Sl.v l2)), (5, (Sl.v Sl.nil)), (6, (.int .i64 0))]) ?_ ⟨rfl, rfl, rfl, rfl, trivial⟩)
  refine H (fun (out3 : Sl) (i4 : Int) (h1 : Heap) => ∀ b, WL _ _ _ _ _ _ (mkE [(0, (.int .i64 op1)), (1, (Sl.v l2)), (5, (Sl.v out3)), (6, (.int .i64 i4))] b) h1) ?_
  intro out3 i4 h1 H b
  refine WL_round ?_
  refine W_seq ?_
  refine W_seq ?_
  refine W_region (.pu 0 (.pu 1 (.pu 2 (.pu 3 .fin)))) rfl rfl ?_
  refine s_pu (d := some 7) (v := (.int .i64 i4)) rfl rfl rfl (r_move rfl) ?_
  refine s_pu (d := some 8) (v := (Sl.v l2)) rfl rfl rfl (r_move rfl) ?_
  refine s_pu (d := some 9) (v := (.int .i64 ((l2.len : Int)))) rfl rfl rfl (r_len Tryd.underlying22 rfl) ?_
  refine s_pu (d := some 10) (v := (.bool (decide (i4 < ((l2.len : Int)))))) rfl rfl rfl (r_lss rfl rfl) ?_
  refine s_fin ?_
  show W _ _ _ _ _ _ _ _
  refine W_if (decide (i4 < ((l2.len : Int)))) rfl (fun g43 => ?_) (fun g43 => ?_)
  · have H := H.1 g43
    refine W_skip ?_
    show W _ _ _ _ _ _ _ _
    refine W_seq ?_
    refine W_set ?_
    intro N8 eN8
    have H := H (fun (out6 : Sl) (h2 : Heap) => ∀ b, N8 [] (mkE [(0, (.int .i64 op1)), (1, (Sl.v l2)), (5, (Sl.v out6)), (6, (.int .i64 i4))] b) h2) (by
      intro out6 h2 H b
      rw [eN8]
      show W _ _ _ _ _ _ _ _
      refine W_region (.pu 0 (.pu 1 (.pu 2 .fin))) rfl rfl ?_
      refine s_pu (d := some 11) (v := (.int .i64 i4)) rfl rfl rfl (r_move rfl) ?_
      refine s_pu (d := some 12) (v := (.int .i64 (w64 (i4 + 2)))) rfl rfl rfl (r_add rfl rfl) ?_
      refine s_pu (d := some 6) (v := (.int .i64 (w64 (i4 + 2)))) rfl rfl rfl (r_assign rfl) ?_
      refine s_fin ?_
      exact WL_mk (l := [(0, (.int .i64 op1)), (1, (Sl.v l2)), (5, (Sl.v out6)), (6, (.int .i64 (w64 (i4 + 2))))]) H ⟨rfl, rfl, rfl, rfl, trivial⟩)
    clear eN8
    refine W_block ?_
    refine W_seq ?_
    refine W_region (.pu 0 (.pu 1 (.pu 2 (.pu 3 (.pu 4 .fin))))) rfl rfl ?_
    refine s_pu (d := some 13) (v := (.int .i64 i4)) rfl rfl rfl (r_move rfl) ?_
    refine s_pu (d := some 14) (v := (.int .i64 (w64 (i4 + 1)))) rfl rfl rfl (r_add rfl rfl) ?_
    refine s_pu (d := some 15) (v := (Sl.v l2)) rfl rfl rfl (r_move rfl) ?_
    refine s_pu (d := some 16) (v := (.int .i64 ((l2.len : Int)))) rfl rfl rfl (r_len Tryd.underlying22 rfl) ?_
    refine s_pu (d := some 17) (v := (.bool (decide ((w64 (i4 + 1)) < ((l2.len : Int)))))) rfl rfl rfl (r_lss rfl rfl) ?_
    refine s_fin ?_
    show W _ _ _ _ _ _ _ _
    refine W_if (decide ((w64 (i4 + 1)) < ((l2.len : Int)))) rfl (fun g42 => ?_) (fun g42 => ?_)
    · have H := H.1 g42
      refine W_draw [0, 0, 0, 0, 12, 28, 0, 0, 128, 448, 960, 2046, 4094, 8191, 16383] (.pu 0 (.pu 1 (.pu 2 (.pu 3 (.pu 4 (.rd 5 (.pu 6 (.pu 7 (.pu 8 (.pu 9 (.rd 10 (.ef 11 [5, 10] (.ef 12 [5, 10] (.ef 13 [5, 10] (.pu 14 .fin) .no) .no) .no)))))))))))) (by kernel_rfl) (by kernel_rfl) ?_
      refine s_pu (d := some 18) (v := (Sl.v out3)) rfl rfl rfl (r_move rfl) ?_
      refine s_pu (d := some 19) (v := (.int .i64 op1)) rfl rfl rfl (r_move rfl) ?_
      refine s_pu (d := some 20) (v := (Sl.v l2)) rfl rfl rfl (r_move rfl) ?_
      refine s_pu (d := some 21) (v := (.int .i64 i4)) rfl rfl rfl (r_move rfl) ?_
      obtain ⟨p9, e10, e11, e12, H⟩ := H
      obtain ⟨q13, e14⟩ : ∃ q : Addr, q = Addr.add p9 (Int.toNat i4 * 1) := ⟨_, rfl⟩
      rw [← e14] at H
      refine s_pu (d := some 22) (v := (.pointer (some q13))) rfl rfl rfl (fun w => (r_indexAddr Tryd.underlying22 Tryd.sizeOf3 rfl rfl e10 e11 e12 w).trans (by rw [e14])) ?_
      obtain ⟨x15, e16, H⟩ := H
      refine s_rd (d := some 23) (v := (.int .i64 x15)) rfl rfl rfl (fun dr => r_load1 Tryd.isAgg3 rfl e16) ?_
      refine s_pu (d := some 24) (v := (Sl.v l2)) rfl rfl rfl (r_move rfl) ?_
      refine s_pu (d := some 25) (v := (.int .i64 i4)) rfl rfl rfl (r_move rfl) ?_
      refine s_pu (d := some 26) (v := (.int .i64 (w64 (i4 + 1)))) rfl rfl rfl (r_add rfl rfl) ?_
      obtain ⟨p17, e18, e19, e20, H⟩ := H
      obtain ⟨q21, e22⟩ : ∃ q : Addr, q = Addr.add p17 (Int.toNat (w64 (i4 + 1)) * 1) := ⟨_, rfl⟩
      rw [← e22] at H
      refine s_pu (d := some 27) (v := (.pointer (some q21))) rfl rfl rfl (fun w => (r_indexAddr Tryd.underlying22 Tryd.sizeOf3 rfl rfl e18 e19 e20 w).trans (by rw [e22])) ?_
      obtain ⟨x23, e24, H⟩ := H
      refine s_rd (d := some 28) (v := (.int .i64 x23)) rfl rfl rfl (fun dr => r_load1 Tryd.isAgg3 rfl e24) ?_
      refine s_ef (d := some 29) rfl rfl rfl (fun dr => r_call Tryd.call28 rfl rfl H) ?_ trivial
      rintro _ h3 ⟨y25, rfl, H⟩
      refine ⟨⟨trivial, trivial, trivial⟩, ?_⟩
      obtain ⟨p26, e27⟩ : ∃ p : Addr, p = ⟨h3.size, 0, none⟩ := ⟨_, rfl⟩
      obtain ⟨h4, e28⟩ : ∃ hh : Heap, hh = h3.push (.cells #[(.int .i64 y25)] 3) := ⟨_, rfl⟩
      have H := H p26 h4 e27 e28
      refine s_ef1 (d := some 30) (v := (Sl.v ((⟨some p26, 1, 1⟩ : Sl)))) (h' := h4) rfl rfl rfl (fun dr => (slFDScanR_22.build (cells := #[(.int .i64 y25)]) (by decide) rfl (by kernel_rfl)).trans (by rw [e27, e28]; rfl)) ⟨trivial, trivial, trivial⟩ ?_ trivial
      refine s_ef (d := some 31) rfl rfl rfl (fun dr => slFDScanR_22.append rfl rfl H) ?_ trivial
      rintro _ h5 ⟨s29, rfl, H⟩
      refine ⟨⟨trivial, trivial, trivial⟩, ?_⟩
      refine s_pu (d := some 5) (v := (Sl.v s29)) rfl rfl rfl (r_assign rfl) ?_
      refine s_fin ?_
      exact N_mk (l := [(0, (.int .i64 op1)), (1, (Sl.v l2)), (5, (Sl.v s29)), (6, (.int .i64 i4))]) H ⟨rfl, rfl, rfl, rfl, trivial⟩
    · have H := H.2 g42
      refine W_region (.pu 0 (.pu 1 (.pu 2 (.pu 3 (.rl 4 (.ef 5 [] (.ef 6 [] (.pu 7 .fin) .no) .no)))))) rfl rfl ?_
      refine s_pu (d := some 32) (v := (Sl.v out3)) rfl rfl rfl (r_move rfl) ?_
      refine s_pu (d := some 33) (v := (Sl.v l2)) rfl rfl rfl (r_move rfl) ?_
      refine s_pu (d := some 34) (v := (.int .i64 i4)) rfl rfl rfl (r_move rfl) ?_
      obtain ⟨p30, e31, e32, e33, H⟩ := H
      obtain ⟨q34, e35⟩ : ∃ q : Addr, q = Addr.add p30 (Int.toNat i4 * 1) := ⟨_, rfl⟩
      rw [← e35] at H
      refine s_pu (d := some 35) (v := (.pointer (some q34))) rfl rfl rfl (fun w => (r_indexAddr Tryd.underlying22 Tryd.sizeOf3 rfl rfl e31 e32 e33 w).trans (by rw [e35])) ?_
      obtain ⟨x36, e37, H⟩ := H
      refine s_rl (d := some 36) (v := (.int .i64 x36)) rfl rfl rfl (fun dr => r_load1 Tryd.isAgg3 rfl e37) ?_
      obtain ⟨p38, e39⟩ : ∃ p : Addr, p = ⟨h1.size, 0, none⟩ := ⟨_, rfl⟩
      obtain ⟨h6, e40⟩ : ∃ hh : Heap, hh = h1.push (.cells #[(.int .i64 x36)] 3) := ⟨_, rfl⟩
      have H := H p38 h6 e39 e40
      refine s_ef1 (d := some 37) (v := (Sl.v ((⟨some p38, 1, 1⟩ : Sl)))) (h' := h6) rfl rfl rfl (fun dr => (slFDScanR_22.build (cells := #[(.int .i64 x36)]) (by decide) rfl (by kernel_rfl)).trans (by rw [e39, e40]; rfl)) trivial ?_ trivial
      refine s_ef (d := some 38) rfl rfl rfl (fun dr => slFDScanR_22.append rfl rfl H) ?_ trivial
      rintro _ h7 ⟨s41, rfl, H⟩
      refine ⟨trivial, ?_⟩
      refine s_pu (d := some 5) (v := (Sl.v s41)) rfl rfl rfl (r_assign rfl) ?_
      refine s_fin ?_
      exact N_mk (l := [(0, (.int .i64 op1)), (1, (Sl.v l2)), (5, (Sl.v s41)), (6, (.int .i64 i4))]) H ⟨rfl, rfl, rfl, rfl, trivial⟩
  · have H := H.2 g43
    refine W_exit (inX_here ?_)
    show W _ _ _ _ _ _ _ _
    refine W_seq ?_
    refine W_region (.pu 0 (.pu 1 .fin)) rfl rfl ?_
    refine s_pu (d := some 39) (v := (Sl.v out3)) rfl rfl rfl (r_move rfl) ?_
    refine s_pu (d := some 4) (v := (Sl.v out3)) rfl rfl rfl (r_assign rfl) ?_
    refine s_fin ?_
    show W _ _ _ _ _ _ _ _
    refine W_ret ?_
    exact ⟨[(Sl.v out3)], ⟨_, _, rfl, rfl, rfl⟩, out3, rfl, H⟩

/-! ### law5_ScanTells -/

def law5_ScanTells_F (r : World) (op1 : Int) (l2 : Sl) (a3 : Int) (vb4 : Int) (h : Heap) (R : Bool → Heap → Prop) : Prop :=
  law5_scanned r h fun y5 h1 =>
  ref1_Op r op1 h1 fun y6 h2 =>
  ∀ J12 : Int → Int → Int → Sl → Sl → Heap → Prop, (∀ (ve7 : Int) (take8 : Int) (fold9 : Int) (scans10 : Sl) (before11 : Sl) (h3 : Heap),
    (scan_Take r op1 a3 vb4 h3 fun y14 y15 h4 =>
    same_Error r y15 ve7 h4 fun y16 h5 =>
    scan_Fold r op1 l2 h5 fun y17 y18 h6 =>
    same_Error r y18 ve7 h6 fun y19 h7 =>
    scan_Scan r op1 l2 h7 fun y20 y21 h8 =>
    same_Error r y21 ve7 h8 fun y22 h9 =>
    same_Ints r y20 scans10 h9 fun y23 h10 =>
    scan_Before r op1 l2 h10 fun y24 y25 h11 =>
    same_Error r y25 ve7 h11 fun y26 h12 =>
    same_Ints r y24 before11 h12 fun y27 h13 =>
    ∀ x52 : Bool, x52 = ((((((((y5 && y16) && y19) && y22) && y26) && y23) && y27) && (decide (y14 = take8))) && (decide (y17 = fold9))) →
    R x52 h13) →
    J12 ve7 take8 fold9 scans10 before11 h3) →
  Br (!y6) (
    J12 3 0 0 Sl.nil Sl.nil h2) (
    ref1_Taken r op1 a3 vb4 h2 fun y62 h14 =>
    ref1_Scanned r op1 l2 h14 fun y63 h15 =>
    ref1_Nought r op1 h15 fun y64 h16 =>
    Br (decide (0 < ((l2.len : Int)))) (
      Ix y63 (w64 (((l2.len : Int)) - 1)) 1 fun q69 =>
      LdI h16 q69 fun x71 =>
      Sub y63 0 (w64 (((l2.len : Int)) - 1)) ((y63.cap : Int)) 1 fun s73 =>
      ref1_Nought r op1 h16 fun y79 h17 =>
      New h17 (.cells #[(.int .i64 y79)] 3) fun p80 h18 =>
      ref1_Cat r ((⟨some p80, 1, 1⟩ : Sl)) s73 h18 fun y83 h19 =>
      J12 0 y62 x71 y63 y83 h19) (
      J12 0 y62 y64 y63 Sl.nil h16))

set_option maxRecDepth 100000 in
theorem law5_ScanTells_of {r : World} {op1 : Int} {l2 : Sl} {a3 : Int} {vb4 : Int} {h : Heap} {R : Bool → Heap → Prop} (H : law5_ScanTells_F r op1 l2 a3 vb4 h R) : law5_ScanTells r op1 l2 a3 vb4 h R := by
  unfold law5_ScanTells_F at H
  refine calls_of 129 [.tmp 8] Tryd.func5 rfl rfl rfl rfl rfl ?_
  refine W_seq ?_
  refine W_region (.pu 0 .fin) rfl rfl ?_
  refine s_pu (d := some 8) (v := (.bool false)) rfl rfl rfl (r_assign rfl) ?_
  refine s_fin ?_
  show W _ _ _ _ _ _ _ _
  refine W_seq ?_
  refine W_region (.ef 0 [] (.pu 1 .fin) .no) rfl rfl ?_
  refine s_ef (d := some 26) rfl rfl rfl (fun dr => r_call Tryd.call26 rfl rfl H) ?_ trivial
  rintro _ h1 ⟨y5, rfl, H⟩
  refine ⟨trivial, ?_⟩
  refine s_pu (d := some 9) (v := (.bool y5)) rfl rfl rfl (r_assign rfl) ?_
  refine s_fin ?_
  show W _ _ _ _ _ _ _ _
  refine W_seq ?_
  refine W_region (.pu 0 .fin) rfl rfl ?_
  refine s_pu (d := some 10) (v := (.int .i64 0)) rfl rfl rfl (r_assign rfl) ?_
  refine s_fin ?_
  show W _ _ _ _ _ _ _ _
  refine W_seq ?_
  refine W_region (.pu 0 .fin) rfl rfl ?_
  refine s_pu (d := some 11) (v := (.int .i64 0)) rfl rfl rfl (r_assign rfl) ?_
  refine s_fin ?_
  show W _ _ _ _ _ _ _ _
  refine W_seq ?_
  refine W_region (.pu 0 .fin) rfl rfl ?_
  refine s_pu (d := some 12) (v := (.int .i64 0)) rfl rfl rfl (r_assign rfl) ?_
  refine s_fin ?_
  show W _ _ _ _ _ _ _ _
  refine W_seq ?_
  refine W_region (.pu 0 .fin) rfl rfl ?_
  refine s_pu (d := some 13) (v := (Sl.v Sl.nil)) rfl rfl rfl (r_assign rfl) ?_
  refine s_fin ?_
  show W _ _ _ _ _ _ _ _
  refine W_seq ?_
  refine W_region (.pu 0 .fin) rfl rfl ?_
  refine s_pu (d := some 14) (v := (Sl.v Sl.nil)) rfl rfl rfl (r_assign rfl) ?_
  refine s_fin ?_
  show W _ _ _ _ _ _ _ _
  refine W_seq ?_
  refine W_seq ?_
  refine W_region (.pu 0 (.ef 1 [] (.pu 2 .fin) .no)) rfl rfl ?_
  refine s_pu (d := some 27) (v := (.int .i64 op1)) rfl rfl rfl (r_move rfl) ?_
  refine s_ef (d := some 28) rfl rfl rfl (fun dr => r_call Tryd.call27 rfl rfl H) ?_ trivial
  rintro _ h2 ⟨y6, rfl, H⟩
  refine ⟨trivial, ?_⟩
  refine s_pu (d := some 29) (v := (.bool (!y6))) rfl rfl rfl (r_not rfl) ?_
  refine s_fin ?_
  show W _ _ _ _ _ _ _ _
  refine W_set ?_
  intro N13 eN13
  have H := H (fun (ve7 : Int) (take8 : Int) (fold9 : Int) (scans10 : Sl) (before11 : Sl) (h3 : Heap) => ∀ b, N13 [] (mkE [(0, (.int .i64 op1)), (1, (Sl.v l2)), (2, (.int .i64 a3)), (3, (.int .i64 vb4)), (9, (.bool y5)), (10, (.int .i64 ve7)), (11, (.int .i64 take8)), (12, (.int .i64 fold9)), (13, (Sl.v scans10)), (14, (Sl.v before11))] b) h3) (by
    intro ve7 take8 fold9 scans10 before11 h3 H b
    rw [eN13]
    show W _ _ _ _ _ _ _ _
    refine W_seq ?_
    refine W_region (.pu 0 (.pu 1 (.pu 2 (.ef 3 [] (.pu 4 (.pu 5 (.pu 6 (.pu 7 (.pu 8 .fin))))) .no)))) rfl rfl ?_
    refine s_pu (d := some 58) (v := (.int .i64 op1)) rfl rfl rfl (r_move rfl) ?_
    refine s_pu (d := some 59) (v := (.int .i64 a3)) rfl rfl rfl (r_move rfl) ?_
    refine s_pu (d := some 60) (v := (.int .i64 vb4)) rfl rfl rfl (r_move rfl) ?_
    refine s_ef (d := some 61) rfl rfl rfl (fun dr => r_call Tryd.call32 rfl rfl H) ?_ trivial
    rintro _ h4 ⟨y14, y15, rfl, H⟩
    refine ⟨trivial, ?_⟩
    refine s_pu (d := some 57) (v := (.tuple #[(.int .i64 y14), y15])) rfl rfl rfl (r_move rfl) ?_
    refine s_pu (d := some 62) (v := (.int .i64 y14)) rfl rfl rfl (r_extract rfl rfl) ?_
    refine s_pu (d := some 63) (v := y15) rfl rfl rfl (r_extract rfl rfl) ?_
    refine s_pu (d := some 15) (v := (.int .i64 y14)) rfl rfl rfl (r_assign rfl) ?_
    refine s_pu (d := some 16) (v := y15) rfl rfl rfl (r_assign rfl) ?_
    refine s_fin ?_
    show W _ _ _ _ _ _ _ _
    refine W_seq ?_
    refine W_region (.pu 0 (.pu 1 (.ef 2 [] (.pu 3 .fin) .no))) rfl rfl ?_
    refine s_pu (d := some 64) (v := y15) rfl rfl rfl (r_move rfl) ?_
    refine s_pu (d := some 65) (v := (.int .i64 ve7)) rfl rfl rfl (r_move rfl) ?_
    refine s_ef (d := some 66) rfl rfl rfl (fun dr => r_call Tryd.call12 rfl rfl H) ?_ trivial
    rintro _ h5 ⟨y16, rfl, H⟩
    refine ⟨trivial, ?_⟩
    refine s_pu (d := some 17) (v := (.bool y16)) rfl rfl rfl (r_assign rfl) ?_
    refine s_fin ?_
    show W _ _ _ _ _ _ _ _
    refine W_seq ?_
    refine W_region (.pu 0 (.pu 1 (.ef 2 [] (.pu 3 (.pu 4 (.pu 5 (.pu 6 (.pu 7 .fin))))) .no))) rfl rfl ?_
    refine s_pu (d := some 68) (v := (.int .i64 op1)) rfl rfl rfl (r_move rfl) ?_
    refine s_pu (d := some 69) (v := (Sl.v l2)) rfl rfl rfl (r_move rfl) ?_
    refine s_ef (d := some 70) rfl rfl rfl (fun dr => r_call Tryd.call33 rfl rfl H) ?_ trivial
    rintro _ h6 ⟨y17, y18, rfl, H⟩
    refine ⟨trivial, ?_⟩
    refine s_pu (d := some 67) (v := (.tuple #[(.int .i64 y17), y18])) rfl rfl rfl (r_move rfl) ?_
    refine s_pu (d := some 71) (v := (.int .i64 y17)) rfl rfl rfl (r_extract rfl rfl) ?_
    refine s_pu (d := some 72) (v := y18) rfl rfl rfl (r_extract rfl rfl) ?_
    refine s_pu (d := some 18) (v := (.int .i64 y17)) rfl rfl rfl (r_assign rfl) ?_
    refine s_pu (d := some 16) (v := y18) rfl rfl rfl (r_assign rfl) ?_
    refine s_fin ?_
    show W _ _ _ _ _ _ _ _
    refine W_seq ?_
    refine W_region (.pu 0 (.pu 1 (.ef 2 [] (.pu 3 .fin) .no))) rfl rfl ?_
    refine s_pu (d := some 73) (v := y18) rfl rfl rfl (r_move rfl) ?_
    refine s_pu (d := some 74) (v := (.int .i64 ve7)) rfl rfl rfl (r_move rfl) ?_
    refine s_ef (d := some 75) rfl rfl rfl (fun dr => r_call Tryd.call12 rfl rfl H) ?_ trivial
    rintro _ h7 ⟨y19, rfl, H⟩
    refine ⟨trivial, ?_⟩
    refine s_pu (d := some 19) (v := (.bool y19)) rfl rfl rfl (r_assign rfl) ?_
    refine s_fin ?_
    show W _ _ _ _ _ _ _ _
    refine W_seq ?_
    refine W_region (.pu 0 (.pu 1 (.ef 2 [] (.pu 3 (.pu 4 (.pu 5 (.pu 6 (.pu 7 .fin))))) .no))) rfl rfl ?_
    refine s_pu (d := some 77) (v := (.int .i64 op1)) rfl rfl rfl (r_move rfl) ?_
    refine s_pu (d := some 78) (v := (Sl.v l2)) rfl rfl rfl (r_move rfl) ?_
    refine s_ef (d := some 79) rfl rfl rfl (fun dr => r_call Tryd.call34 rfl rfl H) ?_ trivial
    rintro _ h8 ⟨y20, y21, rfl, H⟩
    refine ⟨trivial, ?_⟩
    refine s_pu (d := some 76) (v := (.tuple #[(Sl.v y20), y21])) rfl rfl rfl (r_move rfl) ?_
    refine s_pu (d := some 80) (v := (Sl.v y20)) rfl rfl rfl (r_extract rfl rfl) ?_
    refine s_pu (d := some 81) (v := y21) rfl rfl rfl (r_extract rfl rfl) ?_
    refine s_pu (d := some 20) (v := (Sl.v y20)) rfl rfl rfl (r_assign rfl) ?_
    refine s_pu (d := some 16) (v := y21) rfl rfl rfl (r_assign rfl) ?_
    refine s_fin ?_
    show W _ _ _ _ _ _ _ _
    refine W_seq ?_
    refine W_region (.pu 0 (.pu 1 (.ef 2 [] (.pu 3 .fin) .no))) rfl rfl ?_
    refine s_pu (d := some 82) (v := y21) rfl rfl rfl (r_move rfl) ?_
    refine s_pu (d := some 83) (v := (.int .i64 ve7)) rfl rfl rfl (r_move rfl) ?_
    refine s_ef (d := some 84) rfl rfl rfl (fun dr => r_call Tryd.call12 rfl rfl H) ?_ trivial
    rintro _ h9 ⟨y22, rfl, H⟩
    refine ⟨trivial, ?_⟩
    refine s_pu (d := some 21) (v := (.bool y22)) rfl rfl rfl (r_assign rfl) ?_
    refine s_fin ?_
    show W _ _ _ _ _ _ _ _
    refine W_seq ?_
    refine W_region (.pu 0 (.pu 1 (.ef 2 [] (.pu 3 .fin) .no))) rfl rfl ?_
    refine s_pu (d := some 85) (v := (Sl.v y20)) rfl rfl rfl (r_move rfl) ?_
    refine s_pu (d := some 86) (v := (Sl.v scans10)) rfl rfl rfl (r_move rfl) ?_
    refine s_ef (d := some 87) rfl rfl rfl (fun dr => r_call Tryd.call17 rfl rfl H) ?_ trivial
    rintro _ h10 ⟨y23, rfl, H⟩
    refine ⟨trivial, ?_⟩
    refine s_pu (d := some 22) (v := (.bool y23)) rfl rfl rfl (r_assign rfl) ?_
    refine s_fin ?_
    show W _ _ _ _ _ _ _ _
    refine W_seq ?_
    refine W_region (.pu 0 (.pu 1 (.ef 2 [] (.pu 3 (.pu 4 (.pu 5 (.pu 6 (.pu 7 .fin))))) .no))) rfl rfl ?_
    refine s_pu (d := some 89) (v := (.int .i64 op1)) rfl rfl rfl (r_move rfl) ?_
    refine s_pu (d := some 90) (v := (Sl.v l2)) rfl rfl rfl (r_move rfl) ?_
    refine s_ef (d := some 91) rfl rfl rfl (fun dr => r_call Tryd.call35 rfl rfl H) ?_ trivial
    rintro _ h11 ⟨y24, y25, rfl, H⟩
    refine ⟨trivial, ?_⟩
    refine s_pu (d := some 88) (v := (.tuple #[(Sl.v y24), y25])) rfl rfl rfl (r_move rfl) ?_
    refine s_pu (d := some 92) (v := (Sl.v y24)) rfl rfl rfl (r_extract rfl rfl) ?_
    refine s_pu (d := some 93) (v := y25) rfl rfl rfl (r_extract rfl rfl) ?_
    refine s_pu (d := some 23) (v := (Sl.v y24)) rfl rfl rfl (r_assign rfl) ?_
    refine s_pu (d := some 16) (v := y25) rfl rfl rfl (r_assign rfl) ?_
    refine s_fin ?_
    show W _ _ _ _ _ _ _ _
    refine W_seq ?_
    refine W_region (.pu 0 (.pu 1 (.ef 2 [] (.pu 3 .fin) .no))) rfl rfl ?_
    refine s_pu (d := some 94) (v := y25) rfl rfl rfl (r_move rfl) ?_
    refine s_pu (d := some 95) (v := (.int .i64 ve7)) rfl rfl rfl (r_move rfl) ?_
    refine s_ef (d := some 96) rfl rfl rfl (fun dr => r_call Tryd.call12 rfl rfl H) ?_ trivial
    rintro _ h12 ⟨y26, rfl, H⟩
    refine ⟨trivial, ?_⟩
    refine s_pu (d := some 24) (v := (.bool y26)) rfl rfl rfl (r_assign rfl) ?_
    refine s_fin ?_
    show W _ _ _ _ _ _ _ _
    refine W_seq ?_
    refine W_region (.pu 0 (.pu 1 (.ef 2 [] (.pu 3 .fin) .no))) rfl rfl ?_
    refine s_pu (d := some 97) (v := (Sl.v y24)) rfl rfl rfl (r_move rfl) ?_
    refine s_pu (d := some 98) (v := (Sl.v before11)) rfl rfl rfl (r_move rfl) ?_
    refine s_ef (d := some 99) rfl rfl rfl (fun dr => r_call Tryd.call17 rfl rfl H) ?_ trivial
    rintro _ h13 ⟨y27, rfl, H⟩
    refine ⟨trivial, ?_⟩
    refine s_pu (d := some 25) (v := (.bool y27)) rfl rfl rfl (r_assign rfl) ?_
    refine s_fin ?_
    show W _ _ _ _ _ _ _ _
    refine W_seq ?_
    refine W_region (.pu 0 (.pu 1 (.pu 2 (.pu 3 (.pu 4 (.pu 5 (.pu 6 (.pu 7 (.pu 8 (.pu 9 (.pu 10 (.pu 11 (.pu 12 (.pu 13 (.pu 14 (.pu 15 (.pu 16 (.pu 17 (.pu 18 (.pu 19 (.pu 20 (.pu 21 (.pu 22 (.pu 23 (.pu 24 (.pu 25 (.pu 26 (.pu 27 (.pu 28 (.pu 29 .fin)))))))))))))))))))))))))))))) rfl rfl ?_
    refine s_pu (d := some 100) (v := (.bool y5)) rfl rfl rfl (r_move rfl) ?_
    refine s_pu (d := some 101) (v := (.bool y5)) rfl rfl rfl (r_move rfl) ?_
    refine S_meet (l := [(11, (.int .i64 take8)), (12, (.int .i64 fold9)), (15, (.int .i64 y14)), (18, (.int .i64 y17)), (19, (.bool y19)), (21, (.bool y22)), (22, (.bool y23)), (24, (.bool y26)), (25, (.bool y27)), (103, (.bool (y5 && y16)))]) (i := 2) ?_ (fun HJ => ?_)
    · intro b
      show S _ _ _ _ _ _
      refine s_pu (d := some 104) (v := (.bool (y5 && y16))) rfl rfl rfl (r_move rfl) ?_
      refine S_meet (l := [(11, (.int .i64 take8)), (12, (.int .i64 fold9)), (15, (.int .i64 y14)), (18, (.int .i64 y17)), (21, (.bool y22)), (22, (.bool y23)), (24, (.bool y26)), (25, (.bool y27)), (106, (.bool ((y5 && y16) && y19)))]) (i := 2) ?_ (fun HJ => ?_)
      · intro b
        show S _ _ _ _ _ _
        refine s_pu (d := some 107) (v := (.bool ((y5 && y16) && y19))) rfl rfl rfl (r_move rfl) ?_
        refine S_meet (l := [(11, (.int .i64 take8)), (12, (.int .i64 fold9)), (15, (.int .i64 y14)), (18, (.int .i64 y17)), (22, (.bool y23)), (24, (.bool y26)), (25, (.bool y27)), (109, (.bool (((y5 && y16) && y19) && y22)))]) (i := 2) ?_ (fun HJ => ?_)
        · intro b
          show S _ _ _ _ _ _
          refine s_pu (d := some 110) (v := (.bool (((y5 && y16) && y19) && y22))) rfl rfl rfl (r_move rfl) ?_
          refine S_meet (l := [(11, (.int .i64 take8)), (12, (.int .i64 fold9)), (15, (.int .i64 y14)), (18, (.int .i64 y17)), (22, (.bool y23)), (25, (.bool y27)), (112, (.bool ((((y5 && y16) && y19) && y22) && y26)))]) (i := 2) ?_ (fun HJ => ?_)
          · intro b
            show S _ _ _ _ _ _
            refine s_pu (d := some 113) (v := (.bool ((((y5 && y16) && y19) && y22) && y26))) rfl rfl rfl (r_move rfl) ?_
            refine S_meet (l := [(11, (.int .i64 take8)), (12, (.int .i64 fold9)), (15, (.int .i64 y14)), (18, (.int .i64 y17)), (25, (.bool y27)), (115, (.bool (((((y5 && y16) && y19) && y22) && y26) && y23)))]) (i := 2) ?_ (fun HJ => ?_)
            · intro b
              show S _ _ _ _ _ _
              refine s_pu (d := some 116) (v := (.bool (((((y5 && y16) && y19) && y22) && y26) && y23))) rfl rfl rfl (r_move rfl) ?_
              refine S_meet (l := [(11, (.int .i64 take8)), (12, (.int .i64 fold9)), (15, (.int .i64 y14)), (18, (.int .i64 y17)), (118, (.bool ((((((y5 && y16) && y19) && y22) && y26) && y23) && y27)))]) (i := 2) ?_ (fun HJ => ?_)
              · intro b
                show S _ _ _ _ _ _
                refine s_pu (d := some 119) (v := (.bool ((((((y5 && y16) && y19) && y22) && y26) && y23) && y27))) rfl rfl rfl (r_move rfl) ?_
                refine S_meet (l := [(12, (.int .i64 fold9)), (18, (.int .i64 y17)), (123, (.bool (((((((y5 && y16) && y19) && y22) && y26) && y23) && y27) && (decide (y14 = take8)))))]) (i := 4) ?_ (fun HJ => ?_)
                · intro b
                  show S _ _ _ _ _ _
                  refine s_pu (d := some 124) (v := (.bool (((((((y5 && y16) && y19) && y22) && y26) && y23) && y27) && (decide (y14 = take8))))) rfl rfl rfl (r_move rfl) ?_
                  refine S_meet (l := [(128, (.bool ((((((((y5 && y16) && y19) && y22) && y26) && y23) && y27) && (decide (y14 = take8))) && (decide (y17 = fold9)))))]) (i := 4) ?_ (fun HJ => ?_)
                  · intro b
                    show S _ _ _ _ _ _
                    obtain ⟨x52, e53⟩ : ∃ x : Bool, x = ((((((((y5 && y16) && y19) && y22) && y26) && y23) && y27) && (decide (y14 = take8))) && (decide (y17 = fold9))) := ⟨_, rfl⟩
                    have H := H x52 e53
                    refine s_pu (d := some 8) (v := (.bool x52)) rfl rfl rfl (r_assign (congrArg Value.bool e53.symm)) ?_
                    refine s_fin ?_
                    show W _ _ _ _ _ _ _ _
                    refine W_ret ?_
                    exact ⟨[(.bool x52)], ⟨_, _, rfl, rfl, rfl⟩, x52, rfl, H⟩
                  · rcases Bool.eq_false_or_eq_true (((((((y5 && y16) && y19) && y22) && y26) && y23) && y27) && (decide (y14 = take8))) with g49 | g49
                    · refine s_pu (d := some 125) (v := (.int .i64 y17)) rfl rfl (wants_yes rfl rfl rfl rfl g49) (r_move rfl) ?_
                      refine s_pu (d := some 126) (v := (.int .i64 fold9)) rfl rfl (wants_yes rfl rfl rfl rfl g49) (r_move rfl) ?_
                      refine s_pu (d := some 127) (v := (.bool (decide (y17 = fold9)))) rfl rfl (wants_yes rfl rfl rfl rfl g49) (r_eql rfl rfl) ?_
                      refine s_pu (d := some 128) (v := (.bool (decide (y17 = fold9)))) rfl rfl rfl (r_pick1 rfl g49 rfl) ?_
                      exact S_mk (l := [(128, (.bool ((((((((y5 && y16) && y19) && y22) && y26) && y23) && y27) && (decide (y14 = take8))) && (decide (y17 = fold9)))))]) HJ ⟨(by rw [g49]; rfl), trivial⟩
                    · refine s_sk (d := some 125) rfl rfl (wants_no rfl rfl rfl rfl g49) ?_
                      refine s_sk (d := some 126) rfl rfl (wants_no rfl rfl rfl rfl g49) ?_
                      refine s_sk (d := some 127) rfl rfl (wants_no rfl rfl rfl rfl g49) ?_
                      refine s_pu (d := some 128) (v := (.bool false)) rfl rfl rfl (r_pick0 rfl g49 rfl) ?_
                      exact S_mk (l := [(128, (.bool ((((((((y5 && y16) && y19) && y22) && y26) && y23) && y27) && (decide (y14 = take8))) && (decide (y17 = fold9)))))]) HJ ⟨(by rw [g49]; rfl), trivial⟩
                · rcases Bool.eq_false_or_eq_true ((((((y5 && y16) && y19) && y22) && y26) && y23) && y27) with g46 | g46
                  · refine s_pu (d := some 120) (v := (.int .i64 y14)) rfl rfl (wants_yes rfl rfl rfl rfl g46) (r_move rfl) ?_
                    refine s_pu (d := some 121) (v := (.int .i64 take8)) rfl rfl (wants_yes rfl rfl rfl rfl g46) (r_move rfl) ?_
                    refine s_pu (d := some 122) (v := (.bool (decide (y14 = take8)))) rfl rfl (wants_yes rfl rfl rfl rfl g46) (r_eql rfl rfl) ?_
                    refine s_pu (d := some 123) (v := (.bool (decide (y14 = take8)))) rfl rfl rfl (r_pick1 rfl g46 rfl) ?_
                    exact S_mk (l := [(12, (.int .i64 fold9)), (18, (.int .i64 y17)), (123, (.bool (((((((y5 && y16) && y19) && y22) && y26) && y23) && y27) && (decide (y14 = take8)))))]) HJ ⟨rfl, rfl, (by rw [g46]; rfl), trivial⟩
                  · refine s_sk (d := some 120) rfl rfl (wants_no rfl rfl rfl rfl g46) ?_
                    refine s_sk (d := some 121) rfl rfl (wants_no rfl rfl rfl rfl g46) ?_
                    refine s_sk (d := some 122) rfl rfl (wants_no rfl rfl rfl rfl g46) ?_
                    refine s_pu (d := some 123) (v := (.bool false)) rfl rfl rfl (r_pick0 rfl g46 rfl) ?_
                    exact S_mk (l := [(12, (.int .i64 fold9)), (18, (.int .i64 y17)), (123, (.bool (((((((y5 && y16) && y19) && y22) && y26) && y23) && y27) && (decide (y14 = take8)))))]) HJ ⟨rfl, rfl, (by rw [g46]; rfl), trivial⟩
              · rcases Bool.eq_false_or_eq_true (((((y5 && y16) && y19) && y22) && y26) && y23) with g43 | g43
                · refine s_pu (d := some 117) (v := (.bool y27)) rfl rfl (wants_yes rfl rfl rfl rfl g43) (r_move rfl) ?_
                  refine s_pu (d := some 118) (v := (.bool y27)) rfl rfl rfl (r_pick1 rfl g43 rfl) ?_
                  exact S_mk (l := [(11, (.int .i64 take8)), (12, (.int .i64 fold9)), (15, (.int .i64 y14)), (18, (.int .i64 y17)), (118, (.bool ((((((y5 && y16) && y19) && y22) && y26) && y23) && y27)))]) HJ ⟨rfl, rfl, rfl, rfl, (by rw [g43]; rfl), trivial⟩
                · refine s_sk (d := some 117) rfl rfl (wants_no rfl rfl rfl rfl g43) ?_
                  refine s_pu (d := some 118) (v := (.bool false)) rfl rfl rfl (r_pick0 rfl g43 rfl) ?_
                  exact S_mk (l := [(11, (.int .i64 take8)), (12, (.int .i64 fold9)), (15, (.int .i64 y14)), (18, (.int .i64 y17)), (118, (.bool ((((((y5 && y16) && y19) && y22) && y26) && y23) && y27)))]) HJ ⟨rfl, rfl, rfl, rfl, (by rw [g43]; rfl), trivial⟩
            · rcases Bool.eq_false_or_eq_true ((((y5 && y16) && y19) && y22) && y26) with g40 | g40
              · refine s_pu (d := some 114) (v := (.bool y23)) rfl rfl (wants_yes rfl rfl rfl rfl g40) (r_move rfl) ?_
                refine s_pu (d := some 115) (v := (.bool y23)) rfl rfl rfl (r_pick1 rfl g40 rfl) ?_
                exact S_mk (l := [(11, (.int .i64 take8)), (12, (.int .i64 fold9)), (15, (.int .i64 y14)), (18, (.int .i64 y17)), (25, (.bool y27)), (115, (.bool (((((y5 && y16) && y19) && y22) && y26) && y23)))]) HJ ⟨rfl, rfl, rfl, rfl, rfl, (by rw [g40]; rfl), trivial⟩
              · refine s_sk (d := some 114) rfl rfl (wants_no rfl rfl rfl rfl g40) ?_
                refine s_pu (d := some 115) (v := (.bool false)) rfl rfl rfl (r_pick0 rfl g40 rfl) ?_
                exact S_mk (l := [(11, (.int .i64 take8)), (12, (.int .i64 fold9)), (15, (.int .i64 y14)), (18, (.int .i64 y17)), (25, (.bool y27)), (115, (.bool (((((y5 && y16) && y19) && y22) && y26) && y23)))]) HJ ⟨rfl, rfl, rfl, rfl, rfl, (by rw [g40]; rfl), trivial⟩
          · rcases Bool.eq_false_or_eq_true (((y5 && y16) && y19) && y22) with g37 | g37
            · refine s_pu (d := some 111) (v := (.bool y26)) rfl rfl (wants_yes rfl rfl rfl rfl g37) (r_move rfl) ?_
              refine s_pu (d := some 112) (v := (.bool y26)) rfl rfl rfl (r_pick1 rfl g37 rfl) ?_
              exact S_mk (l := [(11, (.int .i64 take8)), (12, (.int .i64 fold9)), (15, (.int .i64 y14)), (18, (.int .i64 y17)), (22, (.bool y23)), (25, (.bool y27)), (112, (.bool ((((y5 && y16) && y19) && y22) && y26)))]) HJ ⟨rfl, rfl, rfl, rfl, rfl, rfl, (by rw [g37]; rfl), trivial⟩
            · refine s_sk (d := some 111) rfl rfl (wants_no rfl rfl rfl rfl g37) ?_
              refine s_pu (d := some 112) (v := (.bool false)) rfl rfl rfl (r_pick0 rfl g37 rfl) ?_
              exact S_mk (l := [(11, (.int .i64 take8)), (12, (.int .i64 fold9)), (15, (.int .i64 y14)), (18, (.int .i64 y17)), (22, (.bool y23)), (25, (.bool y27)), (112, (.bool ((((y5 && y16) && y19) && y22) && y26)))]) HJ ⟨rfl, rfl, rfl, rfl, rfl, rfl, (by rw [g37]; rfl), trivial⟩
        · rcases Bool.eq_false_or_eq_true ((y5 && y16) && y19) with g34 | g34
          · refine s_pu (d := some 108) (v := (.bool y22)) rfl rfl (wants_yes rfl rfl rfl rfl g34) (r_move rfl) ?_
            refine s_pu (d := some 109) (v := (.bool y22)) rfl rfl rfl (r_pick1 rfl g34 rfl) ?_
            exact S_mk (l := [(11, (.int .i64 take8)), (12, (.int .i64 fold9)), (15, (.int .i64 y14)), (18, (.int .i64 y17)), (22, (.bool y23)), (24, (.bool y26)), (25, (.bool y27)), (109, (.bool (((y5 && y16) && y19) && y22)))]) HJ ⟨rfl, rfl, rfl, rfl, rfl, rfl, rfl, (by rw [g34]; rfl), trivial⟩
          · refine s_sk (d := some 108) rfl rfl (wants_no rfl rfl rfl rfl g34) ?_
            refine s_pu (d := some 109) (v := (.bool false)) rfl rfl rfl (r_pick0 rfl g34 rfl) ?_
            exact S_mk (l := [(11, (.int .i64 take8)), (12, (.int .i64 fold9)), (15, (.int .i64 y14)), (18, (.int .i64 y17)), (22, (.bool y23)), (24, (.bool y26)), (25, (.bool y27)), (109, (.bool (((y5 && y16) && y19) && y22)))]) HJ ⟨rfl, rfl, rfl, rfl, rfl, rfl, rfl, (by rw [g34]; rfl), trivial⟩
      · rcases Bool.eq_false_or_eq_true (y5 && y16) with g31 | g31
        · refine s_pu (d := some 105) (v := (.bool y19)) rfl rfl (wants_yes rfl rfl rfl rfl g31) (r_move rfl) ?_
          refine s_pu (d := some 106) (v := (.bool y19)) rfl rfl rfl (r_pick1 rfl g31 rfl) ?_
          exact S_mk (l := [(11, (.int .i64 take8)), (12, (.int .i64 fold9)), (15, (.int .i64 y14)), (18, (.int .i64 y17)), (21, (.bool y22)), (22, (.bool y23)), (24, (.bool y26)), (25, (.bool y27)), (106, (.bool ((y5 && y16) && y19)))]) HJ ⟨rfl, rfl, rfl, rfl, rfl, rfl, rfl, rfl, (by rw [g31]; rfl), trivial⟩
        · refine s_sk (d := some 105) rfl rfl (wants_no rfl rfl rfl rfl g31) ?_
          refine s_pu (d := some 106) (v := (.bool false)) rfl rfl rfl (r_pick0 rfl g31 rfl) ?_
          exact S_mk (l := [(11, (.int .i64 take8)), (12, (.int .i64 fold9)), (15, (.int .i64 y14)), (18, (.int .i64 y17)), (21, (.bool y22)), (22, (.bool y23)), (24, (.bool y26)), (25, (.bool y27)), (106, (.bool ((y5 && y16) && y19)))]) HJ ⟨rfl, rfl, rfl, rfl, rfl, rfl, rfl, rfl, (by rw [g31]; rfl), trivial⟩
    · rcases Bool.eq_false_or_eq_true y5 with g28 | g28
      · refine s_pu (d := some 102) (v := (.bool y16)) rfl rfl (wants_yes rfl rfl rfl rfl g28) (r_move rfl) ?_
        refine s_pu (d := some 103) (v := (.bool y16)) rfl rfl rfl (r_pick1 rfl g28 rfl) ?_
        exact S_mk (l := [(11, (.int .i64 take8)), (12, (.int .i64 fold9)), (15, (.int .i64 y14)), (18, (.int .i64 y17)), (19, (.bool y19)), (21, (.bool y22)), (22, (.bool y23)), (24, (.bool y26)), (25, (.bool y27)), (103, (.bool (y5 && y16)))]) HJ ⟨rfl, rfl, rfl, rfl, rfl, rfl, rfl, rfl, rfl, (by rw [g28]; rfl), trivial⟩
      · refine s_sk (d := some 102) rfl rfl (wants_no rfl rfl rfl rfl g28) ?_
        refine s_pu (d := some 103) (v := (.bool false)) rfl rfl rfl (r_pick0 rfl g28 rfl) ?_
        exact S_mk (l := [(11, (.int .i64 take8)), (12, (.int .i64 fold9)), (15, (.int .i64 y14)), (18, (.int .i64 y17)), (19, (.bool y19)), (21, (.bool y22)), (22, (.bool y23)), (24, (.bool y26)), (25, (.bool y27)), (103, (.bool (y5 && y16)))]) HJ ⟨rfl, rfl, rfl, rfl, rfl, rfl, rfl, rfl, rfl, (by rw [g28]; rfl), trivial⟩)
  clear eN13
  refine W_if (!y6) rfl (fun g85 => ?_) (fun g85 => ?_)
  · have H := H.1 g85
    refine W_region (.pu 0 .fin) rfl rfl ?_
    refine s_pu (d := some 10) (v := (.int .i64 3)) rfl rfl rfl (r_assign rfl) ?_
    refine s_fin ?_
    exact N_mk (l := [(0, (.int .i64 op1)), (1, (Sl.v l2)), (2, (.int .i64 a3)), (3, (.int .i64 vb4)), (9, (.bool y5)), (10, (.int .i64 3)), (11, (.int .i64 0)), (12, (.int .i64 0)), (13, (Sl.v Sl.nil)), (14, (Sl.v Sl.nil))]) H ⟨rfl, rfl, rfl, rfl, rfl, rfl, rfl, rfl, rfl, rfl, trivial⟩
  · have H := H.2 g85
    refine W_seq ?_
    refine W_region (.pu 0 (.pu 1 (.pu 2 (.ef 3 [] (.pu 4 .fin) .no)))) rfl rfl ?_
    refine s_pu (d := some 30) (v := (.int .i64 op1)) rfl rfl rfl (r_move rfl) ?_
    refine s_pu (d := some 31) (v := (.int .i64 a3)) rfl rfl rfl (r_move rfl) ?_
    refine s_pu (d := some 32) (v := (.int .i64 vb4)) rfl rfl rfl (r_move rfl) ?_
    refine s_ef (d := some 33) rfl rfl rfl (fun dr => r_call Tryd.call28 rfl rfl H) ?_ trivial
    rintro _ h14 ⟨y62, rfl, H⟩
    refine ⟨trivial, ?_⟩
    refine s_pu (d := some 11) (v := (.int .i64 y62)) rfl rfl rfl (r_assign rfl) ?_
    refine s_fin ?_
    show W _ _ _ _ _ _ _ _
    refine W_seq ?_
    refine W_region (.pu 0 (.pu 1 (.ef 2 [] (.pu 3 .fin) .no))) rfl rfl ?_
    refine s_pu (d := some 34) (v := (.int .i64 op1)) rfl rfl rfl (r_move rfl) ?_
    refine s_pu (d := some 35) (v := (Sl.v l2)) rfl rfl rfl (r_move rfl) ?_
    refine s_ef (d := some 36) rfl rfl rfl (fun dr => r_call Tryd.call29 rfl rfl H) ?_ trivial
    rintro _ h15 ⟨y63, rfl, H⟩
    refine ⟨trivial, ?_⟩
    refine s_pu (d := some 13) (v := (Sl.v y63)) rfl rfl rfl (r_assign rfl) ?_
    refine s_fin ?_
    show W _ _ _ _ _ _ _ _
    refine W_seq ?_
    refine W_region (.pu 0 (.ef 1 [] (.pu 2 .fin) .no)) rfl rfl ?_
    refine s_pu (d := some 37) (v := (.int .i64 op1)) rfl rfl rfl (r_move rfl) ?_
    refine s_ef (d := some 38) rfl rfl rfl (fun dr => r_call Tryd.call30 rfl rfl H) ?_ trivial
    rintro _ h16 ⟨y64, rfl, H⟩
    refine ⟨trivial, ?_⟩
    refine s_pu (d := some 12) (v := (.int .i64 y64)) rfl rfl rfl (r_assign rfl) ?_
    refine s_fin ?_
    show W _ _ _ _ _ _ _ _
    refine W_seq ?_
    refine W_region (.pu 0 (.pu 1 (.pu 2 .fin))) rfl rfl ?_
    refine s_pu (d := some 39) (v := (Sl.v l2)) rfl rfl rfl (r_move rfl) ?_
    refine s_pu (d := some 40) (v := (.int .i64 ((l2.len : Int)))) rfl rfl rfl (r_len Tryd.underlying22 rfl) ?_
    refine s_pu (d := some 41) (v := (.bool (decide (0 < ((l2.len : Int)))))) rfl rfl rfl (r_gtr rfl rfl) ?_
    refine s_fin ?_
    show W _ _ _ _ _ _ _ _
    refine W_if (decide (0 < ((l2.len : Int)))) rfl (fun g84 => ?_) (fun g84 => ?_)
    · have H := H.1 g84
      refine W_seq ?_
      refine W_region (.pu 0 (.pu 1 (.pu 2 (.pu 3 (.pu 4 (.rl 5 (.pu 6 .fin))))))) rfl rfl ?_
      refine s_pu (d := some 42) (v := (Sl.v y63)) rfl rfl rfl (r_move rfl) ?_
      refine s_pu (d := some 43) (v := (Sl.v l2)) rfl rfl rfl (r_move rfl) ?_
      refine s_pu (d := some 44) (v := (.int .i64 ((l2.len : Int)))) rfl rfl rfl (r_len Tryd.underlying22 rfl) ?_
      refine s_pu (d := some 45) (v := (.int .i64 (w64 (((l2.len : Int)) - 1)))) rfl rfl rfl (r_sub rfl rfl) ?_
      obtain ⟨p65, e66, e67, e68, H⟩ := H
      obtain ⟨q69, e70⟩ : ∃ q : Addr, q = Addr.add p65 (Int.toNat (w64 (((l2.len : Int)) - 1)) * 1) := ⟨_, rfl⟩
      rw [← e70] at H
      refine s_pu (d := some 46) (v := (.pointer (some q69))) rfl rfl rfl (fun w => (r_indexAddr Tryd.underlying22 Tryd.sizeOf3 rfl rfl e66 e67 e68 w).trans (by rw [e70])) ?_
      obtain ⟨x71, e72, H⟩ := H
      refine s_rl (d := some 47) (v := (.int .i64 x71)) rfl rfl rfl (fun dr => r_load1 Tryd.isAgg3 rfl e72) ?_
      refine s_pu (d := some 12) (v := (.int .i64 x71)) rfl rfl rfl (r_assign rfl) ?_
      refine s_fin ?_
      show W _ _ _ _ _ _ _ _
      refine W_draw [0, 1, 3, 0, 0, 16, 48, 120, 255, 511] (.pu 0 (.pu 3 (.pu 4 (.pu 5 (.pu 6 (.pu 7 (.ef 1 [] (.ef 2 [] (.ef 8 [] (.pu 9 .fin) .no) .no) .no))))))) (by kernel_rfl) (by kernel_rfl) ?_
      refine s_pu (d := some 48) (v := (.int .i64 op1)) rfl rfl rfl (r_move rfl) ?_
      refine s_pu (d := some 51) (v := (Sl.v y63)) rfl rfl rfl (r_move rfl) ?_
      refine s_pu (d := some 52) (v := (Sl.v l2)) rfl rfl rfl (r_move rfl) ?_
      refine s_pu (d := some 53) (v := (.int .i64 ((l2.len : Int)))) rfl rfl rfl (r_len Tryd.underlying22 rfl) ?_
      refine s_pu (d := some 54) (v := (.int .i64 (w64 (((l2.len : Int)) - 1)))) rfl rfl rfl (r_sub rfl rfl) ?_
      obtain ⟨e74, e75, e76, e77, H⟩ := H
      obtain ⟨s73, e78⟩ : ∃ t : Sl, t = ⟨sliceA y63.a (Int.toNat ((y63.cap : Int))) (Int.toNat 0) 1, Int.toNat (w64 (((l2.len : Int)) - 1)) - Int.toNat 0, Int.toNat ((y63.cap : Int)) - Int.toNat 0⟩ := ⟨_, rfl⟩
      have H := H s73 e78
      refine s_pu (d := some 55) (v := (Sl.v s73)) rfl rfl rfl (fun w => (r_slice (lo := .none) (hi := (.some (.tmp 54))) (mx := .none) Tryd.underlying22 Tryd.sizeOf3 rfl ((y63.cap : Int)) (w64 (((l2.len : Int)) - 1)) 0 rfl ⟨_, rfl⟩ rfl e74 e75 (.inr e76) e77 w).trans (by rw [e78]; rfl)) ?_
      refine s_ef (d := some 49) rfl rfl rfl (fun dr => r_call Tryd.call30 rfl rfl H) ?_ trivial
      rintro _ h17 ⟨y79, rfl, H⟩
      refine ⟨trivial, ?_⟩
      obtain ⟨p80, e81⟩ : ∃ p : Addr, p = ⟨h17.size, 0, none⟩ := ⟨_, rfl⟩
      obtain ⟨h18, e82⟩ : ∃ hh : Heap, hh = h17.push (.cells #[(.int .i64 y79)] 3) := ⟨_, rfl⟩
      have H := H p80 h18 e81 e82
      refine s_ef1 (d := some 50) (v := (Sl.v ((⟨some p80, 1, 1⟩ : Sl)))) (h' := h18) rfl rfl rfl (fun dr => (slFDScanR_22.build (cells := #[(.int .i64 y79)]) (by decide) rfl (by kernel_rfl)).trans (by rw [e81, e82]; rfl)) trivial ?_ trivial
      refine s_ef (d := some 56) rfl rfl rfl (fun dr => r_call Tryd.call31 rfl rfl H) ?_ trivial
      rintro _ h19 ⟨y83, rfl, H⟩
      refine ⟨trivial, ?_⟩
      refine s_pu (d := some 14) (v := (Sl.v y83)) rfl rfl rfl (r_assign rfl) ?_
      refine s_fin ?_
      exact N_mk (l := [(0, (.int .i64 op1)), (1, (Sl.v l2)), (2, (.int .i64 a3)), (3, (.int .i64 vb4)), (9, (.bool y5)), (10, (.int .i64 0)), (11, (.int .i64 y62)), (12, (.int .i64 x71)), (13, (Sl.v y63)), (14, (Sl.v y83))]) H ⟨rfl, rfl, rfl, rfl, rfl, rfl, rfl, rfl, rfl, rfl, trivial⟩
    · have H := H.2 g84
      refine W_skip ?_
      exact N_mk (l := [(0, (.int .i64 op1)), (1, (Sl.v l2)), (2, (.int .i64 a3)), (3, (.int .i64 vb4)), (9, (.bool y5)), (10, (.int .i64 0)), (11, (.int .i64 y62)), (12, (.int .i64 y64)), (13, (Sl.v y63)), (14, (Sl.v Sl.nil))]) H ⟨rfl, rfl, rfl, rfl, rfl, rfl, rfl, rfl, rfl, rfl, trivial⟩

/-! ### law5_ScanLevels -/

def law5_ScanLevels_F (r : World) (op1 : Int) (l2 : Sl) (h : Heap) (R : Bool → Heap → Prop) : Prop :=
  law5_scanned r h fun y3 h1 =>
  ref1_Op r op1 h1 fun y4 h2 =>
  ∀ J7 : Int → Sl → Heap → Prop, (∀ (ve5 : Int) (want6 : Sl) (h3 : Heap),
    (scan_Levels r op1 l2 h3 fun y9 y10 h4 =>
    same_Error r y10 ve5 h4 fun y11 h5 =>
    same_Rows r y9 want6 h5 fun y12 h6 =>
    Br (((!y3) || (!y11)) || (!y12)) (
      R false h6) (
      Br (!decide (ve5 = 0)) (
        R true h6) (
        scan_Fold r op1 l2 h6 fun y19 y20 h7 =>
        ∀ J22 : Bool → Prop, (∀ (x21 : Bool),
          (R x21 h7) →
          J22 x21) →
        (isIface y20 = true) ∧
        Br (isNil y20) (
          Ix y9 (w64 (((y9.len : Int)) - 1)) 1 fun q30 =>
          LdS h7 q30 fun x32 =>
          Br (decide (((x32.len : Int)) = 1)) (
            Ix y9 (w64 (((y9.len : Int)) - 1)) 1 fun q39 =>
            LdS h7 q39 fun x41 =>
            Ix x41 0 1 fun q47 =>
            LdI h7 q47 fun x49 =>
            J22 (decide (x49 = y19))) (
            J22 false)) (
          J22 false)))) →
    J7 ve5 want6 h3) →
  Br (!y4) (
    J7 3 Sl.nil h2) (
    Br (decide (((l2.len : Int)) = 0)) (
      J7 2 Sl.nil h2) (
      New h2 (.cells #[(Sl.v l2)] 22) fun p55 h8 =>
      App 22 1 24 (Sl.v Sl.nil) Sl.nil ((⟨some p55, 1, 1⟩ : Sl)) h8 fun s58 h9 =>
      ∀ X61 : Sl → Sl → Heap → Prop, (∀ (want59 : Sl) (k60 : Sl) (h10 : Heap),
        (Br (decide (1 < ((k60.len : Int)))) (
          ref1_Paired r op1 k60 h10 fun y62 h11 =>
          New h11 (.cells #[(Sl.v y62)] 22) fun p63 h12 =>
          App 22 1 24 (Sl.v Sl.nil) want59 ((⟨some p63, 1, 1⟩ : Sl)) h12 fun s66 h13 =>
          X61 s66 y62 h13) (
          J7 0 want59 h10)) →
        X61 want59 k60 h10) →
      X61 s58 l2 h9))

set_option maxRecDepth 100000 in
theorem law5_ScanLevels_of {r : World} {op1 : Int} {l2 : Sl} {h : Heap} {R : Bool → Heap → Prop} (H : law5_ScanLevels_F r op1 l2 h R) : law5_ScanLevels r op1 l2 h R := by
  unfold law5_ScanLevels_F at H
  refine calls_of 90 [.tmp 4] Tryd.func6 rfl rfl rfl rfl rfl ?_
  refine W_seq ?_
  refine W_region (.pu 0 .fin) rfl rfl ?_
  refine s_pu (d := some 4) (v := (.bool false)) rfl rfl rfl (r_assign rfl) ?_
  refine s_fin ?_
  show W _ _ _ _ _ _ _ _
  refine W_seq ?_
  refine W_region (.ef 0 [] (.pu 1 .fin) .no) rfl rfl ?_
  refine s_ef (d := some 14) rfl rfl rfl (fun dr => r_call Tryd.call26 rfl rfl H) ?_ trivial
  rintro _ h1 ⟨y3, rfl, H⟩
  refine ⟨trivial, ?_⟩
  refine s_pu (d := some 5) (v := (.bool y3)) rfl rfl rfl (r_assign rfl) ?_
  refine s_fin ?_
  show W _ _ _ _ _ _ _ _
  refine W_seq ?_
  refine W_region (.pu 0 .fin) rfl rfl ?_
  refine s_pu (d := some 6) (v := (.int .i64 0)) rfl rfl rfl (r_assign rfl) ?_
  refine s_fin ?_
  show W _ _ _ _ _ _ _ _
  refine W_seq ?_
  refine W_region (.pu 0 .fin) rfl rfl ?_
  refine s_pu (d := some 7) (v := (Sl.v Sl.nil)) rfl rfl rfl (r_assign rfl) ?_
  refine s_fin ?_
  show W _ _ _ _ _ _ _ _
  refine W_seq ?_
  refine W_seq ?_
  refine W_region (.pu 0 (.ef 1 [] (.pu 2 .fin) .no)) rfl rfl ?_
  refine s_pu (d := some 15) (v := (.int .i64 op1)) rfl rfl rfl (r_move rfl) ?_
  refine s_ef (d := some 16) rfl rfl rfl (fun dr => r_call Tryd.call27 rfl rfl H) ?_ trivial
  rintro _ h2 ⟨y4, rfl, H⟩
  refine ⟨trivial, ?_⟩
  refine s_pu (d := some 17) (v := (.bool (!y4))) rfl rfl rfl (r_not rfl) ?_
  refine s_fin ?_
  show W _ _ _ _ _ _ _ _
  refine W_set ?_
  intro N8 eN8
  have H := H (fun (ve5 : Int) (want6 : Sl) (h3 : Heap) => ∀ b, N8 [] (mkE [(0, (.int .i64 op1)), (1, (Sl.v l2)), (5, (.bool y3)), (6, (.int .i64 ve5)), (7, (Sl.v want6))] b) h3) (by
    intro ve5 want6 h3 H b
    rw [eN8]
    show W _ _ _ _ _ _ _ _
    refine W_seq ?_
    refine W_region (.pu 0 (.pu 1 (.ef 2 [] (.pu 3 (.pu 4 (.pu 5 (.pu 6 (.pu 7 .fin))))) .no))) rfl rfl ?_
    refine s_pu (d := some 37) (v := (.int .i64 op1)) rfl rfl rfl (r_move rfl) ?_
    refine s_pu (d := some 38) (v := (Sl.v l2)) rfl rfl rfl (r_move rfl) ?_
    refine s_ef (d := some 39) rfl rfl rfl (fun dr => r_call Tryd.call37 rfl rfl H) ?_ trivial
    rintro _ h4 ⟨y9, y10, rfl, H⟩
    refine ⟨trivial, ?_⟩
    refine s_pu (d := some 36) (v := (.tuple #[(Sl.v y9), y10])) rfl rfl rfl (r_move rfl) ?_
    refine s_pu (d := some 40) (v := (Sl.v y9)) rfl rfl rfl (r_extract rfl rfl) ?_
    refine s_pu (d := some 41) (v := y10) rfl rfl rfl (r_extract rfl rfl) ?_
    refine s_pu (d := some 9) (v := (Sl.v y9)) rfl rfl rfl (r_assign rfl) ?_
    refine s_pu (d := some 10) (v := y10) rfl rfl rfl (r_assign rfl) ?_
    refine s_fin ?_
    show W _ _ _ _ _ _ _ _
    refine W_seq ?_
    refine W_region (.pu 0 (.pu 1 (.ef 2 [] (.pu 3 .fin) .no))) rfl rfl ?_
    refine s_pu (d := some 42) (v := y10) rfl rfl rfl (r_move rfl) ?_
    refine s_pu (d := some 43) (v := (.int .i64 ve5)) rfl rfl rfl (r_move rfl) ?_
    refine s_ef (d := some 44) rfl rfl rfl (fun dr => r_call Tryd.call12 rfl rfl H) ?_ trivial
    rintro _ h5 ⟨y11, rfl, H⟩
    refine ⟨trivial, ?_⟩
    refine s_pu (d := some 11) (v := (.bool y11)) rfl rfl rfl (r_assign rfl) ?_
    refine s_fin ?_
    show W _ _ _ _ _ _ _ _
    refine W_seq ?_
    refine W_region (.pu 0 (.pu 1 (.ef 2 [] (.pu 3 .fin) .no))) rfl rfl ?_
    refine s_pu (d := some 45) (v := (Sl.v y9)) rfl rfl rfl (r_move rfl) ?_
    refine s_pu (d := some 46) (v := (Sl.v want6)) rfl rfl rfl (r_move rfl) ?_
    refine s_ef (d := some 47) rfl rfl rfl (fun dr => r_call Tryd.call38 rfl rfl H) ?_ trivial
    rintro _ h6 ⟨y12, rfl, H⟩
    refine ⟨trivial, ?_⟩
    refine s_pu (d := some 12) (v := (.bool y12)) rfl rfl rfl (r_assign rfl) ?_
    refine s_fin ?_
    show W _ _ _ _ _ _ _ _
    refine W_seq ?_
    refine W_seq ?_
    refine W_region (.pu 0 (.pu 1 (.pu 2 (.pu 3 (.pu 4 (.pu 5 (.pu 6 (.pu 7 (.pu 8 (.pu 9 .fin)))))))))) rfl rfl ?_
    refine s_pu (d := some 48) (v := (.bool y3)) rfl rfl rfl (r_move rfl) ?_
    refine s_pu (d := some 49) (v := (.bool (!y3))) rfl rfl rfl (r_not rfl) ?_
    refine s_pu (d := some 50) (v := (.bool (!y3))) rfl rfl rfl (r_move rfl) ?_
    refine S_meet (l := [(0, (.int .i64 op1)), (1, (Sl.v l2)), (6, (.int .i64 ve5)), (9, (Sl.v y9)), (12, (.bool y12)), (53, (.bool ((!y3) || (!y11))))]) (i := 3) ?_ (fun HJ => ?_)
    · intro b
      show S _ _ _ _ _ _
      refine s_pu (d := some 54) (v := (.bool ((!y3) || (!y11)))) rfl rfl rfl (r_move rfl) ?_
      refine S_meet (l := [(0, (.int .i64 op1)), (1, (Sl.v l2)), (6, (.int .i64 ve5)), (9, (Sl.v y9)), (57, (.bool (((!y3) || (!y11)) || (!y12))))]) (i := 3) ?_ (fun HJ => ?_)
      · intro b
        show S _ _ _ _ _ _
        refine s_fin ?_
        show W _ _ _ _ _ _ _ _
        refine W_if (((!y3) || (!y11)) || (!y12)) rfl (fun g52 => ?_) (fun g52 => ?_)
        · have H := H.1 g52
          refine W_seq ?_
          refine W_region (.pu 0 .fin) rfl rfl ?_
          refine s_pu (d := some 4) (v := (.bool false)) rfl rfl rfl (r_assign rfl) ?_
          refine s_fin ?_
          show W _ _ _ _ _ _ _ _
          refine W_ret ?_
          exact ⟨[(.bool false)], ⟨_, _, rfl, rfl, rfl⟩, false, rfl, H⟩
        · have H := H.2 g52
          refine W_skip ?_
          show W _ _ _ _ _ _ _ _
          refine W_seq ?_
          refine W_seq ?_
          refine W_region (.pu 0 (.pu 1 .fin)) rfl rfl ?_
          refine s_pu (d := some 58) (v := (.int .i64 ve5)) rfl rfl rfl (r_move rfl) ?_
          refine s_pu (d := some 59) (v := (.bool (!decide (ve5 = 0)))) rfl rfl rfl (r_neq rfl rfl) ?_
          refine s_fin ?_
          show W _ _ _ _ _ _ _ _
          refine W_if (!decide (ve5 = 0)) rfl (fun g51 => ?_) (fun g51 => ?_)
          · have H := H.1 g51
            refine W_seq ?_
            refine W_region (.pu 0 .fin) rfl rfl ?_
            refine s_pu (d := some 4) (v := (.bool true)) rfl rfl rfl (r_assign rfl) ?_
            refine s_fin ?_
            show W _ _ _ _ _ _ _ _
            refine W_ret ?_
            exact ⟨[(.bool true)], ⟨_, _, rfl, rfl, rfl⟩, true, rfl, H⟩
          · have H := H.2 g51
            refine W_skip ?_
            show W _ _ _ _ _ _ _ _
            refine W_seq ?_
            refine W_region (.pu 0 (.pu 1 (.ef 2 [] (.pu 3 (.pu 4 (.pu 5 (.pu 6 (.pu 7 .fin))))) .no))) rfl rfl ?_
            refine s_pu (d := some 61) (v := (.int .i64 op1)) rfl rfl rfl (r_move rfl) ?_
            refine s_pu (d := some 62) (v := (Sl.v l2)) rfl rfl rfl (r_move rfl) ?_
            refine s_ef (d := some 63) rfl rfl rfl (fun dr => r_call Tryd.call33 rfl rfl H) ?_ trivial
            rintro _ h7 ⟨y19, y20, rfl, H⟩
            refine ⟨trivial, ?_⟩
            refine s_pu (d := some 60) (v := (.tuple #[(.int .i64 y19), y20])) rfl rfl rfl (r_move rfl) ?_
            refine s_pu (d := some 64) (v := (.int .i64 y19)) rfl rfl rfl (r_extract rfl rfl) ?_
            refine s_pu (d := some 65) (v := y20) rfl rfl rfl (r_extract rfl rfl) ?_
            refine s_pu (d := some 13) (v := (.int .i64 y19)) rfl rfl rfl (r_assign rfl) ?_
            refine s_pu (d := some 10) (v := y20) rfl rfl rfl (r_assign rfl) ?_
            refine s_fin ?_
            show W _ _ _ _ _ _ _ _
            refine W_seq ?_
            refine W_set ?_
            intro N23 eN23
            have H := H (fun (x21 : Bool) => ∀ b, N23 [] (mkE [(4, (.bool x21))] b) h7) (by
              intro x21 H b
              rw [eN23]
              show W _ _ _ _ _ _ _ _
              refine W_ret ?_
              exact ⟨[(.bool x21)], ⟨_, _, rfl, rfl, rfl⟩, x21, rfl, H⟩)
            clear eN23
            refine W_region (.pu 0 (.pu 1 (.pu 2 (.pu 3 (.pu 4 (.pu 5 (.pu 6 (.pu 7 (.rl 8 (.pu 9 (.pu 10 (.pu 11 (.pu 12 (.pu 13 (.pu 14 (.pu 15 (.pu 16 (.pu 17 (.rl 18 (.pu 19 (.rl 20 (.pu 21 (.pu 22 (.pu 23 (.pu 24 .fin))))))))))))))))))))))))) rfl rfl ?_
            refine s_pu (d := some 66) (v := y20) rfl rfl rfl (r_move rfl) ?_
            obtain ⟨e24, H⟩ := H
            refine s_pu (d := some 67) (v := (.bool (isNil y20))) rfl rfl rfl (r_nilI Tryd.underlying26 rfl e24 rfl) ?_
            refine s_pu (d := some 68) (v := (.bool (isNil y20))) rfl rfl rfl (r_move rfl) ?_
            rcases Bool.eq_false_or_eq_true (isNil y20) with g25 | g25
            · have H := H.1 g25
              refine s_pu (d := some 69) (v := (Sl.v y9)) rfl rfl (wants_yes rfl rfl rfl rfl g25) (r_move rfl) ?_
              refine s_pu (d := some 70) (v := (Sl.v y9)) rfl rfl (wants_yes rfl rfl rfl rfl g25) (r_move rfl) ?_
              refine s_pu (d := some 71) (v := (.int .i64 ((y9.len : Int)))) rfl rfl (wants_yes rfl rfl rfl rfl g25) (r_len Tryd.underlying56 rfl) ?_
              refine s_pu (d := some 72) (v := (.int .i64 (w64 (((y9.len : Int)) - 1)))) rfl rfl (wants_yes rfl rfl rfl rfl g25) (r_sub rfl rfl) ?_
              obtain ⟨p26, e27, e28, e29, H⟩ := H
              obtain ⟨q30, e31⟩ : ∃ q : Addr, q = Addr.add p26 (Int.toNat (w64 (((y9.len : Int)) - 1)) * 1) := ⟨_, rfl⟩
              rw [← e31] at H
              refine s_pu (d := some 73) (v := (.pointer (some q30))) rfl rfl (wants_yes rfl rfl rfl rfl g25) (fun w => (r_indexAddr Tryd.underlying56 Tryd.sizeOf22 rfl rfl e27 e28 e29 w).trans (by rw [e31])) ?_
              obtain ⟨x32, e33, H⟩ := H
              refine s_rl (d := some 74) (v := (Sl.v x32)) rfl rfl (wants_yes rfl rfl rfl rfl g25) (fun dr => r_load1 Tryd.isAgg22 rfl e33) ?_
              refine s_pu (d := some 75) (v := (.int .i64 ((x32.len : Int)))) rfl rfl (wants_yes rfl rfl rfl rfl g25) (r_len Tryd.underlying22 rfl) ?_
              refine s_pu (d := some 76) (v := (.bool (decide (((x32.len : Int)) = 1)))) rfl rfl (wants_yes rfl rfl rfl rfl g25) (r_eql rfl rfl) ?_
              refine s_pu (d := some 77) (v := (.bool (decide (((x32.len : Int)) = 1)))) rfl rfl rfl (r_pick1 rfl g25 rfl) ?_
              refine s_pu (d := some 78) (v := (.bool (decide (((x32.len : Int)) = 1)))) rfl rfl rfl (r_move rfl) ?_
              rcases Bool.eq_false_or_eq_true (decide (((x32.len : Int)) = 1)) with g34 | g34
              · have H := H.1 g34
                refine s_pu (d := some 79) (v := (Sl.v y9)) rfl rfl (wants_yes rfl rfl rfl rfl g34) (r_move rfl) ?_
                refine s_pu (d := some 80) (v := (Sl.v y9)) rfl rfl (wants_yes rfl rfl rfl rfl g34) (r_move rfl) ?_
                refine s_pu (d := some 81) (v := (.int .i64 ((y9.len : Int)))) rfl rfl (wants_yes rfl rfl rfl rfl g34) (r_len Tryd.underlying56 rfl) ?_
                refine s_pu (d := some 82) (v := (.int .i64 (w64 (((y9.len : Int)) - 1)))) rfl rfl (wants_yes rfl rfl rfl rfl g34) (r_sub rfl rfl) ?_
                obtain ⟨p35, e36, e37, e38, H⟩ := H
                obtain ⟨q39, e40⟩ : ∃ q : Addr, q = Addr.add p35 (Int.toNat (w64 (((y9.len : Int)) - 1)) * 1) := ⟨_, rfl⟩
                rw [← e40] at H
                refine s_pu (d := some 83) (v := (.pointer (some q39))) rfl rfl (wants_yes rfl rfl rfl rfl g34) (fun w => (r_indexAddr Tryd.underlying56 Tryd.sizeOf22 rfl rfl e36 e37 e38 w).trans (by rw [e40])) ?_
                obtain ⟨x41, e42, H⟩ := H
                refine s_rl (d := some 84) (v := (Sl.v x41)) rfl rfl (wants_yes rfl rfl rfl rfl g34) (fun dr => r_load1 Tryd.isAgg22 rfl e42) ?_
                obtain ⟨p43, e44, e45, e46, H⟩ := H
                obtain ⟨q47, e48⟩ : ∃ q : Addr, q = Addr.add p43 (Int.toNat 0 * 1) := ⟨_, rfl⟩
                rw [← e48] at H
                refine s_pu (d := some 85) (v := (.pointer (some q47))) rfl rfl (wants_yes rfl rfl rfl rfl g34) (fun w => (r_indexAddr Tryd.underlying22 Tryd.sizeOf3 rfl rfl e44 e45 e46 w).trans (by rw [e48])) ?_
                obtain ⟨x49, e50, H⟩ := H
                refine s_rl (d := some 86) (v := (.int .i64 x49)) rfl rfl (wants_yes rfl rfl rfl rfl g34) (fun dr => r_load1 Tryd.isAgg3 rfl e50) ?_
                refine s_pu (d := some 87) (v := (.int .i64 y19)) rfl rfl (wants_yes rfl rfl rfl rfl g34) (r_move rfl) ?_
                refine s_pu (d := some 88) (v := (.bool (decide (x49 = y19)))) rfl rfl (wants_yes rfl rfl rfl rfl g34) (r_eql rfl rfl) ?_
                refine s_pu (d := some 89) (v := (.bool (decide (x49 = y19)))) rfl rfl rfl (r_pick1 rfl g34 rfl) ?_
                refine s_pu (d := some 4) (v := (.bool (decide (x49 = y19)))) rfl rfl rfl (r_assign rfl) ?_
                refine s_fin ?_
                exact N_mk (l := [(4, (.bool (decide (x49 = y19))))]) H ⟨rfl, trivial⟩
              · have H := H.2 g34
                refine s_sk (d := some 79) rfl rfl (wants_no rfl rfl rfl rfl g34) ?_
                refine s_sk (d := some 80) rfl rfl (wants_no rfl rfl rfl rfl g34) ?_
                refine s_sk (d := some 81) rfl rfl (wants_no rfl rfl rfl rfl g34) ?_
                refine s_sk (d := some 82) rfl rfl (wants_no rfl rfl rfl rfl g34) ?_
                refine s_sk (d := some 83) rfl rfl (wants_no rfl rfl rfl rfl g34) ?_
                refine s_skl (d := some 84) rfl rfl (wants_no rfl rfl rfl rfl g34) ?_
                refine s_sk (d := some 85) rfl rfl (wants_no rfl rfl rfl rfl g34) ?_
                refine s_skl (d := some 86) rfl rfl (wants_no rfl rfl rfl rfl g34) ?_
                refine s_sk (d := some 87) rfl rfl (wants_no rfl rfl rfl rfl g34) ?_
                refine s_sk (d := some 88) rfl rfl (wants_no rfl rfl rfl rfl g34) ?_
                refine s_pu (d := some 89) (v := (.bool false)) rfl rfl rfl (r_pick0 rfl g34 rfl) ?_
                refine s_pu (d := some 4) (v := (.bool false)) rfl rfl rfl (r_assign rfl) ?_
                refine s_fin ?_
                exact N_mk (l := [(4, (.bool false))]) H ⟨rfl, trivial⟩
            · have H := H.2 g25
              refine s_sk (d := some 69) rfl rfl (wants_no rfl rfl rfl rfl g25) ?_
              refine s_sk (d := some 70) rfl rfl (wants_no rfl rfl rfl rfl g25) ?_
              refine s_sk (d := some 71) rfl rfl (wants_no rfl rfl rfl rfl g25) ?_
              refine s_sk (d := some 72) rfl rfl (wants_no rfl rfl rfl rfl g25) ?_
              refine s_sk (d := some 73) rfl rfl (wants_no rfl rfl rfl rfl g25) ?_
              refine s_skl (d := some 74) rfl rfl (wants_no rfl rfl rfl rfl g25) ?_
              refine s_sk (d := some 75) rfl rfl (wants_no rfl rfl rfl rfl g25) ?_
              refine s_sk (d := some 76) rfl rfl (wants_no rfl rfl rfl rfl g25) ?_
              refine s_pu (d := some 77) (v := (.bool false)) rfl rfl rfl (r_pick0 rfl g25 rfl) ?_
              refine s_pu (d := some 78) (v := (.bool false)) rfl rfl rfl (r_move rfl) ?_
              refine s_sk (d := some 79) rfl rfl (wants_no rfl rfl rfl rfl rfl) ?_
              refine s_sk (d := some 80) rfl rfl (wants_no rfl rfl rfl rfl rfl) ?_
              refine s_sk (d := some 81) rfl rfl (wants_no rfl rfl rfl rfl rfl) ?_
              refine s_sk (d := some 82) rfl rfl (wants_no rfl rfl rfl rfl rfl) ?_
              refine s_sk (d := some 83) rfl rfl (wants_no rfl rfl rfl rfl rfl) ?_
              refine s_skl (d := some 84) rfl rfl (wants_no rfl rfl rfl rfl rfl) ?_
              refine s_sk (d := some 85) rfl rfl (wants_no rfl rfl rfl rfl rfl) ?_
              refine s_skl (d := some 86) rfl rfl (wants_no rfl rfl rfl rfl rfl) ?_
              refine s_sk (d := some 87) rfl rfl (wants_no rfl rfl rfl rfl rfl) ?_
              refine s_sk (d := some 88) rfl rfl (wants_no rfl rfl rfl rfl rfl) ?_
              refine s_pu (d := some 89) (v := (.bool false)) rfl rfl rfl (r_pick0 rfl rfl rfl) ?_
              refine s_pu (d := some 4) (v := (.bool false)) rfl rfl rfl (r_assign rfl) ?_
              refine s_fin ?_
              exact N_mk (l := [(4, (.bool false))]) H ⟨rfl, trivial⟩
      · rcases Bool.eq_false_or_eq_true ((!y3) || (!y11)) with g16 | g16
        · refine s_sk (d := some 55) rfl rfl (wants_no rfl rfl rfl rfl g16) ?_
          refine s_sk (d := some 56) rfl rfl (wants_no rfl rfl rfl rfl g16) ?_
          refine s_pu (d := some 57) (v := (.bool true)) rfl rfl rfl (r_pick1 rfl g16 rfl) ?_
          exact S_mk (l := [(0, (.int .i64 op1)), (1, (Sl.v l2)), (6, (.int .i64 ve5)), (9, (Sl.v y9)), (57, (.bool (((!y3) || (!y11)) || (!y12))))]) HJ ⟨rfl, rfl, rfl, rfl, (by rw [g16]; rfl), trivial⟩
        · refine s_pu (d := some 55) (v := (.bool y12)) rfl rfl (wants_yes rfl rfl rfl rfl g16) (r_move rfl) ?_
          refine s_pu (d := some 56) (v := (.bool (!y12))) rfl rfl (wants_yes rfl rfl rfl rfl g16) (r_not rfl) ?_
          refine s_pu (d := some 57) (v := (.bool (!y12))) rfl rfl rfl (r_pick0 rfl g16 rfl) ?_
          exact S_mk (l := [(0, (.int .i64 op1)), (1, (Sl.v l2)), (6, (.int .i64 ve5)), (9, (Sl.v y9)), (57, (.bool (((!y3) || (!y11)) || (!y12))))]) HJ ⟨rfl, rfl, rfl, rfl, (by rw [g16]; rfl), trivial⟩
    · rcases Bool.eq_false_or_eq_true (!y3) with g13 | g13
      · refine s_sk (d := some 51) rfl rfl (wants_no rfl rfl rfl rfl g13) ?_
        refine s_sk (d := some 52) rfl rfl (wants_no rfl rfl rfl rfl g13) ?_
        refine s_pu (d := some 53) (v := (.bool true)) rfl rfl rfl (r_pick1 rfl g13 rfl) ?_
        exact S_mk (l := [(0, (.int .i64 op1)), (1, (Sl.v l2)), (6, (.int .i64 ve5)), (9, (Sl.v y9)), (12, (.bool y12)), (53, (.bool ((!y3) || (!y11))))]) HJ ⟨rfl, rfl, rfl, rfl, rfl, (by rw [g13]; rfl), trivial⟩
      · refine s_pu (d := some 51) (v := (.bool y11)) rfl rfl (wants_yes rfl rfl rfl rfl g13) (r_move rfl) ?_
        refine s_pu (d := some 52) (v := (.bool (!y11))) rfl rfl (wants_yes rfl rfl rfl rfl g13) (r_not rfl) ?_
        refine s_pu (d := some 53) (v := (.bool (!y11))) rfl rfl rfl (r_pick0 rfl g13 rfl) ?_
        exact S_mk (l := [(0, (.int .i64 op1)), (1, (Sl.v l2)), (6, (.int .i64 ve5)), (9, (Sl.v y9)), (12, (.bool y12)), (53, (.bool ((!y3) || (!y11))))]) HJ ⟨rfl, rfl, rfl, rfl, rfl, (by rw [g13]; rfl), trivial⟩)
  clear eN8
  refine W_if (!y4) rfl (fun g69 => ?_) (fun g69 => ?_)
  · have H := H.1 g69
    refine W_region (.pu 0 .fin) rfl rfl ?_
    refine s_pu (d := some 6) (v := (.int .i64 3)) rfl rfl rfl (r_assign rfl) ?_
    refine s_fin ?_
    exact N_mk (l := [(0, (.int .i64 op1)), (1, (Sl.v l2)), (5, (.bool y3)), (6, (.int .i64 3)), (7, (Sl.v Sl.nil))]) H ⟨rfl, rfl, rfl, rfl, rfl, trivial⟩
  · have H := H.2 g69
    refine W_seq ?_
    refine W_region (.pu 0 (.pu 1 (.pu 2 .fin))) rfl rfl ?_
    refine s_pu (d := some 18) (v := (Sl.v l2)) rfl rfl rfl (r_move rfl) ?_
    refine s_pu (d := some 19) (v := (.int .i64 ((l2.len : Int)))) rfl rfl rfl (r_len Tryd.underlying22 rfl) ?_
    refine s_pu (d := some 20) (v := (.bool (decide (((l2.len : Int)) = 0)))) rfl rfl rfl (r_eql rfl rfl) ?_
    refine s_fin ?_
    show W _ _ _ _ _ _ _ _
    refine W_if (decide (((l2.len : Int)) = 0)) rfl (fun g68 => ?_) (fun g68 => ?_)
    · have H := H.1 g68
      refine W_region (.pu 0 .fin) rfl rfl ?_
      refine s_pu (d := some 6) (v := (.int .i64 2)) rfl rfl rfl (r_assign rfl) ?_
      refine s_fin ?_
      exact N_mk (l := [(0, (.int .i64 op1)), (1, (Sl.v l2)), (5, (.bool y3)), (6, (.int .i64 2)), (7, (Sl.v Sl.nil))]) H ⟨rfl, rfl, rfl, rfl, rfl, trivial⟩
    · have H := H.2 g68
      refine W_seq ?_
      refine W_region (.pu 0 (.pu 1 (.ef 2 [] (.ef 3 [] (.pu 4 .fin) .no) .no))) rfl rfl ?_
      refine s_pu (d := some 21) (v := (Sl.v Sl.nil)) rfl rfl rfl (r_move rfl) ?_
      refine s_pu (d := some 22) (v := (Sl.v l2)) rfl rfl rfl (r_move rfl) ?_
      obtain ⟨p55, e56⟩ : ∃ p : Addr, p = ⟨h2.size, 0, none⟩ := ⟨_, rfl⟩
      obtain ⟨h8, e57⟩ : ∃ hh : Heap, hh = h2.push (.cells #[(Sl.v l2)] 22) := ⟨_, rfl⟩
      have H := H p55 h8 e56 e57
      refine s_ef1 (d := some 23) (v := (Sl.v ((⟨some p55, 1, 1⟩ : Sl)))) (h' := h8) rfl rfl rfl (fun dr => (slFDScanR_56.build (cells := #[(Sl.v l2)]) (by decide) rfl (by kernel_rfl)).trans (by rw [e56, e57]; rfl)) trivial ?_ trivial
      refine s_ef (d := some 24) rfl rfl rfl (fun dr => slFDScanR_56.append rfl rfl H) ?_ trivial
      rintro _ h9 ⟨s58, rfl, H⟩
      refine ⟨trivial, ?_⟩
      refine s_pu (d := some 7) (v := (Sl.v s58)) rfl rfl rfl (r_assign rfl) ?_
      refine s_fin ?_
      show W _ _ _ _ _ _ _ _
      refine W_seq ?_
      refine W_region (.pu 0 (.pu 1 .fin)) rfl rfl ?_
      refine s_pu (d := some 25) (v := (Sl.v l2)) rfl rfl rfl (r_move rfl) ?_
      refine s_pu (d := some 8) (v := (Sl.v l2)) rfl rfl rfl (r_assign rfl) ?_
      refine s_fin ?_
      show W _ _ _ _ _ _ _ _
      refine W_block ?_
      refine W_loop (WL_mk (l := [(0, (.int .i64 op1)), (1, (Sl.v l2)), (5, (.bool y3)), (6, (.int .i64 0)), (7, (Sl.v s58)), (8, (Sl.v l2))]) ?_ ⟨rfl, rfl, rfl, rfl, rfl, rfl, trivial⟩)
      refine H (fun (want59 : Sl) (k60 : Sl) (h10 : Heap) => ∀ b, WL _ _ _ _ _ _ (mkE [(0, (.int .i64 op1)), (1, (Sl.v l2)), (5, (.bool y3)), (6, (.int .i64 0)), (7, (Sl.v want59)), (8, (Sl.v k60))] b) h10) ?_
      intro want59 k60 h10 H b
      refine WL_round ?_
      refine W_seq ?_
      refine W_seq ?_
      refine W_region (.pu 0 (.pu 1 (.pu 2 .fin))) rfl rfl ?_
      refine s_pu (d := some 26) (v := (Sl.v k60)) rfl rfl rfl (r_move rfl) ?_
      refine s_pu (d := some 27) (v := (.int .i64 ((k60.len : Int)))) rfl rfl rfl (r_len Tryd.underlying22 rfl) ?_
      refine s_pu (d := some 28) (v := (.bool (decide (1 < ((k60.len : Int)))))) rfl rfl rfl (r_gtr rfl rfl) ?_
      refine s_fin ?_
      show W _ _ _ _ _ _ _ _
      refine W_if (decide (1 < ((k60.len : Int)))) rfl (fun g67 => ?_) (fun g67 => ?_)
      · have H := H.1 g67
        refine W_skip ?_
        show W _ _ _ _ _ _ _ _
        refine W_block ?_
        refine W_seq ?_
        refine W_region (.pu 0 (.pu 1 (.ef 2 [] (.pu 3 .fin) .no))) rfl rfl ?_
        refine s_pu (d := some 29) (v := (.int .i64 op1)) rfl rfl rfl (r_move rfl) ?_
        refine s_pu (d := some 30) (v := (Sl.v k60)) rfl rfl rfl (r_move rfl) ?_
        refine s_ef (d := some 31) rfl rfl rfl (fun dr => r_call Tryd.call36 rfl rfl H) ?_ trivial
        rintro _ h11 ⟨y62, rfl, H⟩
        refine ⟨trivial, ?_⟩
        refine s_pu (d := some 8) (v := (Sl.v y62)) rfl rfl rfl (r_assign rfl) ?_
        refine s_fin ?_
        show W _ _ _ _ _ _ _ _
        refine W_region (.pu 0 (.pu 1 (.ef 2 [] (.ef 3 [] (.pu 4 .fin) .no) .no))) rfl rfl ?_
        refine s_pu (d := some 32) (v := (Sl.v want59)) rfl rfl rfl (r_move rfl) ?_
        refine s_pu (d := some 33) (v := (Sl.v y62)) rfl rfl rfl (r_move rfl) ?_
        obtain ⟨p63, e64⟩ : ∃ p : Addr, p = ⟨h11.size, 0, none⟩ := ⟨_, rfl⟩
        obtain ⟨h12, e65⟩ : ∃ hh : Heap, hh = h11.push (.cells #[(Sl.v y62)] 22) := ⟨_, rfl⟩
        have H := H p63 h12 e64 e65
        refine s_ef1 (d := some 34) (v := (Sl.v ((⟨some p63, 1, 1⟩ : Sl)))) (h' := h12) rfl rfl rfl (fun dr => (slFDScanR_56.build (cells := #[(Sl.v y62)]) (by decide) rfl (by kernel_rfl)).trans (by rw [e64, e65]; rfl)) trivial ?_ trivial
        refine s_ef (d := some 35) rfl rfl rfl (fun dr => slFDScanR_56.append rfl rfl H) ?_ trivial
        rintro _ h13 ⟨s66, rfl, H⟩
        refine ⟨trivial, ?_⟩
        refine s_pu (d := some 7) (v := (Sl.v s66)) rfl rfl rfl (r_assign rfl) ?_
        refine s_fin ?_
        exact WL_mk (l := [(0, (.int .i64 op1)), (1, (Sl.v l2)), (5, (.bool y3)), (6, (.int .i64 0)), (7, (Sl.v s66)), (8, (Sl.v y62))]) H ⟨rfl, rfl, rfl, rfl, rfl, rfl, trivial⟩
      · have H := H.2 g67
        refine W_exit (inX_here ?_)
        exact N_mk (l := [(0, (.int .i64 op1)), (1, (Sl.v l2)), (5, (.bool y3)), (6, (.int .i64 0)), (7, (Sl.v want59))]) H ⟨rfl, rfl, rfl, rfl, rfl, trivial⟩

end Go.Proofs.YtcafckgflpmfgaaDoor
