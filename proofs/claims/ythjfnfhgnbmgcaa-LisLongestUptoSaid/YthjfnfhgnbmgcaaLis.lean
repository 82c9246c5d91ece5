/- Typed words of functions, and that they hold: printed by gen.py (an own tool of this claim) off the model's own form of each function. -/
import Derived.Test.YthjfnfhgnbmgcaaProg
import Derived.Test.YthjfnfhgnbmgcaaFen
namespace Go.Proofs.Ythjfnfhgnbmgcaa
open Go Go.RowKit Go.Tw
set_option linter.unusedVariables false

theorem slFLis_22 : SlF Try.prog 22 3 1 8 (.int .i64 0) := ⟨Try.underlying22, ⟨Try.t3, by kernel_rfl, rfl, rfl, rfl⟩, rfl, Try.sizeOf3, Try.zeroValue3⟩
theorem slFLis_24 : SlF Try.prog 24 22 1 24 (Sl.v Sl.nil) := ⟨Try.underlying24, ⟨Try.t22, by kernel_rfl, rfl, rfl, rfl⟩, rfl, Try.sizeOf22, Try.zeroValue22⟩
theorem slFLis_26 : SlF Try.prog 26 4 1 1 (.bool false) := ⟨Try.underlying26, ⟨Try.t4, by kernel_rfl, rfl, rfl, rfl⟩, rfl, Try.sizeOf4, Try.zeroValue4⟩

/-! ### the calls -/

abbrev same_Rows (r : World) (a1 : Sl) (vb2 : Sl) (h : Heap) (R : Bool → Heap → Prop) : Prop :=
  CallsH Try.prog r 14 [(Sl.v a1), (Sl.v vb2)] h fun v h' => ∃ (y3 : Bool), v = (.bool y3) ∧ R y3 h'

theorem same_Rows.mono {r : World} {a1 : Sl} {vb2 : Sl} {h : Heap} {R R' : Bool → Heap → Prop} (H : same_Rows r a1 vb2 h R) (hr : ∀ y3 h, R y3 h → R' y3 h) : same_Rows r a1 vb2 h R' :=
  CallsH.mono H fun _ _ hx => by
    obtain ⟨y3, hv, hR⟩ := hx
    exact ⟨y3, hv, hr _ _ hR⟩

abbrev lis_dealt (r : World) (l1 : Sl) (h : Heap) (R : Sl → Sl → Heap → Prop) : Prop :=
  CallsH Try.prog r 31 [(Sl.v l1)] h fun v h' => ∃ (y2 : Sl) (y3 : Sl), v = (.tuple #[(Sl.v y2), (Sl.v y3)]) ∧ R y2 y3 h'

theorem lis_dealt.mono {r : World} {l1 : Sl} {h : Heap} {R R' : Sl → Sl → Heap → Prop} (H : lis_dealt r l1 h R) (hr : ∀ y2 y3 h, R y2 y3 h → R' y2 y3 h) : lis_dealt r l1 h R' :=
  CallsH.mono H fun _ _ hx => by
    obtain ⟨y2, y3, hv, hR⟩ := hx
    exact ⟨y2, y3, hv, hr _ _ _ hR⟩

abbrev lis_dealt_1 (r : World) (k1 : Int) (c2 : Addr) (c3 : Addr) (c4 : Addr) (h : Heap) (R : Bool → Heap → Prop) : Prop :=
  CallsH Try.prog r 37 [(.int .i64 k1), (.pointer (some c2)), (.pointer (some c3)), (.pointer (some c4))] h fun v h' => ∃ (y5 : Bool), v = (.bool y5) ∧ R y5 h'

theorem lis_dealt_1.mono {r : World} {k1 : Int} {c2 : Addr} {c3 : Addr} {c4 : Addr} {h : Heap} {R R' : Bool → Heap → Prop} (H : lis_dealt_1 r k1 c2 c3 c4 h R) (hr : ∀ y5 h, R y5 h → R' y5 h) : lis_dealt_1 r k1 c2 c3 c4 h R' :=
  CallsH.mono H fun _ _ hx => by
    obtain ⟨y5, hv, hR⟩ := hx
    exact ⟨y5, hv, hr _ _ hR⟩

abbrev sort_Search (r : World) (n1 : Int) (f2 : Value) (h : Heap) (R : Int → Heap → Prop) : Prop :=
  CallsH Try.prog r 36 [(.int .i64 n1), f2] h fun v h' => ∃ (y3 : Int), v = (.int .i64 y3) ∧ R y3 h'

theorem sort_Search.mono {r : World} {n1 : Int} {f2 : Value} {h : Heap} {R R' : Int → Heap → Prop} (H : sort_Search r n1 f2 h R) (hr : ∀ y3 h, R y3 h → R' y3 h) : sort_Search r n1 f2 h R' :=
  CallsH.mono H fun _ _ hx => by
    obtain ⟨y3, hv, hR⟩ := hx
    exact ⟨y3, hv, hr _ _ hR⟩

abbrev lis_Falls (r : World) (l1 : Sl) (h : Heap) (R : Sl → Heap → Prop) : Prop :=
  CallsH Try.prog r 12 [(Sl.v l1)] h fun v h' => ∃ (y2 : Sl), v = (Sl.v y2) ∧ R y2 h'

theorem lis_Falls.mono {r : World} {l1 : Sl} {h : Heap} {R R' : Sl → Heap → Prop} (H : lis_Falls r l1 h R) (hr : ∀ y2 h, R y2 h → R' y2 h) : lis_Falls r l1 h R' :=
  CallsH.mono H fun _ _ hx => by
    obtain ⟨y2, hv, hR⟩ := hx
    exact ⟨y2, hv, hr _ _ hR⟩

abbrev lis_Longest (r : World) (l1 : Sl) (h : Heap) (R : Sl → Heap → Prop) : Prop :=
  CallsH Try.prog r 13 [(Sl.v l1)] h fun v h' => ∃ (y2 : Sl), v = (Sl.v y2) ∧ R y2 h'

theorem lis_Longest.mono {r : World} {l1 : Sl} {h : Heap} {R R' : Sl → Heap → Prop} (H : lis_Longest r l1 h R) (hr : ∀ y2 h, R y2 h → R' y2 h) : lis_Longest r l1 h R' :=
  CallsH.mono H fun _ _ hx => by
    obtain ⟨y2, hv, hR⟩ := hx
    exact ⟨y2, hv, hr _ _ hR⟩

abbrev lis_Piles (r : World) (l1 : Sl) (h : Heap) (R : Sl → Heap → Prop) : Prop :=
  CallsH Try.prog r 15 [(Sl.v l1)] h fun v h' => ∃ (y2 : Sl), v = (Sl.v y2) ∧ R y2 h'

theorem lis_Piles.mono {r : World} {l1 : Sl} {h : Heap} {R R' : Sl → Heap → Prop} (H : lis_Piles r l1 h R) (hr : ∀ y2 h, R y2 h → R' y2 h) : lis_Piles r l1 h R' :=
  CallsH.mono H fun _ _ hx => by
    obtain ⟨y2, hv, hR⟩ := hx
    exact ⟨y2, hv, hr _ _ hR⟩

abbrev ref1_Piled (r : World) (l1 : Sl) (h : Heap) (R : Sl → Heap → Prop) : Prop :=
  CallsH Try.prog r 16 [(Sl.v l1)] h fun v h' => ∃ (y2 : Sl), v = (Sl.v y2) ∧ R y2 h'

theorem ref1_Piled.mono {r : World} {l1 : Sl} {h : Heap} {R R' : Sl → Heap → Prop} (H : ref1_Piled r l1 h R) (hr : ∀ y2 h, R y2 h → R' y2 h) : ref1_Piled r l1 h R' :=
  CallsH.mono H fun _ _ hx => by
    obtain ⟨y2, hv, hR⟩ := hx
    exact ⟨y2, hv, hr _ _ hR⟩

abbrev slices_Reverse_int_int (r : World) (s1 : Sl) (h : Heap) (R : Heap → Prop) : Prop :=
  CallsH Try.prog r 32 [(Sl.v s1)] h fun v h' => v = (.tuple #[]) ∧ R  h'

theorem slices_Reverse_int_int.mono {r : World} {s1 : Sl} {h : Heap} {R R' : Heap → Prop} (H : slices_Reverse_int_int r s1 h R) (hr : ∀  h, R  h → R'  h) : slices_Reverse_int_int r s1 h R' :=
  CallsH.mono H fun _ _ hx => by
    obtain ⟨hv, hR⟩ := hx
    exact ⟨hv, hr _ hR⟩

abbrev law5_risen (r : World)  (h : Heap) (R : Bool → Heap → Prop) : Prop :=
  CallsH Try.prog r 11 [] h fun v h' => ∃ (y1 : Bool), v = (.bool y1) ∧ R y1 h'

theorem law5_risen.mono {r : World}  {h : Heap} {R R' : Bool → Heap → Prop} (H : law5_risen r  h R) (hr : ∀ y1 h, R y1 h → R' y1 h) : law5_risen r  h R' :=
  CallsH.mono H fun _ _ hx => by
    obtain ⟨y1, hv, hR⟩ := hx
    exact ⟨y1, hv, hr _ _ hR⟩

abbrev law5_LisFalls (r : World) (l1 : Sl) (h : Heap) (R : Bool → Heap → Prop) : Prop :=
  CallsH Try.prog r 3 [(Sl.v l1)] h fun v h' => ∃ (y2 : Bool), v = (.bool y2) ∧ R y2 h'

theorem law5_LisFalls.mono {r : World} {l1 : Sl} {h : Heap} {R R' : Bool → Heap → Prop} (H : law5_LisFalls r l1 h R) (hr : ∀ y2 h, R y2 h → R' y2 h) : law5_LisFalls r l1 h R' :=
  CallsH.mono H fun _ _ hx => by
    obtain ⟨y2, hv, hR⟩ := hx
    exact ⟨y2, hv, hr _ _ hR⟩

abbrev law5_LisMany (r : World) (l1 : Sl) (vr2 : Int) (h : Heap) (R : Bool → Heap → Prop) : Prop :=
  CallsH Try.prog r 4 [(Sl.v l1), (.int .i64 vr2)] h fun v h' => ∃ (y3 : Bool), v = (.bool y3) ∧ R y3 h'

theorem law5_LisMany.mono {r : World} {l1 : Sl} {vr2 : Int} {h : Heap} {R R' : Bool → Heap → Prop} (H : law5_LisMany r l1 vr2 h R) (hr : ∀ y3 h, R y3 h → R' y3 h) : law5_LisMany r l1 vr2 h R' :=
  CallsH.mono H fun _ _ hx => by
    obtain ⟨y3, hv, hR⟩ := hx
    exact ⟨y3, hv, hr _ _ hR⟩

abbrev law5_LisPiles (r : World) (l1 : Sl) (h : Heap) (R : Bool → Heap → Prop) : Prop :=
  CallsH Try.prog r 5 [(Sl.v l1)] h fun v h' => ∃ (y2 : Bool), v = (.bool y2) ∧ R y2 h'

theorem law5_LisPiles.mono {r : World} {l1 : Sl} {h : Heap} {R R' : Bool → Heap → Prop} (H : law5_LisPiles r l1 h R) (hr : ∀ y2 h, R y2 h → R' y2 h) : law5_LisPiles r l1 h R' :=
  CallsH.mono H fun _ _ hx => by
    obtain ⟨y2, hv, hR⟩ := hx
    exact ⟨y2, hv, hr _ _ hR⟩

abbrev law5_LisLongest (r : World) (l1 : Sl) (vi2 : Sl) (h : Heap) (R : Bool → Heap → Prop) : Prop :=
  CallsH Try.prog r 6 [(Sl.v l1), (Sl.v vi2)] h fun v h' => ∃ (y3 : Bool), v = (.bool y3) ∧ R y3 h'

theorem law5_LisLongest.mono {r : World} {l1 : Sl} {vi2 : Sl} {h : Heap} {R R' : Bool → Heap → Prop} (H : law5_LisLongest r l1 vi2 h R) (hr : ∀ y3 h, R y3 h → R' y3 h) : law5_LisLongest r l1 vi2 h R' :=
  CallsH.mono H fun _ _ hx => by
    obtain ⟨y3, hv, hR⟩ := hx
    exact ⟨y3, hv, hr _ _ hR⟩

/-! ### same_Rows -/

def same_Rows_F (r : World) (a1 : Sl) (vb2 : Sl) (h : Heap) (R : Bool → Heap → Prop) : Prop :=
  Br (!decide (((a1.len : Int)) = ((vb2.len : Int)))) (
    R false h) (
    ∀ X4 : Int → Heap → Prop, (∀ (i3 : Int) (h1 : Heap),
      (Br (decide (i3 < ((a1.len : Int)))) (
        Ix a1 i3 1 fun q9 =>
        LdS h1 q9 fun x11 =>
        Ix vb2 i3 1 fun q17 =>
        LdS h1 q17 fun x19 =>
        same_Ints r x11 x19 h1 fun y21 h2 =>
        Br (!y21) (
          R false h2) (
          X4 (w64 (i3 + 1)) h2)) (
        R true h1)) →
      X4 i3 h1) →
    X4 0 h)

set_option maxRecDepth 100000 in
theorem same_Rows_of {r : World} {a1 : Sl} {vb2 : Sl} {h : Heap} {R : Bool → Heap → Prop} (H : same_Rows_F r a1 vb2 h R) : same_Rows r a1 vb2 h R := by
  unfold same_Rows_F at H
  refine calls_of 29 [.tmp 4] Try.func14 rfl rfl rfl rfl rfl ?_
  refine W_seq ?_
  refine W_region (.pu 0 .fin) rfl rfl ?_
  refine s_pu (d := some 4) (v := (.bool false)) rfl rfl rfl (r_assign rfl) ?_
  refine s_fin ?_
  show W _ _ _ _ _ _ _
  refine W_seq ?_
  refine W_seq ?_
  refine W_region (.pu 0 (.pu 1 (.pu 2 (.pu 3 (.pu 4 .fin))))) rfl rfl ?_
  refine s_pu (d := some 7) (v := (Sl.v a1)) rfl rfl rfl (r_move rfl) ?_
  refine s_pu (d := some 8) (v := (.int .i64 ((a1.len : Int)))) rfl rfl rfl (r_len Try.underlying24 rfl) ?_
  refine s_pu (d := some 9) (v := (Sl.v vb2)) rfl rfl rfl (r_move rfl) ?_
  refine s_pu (d := some 10) (v := (.int .i64 ((vb2.len : Int)))) rfl rfl rfl (r_len Try.underlying24 rfl) ?_
  refine s_pu (d := some 11) (v := (.bool (!decide (((a1.len : Int)) = ((vb2.len : Int)))))) rfl rfl rfl (r_neq rfl rfl) ?_
  refine s_fin ?_
  show W _ _ _ _ _ _ _
  refine W_if (!decide (((a1.len : Int)) = ((vb2.len : Int)))) rfl (fun g24 => ?_) (fun g24 => ?_)
  · have H := H.1 g24
    refine W_seq ?_
    refine W_region (.pu 0 .fin) rfl rfl ?_
    refine s_pu (d := some 4) (v := (.bool false)) rfl rfl rfl (r_assign rfl) ?_
    refine s_fin ?_
    show W _ _ _ _ _ _ _
    refine W_ret ?_
    exact ⟨[(.bool false)], ⟨_, _, rfl, rfl, rfl⟩, false, rfl, H⟩
  · have H := H.2 g24
    refine W_skip ?_
    show W _ _ _ _ _ _ _
    refine W_seq ?_
    refine W_seq ?_
    refine W_region (.pu 0 .fin) rfl rfl ?_
    refine s_pu (d := some 5) (v := (.int .i64 0)) rfl rfl rfl (r_assign rfl) ?_
    refine s_fin ?_
    show W _ _ _ _ _ _ _
    refine W_block ?_
    refine W_loop (WL_mk (l := [(0, (Sl.v a1)), (1, (Sl.v vb2)), (5, (.int .i64 0))]) ?_ ⟨rfl, rfl, rfl, trivial⟩)
    refine H (fun (i3 : Int) (h1 : Heap) => ∀ b, WL _ _ _ _ _ (mkE [(0, (Sl.v a1)), (1, (Sl.v vb2)), (5, (.int .i64 i3))] b) h1) ?_
    intro i3 h1 H b
    refine WL_round ?_
    refine W_seq ?_
    refine W_seq ?_
    refine W_region (.pu 0 (.pu 1 (.pu 2 (.pu 3 .fin)))) rfl rfl ?_
    refine s_pu (d := some 12) (v := (.int .i64 i3)) rfl rfl rfl (r_move rfl) ?_
    refine s_pu (d := some 13) (v := (Sl.v a1)) rfl rfl rfl (r_move rfl) ?_
    refine s_pu (d := some 14) (v := (.int .i64 ((a1.len : Int)))) rfl rfl rfl (r_len Try.underlying24 rfl) ?_
    refine s_pu (d := some 15) (v := (.bool (decide (i3 < ((a1.len : Int)))))) rfl rfl rfl (r_lss rfl rfl) ?_
    refine s_fin ?_
    show W _ _ _ _ _ _ _
    refine W_if (decide (i3 < ((a1.len : Int)))) rfl (fun g23 => ?_) (fun g23 => ?_)
    · have H := H.1 g23
      refine W_skip ?_
      show W _ _ _ _ _ _ _
      refine W_seq ?_
      refine W_block ?_
      refine W_seq ?_
      refine W_draw [0, 0, 3, 7, 0, 0, 48, 112, 255, 511] (.pu 0 (.pu 1 (.pu 2 (.rd 3 (.pu 4 (.pu 5 (.pu 6 (.rd 7 (.ef 8 [3, 7] (.pu 9 .fin) .no))))))))) (by kernel_rfl) (by kernel_rfl) ?_
      refine s_pu (d := some 18) (v := (Sl.v a1)) rfl rfl rfl (r_move rfl) ?_
      refine s_pu (d := some 19) (v := (.int .i64 i3)) rfl rfl rfl (r_move rfl) ?_
      obtain ⟨p5, e6, e7, e8, H⟩ := H
      obtain ⟨q9, e10⟩ : ∃ q : Addr, q = Addr.add p5 (Int.toNat i3 * 1) := ⟨_, rfl⟩
      rw [← e10] at H
      refine s_pu (d := some 20) (v := (.pointer (some q9))) rfl rfl rfl (fun w => (r_indexAddr Try.underlying24 Try.sizeOf22 rfl rfl e6 e7 e8 w).trans (by rw [e10])) ?_
      obtain ⟨x11, e12, H⟩ := H
      refine s_rd (d := some 21) (v := (Sl.v x11)) rfl rfl rfl (fun dr => r_load1 Try.isAgg22 rfl e12) ?_
      refine s_pu (d := some 22) (v := (Sl.v vb2)) rfl rfl rfl (r_move rfl) ?_
      refine s_pu (d := some 23) (v := (.int .i64 i3)) rfl rfl rfl (r_move rfl) ?_
      obtain ⟨p13, e14, e15, e16, H⟩ := H
      obtain ⟨q17, e18⟩ : ∃ q : Addr, q = Addr.add p13 (Int.toNat i3 * 1) := ⟨_, rfl⟩
      rw [← e18] at H
      refine s_pu (d := some 24) (v := (.pointer (some q17))) rfl rfl rfl (fun w => (r_indexAddr Try.underlying24 Try.sizeOf22 rfl rfl e14 e15 e16 w).trans (by rw [e18])) ?_
      obtain ⟨x19, e20, H⟩ := H
      refine s_rd (d := some 25) (v := (Sl.v x19)) rfl rfl rfl (fun dr => r_load1 Try.isAgg22 rfl e20) ?_
      refine s_ef (d := some 26) rfl rfl rfl (fun dr => r_call Try.call22 rfl rfl H) ?_ trivial
      rintro _ h2 ⟨y21, rfl, H⟩
      refine ⟨⟨trivial, trivial, trivial⟩, ?_⟩
      refine s_pu (d := some 6) (v := (.bool y21)) rfl rfl rfl (r_assign rfl) ?_
      refine s_fin ?_
      show W _ _ _ _ _ _ _
      refine W_seq ?_
      refine W_region (.pu 0 (.pu 1 .fin)) rfl rfl ?_
      refine s_pu (d := some 27) (v := (.bool y21)) rfl rfl rfl (r_move rfl) ?_
      refine s_pu (d := some 28) (v := (.bool (!y21))) rfl rfl rfl (r_not rfl) ?_
      refine s_fin ?_
      show W _ _ _ _ _ _ _
      refine W_if (!y21) rfl (fun g22 => ?_) (fun g22 => ?_)
      · have H := H.1 g22
        refine W_seq ?_
        refine W_region (.pu 0 .fin) rfl rfl ?_
        refine s_pu (d := some 4) (v := (.bool false)) rfl rfl rfl (r_assign rfl) ?_
        refine s_fin ?_
        show W _ _ _ _ _ _ _
        refine W_ret ?_
        exact ⟨[(.bool false)], ⟨_, _, rfl, rfl, rfl⟩, false, rfl, H⟩
      · have H := H.2 g22
        refine W_skip ?_
        show W _ _ _ _ _ _ _
        refine W_region (.pu 0 (.pu 1 (.pu 2 .fin))) rfl rfl ?_
        refine s_pu (d := some 16) (v := (.int .i64 i3)) rfl rfl rfl (r_move rfl) ?_
        refine s_pu (d := some 17) (v := (.int .i64 (w64 (i3 + 1)))) rfl rfl rfl (r_add rfl rfl) ?_
        refine s_pu (d := some 5) (v := (.int .i64 (w64 (i3 + 1)))) rfl rfl rfl (r_assign rfl) ?_
        refine s_fin ?_
        exact WL_mk (l := [(0, (Sl.v a1)), (1, (Sl.v vb2)), (5, (.int .i64 (w64 (i3 + 1))))]) H ⟨rfl, rfl, rfl, trivial⟩
    · have H := H.2 g23
      refine W_exit (inX_here ?_)
      show W _ _ _ _ _ _ _
      refine W_seq ?_
      refine W_region (.pu 0 .fin) rfl rfl ?_
      refine s_pu (d := some 4) (v := (.bool true)) rfl rfl rfl (r_assign rfl) ?_
      refine s_fin ?_
      show W _ _ _ _ _ _ _
      refine W_ret ?_
      exact ⟨[(.bool true)], ⟨_, _, rfl, rfl, rfl⟩, true, rfl, H⟩

/-! ### lis_dealt -/

def lis_dealt_F (r : World) (l1 : Sl) (h : Heap) (R : Sl → Sl → Heap → Prop) : Prop :=
  New h (.cells #[(Sl.v l1)] 22) fun p2 h1 =>
  New h1 (.cells #[(Sl.v Sl.nil)] 24) fun p5 h2 =>
  LdS h2 p2 fun x8 =>
  ∀ X12 : Sl → Int → Heap → Prop, (∀ (back10 : Sl) (x11 : Int) (h3 : Heap),
    (Br (decide (x11 < ((x8.len : Int)))) (
      Ix x8 x11 1 fun q17 =>
      LdI h3 q17 fun x19 =>
      New h3 (.cells #[(.int .i64 0)] 3) fun p21 h4 =>
      St h4 p21 1 [(.int .i64 x19)] fun h5 =>
      LdS h5 p5 fun x26 =>
      sort_Search r ((x26.len : Int)) ((.func (.func 37) #[] #[(.pointer (some p5)), (.pointer (some p2)), (.pointer (some p21))])) h5 fun y28 h6 =>
      LdS h6 p5 fun x29 =>
      ∀ J31 : Heap → Prop, (∀ (h7 : Heap),
        (∀ J34 : Int → Prop, (∀ (vb33 : Int),
          (New h7 (.cells #[(.int .i64 vb33)] 3) fun p36 h8 =>
          App 3 1 8 (.int .i64 0) back10 ((⟨some p36, 1, 1⟩ : Sl)) h8 fun s39 h9 =>
          LdS h9 p5 fun x40 =>
          LdS h9 p5 fun x42 =>
          Ix x42 y28 1 fun q48 =>
          LdS h9 q48 fun x50 =>
          New h9 (.cells #[(.int .i64 x11)] 3) fun p52 h10 =>
          (hcell h10 q48 = some (Sl.v x50)) ∧
          (hcell h10 p5 = some (Sl.v x42)) ∧
          (hcell h10 p5 = some (Sl.v x40)) ∧
          App 3 1 8 (.int .i64 0) x50 ((⟨some p52, 1, 1⟩ : Sl)) h10 fun s58 h11 =>
          (hcell h11 p5 = some (Sl.v x40)) ∧
          Ix x40 y28 1 fun q64 =>
          St h11 q64 1 [(Sl.v s58)] fun h12 =>
          X12 s39 (w64 (x11 + 1)) h12) →
          J34 vb33) →
        Br (decide (0 < y28)) (
          LdS h7 p5 fun x68 =>
          Ix x68 (w64 (y28 - 1)) 1 fun q74 =>
          LdS h7 q74 fun x76 =>
          Ix x76 (w64 (((x76.len : Int)) - 1)) 1 fun q82 =>
          LdI h7 q82 fun x84 =>
          J34 x84) (
          J34 ((-1)))) →
        J31 h7) →
      Br (decide (y28 = ((x29.len : Int)))) (
        LdS h6 p5 fun x87 =>
        New h6 (.cells #[(Sl.v Sl.nil)] 22) fun p89 h13 =>
        App 22 1 24 (Sl.v Sl.nil) x87 ((⟨some p89, 1, 1⟩ : Sl)) h13 fun s92 h14 =>
        St h14 p5 1 [(Sl.v s92)] fun h15 =>
        J31 h15) (
        J31 h6)) (
      LdS h3 p5 fun x96 =>
      St h3 p5 1 [(Sl.v x96)] fun h16 =>
      LdS h16 p5 fun x100 =>
      R x100 back10 h16)) →
    X12 back10 x11 h3) →
  X12 Sl.nil 0 h2

set_option maxRecDepth 100000 in
theorem lis_dealt_of {r : World} {l1 : Sl} {h : Heap} {R : Sl → Sl → Heap → Prop} (H : lis_dealt_F r l1 h R) : lis_dealt r l1 h R := by
  unfold lis_dealt_F at H
  refine calls_of 57 [.cell 2 24, .tmp 3] Try.func31 rfl rfl rfl rfl rfl ?_
  refine W_seq ?_
  refine W_region (.ef 0 [] (.ef 1 [] (.pu 2 .fin) .no) .no) rfl rfl ?_
  obtain ⟨p2, e3⟩ : ∃ p : Addr, p = ⟨h.size, 0, none⟩ := ⟨_, rfl⟩
  obtain ⟨h1, e4⟩ : ∃ hh : Heap, hh = h.push (.cells #[(Sl.v l1)] 22) := ⟨_, rfl⟩
  have H := H p2 h1 e3 e4
  refine s_ef1 (d := some 1) (v := (.pointer (some p2))) (h' := h1) rfl rfl rfl (fun dr => (r_box (v := (Sl.v l1)) rfl).trans (by rw [e3, e4]; rfl)) trivial ?_ trivial
  obtain ⟨p5, e6⟩ : ∃ p : Addr, p = ⟨h1.size, 0, none⟩ := ⟨_, rfl⟩
  obtain ⟨h2, e7⟩ : ∃ hh : Heap, hh = h1.push (.cells #[(Sl.v Sl.nil)] 24) := ⟨_, rfl⟩
  have H := H p5 h2 e6 e7
  refine s_ef1 (d := some 2) (v := (.pointer (some p5))) (h' := h2) rfl rfl rfl (fun dr => (r_alloc Try.zeroValue24).trans (by rw [e6, e7]; rfl)) trivial ?_ trivial
  refine s_pu (d := some 3) (v := (Sl.v Sl.nil)) rfl rfl rfl (r_assign rfl) ?_
  refine s_fin ?_
  show W _ _ _ _ _ _ _
  refine W_seq ?_
  refine W_seq ?_
  refine W_region (.rl 0 (.pu 1 (.pu 2 .fin))) rfl rfl ?_
  obtain ⟨x8, e9, H⟩ := H
  refine s_rl (d := some 9) (v := (Sl.v x8)) rfl rfl rfl (fun dr => r_load1 Try.isAgg22 rfl e9) ?_
  refine s_pu (d := some 10) (v := (.int .i64 ((x8.len : Int)))) rfl rfl rfl (r_len Try.underlying22 rfl) ?_
  refine s_pu (d := some 11) (v := (.int .i64 0)) rfl rfl rfl (r_move rfl) ?_
  refine s_fin ?_
  show W _ _ _ _ _ _ _
  refine W_block ?_
  refine W_loop (WL_mk (l := [(1, (.pointer (some p2))), (2, (.pointer (some p5))), (3, (Sl.v Sl.nil)), (9, (Sl.v x8)), (10, (.int .i64 ((x8.len : Int)))), (11, (.int .i64 0))]) ?_ ⟨rfl, rfl, rfl, rfl, rfl, rfl, trivial⟩)
  refine H (fun (back10 : Sl) (x11 : Int) (h3 : Heap) => ∀ b, WL _ _ _ _ _ (mkE [(1, (.pointer (some p2))), (2, (.pointer (some p5))), (3, (Sl.v back10)), (9, (Sl.v x8)), (10, (.int .i64 ((x8.len : Int)))), (11, (.int .i64 x11))] b) h3) ?_
  intro back10 x11 h3 H b
  refine WL_round ?_
  refine W_seq ?_
  refine W_region (.pu 0 .fin) rfl rfl ?_
  refine s_pu (d := some 12) (v := (.bool (decide (x11 < ((x8.len : Int)))))) rfl rfl rfl (r_lss rfl rfl) ?_
  refine s_fin ?_
  show W _ _ _ _ _ _ _
  refine W_seq ?_
  refine W_if (decide (x11 < ((x8.len : Int)))) rfl (fun g102 => ?_) (fun g102 => ?_)
  · have H := H.1 g102
    refine W_skip ?_
    show W _ _ _ _ _ _ _
    refine W_seq ?_
    refine W_block ?_
    refine W_seq ?_
    refine W_region (.pu 0 (.pu 1 (.rl 2 (.ef 3 [] (.pu 4 (.ef 5 [] .fin .no)) .no)))) rfl rfl ?_
    refine s_pu (d := some 13) (v := (.int .i64 x11)) rfl rfl rfl (r_move rfl) ?_
    obtain ⟨p13, e14, e15, e16, H⟩ := H
    obtain ⟨q17, e18⟩ : ∃ q : Addr, q = Addr.add p13 (Int.toNat x11 * 1) := ⟨_, rfl⟩
    rw [← e18] at H
    refine s_pu (d := some 14) (v := (.pointer (some q17))) rfl rfl rfl (fun w => (r_indexAddr Try.underlying22 Try.sizeOf3 rfl rfl e14 e15 e16 w).trans (by rw [e18])) ?_
    obtain ⟨x19, e20, H⟩ := H
    refine s_rl (d := some 15) (v := (.int .i64 x19)) rfl rfl rfl (fun dr => r_load1 Try.isAgg3 rfl e20) ?_
    obtain ⟨p21, e22⟩ : ∃ p : Addr, p = ⟨h3.size, 0, none⟩ := ⟨_, rfl⟩
    obtain ⟨h4, e23⟩ : ∃ hh : Heap, hh = h3.push (.cells #[(.int .i64 0)] 3) := ⟨_, rfl⟩
    have H := H p21 h4 e22 e23
    refine s_ef1 (d := some 5) (v := (.pointer (some p21))) (h' := h4) rfl rfl rfl (fun dr => (r_alloc Try.zeroValue3).trans (by rw [e22, e23]; rfl)) trivial ?_ trivial
    refine s_pu (d := some 4) (v := (.int .i64 x11)) rfl rfl rfl (r_assign rfl) ?_
    obtain ⟨e25, H⟩ := H
    obtain ⟨h5, e24⟩ : ∃ hh : Heap, hh = hsets h4 p21 0 [(.int .i64 x19)] := ⟨_, rfl⟩
    have H := H h5 e24
    refine s_st (d := none) (h' := h5) rfl rfl rfl (fun dr => (r_store (v := (.int .i64 x19)) Try.sizeOf3 rfl rfl rfl (one_all rfl) e25).trans (by rw [e24]; rfl)) trivial ?_ trivial
    refine s_fin ?_
    show W _ _ _ _ _ _ _
    refine W_seq ?_
    refine W_region (.rl 0 (.pu 1 (.pu 2 (.ef 3 [] (.pu 4 .fin) .no)))) rfl rfl ?_
    obtain ⟨x26, e27, H⟩ := H
    refine s_rl (d := some 16) (v := (Sl.v x26)) rfl rfl rfl (fun dr => r_load1 Try.isAgg24 rfl e27) ?_
    refine s_pu (d := some 17) (v := (.int .i64 ((x26.len : Int)))) rfl rfl rfl (r_len Try.underlying24 rfl) ?_
    refine s_pu (d := some 18) (v := ((.func (.func 37) #[] #[(.pointer (some p5)), (.pointer (some p2)), (.pointer (some p21))]))) rfl rfl rfl (r_makeFunc rfl rfl) ?_
    refine s_ef (d := some 19) rfl rfl rfl (fun dr => r_call Try.call36 rfl rfl H) ?_ trivial
    rintro _ h6 ⟨y28, rfl, H⟩
    refine ⟨trivial, ?_⟩
    refine s_pu (d := some 6) (v := (.int .i64 y28)) rfl rfl rfl (r_assign rfl) ?_
    refine s_fin ?_
    show W _ _ _ _ _ _ _
    refine W_seq ?_
    refine W_seq ?_
    refine W_region (.pu 0 (.rl 1 (.pu 2 (.pu 3 .fin)))) rfl rfl ?_
    refine s_pu (d := some 20) (v := (.int .i64 y28)) rfl rfl rfl (r_move rfl) ?_
    obtain ⟨x29, e30, H⟩ := H
    refine s_rl (d := some 21) (v := (Sl.v x29)) rfl rfl rfl (fun dr => r_load1 Try.isAgg24 rfl e30) ?_
    refine s_pu (d := some 22) (v := (.int .i64 ((x29.len : Int)))) rfl rfl rfl (r_len Try.underlying24 rfl) ?_
    refine s_pu (d := some 23) (v := (.bool (decide (y28 = ((x29.len : Int)))))) rfl rfl rfl (r_eql rfl rfl) ?_
    refine s_fin ?_
    show W _ _ _ _ _ _ _
    refine W_set ?_
    intro N32 eN32
    have H := H (fun (h7 : Heap) => ∀ b, N32 (mkE [(1, (.pointer (some p2))), (2, (.pointer (some p5))), (3, (Sl.v back10)), (4, (.int .i64 x11)), (6, (.int .i64 y28)), (9, (Sl.v x8)), (10, (.int .i64 ((x8.len : Int)))), (11, (.int .i64 x11))] b) h7) (by
      intro h7 H b
      rw [eN32]
      show W _ _ _ _ _ _ _
      refine W_seq ?_
      refine W_region (.pu 0 .fin) rfl rfl ?_
      refine s_pu (d := some 7) (v := (.int .i64 ((-1)))) rfl rfl rfl (r_assign rfl) ?_
      refine s_fin ?_
      show W _ _ _ _ _ _ _
      refine W_seq ?_
      refine W_seq ?_
      refine W_region (.pu 0 (.pu 1 .fin)) rfl rfl ?_
      refine s_pu (d := some 27) (v := (.int .i64 y28)) rfl rfl rfl (r_move rfl) ?_
      refine s_pu (d := some 28) (v := (.bool (decide (0 < y28)))) rfl rfl rfl (r_gtr rfl rfl) ?_
      refine s_fin ?_
      show W _ _ _ _ _ _ _
      refine W_set ?_
      intro N35 eN35
      have H := H (fun (vb33 : Int) => ∀ b, N35 (mkE [(1, (.pointer (some p2))), (2, (.pointer (some p5))), (3, (Sl.v back10)), (4, (.int .i64 x11)), (6, (.int .i64 y28)), (7, (.int .i64 vb33)), (9, (Sl.v x8)), (10, (.int .i64 ((x8.len : Int)))), (11, (.int .i64 x11))] b) h7) (by
        intro vb33 H b
        rw [eN35]
        show W _ _ _ _ _ _ _
        refine W_seq ?_
        refine W_region (.pu 0 (.pu 1 (.ef 2 [] (.ef 3 [] (.pu 4 .fin) .no) .no))) rfl rfl ?_
        refine s_pu (d := some 40) (v := (Sl.v back10)) rfl rfl rfl (r_move rfl) ?_
        refine s_pu (d := some 41) (v := (.int .i64 vb33)) rfl rfl rfl (r_move rfl) ?_
        obtain ⟨p36, e37⟩ : ∃ p : Addr, p = ⟨h7.size, 0, none⟩ := ⟨_, rfl⟩
        obtain ⟨h8, e38⟩ : ∃ hh : Heap, hh = h7.push (.cells #[(.int .i64 vb33)] 3) := ⟨_, rfl⟩
        have H := H p36 h8 e37 e38
        refine s_ef1 (d := some 42) (v := (Sl.v ((⟨some p36, 1, 1⟩ : Sl)))) (h' := h8) rfl rfl rfl (fun dr => (slFLis_22.build (cells := #[(.int .i64 vb33)]) (by decide) rfl (by kernel_rfl)).trans (by rw [e37, e38]; rfl)) trivial ?_ trivial
        refine s_ef (d := some 43) rfl rfl rfl (fun dr => slFLis_22.append rfl rfl H) ?_ trivial
        rintro _ h9 ⟨s39, rfl, H⟩
        refine ⟨trivial, ?_⟩
        refine s_pu (d := some 3) (v := (Sl.v s39)) rfl rfl rfl (r_assign rfl) ?_
        refine s_fin ?_
        show W _ _ _ _ _ _ _
        refine W_draw [0, 0, 0, 0, 12, 28, 0, 64, 252, 511, 1023] (.rd 0 (.pu 1 (.rd 2 (.pu 3 (.pu 4 (.rd 5 (.pu 6 (.ef 7 [] (.ef 8 [2, 5] (.pu 9 (.ef 10 [0, 2, 5] .fin .no)) .no) .no)))))))) (by kernel_rfl) (by kernel_rfl) ?_
        obtain ⟨x40, e41, H⟩ := H
        refine s_rd (d := some 44) (v := (Sl.v x40)) rfl rfl rfl (fun dr => r_load1 Try.isAgg24 rfl e41) ?_
        refine s_pu (d := some 45) (v := (.int .i64 y28)) rfl rfl rfl (r_move rfl) ?_
        obtain ⟨x42, e43, H⟩ := H
        refine s_rd (d := some 46) (v := (Sl.v x42)) rfl rfl rfl (fun dr => r_load1 Try.isAgg24 rfl e43) ?_
        refine s_pu (d := some 47) (v := (.int .i64 y28)) rfl rfl rfl (r_move rfl) ?_
        obtain ⟨p44, e45, e46, e47, H⟩ := H
        obtain ⟨q48, e49⟩ : ∃ q : Addr, q = Addr.add p44 (Int.toNat y28 * 1) := ⟨_, rfl⟩
        rw [← e49] at H
        refine s_pu (d := some 48) (v := (.pointer (some q48))) rfl rfl rfl (fun w => (r_indexAddr Try.underlying24 Try.sizeOf22 rfl rfl e45 e46 e47 w).trans (by rw [e49])) ?_
        obtain ⟨x50, e51, H⟩ := H
        refine s_rd (d := some 49) (v := (Sl.v x50)) rfl rfl rfl (fun dr => r_load1 Try.isAgg22 rfl e51) ?_
        refine s_pu (d := some 50) (v := (.int .i64 x11)) rfl rfl rfl (r_move rfl) ?_
        obtain ⟨p52, e53⟩ : ∃ p : Addr, p = ⟨h9.size, 0, none⟩ := ⟨_, rfl⟩
        obtain ⟨h10, e54⟩ : ∃ hh : Heap, hh = h9.push (.cells #[(.int .i64 x11)] 3) := ⟨_, rfl⟩
        have H := H p52 h10 e53 e54
        obtain ⟨e55, H⟩ := H
        obtain ⟨e56, H⟩ := H
        obtain ⟨e57, H⟩ := H
        refine s_ef1 (d := some 51) (v := (Sl.v ((⟨some p52, 1, 1⟩ : Sl)))) (h' := h10) rfl rfl rfl (fun dr => (slFLis_22.build (cells := #[(.int .i64 x11)]) (by decide) rfl (by kernel_rfl)).trans (by rw [e53, e54]; rfl)) ⟨(.inl ⟨rfl, fun dr => r_load1 Try.isAgg22 rfl e55⟩), (.inl ⟨rfl, fun dr => r_load1 Try.isAgg24 rfl e56⟩), (.inl ⟨rfl, fun dr => r_load1 Try.isAgg24 rfl e57⟩), trivial⟩ ?_ trivial
        refine s_ef (d := some 52) rfl rfl rfl (fun dr => slFLis_22.append rfl rfl H) ?_ trivial
        rintro _ h11 ⟨s58, rfl, H⟩
        obtain ⟨e59, H⟩ := H
        refine ⟨⟨trivial, trivial, (.inl ⟨rfl, fun dr => r_load1 Try.isAgg24 rfl e59⟩), trivial⟩, ?_⟩
        obtain ⟨p60, e61, e62, e63, H⟩ := H
        obtain ⟨q64, e65⟩ : ∃ q : Addr, q = Addr.add p60 (Int.toNat y28 * 1) := ⟨_, rfl⟩
        rw [← e65] at H
        refine s_pu (d := some 53) (v := (.pointer (some q64))) rfl rfl rfl (fun w => (r_indexAddr Try.underlying24 Try.sizeOf22 rfl rfl e61 e62 e63 w).trans (by rw [e65])) ?_
        obtain ⟨e67, H⟩ := H
        obtain ⟨h12, e66⟩ : ∃ hh : Heap, hh = hsets h11 q64 0 [(Sl.v s58)] := ⟨_, rfl⟩
        have H := H h12 e66
        refine s_st (d := none) (h' := h12) rfl rfl rfl (fun dr => (r_store (v := (Sl.v s58)) Try.sizeOf22 rfl rfl rfl (one_all rfl) e67).trans (by rw [e66]; rfl)) ⟨trivial, trivial, trivial, trivial⟩ ?_ trivial
        refine s_fin ?_
        show W _ _ _ _ _ _ _
        refine W_region (.pu 0 (.pu 1 .fin)) rfl rfl ?_
        refine s_pu (d := some 54) (v := (.int .i64 (w64 (x11 + 1)))) rfl rfl rfl (r_add rfl rfl) ?_
        refine s_pu (d := some 11) (v := (.int .i64 (w64 (x11 + 1)))) rfl rfl rfl (r_move rfl) ?_
        refine s_fin ?_
        exact WL_mk (l := [(1, (.pointer (some p2))), (2, (.pointer (some p5))), (3, (Sl.v s39)), (9, (Sl.v x8)), (10, (.int .i64 ((x8.len : Int)))), (11, (.int .i64 (w64 (x11 + 1))))]) H ⟨rfl, rfl, rfl, rfl, rfl, rfl, trivial⟩)
      clear eN35
      refine W_if (decide (0 < y28)) rfl (fun g86 => ?_) (fun g86 => ?_)
      · have H := H.1 g86
        refine W_seq ?_
        refine W_region (.rl 0 (.pu 1 (.pu 2 (.pu 3 (.rl 4 (.pu 5 .fin)))))) rfl rfl ?_
        obtain ⟨x68, e69, H⟩ := H
        refine s_rl (d := some 29) (v := (Sl.v x68)) rfl rfl rfl (fun dr => r_load1 Try.isAgg24 rfl e69) ?_
        refine s_pu (d := some 30) (v := (.int .i64 y28)) rfl rfl rfl (r_move rfl) ?_
        refine s_pu (d := some 31) (v := (.int .i64 (w64 (y28 - 1)))) rfl rfl rfl (r_sub rfl rfl) ?_
        obtain ⟨p70, e71, e72, e73, H⟩ := H
        obtain ⟨q74, e75⟩ : ∃ q : Addr, q = Addr.add p70 (Int.toNat (w64 (y28 - 1)) * 1) := ⟨_, rfl⟩
        rw [← e75] at H
        refine s_pu (d := some 32) (v := (.pointer (some q74))) rfl rfl rfl (fun w => (r_indexAddr Try.underlying24 Try.sizeOf22 rfl rfl e71 e72 e73 w).trans (by rw [e75])) ?_
        obtain ⟨x76, e77, H⟩ := H
        refine s_rl (d := some 33) (v := (Sl.v x76)) rfl rfl rfl (fun dr => r_load1 Try.isAgg22 rfl e77) ?_
        refine s_pu (d := some 8) (v := (Sl.v x76)) rfl rfl rfl (r_assign rfl) ?_
        refine s_fin ?_
        show W _ _ _ _ _ _ _
        refine W_region (.pu 0 (.pu 1 (.pu 2 (.pu 3 (.pu 4 (.rl 5 (.pu 6 .fin))))))) rfl rfl ?_
        refine s_pu (d := some 34) (v := (Sl.v x76)) rfl rfl rfl (r_move rfl) ?_
        refine s_pu (d := some 35) (v := (Sl.v x76)) rfl rfl rfl (r_move rfl) ?_
        refine s_pu (d := some 36) (v := (.int .i64 ((x76.len : Int)))) rfl rfl rfl (r_len Try.underlying22 rfl) ?_
        refine s_pu (d := some 37) (v := (.int .i64 (w64 (((x76.len : Int)) - 1)))) rfl rfl rfl (r_sub rfl rfl) ?_
        obtain ⟨p78, e79, e80, e81, H⟩ := H
        obtain ⟨q82, e83⟩ : ∃ q : Addr, q = Addr.add p78 (Int.toNat (w64 (((x76.len : Int)) - 1)) * 1) := ⟨_, rfl⟩
        rw [← e83] at H
        refine s_pu (d := some 38) (v := (.pointer (some q82))) rfl rfl rfl (fun w => (r_indexAddr Try.underlying22 Try.sizeOf3 rfl rfl e79 e80 e81 w).trans (by rw [e83])) ?_
        obtain ⟨x84, e85, H⟩ := H
        refine s_rl (d := some 39) (v := (.int .i64 x84)) rfl rfl rfl (fun dr => r_load1 Try.isAgg3 rfl e85) ?_
        refine s_pu (d := some 7) (v := (.int .i64 x84)) rfl rfl rfl (r_assign rfl) ?_
        refine s_fin ?_
        exact N_mk (l := [(1, (.pointer (some p2))), (2, (.pointer (some p5))), (3, (Sl.v back10)), (4, (.int .i64 x11)), (6, (.int .i64 y28)), (7, (.int .i64 x84)), (9, (Sl.v x8)), (10, (.int .i64 ((x8.len : Int)))), (11, (.int .i64 x11))]) H ⟨rfl, rfl, rfl, rfl, rfl, rfl, rfl, rfl, rfl, trivial⟩
      · have H := H.2 g86
        refine W_skip ?_
        exact N_mk (l := [(1, (.pointer (some p2))), (2, (.pointer (some p5))), (3, (Sl.v back10)), (4, (.int .i64 x11)), (6, (.int .i64 y28)), (7, (.int .i64 ((-1)))), (9, (Sl.v x8)), (10, (.int .i64 ((x8.len : Int)))), (11, (.int .i64 x11))]) H ⟨rfl, rfl, rfl, rfl, rfl, rfl, rfl, rfl, rfl, trivial⟩)
    clear eN32
    refine W_if (decide (y28 = ((x29.len : Int)))) rfl (fun g95 => ?_) (fun g95 => ?_)
    · have H := H.1 g95
      refine W_region (.rl 0 (.ef 1 [] (.ef 2 [] (.ef 3 [] .fin .no) .no) .no)) rfl rfl ?_
      obtain ⟨x87, e88, H⟩ := H
      refine s_rl (d := some 24) (v := (Sl.v x87)) rfl rfl rfl (fun dr => r_load1 Try.isAgg24 rfl e88) ?_
      obtain ⟨p89, e90⟩ : ∃ p : Addr, p = ⟨h6.size, 0, none⟩ := ⟨_, rfl⟩
      obtain ⟨h13, e91⟩ : ∃ hh : Heap, hh = h6.push (.cells #[(Sl.v Sl.nil)] 22) := ⟨_, rfl⟩
      have H := H p89 h13 e90 e91
      refine s_ef1 (d := some 25) (v := (Sl.v ((⟨some p89, 1, 1⟩ : Sl)))) (h' := h13) rfl rfl rfl (fun dr => (slFLis_24.build (cells := #[(Sl.v Sl.nil)]) (by decide) rfl (by kernel_rfl)).trans (by rw [e90, e91]; rfl)) trivial ?_ trivial
      refine s_ef (d := some 26) rfl rfl rfl (fun dr => slFLis_24.append rfl rfl H) ?_ trivial
      rintro _ h14 ⟨s92, rfl, H⟩
      refine ⟨trivial, ?_⟩
      obtain ⟨e94, H⟩ := H
      obtain ⟨h15, e93⟩ : ∃ hh : Heap, hh = hsets h14 p5 0 [(Sl.v s92)] := ⟨_, rfl⟩
      have H := H h15 e93
      refine s_st (d := none) (h' := h15) rfl rfl rfl (fun dr => (r_store (v := (Sl.v s92)) Try.sizeOf24 rfl rfl rfl (one_all rfl) e94).trans (by rw [e93]; rfl)) trivial ?_ trivial
      refine s_fin ?_
      exact N_mk (l := [(1, (.pointer (some p2))), (2, (.pointer (some p5))), (3, (Sl.v back10)), (4, (.int .i64 x11)), (6, (.int .i64 y28)), (9, (Sl.v x8)), (10, (.int .i64 ((x8.len : Int)))), (11, (.int .i64 x11))]) H ⟨rfl, rfl, rfl, rfl, rfl, rfl, rfl, rfl, trivial⟩
    · have H := H.2 g95
      refine W_skip ?_
      exact N_mk (l := [(1, (.pointer (some p2))), (2, (.pointer (some p5))), (3, (Sl.v back10)), (4, (.int .i64 x11)), (6, (.int .i64 y28)), (9, (Sl.v x8)), (10, (.int .i64 ((x8.len : Int)))), (11, (.int .i64 x11))]) H ⟨rfl, rfl, rfl, rfl, rfl, rfl, rfl, rfl, trivial⟩
  · have H := H.2 g102
    refine W_exit (inX_here ?_)
    show W _ _ _ _ _ _ _
    refine W_seq ?_
    refine W_region (.rl 0 (.pu 1 (.ef 2 [] (.pu 3 .fin) .no))) rfl rfl ?_
    obtain ⟨x96, e97, H⟩ := H
    refine s_rl (d := some 55) (v := (Sl.v x96)) rfl rfl rfl (fun dr => r_load1 Try.isAgg24 rfl e97) ?_
    refine s_pu (d := some 56) (v := (Sl.v back10)) rfl rfl rfl (r_move rfl) ?_
    obtain ⟨e99, H⟩ := H
    obtain ⟨h16, e98⟩ : ∃ hh : Heap, hh = hsets h3 p5 0 [(Sl.v x96)] := ⟨_, rfl⟩
    have H := H h16 e98
    refine s_st (d := none) (h' := h16) rfl rfl rfl (fun dr => (r_store (v := (Sl.v x96)) Try.sizeOf24 rfl rfl rfl (one_all rfl) e99).trans (by rw [e98]; rfl)) trivial ?_ trivial
    refine s_pu (d := some 3) (v := (Sl.v back10)) rfl rfl rfl (r_assign rfl) ?_
    refine s_fin ?_
    show W _ _ _ _ _ _ _
    refine W_ret ?_
    obtain ⟨x100, e101, H⟩ := H
    exact ⟨[(Sl.v x100), (Sl.v back10)], ⟨_, _, _, rfl, rfl, fun dr => run_loadVar1 Try.isAgg24 e101, ⟨_, _, rfl, rfl, rfl⟩⟩, x100, back10, rfl, H⟩

/-! ### lis_dealt_1 -/

def lis_dealt_1_F (r : World) (k1 : Int) (c2 : Addr) (c3 : Addr) (c4 : Addr) (h : Heap) (R : Bool → Heap → Prop) : Prop :=
  LdS h c2 fun x5 =>
  Ix x5 k1 1 fun q11 =>
  LdS h q11 fun x13 =>
  LdS h c3 fun x15 =>
  Ix x13 (w64 (((x13.len : Int)) - 1)) 1 fun q21 =>
  LdI h q21 fun x23 =>
  Ix x15 x23 1 fun q29 =>
  LdI h q29 fun x31 =>
  LdI h c4 fun x33 =>
  R (decide (x33 ≤ x31)) h

set_option maxRecDepth 100000 in
theorem lis_dealt_1_of {r : World} {k1 : Int} {c2 : Addr} {c3 : Addr} {c4 : Addr} {h : Heap} {R : Bool → Heap → Prop} (H : lis_dealt_1_F r k1 c2 c3 c4 h R) : lis_dealt_1 r k1 c2 c3 c4 h R := by
  unfold lis_dealt_1_F at H
  refine calls_of 22 [.tmp 5] Try.func37 rfl rfl rfl rfl rfl ?_
  refine W_seq ?_
  refine W_region (.pu 0 .fin) rfl rfl ?_
  refine s_pu (d := some 5) (v := (.bool false)) rfl rfl rfl (r_assign rfl) ?_
  refine s_fin ?_
  show W _ _ _ _ _ _ _
  refine W_seq ?_
  refine W_region (.rl 0 (.pu 1 (.pu 2 (.rl 3 (.pu 4 .fin))))) rfl rfl ?_
  obtain ⟨x5, e6, H⟩ := H
  refine s_rl (d := some 7) (v := (Sl.v x5)) rfl rfl rfl (fun dr => r_load1 Try.isAgg24 rfl e6) ?_
  refine s_pu (d := some 8) (v := (.int .i64 k1)) rfl rfl rfl (r_move rfl) ?_
  obtain ⟨p7, e8, e9, e10, H⟩ := H
  obtain ⟨q11, e12⟩ : ∃ q : Addr, q = Addr.add p7 (Int.toNat k1 * 1) := ⟨_, rfl⟩
  rw [← e12] at H
  refine s_pu (d := some 9) (v := (.pointer (some q11))) rfl rfl rfl (fun w => (r_indexAddr Try.underlying24 Try.sizeOf22 rfl rfl e8 e9 e10 w).trans (by rw [e12])) ?_
  obtain ⟨x13, e14, H⟩ := H
  refine s_rl (d := some 10) (v := (Sl.v x13)) rfl rfl rfl (fun dr => r_load1 Try.isAgg22 rfl e14) ?_
  refine s_pu (d := some 6) (v := (Sl.v x13)) rfl rfl rfl (r_assign rfl) ?_
  refine s_fin ?_
  show W _ _ _ _ _ _ _
  refine W_seq ?_
  refine W_draw [0, 0, 0, 4, 12, 30, 62, 127, 255, 0, 1023, 2047] (.rd 0 (.pu 1 (.pu 2 (.pu 3 (.pu 4 (.pu 5 (.rd 6 (.pu 7 (.rd 8 (.rd 9 (.pu 10 (.pu 11 .fin)))))))))))) (by kernel_rfl) (by kernel_rfl) ?_
  obtain ⟨x15, e16, H⟩ := H
  refine s_rd (d := some 11) (v := (Sl.v x15)) rfl rfl rfl (fun dr => r_load1 Try.isAgg22 rfl e16) ?_
  refine s_pu (d := some 12) (v := (Sl.v x13)) rfl rfl rfl (r_move rfl) ?_
  refine s_pu (d := some 13) (v := (Sl.v x13)) rfl rfl rfl (r_move rfl) ?_
  refine s_pu (d := some 14) (v := (.int .i64 ((x13.len : Int)))) rfl rfl rfl (r_len Try.underlying22 rfl) ?_
  refine s_pu (d := some 15) (v := (.int .i64 (w64 (((x13.len : Int)) - 1)))) rfl rfl rfl (r_sub rfl rfl) ?_
  obtain ⟨p17, e18, e19, e20, H⟩ := H
  obtain ⟨q21, e22⟩ : ∃ q : Addr, q = Addr.add p17 (Int.toNat (w64 (((x13.len : Int)) - 1)) * 1) := ⟨_, rfl⟩
  rw [← e22] at H
  refine s_pu (d := some 16) (v := (.pointer (some q21))) rfl rfl rfl (fun w => (r_indexAddr Try.underlying22 Try.sizeOf3 rfl rfl e18 e19 e20 w).trans (by rw [e22])) ?_
  obtain ⟨x23, e24, H⟩ := H
  refine s_rd (d := some 17) (v := (.int .i64 x23)) rfl rfl rfl (fun dr => r_load1 Try.isAgg3 rfl e24) ?_
  obtain ⟨p25, e26, e27, e28, H⟩ := H
  obtain ⟨q29, e30⟩ : ∃ q : Addr, q = Addr.add p25 (Int.toNat x23 * 1) := ⟨_, rfl⟩
  rw [← e30] at H
  refine s_pu (d := some 18) (v := (.pointer (some q29))) rfl rfl rfl (fun w => (r_indexAddr Try.underlying22 Try.sizeOf3 rfl rfl e26 e27 e28 w).trans (by rw [e30])) ?_
  obtain ⟨x31, e32, H⟩ := H
  refine s_rd (d := some 19) (v := (.int .i64 x31)) rfl rfl rfl (fun dr => r_load1 Try.isAgg3 rfl e32) ?_
  obtain ⟨x33, e34, H⟩ := H
  refine s_rd (d := some 20) (v := (.int .i64 x33)) rfl rfl rfl (fun dr => r_load1 Try.isAgg3 rfl e34) ?_
  refine s_pu (d := some 21) (v := (.bool (decide (x33 ≤ x31)))) rfl rfl rfl (r_geq rfl rfl) ?_
  refine s_pu (d := some 5) (v := (.bool (decide (x33 ≤ x31)))) rfl rfl rfl (r_assign rfl) ?_
  refine s_fin ?_
  show W _ _ _ _ _ _ _
  refine W_ret ?_
  exact ⟨[(.bool (decide (x33 ≤ x31)))], ⟨_, _, rfl, rfl, rfl⟩, (decide (x33 ≤ x31)), rfl, H⟩

/-! ### sort_Search -/

def sort_Search_F (r : World) (n1 : Int) (f2 : Value) (h : Heap) (R : Int → Heap → Prop) : Prop :=
  ∀ X5 : Int → Int → Heap → Prop, (∀ (i3 : Int) (j4 : Int) (h1 : Heap),
    (Br (decide (i3 < j4)) (
      ∀ x6 : Int, x6 = (w64 (sShr .u64 (IntKind.wrap .u64 (w64 (i3 + j4))) 1)) →
      CallV Try.prog r f2 [(.int .i64 x6)] h1 fun v10 h2 => ∃ (y8 : Bool), v10 = (.bool y8) ∧
      Br (!y8) (
        X5 (w64 (x6 + 1)) j4 h2) (
        X5 i3 x6 h2)) (
      R i3 h1)) →
    X5 i3 j4 h1) →
  X5 0 n1 h

set_option maxRecDepth 100000 in
theorem sort_Search_of {r : World} {n1 : Int} {f2 : Value} {h : Heap} {R : Int → Heap → Prop} (H : sort_Search_F r n1 f2 h R) : sort_Search r n1 f2 h R := by
  unfold sort_Search_F at H
  refine calls_of 26 [.tmp 4] Try.func36 rfl rfl rfl rfl rfl ?_
  refine W_seq ?_
  refine W_region (.pu 0 .fin) rfl rfl ?_
  refine s_pu (d := some 4) (v := (.int .i64 0)) rfl rfl rfl (r_assign rfl) ?_
  refine s_fin ?_
  show W _ _ _ _ _ _ _
  refine W_seq ?_
  refine W_region (.pu 0 (.pu 1 (.pu 2 .fin))) rfl rfl ?_
  refine s_pu (d := some 8) (v := (.int .i64 n1)) rfl rfl rfl (r_move rfl) ?_
  refine s_pu (d := some 5) (v := (.int .i64 0)) rfl rfl rfl (r_assign rfl) ?_
  refine s_pu (d := some 6) (v := (.int .i64 n1)) rfl rfl rfl (r_assign rfl) ?_
  refine s_fin ?_
  show W _ _ _ _ _ _ _
  refine W_seq ?_
  refine W_block ?_
  refine W_loop (WL_mk (l := [(1, f2), (5, (.int .i64 0)), (6, (.int .i64 n1))]) ?_ ⟨rfl, rfl, rfl, trivial⟩)
  refine H (fun (i3 : Int) (j4 : Int) (h1 : Heap) => ∀ b, WL _ _ _ _ _ (mkE [(1, f2), (5, (.int .i64 i3)), (6, (.int .i64 j4))] b) h1) ?_
  intro i3 j4 h1 H b
  refine WL_round ?_
  refine W_seq ?_
  refine W_seq ?_
  refine W_region (.pu 0 (.pu 1 (.pu 2 .fin))) rfl rfl ?_
  refine s_pu (d := some 9) (v := (.int .i64 i3)) rfl rfl rfl (r_move rfl) ?_
  refine s_pu (d := some 10) (v := (.int .i64 j4)) rfl rfl rfl (r_move rfl) ?_
  refine s_pu (d := some 11) (v := (.bool (decide (i3 < j4)))) rfl rfl rfl (r_lss rfl rfl) ?_
  refine s_fin ?_
  show W _ _ _ _ _ _ _
  refine W_if (decide (i3 < j4)) rfl (fun g11 => ?_) (fun g11 => ?_)
  · have H := H.1 g11
    refine W_skip ?_
    show W _ _ _ _ _ _ _
    refine W_block ?_
    refine W_seq ?_
    refine W_region (.pu 0 (.pu 1 (.pu 2 (.pu 3 (.pu 4 (.pu 5 (.pu 6 .fin))))))) rfl rfl ?_
    refine s_pu (d := some 12) (v := (.int .i64 i3)) rfl rfl rfl (r_move rfl) ?_
    refine s_pu (d := some 13) (v := (.int .i64 j4)) rfl rfl rfl (r_move rfl) ?_
    refine s_pu (d := some 14) (v := (.int .i64 (w64 (i3 + j4)))) rfl rfl rfl (r_add rfl rfl) ?_
    refine s_pu (d := some 15) (v := (.int .u64 (IntKind.wrap .u64 (w64 (i3 + j4))))) rfl rfl rfl (r_conv Try.underlying3 Try.underlying58 rfl) ?_
    refine s_pu (d := some 16) (v := (.int .u64 (sShr .u64 (IntKind.wrap .u64 (w64 (i3 + j4))) 1))) rfl rfl rfl (r_shr rfl rfl (by decide)) ?_
    refine s_pu (d := some 17) (v := (.int .i64 (w64 (sShr .u64 (IntKind.wrap .u64 (w64 (i3 + j4))) 1)))) rfl rfl rfl (r_conv Try.underlying58 Try.underlying3 rfl) ?_
    obtain ⟨x6, e7⟩ : ∃ x : Int, x = (w64 (sShr .u64 (IntKind.wrap .u64 (w64 (i3 + j4))) 1)) := ⟨_, rfl⟩
    have H := H x6 e7
    refine s_pu (d := some 7) (v := (.int .i64 x6)) rfl rfl rfl (r_assign (congrArg (Value.int .i64) e7.symm)) ?_
    refine s_fin ?_
    show W _ _ _ _ _ _ _
    refine W_seq ?_
    refine W_region (.pu 0 (.pu 1 (.ef 2 [] (.pu 3 .fin) .no))) rfl rfl ?_
    refine s_pu (d := some 18) (v := f2) rfl rfl rfl (r_move rfl) ?_
    refine s_pu (d := some 19) (v := (.int .i64 x6)) rfl rfl rfl (r_move rfl) ?_
    refine s_ef (d := some 20) rfl rfl rfl (fun dr => r_callV rfl rfl H) ?_ trivial
    rintro _ h2 ⟨y8, rfl, H⟩
    refine ⟨trivial, ?_⟩
    refine s_pu (d := some 21) (v := (.bool (!y8))) rfl rfl rfl (r_not rfl) ?_
    refine s_fin ?_
    show W _ _ _ _ _ _ _
    refine W_if (!y8) rfl (fun g9 => ?_) (fun g9 => ?_)
    · have H := H.1 g9
      refine W_region (.pu 0 (.pu 1 (.pu 2 .fin))) rfl rfl ?_
      refine s_pu (d := some 22) (v := (.int .i64 x6)) rfl rfl rfl (r_move rfl) ?_
      refine s_pu (d := some 23) (v := (.int .i64 (w64 (x6 + 1)))) rfl rfl rfl (r_add rfl rfl) ?_
      refine s_pu (d := some 5) (v := (.int .i64 (w64 (x6 + 1)))) rfl rfl rfl (r_assign rfl) ?_
      refine s_fin ?_
      exact WL_mk (l := [(1, f2), (5, (.int .i64 (w64 (x6 + 1)))), (6, (.int .i64 j4))]) H ⟨rfl, rfl, rfl, trivial⟩
    · have H := H.2 g9
      refine W_region (.pu 0 (.pu 1 .fin)) rfl rfl ?_
      refine s_pu (d := some 24) (v := (.int .i64 x6)) rfl rfl rfl (r_move rfl) ?_
      refine s_pu (d := some 6) (v := (.int .i64 x6)) rfl rfl rfl (r_assign rfl) ?_
      refine s_fin ?_
      exact WL_mk (l := [(1, f2), (5, (.int .i64 i3)), (6, (.int .i64 x6))]) H ⟨rfl, rfl, rfl, trivial⟩
  · have H := H.2 g11
    refine W_exit (inX_here ?_)
    show W _ _ _ _ _ _ _
    refine W_seq ?_
    refine W_region (.pu 0 (.pu 1 .fin)) rfl rfl ?_
    refine s_pu (d := some 25) (v := (.int .i64 i3)) rfl rfl rfl (r_move rfl) ?_
    refine s_pu (d := some 4) (v := (.int .i64 i3)) rfl rfl rfl (r_assign rfl) ?_
    refine s_fin ?_
    show W _ _ _ _ _ _ _
    refine W_ret ?_
    exact ⟨[(.int .i64 i3)], ⟨_, _, rfl, rfl, rfl⟩, i3, rfl, H⟩

/-! ### lis_Falls -/

def lis_Falls_F (r : World) (l1 : Sl) (h : Heap) (R : Sl → Heap → Prop) : Prop :=
  lis_dealt r l1 h fun y2 y3 h1 =>
  R y2 h1

set_option maxRecDepth 100000 in
theorem lis_Falls_of {r : World} {l1 : Sl} {h : Heap} {R : Sl → Heap → Prop} (H : lis_Falls_F r l1 h R) : lis_Falls r l1 h R := by
  unfold lis_Falls_F at H
  refine calls_of 11 [.tmp 2] Try.func12 rfl rfl rfl rfl rfl ?_
  refine W_seq ?_
  refine W_region (.pu 0 .fin) rfl rfl ?_
  refine s_pu (d := some 2) (v := (Sl.v Sl.nil)) rfl rfl rfl (r_assign rfl) ?_
  refine s_fin ?_
  show W _ _ _ _ _ _ _
  refine W_seq ?_
  refine W_region (.pu 0 (.ef 1 [] (.pu 2 (.pu 3 (.pu 4 (.pu 5 (.pu 6 .fin))))) .no)) rfl rfl ?_
  refine s_pu (d := some 6) (v := (Sl.v l1)) rfl rfl rfl (r_move rfl) ?_
  refine s_ef (d := some 7) rfl rfl rfl (fun dr => r_call Try.call31 rfl rfl H) ?_ trivial
  rintro _ h1 ⟨y2, y3, rfl, H⟩
  refine ⟨trivial, ?_⟩
  refine s_pu (d := some 5) (v := (.tuple #[(Sl.v y2), (Sl.v y3)])) rfl rfl rfl (r_move rfl) ?_
  refine s_pu (d := some 8) (v := (Sl.v y2)) rfl rfl rfl (r_extract rfl rfl) ?_
  refine s_pu (d := some 9) (v := (Sl.v y3)) rfl rfl rfl (r_extract rfl rfl) ?_
  refine s_pu (d := some 3) (v := (Sl.v y2)) rfl rfl rfl (r_assign rfl) ?_
  refine s_pu (d := some 4) (v := (Sl.v y3)) rfl rfl rfl (r_assign rfl) ?_
  refine s_fin ?_
  show W _ _ _ _ _ _ _
  refine W_seq ?_
  refine W_region (.pu 0 (.pu 1 .fin)) rfl rfl ?_
  refine s_pu (d := some 10) (v := (Sl.v y2)) rfl rfl rfl (r_move rfl) ?_
  refine s_pu (d := some 2) (v := (Sl.v y2)) rfl rfl rfl (r_assign rfl) ?_
  refine s_fin ?_
  show W _ _ _ _ _ _ _
  refine W_ret ?_
  exact ⟨[(Sl.v y2)], ⟨_, _, rfl, rfl, rfl⟩, y2, rfl, H⟩

/-! ### lis_Longest -/

def lis_Longest_F (r : World) (l1 : Sl) (h : Heap) (R : Sl → Heap → Prop) : Prop :=
  lis_dealt r l1 h fun y2 y3 h1 =>
  Br (decide (((y2.len : Int)) = 0)) (
    R Sl.nil h1) (
    Ix y2 (w64 (((y2.len : Int)) - 1)) 1 fun q8 =>
    LdS h1 q8 fun x10 =>
    Ix x10 0 1 fun q16 =>
    LdI h1 q16 fun x18 =>
    ∀ X22 : Sl → Int → Heap → Prop, (∀ (out20 : Sl) (i21 : Int) (h2 : Heap),
      (Br (decide (0 ≤ i21)) (
        New h2 (.cells #[(.int .i64 i21)] 3) fun p23 h3 =>
        App 3 1 8 (.int .i64 0) out20 ((⟨some p23, 1, 1⟩ : Sl)) h3 fun s26 h4 =>
        Ix y3 i21 1 fun q31 =>
        LdI h4 q31 fun x33 =>
        X22 s26 x33 h4) (
        slices_Reverse_int_int r out20 h2 fun  h5 =>
        R out20 h5)) →
      X22 out20 i21 h2) →
    X22 Sl.nil x18 h1)

set_option maxRecDepth 100000 in
theorem lis_Longest_of {r : World} {l1 : Sl} {h : Heap} {R : Sl → Heap → Prop} (H : lis_Longest_F r l1 h R) : lis_Longest r l1 h R := by
  unfold lis_Longest_F at H
  refine calls_of 36 [.tmp 2] Try.func13 rfl rfl rfl rfl rfl ?_
  refine W_seq ?_
  refine W_region (.pu 0 .fin) rfl rfl ?_
  refine s_pu (d := some 2) (v := (Sl.v Sl.nil)) rfl rfl rfl (r_assign rfl) ?_
  refine s_fin ?_
  show W _ _ _ _ _ _ _
  refine W_seq ?_
  refine W_region (.pu 0 (.ef 1 [] (.pu 2 (.pu 3 (.pu 4 (.pu 5 (.pu 6 .fin))))) .no)) rfl rfl ?_
  refine s_pu (d := some 8) (v := (Sl.v l1)) rfl rfl rfl (r_move rfl) ?_
  refine s_ef (d := some 9) rfl rfl rfl (fun dr => r_call Try.call31 rfl rfl H) ?_ trivial
  rintro _ h1 ⟨y2, y3, rfl, H⟩
  refine ⟨trivial, ?_⟩
  refine s_pu (d := some 7) (v := (.tuple #[(Sl.v y2), (Sl.v y3)])) rfl rfl rfl (r_move rfl) ?_
  refine s_pu (d := some 10) (v := (Sl.v y2)) rfl rfl rfl (r_extract rfl rfl) ?_
  refine s_pu (d := some 11) (v := (Sl.v y3)) rfl rfl rfl (r_extract rfl rfl) ?_
  refine s_pu (d := some 3) (v := (Sl.v y2)) rfl rfl rfl (r_assign rfl) ?_
  refine s_pu (d := some 4) (v := (Sl.v y3)) rfl rfl rfl (r_assign rfl) ?_
  refine s_fin ?_
  show W _ _ _ _ _ _ _
  refine W_seq ?_
  refine W_seq ?_
  refine W_region (.pu 0 (.pu 1 (.pu 2 .fin))) rfl rfl ?_
  refine s_pu (d := some 12) (v := (Sl.v y2)) rfl rfl rfl (r_move rfl) ?_
  refine s_pu (d := some 13) (v := (.int .i64 ((y2.len : Int)))) rfl rfl rfl (r_len Try.underlying24 rfl) ?_
  refine s_pu (d := some 14) (v := (.bool (decide (((y2.len : Int)) = 0)))) rfl rfl rfl (r_eql rfl rfl) ?_
  refine s_fin ?_
  show W _ _ _ _ _ _ _
  refine W_if (decide (((y2.len : Int)) = 0)) rfl (fun g36 => ?_) (fun g36 => ?_)
  · have H := H.1 g36
    refine W_seq ?_
    refine W_region (.pu 0 .fin) rfl rfl ?_
    refine s_pu (d := some 2) (v := (Sl.v Sl.nil)) rfl rfl rfl (r_assign rfl) ?_
    refine s_fin ?_
    show W _ _ _ _ _ _ _
    refine W_ret ?_
    exact ⟨[(Sl.v Sl.nil)], ⟨_, _, rfl, rfl, rfl⟩, Sl.nil, rfl, H⟩
  · have H := H.2 g36
    refine W_skip ?_
    show W _ _ _ _ _ _ _
    refine W_seq ?_
    refine W_region (.pu 0 .fin) rfl rfl ?_
    refine s_pu (d := some 5) (v := (Sl.v Sl.nil)) rfl rfl rfl (r_assign rfl) ?_
    refine s_fin ?_
    show W _ _ _ _ _ _ _
    refine W_seq ?_
    refine W_seq ?_
    refine W_region (.pu 0 (.pu 1 (.pu 2 (.pu 3 (.pu 4 (.rl 5 (.pu 6 (.rl 7 (.pu 8 .fin))))))))) rfl rfl ?_
    refine s_pu (d := some 15) (v := (Sl.v y2)) rfl rfl rfl (r_move rfl) ?_
    refine s_pu (d := some 16) (v := (Sl.v y2)) rfl rfl rfl (r_move rfl) ?_
    refine s_pu (d := some 17) (v := (.int .i64 ((y2.len : Int)))) rfl rfl rfl (r_len Try.underlying24 rfl) ?_
    refine s_pu (d := some 18) (v := (.int .i64 (w64 (((y2.len : Int)) - 1)))) rfl rfl rfl (r_sub rfl rfl) ?_
    obtain ⟨p4, e5, e6, e7, H⟩ := H
    obtain ⟨q8, e9⟩ : ∃ q : Addr, q = Addr.add p4 (Int.toNat (w64 (((y2.len : Int)) - 1)) * 1) := ⟨_, rfl⟩
    rw [← e9] at H
    refine s_pu (d := some 19) (v := (.pointer (some q8))) rfl rfl rfl (fun w => (r_indexAddr Try.underlying24 Try.sizeOf22 rfl rfl e5 e6 e7 w).trans (by rw [e9])) ?_
    obtain ⟨x10, e11, H⟩ := H
    refine s_rl (d := some 20) (v := (Sl.v x10)) rfl rfl rfl (fun dr => r_load1 Try.isAgg22 rfl e11) ?_
    obtain ⟨p12, e13, e14, e15, H⟩ := H
    obtain ⟨q16, e17⟩ : ∃ q : Addr, q = Addr.add p12 (Int.toNat 0 * 1) := ⟨_, rfl⟩
    rw [← e17] at H
    refine s_pu (d := some 21) (v := (.pointer (some q16))) rfl rfl rfl (fun w => (r_indexAddr Try.underlying22 Try.sizeOf3 rfl rfl e13 e14 e15 w).trans (by rw [e17])) ?_
    obtain ⟨x18, e19, H⟩ := H
    refine s_rl (d := some 22) (v := (.int .i64 x18)) rfl rfl rfl (fun dr => r_load1 Try.isAgg3 rfl e19) ?_
    refine s_pu (d := some 6) (v := (.int .i64 x18)) rfl rfl rfl (r_assign rfl) ?_
    refine s_fin ?_
    show W _ _ _ _ _ _ _
    refine W_block ?_
    refine W_loop (WL_mk (l := [(4, (Sl.v y3)), (5, (Sl.v Sl.nil)), (6, (.int .i64 x18))]) ?_ ⟨rfl, rfl, rfl, trivial⟩)
    refine H (fun (out20 : Sl) (i21 : Int) (h2 : Heap) => ∀ b, WL _ _ _ _ _ (mkE [(4, (Sl.v y3)), (5, (Sl.v out20)), (6, (.int .i64 i21))] b) h2) ?_
    intro out20 i21 h2 H b
    refine WL_round ?_
    refine W_seq ?_
    refine W_seq ?_
    refine W_region (.pu 0 (.pu 1 .fin)) rfl rfl ?_
    refine s_pu (d := some 23) (v := (.int .i64 i21)) rfl rfl rfl (r_move rfl) ?_
    refine s_pu (d := some 24) (v := (.bool (decide (0 ≤ i21)))) rfl rfl rfl (r_geq rfl rfl) ?_
    refine s_fin ?_
    show W _ _ _ _ _ _ _
    refine W_if (decide (0 ≤ i21)) rfl (fun g35 => ?_) (fun g35 => ?_)
    · have H := H.1 g35
      refine W_skip ?_
      show W _ _ _ _ _ _ _
      refine W_seq ?_
      refine W_block ?_
      refine W_region (.pu 0 (.pu 1 (.ef 2 [] (.ef 3 [] (.pu 4 .fin) .no) .no))) rfl rfl ?_
      refine s_pu (d := some 29) (v := (Sl.v out20)) rfl rfl rfl (r_move rfl) ?_
      refine s_pu (d := some 30) (v := (.int .i64 i21)) rfl rfl rfl (r_move rfl) ?_
      obtain ⟨p23, e24⟩ : ∃ p : Addr, p = ⟨h2.size, 0, none⟩ := ⟨_, rfl⟩
      obtain ⟨h3, e25⟩ : ∃ hh : Heap, hh = h2.push (.cells #[(.int .i64 i21)] 3) := ⟨_, rfl⟩
      have H := H p23 h3 e24 e25
      refine s_ef1 (d := some 31) (v := (Sl.v ((⟨some p23, 1, 1⟩ : Sl)))) (h' := h3) rfl rfl rfl (fun dr => (slFLis_22.build (cells := #[(.int .i64 i21)]) (by decide) rfl (by kernel_rfl)).trans (by rw [e24, e25]; rfl)) trivial ?_ trivial
      refine s_ef (d := some 32) rfl rfl rfl (fun dr => slFLis_22.append rfl rfl H) ?_ trivial
      rintro _ h4 ⟨s26, rfl, H⟩
      refine ⟨trivial, ?_⟩
      refine s_pu (d := some 5) (v := (Sl.v s26)) rfl rfl rfl (r_assign rfl) ?_
      refine s_fin ?_
      show W _ _ _ _ _ _ _
      refine W_region (.pu 0 (.pu 1 (.pu 2 (.rl 3 (.pu 4 .fin))))) rfl rfl ?_
      refine s_pu (d := some 25) (v := (Sl.v y3)) rfl rfl rfl (r_move rfl) ?_
      refine s_pu (d := some 26) (v := (.int .i64 i21)) rfl rfl rfl (r_move rfl) ?_
      obtain ⟨p27, e28, e29, e30, H⟩ := H
      obtain ⟨q31, e32⟩ : ∃ q : Addr, q = Addr.add p27 (Int.toNat i21 * 1) := ⟨_, rfl⟩
      rw [← e32] at H
      refine s_pu (d := some 27) (v := (.pointer (some q31))) rfl rfl rfl (fun w => (r_indexAddr Try.underlying22 Try.sizeOf3 rfl rfl e28 e29 e30 w).trans (by rw [e32])) ?_
      obtain ⟨x33, e34, H⟩ := H
      refine s_rl (d := some 28) (v := (.int .i64 x33)) rfl rfl rfl (fun dr => r_load1 Try.isAgg3 rfl e34) ?_
      refine s_pu (d := some 6) (v := (.int .i64 x33)) rfl rfl rfl (r_assign rfl) ?_
      refine s_fin ?_
      exact WL_mk (l := [(4, (Sl.v y3)), (5, (Sl.v s26)), (6, (.int .i64 x33))]) H ⟨rfl, rfl, rfl, trivial⟩
    · have H := H.2 g35
      refine W_exit (inX_here ?_)
      show W _ _ _ _ _ _ _
      refine W_seq ?_
      refine W_region (.pu 0 (.ef 1 [] .fin .no)) rfl rfl ?_
      refine s_pu (d := some 33) (v := (Sl.v out20)) rfl rfl rfl (r_move rfl) ?_
      refine s_ef (d := some 34) rfl rfl rfl (fun dr => r_call Try.call32 rfl rfl H) ?_ trivial
      rintro _ h5 ⟨rfl, H⟩
      refine ⟨trivial, ?_⟩
      refine s_fin ?_
      show W _ _ _ _ _ _ _
      refine W_seq ?_
      refine W_region (.pu 0 (.pu 1 .fin)) rfl rfl ?_
      refine s_pu (d := some 35) (v := (Sl.v out20)) rfl rfl rfl (r_move rfl) ?_
      refine s_pu (d := some 2) (v := (Sl.v out20)) rfl rfl rfl (r_assign rfl) ?_
      refine s_fin ?_
      show W _ _ _ _ _ _ _
      refine W_ret ?_
      exact ⟨[(Sl.v out20)], ⟨_, _, rfl, rfl, rfl⟩, out20, rfl, H⟩

/-! ### lis_Piles -/

def lis_Piles_F (r : World) (l1 : Sl) (h : Heap) (R : Sl → Heap → Prop) : Prop :=
  lis_dealt r l1 h fun y2 y3 h1 =>
  ∀ X5 : Int → Heap → Prop, (∀ (x4 : Int) (h2 : Heap),
    (Br (decide (x4 < ((y2.len : Int)))) (
      Ix y2 x4 1 fun q10 =>
      LdS h2 q10 fun x12 =>
      ∀ X15 : Int → Heap → Prop, (∀ (x14 : Int) (h3 : Heap),
        (Br (decide (x14 < ((x12.len : Int)))) (
          Ix x12 x14 1 fun q20 =>
          LdI h3 q20 fun x22 =>
          Ix l1 x22 1 fun q28 =>
          LdI h3 q28 fun x30 =>
          Ix x12 x14 1 fun q36 =>
          St h3 q36 1 [(.int .i64 x30)] fun h4 =>
          X15 (w64 (x14 + 1)) h4) (
          X5 (w64 (x4 + 1)) h3)) →
        X15 x14 h3) →
      X15 0 h2) (
      R y2 h2)) →
    X5 x4 h2) →
  X5 0 h1

set_option maxRecDepth 100000 in
theorem lis_Piles_of {r : World} {l1 : Sl} {h : Heap} {R : Sl → Heap → Prop} (H : lis_Piles_F r l1 h R) : lis_Piles r l1 h R := by
  unfold lis_Piles_F at H
  refine calls_of 37 [.tmp 2] Try.func15 rfl rfl rfl rfl rfl ?_
  refine W_seq ?_
  refine W_region (.pu 0 .fin) rfl rfl ?_
  refine s_pu (d := some 2) (v := (Sl.v Sl.nil)) rfl rfl rfl (r_assign rfl) ?_
  refine s_fin ?_
  show W _ _ _ _ _ _ _
  refine W_seq ?_
  refine W_region (.pu 0 (.ef 1 [] (.pu 2 (.pu 3 (.pu 4 (.pu 5 (.pu 6 .fin))))) .no)) rfl rfl ?_
  refine s_pu (d := some 10) (v := (Sl.v l1)) rfl rfl rfl (r_move rfl) ?_
  refine s_ef (d := some 11) rfl rfl rfl (fun dr => r_call Try.call31 rfl rfl H) ?_ trivial
  rintro _ h1 ⟨y2, y3, rfl, H⟩
  refine ⟨trivial, ?_⟩
  refine s_pu (d := some 9) (v := (.tuple #[(Sl.v y2), (Sl.v y3)])) rfl rfl rfl (r_move rfl) ?_
  refine s_pu (d := some 12) (v := (Sl.v y2)) rfl rfl rfl (r_extract rfl rfl) ?_
  refine s_pu (d := some 13) (v := (Sl.v y3)) rfl rfl rfl (r_extract rfl rfl) ?_
  refine s_pu (d := some 3) (v := (Sl.v y2)) rfl rfl rfl (r_assign rfl) ?_
  refine s_pu (d := some 4) (v := (Sl.v y3)) rfl rfl rfl (r_assign rfl) ?_
  refine s_fin ?_
  show W _ _ _ _ _ _ _
  refine W_seq ?_
  refine W_seq ?_
  refine W_region (.pu 0 (.pu 1 (.pu 2 .fin))) rfl rfl ?_
  refine s_pu (d := some 14) (v := (Sl.v y2)) rfl rfl rfl (r_move rfl) ?_
  refine s_pu (d := some 15) (v := (.int .i64 ((y2.len : Int)))) rfl rfl rfl (r_len Try.underlying24 rfl) ?_
  refine s_pu (d := some 16) (v := (.int .i64 0)) rfl rfl rfl (r_move rfl) ?_
  refine s_fin ?_
  show W _ _ _ _ _ _ _
  refine W_block ?_
  refine W_loop (WL_mk (l := [(0, (Sl.v l1)), (3, (Sl.v y2)), (14, (Sl.v y2)), (15, (.int .i64 ((y2.len : Int)))), (16, (.int .i64 0))]) ?_ ⟨rfl, rfl, rfl, rfl, rfl, trivial⟩)
  refine H (fun (x4 : Int) (h2 : Heap) => ∀ b, WL _ _ _ _ _ (mkE [(0, (Sl.v l1)), (3, (Sl.v y2)), (14, (Sl.v y2)), (15, (.int .i64 ((y2.len : Int)))), (16, (.int .i64 x4))] b) h2) ?_
  intro x4 h2 H b
  refine WL_round ?_
  refine W_seq ?_
  refine W_region (.pu 0 .fin) rfl rfl ?_
  refine s_pu (d := some 17) (v := (.bool (decide (x4 < ((y2.len : Int)))))) rfl rfl rfl (r_lss rfl rfl) ?_
  refine s_fin ?_
  show W _ _ _ _ _ _ _
  refine W_seq ?_
  refine W_if (decide (x4 < ((y2.len : Int)))) rfl (fun g41 => ?_) (fun g41 => ?_)
  · have H := H.1 g41
    refine W_skip ?_
    show W _ _ _ _ _ _ _
    refine W_seq ?_
    refine W_block ?_
    refine W_seq ?_
    refine W_region (.pu 0 (.rl 1 (.pu 2 .fin))) rfl rfl ?_
    obtain ⟨p6, e7, e8, e9, H⟩ := H
    obtain ⟨q10, e11⟩ : ∃ q : Addr, q = Addr.add p6 (Int.toNat x4 * 1) := ⟨_, rfl⟩
    rw [← e11] at H
    refine s_pu (d := some 18) (v := (.pointer (some q10))) rfl rfl rfl (fun w => (r_indexAddr Try.underlying24 Try.sizeOf22 rfl rfl e7 e8 e9 w).trans (by rw [e11])) ?_
    obtain ⟨x12, e13, H⟩ := H
    refine s_rl (d := some 19) (v := (Sl.v x12)) rfl rfl rfl (fun dr => r_load1 Try.isAgg22 rfl e13) ?_
    refine s_pu (d := some 6) (v := (Sl.v x12)) rfl rfl rfl (r_assign rfl) ?_
    refine s_fin ?_
    show W _ _ _ _ _ _ _
    refine W_seq ?_
    refine W_region (.pu 0 (.pu 1 (.pu 2 .fin))) rfl rfl ?_
    refine s_pu (d := some 20) (v := (Sl.v x12)) rfl rfl rfl (r_move rfl) ?_
    refine s_pu (d := some 21) (v := (.int .i64 ((x12.len : Int)))) rfl rfl rfl (r_len Try.underlying22 rfl) ?_
    refine s_pu (d := some 22) (v := (.int .i64 0)) rfl rfl rfl (r_move rfl) ?_
    refine s_fin ?_
    show W _ _ _ _ _ _ _
    refine W_block ?_
    refine W_loop (WL_mk (l := [(0, (Sl.v l1)), (3, (Sl.v y2)), (6, (Sl.v x12)), (14, (Sl.v y2)), (15, (.int .i64 ((y2.len : Int)))), (16, (.int .i64 x4)), (20, (Sl.v x12)), (21, (.int .i64 ((x12.len : Int)))), (22, (.int .i64 0))]) ?_ ⟨rfl, rfl, rfl, rfl, rfl, rfl, rfl, rfl, rfl, trivial⟩)
    refine H (fun (x14 : Int) (h3 : Heap) => ∀ b, WL _ _ _ _ _ (mkE [(0, (Sl.v l1)), (3, (Sl.v y2)), (6, (Sl.v x12)), (14, (Sl.v y2)), (15, (.int .i64 ((y2.len : Int)))), (16, (.int .i64 x4)), (20, (Sl.v x12)), (21, (.int .i64 ((x12.len : Int)))), (22, (.int .i64 x14))] b) h3) ?_
    intro x14 h3 H b
    refine WL_round ?_
    refine W_seq ?_
    refine W_region (.pu 0 .fin) rfl rfl ?_
    refine s_pu (d := some 23) (v := (.bool (decide (x14 < ((x12.len : Int)))))) rfl rfl rfl (r_lss rfl rfl) ?_
    refine s_fin ?_
    show W _ _ _ _ _ _ _
    refine W_seq ?_
    refine W_if (decide (x14 < ((x12.len : Int)))) rfl (fun g40 => ?_) (fun g40 => ?_)
    · have H := H.1 g40
      refine W_skip ?_
      show W _ _ _ _ _ _ _
      refine W_seq ?_
      refine W_block ?_
      refine W_seq ?_
      refine W_region (.pu 0 (.pu 1 (.rl 2 (.pu 3 (.pu 4 .fin))))) rfl rfl ?_
      refine s_pu (d := some 24) (v := (.int .i64 x14)) rfl rfl rfl (r_move rfl) ?_
      obtain ⟨p16, e17, e18, e19, H⟩ := H
      obtain ⟨q20, e21⟩ : ∃ q : Addr, q = Addr.add p16 (Int.toNat x14 * 1) := ⟨_, rfl⟩
      rw [← e21] at H
      refine s_pu (d := some 25) (v := (.pointer (some q20))) rfl rfl rfl (fun w => (r_indexAddr Try.underlying22 Try.sizeOf3 rfl rfl e17 e18 e19 w).trans (by rw [e21])) ?_
      obtain ⟨x22, e23, H⟩ := H
      refine s_rl (d := some 26) (v := (.int .i64 x22)) rfl rfl rfl (fun dr => r_load1 Try.isAgg3 rfl e23) ?_
      refine s_pu (d := some 7) (v := (.int .i64 x14)) rfl rfl rfl (r_assign rfl) ?_
      refine s_pu (d := some 8) (v := (.int .i64 x22)) rfl rfl rfl (r_assign rfl) ?_
      refine s_fin ?_
      show W _ _ _ _ _ _ _
      refine W_region (.pu 0 (.pu 1 (.pu 2 (.pu 3 (.pu 4 (.rl 5 (.pu 6 (.ef 7 [] .fin .no)))))))) rfl rfl ?_
      refine s_pu (d := some 27) (v := (Sl.v x12)) rfl rfl rfl (r_move rfl) ?_
      refine s_pu (d := some 28) (v := (.int .i64 x14)) rfl rfl rfl (r_move rfl) ?_
      refine s_pu (d := some 29) (v := (Sl.v l1)) rfl rfl rfl (r_move rfl) ?_
      refine s_pu (d := some 30) (v := (.int .i64 x22)) rfl rfl rfl (r_move rfl) ?_
      obtain ⟨p24, e25, e26, e27, H⟩ := H
      obtain ⟨q28, e29⟩ : ∃ q : Addr, q = Addr.add p24 (Int.toNat x22 * 1) := ⟨_, rfl⟩
      rw [← e29] at H
      refine s_pu (d := some 31) (v := (.pointer (some q28))) rfl rfl rfl (fun w => (r_indexAddr Try.underlying22 Try.sizeOf3 rfl rfl e25 e26 e27 w).trans (by rw [e29])) ?_
      obtain ⟨x30, e31, H⟩ := H
      refine s_rl (d := some 32) (v := (.int .i64 x30)) rfl rfl rfl (fun dr => r_load1 Try.isAgg3 rfl e31) ?_
      obtain ⟨p32, e33, e34, e35, H⟩ := H
      obtain ⟨q36, e37⟩ : ∃ q : Addr, q = Addr.add p32 (Int.toNat x14 * 1) := ⟨_, rfl⟩
      rw [← e37] at H
      refine s_pu (d := some 33) (v := (.pointer (some q36))) rfl rfl rfl (fun w => (r_indexAddr Try.underlying22 Try.sizeOf3 rfl rfl e33 e34 e35 w).trans (by rw [e37])) ?_
      obtain ⟨e39, H⟩ := H
      obtain ⟨h4, e38⟩ : ∃ hh : Heap, hh = hsets h3 q36 0 [(.int .i64 x30)] := ⟨_, rfl⟩
      have H := H h4 e38
      refine s_st (d := none) (h' := h4) rfl rfl rfl (fun dr => (r_store (v := (.int .i64 x30)) Try.sizeOf3 rfl rfl rfl (one_all rfl) e39).trans (by rw [e38]; rfl)) trivial ?_ trivial
      refine s_fin ?_
      show W _ _ _ _ _ _ _
      refine W_region (.pu 0 (.pu 1 .fin)) rfl rfl ?_
      refine s_pu (d := some 34) (v := (.int .i64 (w64 (x14 + 1)))) rfl rfl rfl (r_add rfl rfl) ?_
      refine s_pu (d := some 22) (v := (.int .i64 (w64 (x14 + 1)))) rfl rfl rfl (r_move rfl) ?_
      refine s_fin ?_
      exact WL_mk (l := [(0, (Sl.v l1)), (3, (Sl.v y2)), (6, (Sl.v x12)), (14, (Sl.v y2)), (15, (.int .i64 ((y2.len : Int)))), (16, (.int .i64 x4)), (20, (Sl.v x12)), (21, (.int .i64 ((x12.len : Int)))), (22, (.int .i64 (w64 (x14 + 1))))]) H ⟨rfl, rfl, rfl, rfl, rfl, rfl, rfl, rfl, rfl, trivial⟩
    · have H := H.2 g40
      refine W_exit (inX_here ?_)
      show W _ _ _ _ _ _ _
      refine W_region (.pu 0 (.pu 1 .fin)) rfl rfl ?_
      refine s_pu (d := some 35) (v := (.int .i64 (w64 (x4 + 1)))) rfl rfl rfl (r_add rfl rfl) ?_
      refine s_pu (d := some 16) (v := (.int .i64 (w64 (x4 + 1)))) rfl rfl rfl (r_move rfl) ?_
      refine s_fin ?_
      exact WL_mk (l := [(0, (Sl.v l1)), (3, (Sl.v y2)), (14, (Sl.v y2)), (15, (.int .i64 ((y2.len : Int)))), (16, (.int .i64 (w64 (x4 + 1))))]) H ⟨rfl, rfl, rfl, rfl, rfl, trivial⟩
  · have H := H.2 g41
    refine W_exit (inX_here ?_)
    show W _ _ _ _ _ _ _
    refine W_seq ?_
    refine W_region (.pu 0 (.pu 1 .fin)) rfl rfl ?_
    refine s_pu (d := some 36) (v := (Sl.v y2)) rfl rfl rfl (r_move rfl) ?_
    refine s_pu (d := some 2) (v := (Sl.v y2)) rfl rfl rfl (r_assign rfl) ?_
    refine s_fin ?_
    show W _ _ _ _ _ _ _
    refine W_ret ?_
    exact ⟨[(Sl.v y2)], ⟨_, _, rfl, rfl, rfl⟩, y2, rfl, H⟩

/-! ### ref1_Piled -/

def ref1_Piled_F (r : World) (l1 : Sl) (h : Heap) (R : Sl → Heap → Prop) : Prop :=
  ∀ X4 : Sl → Int → Heap → Prop, (∀ (out2 : Sl) (i3 : Int) (h1 : Heap),
    (Br (decide (i3 < ((l1.len : Int)))) (
      ∀ X6 : Int → Prop, (∀ (k5 : Int),
        (∀ J8 : Bool → Prop, (∀ (x7 : Bool),
          (Br x7 (
            X6 (w64 (k5 + 1))) (
            ∀ J11 : Sl → Heap → Prop, (∀ (out10 : Sl) (h2 : Heap),
              (Ix out10 k5 1 fun q17 =>
              LdS h2 q17 fun x19 =>
              Ix l1 i3 1 fun q25 =>
              LdI h2 q25 fun x27 =>
              New h2 (.cells #[(.int .i64 x27)] 3) fun p29 h3 =>
              (hcell h3 q17 = some (Sl.v x19)) ∧
              App 3 1 8 (.int .i64 0) x19 ((⟨some p29, 1, 1⟩ : Sl)) h3 fun s33 h4 =>
              Ix out10 k5 1 fun q38 =>
              St h4 q38 1 [(Sl.v s33)] fun h5 =>
              X4 out10 (w64 (i3 + 1)) h5) →
              J11 out10 h2) →
            Br (decide (k5 = ((out2.len : Int)))) (
              New h1 (.cells #[(Sl.v Sl.nil)] 22) fun p42 h6 =>
              App 22 1 24 (Sl.v Sl.nil) out2 ((⟨some p42, 1, 1⟩ : Sl)) h6 fun s45 h7 =>
              J11 s45 h7) (
              J11 out2 h1))) →
          J8 x7) →
        Br (decide (k5 < ((out2.len : Int)))) (
          Ix out2 k5 1 fun q53 =>
          LdS h1 q53 fun x55 =>
          Ix out2 k5 1 fun q61 =>
          LdS h1 q61 fun x63 =>
          Ix x55 (w64 (((x63.len : Int)) - 1)) 1 fun q69 =>
          LdI h1 q69 fun x71 =>
          Ix l1 i3 1 fun q77 =>
          LdI h1 q77 fun x79 =>
          J8 (decide (x71 < x79))) (
          J8 false)) →
        X6 k5) →
      X6 0) (
      R out2 h1)) →
    X4 out2 i3 h1) →
  X4 Sl.nil 0 h

set_option maxRecDepth 100000 in
theorem ref1_Piled_of {r : World} {l1 : Sl} {h : Heap} {R : Sl → Heap → Prop} (H : ref1_Piled_F r l1 h R) : ref1_Piled r l1 h R := by
  unfold ref1_Piled_F at H
  refine calls_of 58 [.tmp 2] Try.func16 rfl rfl rfl rfl rfl ?_
  refine W_seq ?_
  refine W_region (.pu 0 .fin) rfl rfl ?_
  refine s_pu (d := some 2) (v := (Sl.v Sl.nil)) rfl rfl rfl (r_assign rfl) ?_
  refine s_fin ?_
  show W _ _ _ _ _ _ _
  refine W_seq ?_
  refine W_region (.pu 0 .fin) rfl rfl ?_
  refine s_pu (d := some 3) (v := (Sl.v Sl.nil)) rfl rfl rfl (r_assign rfl) ?_
  refine s_fin ?_
  show W _ _ _ _ _ _ _
  refine W_seq ?_
  refine W_seq ?_
  refine W_region (.pu 0 .fin) rfl rfl ?_
  refine s_pu (d := some 4) (v := (.int .i64 0)) rfl rfl rfl (r_assign rfl) ?_
  refine s_fin ?_
  show W _ _ _ _ _ _ _
  refine W_block ?_
  refine W_loop (WL_mk (l := [(0, (Sl.v l1)), (3, (Sl.v Sl.nil)), (4, (.int .i64 0))]) ?_ ⟨rfl, rfl, rfl, trivial⟩)
  refine H (fun (out2 : Sl) (i3 : Int) (h1 : Heap) => ∀ b, WL _ _ _ _ _ (mkE [(0, (Sl.v l1)), (3, (Sl.v out2)), (4, (.int .i64 i3))] b) h1) ?_
  intro out2 i3 h1 H b
  refine WL_round ?_
  refine W_seq ?_
  refine W_seq ?_
  refine W_region (.pu 0 (.pu 1 (.pu 2 (.pu 3 .fin)))) rfl rfl ?_
  refine s_pu (d := some 6) (v := (.int .i64 i3)) rfl rfl rfl (r_move rfl) ?_
  refine s_pu (d := some 7) (v := (Sl.v l1)) rfl rfl rfl (r_move rfl) ?_
  refine s_pu (d := some 8) (v := (.int .i64 ((l1.len : Int)))) rfl rfl rfl (r_len Try.underlying22 rfl) ?_
  refine s_pu (d := some 9) (v := (.bool (decide (i3 < ((l1.len : Int)))))) rfl rfl rfl (r_lss rfl rfl) ?_
  refine s_fin ?_
  show W _ _ _ _ _ _ _
  refine W_if (decide (i3 < ((l1.len : Int)))) rfl (fun g81 => ?_) (fun g81 => ?_)
  · have H := H.1 g81
    refine W_skip ?_
    show W _ _ _ _ _ _ _
    refine W_seq ?_
    refine W_block ?_
    refine W_seq ?_
    refine W_region (.pu 0 .fin) rfl rfl ?_
    refine s_pu (d := some 5) (v := (.int .i64 0)) rfl rfl rfl (r_assign rfl) ?_
    refine s_fin ?_
    show W _ _ _ _ _ _ _
    refine W_seq ?_
    refine W_block ?_
    refine W_loop (WL_mk (l := [(0, (Sl.v l1)), (3, (Sl.v out2)), (4, (.int .i64 i3)), (5, (.int .i64 0))]) ?_ ⟨rfl, rfl, rfl, rfl, trivial⟩)
    refine H (fun (k5 : Int) => ∀ b, WL _ _ _ _ _ (mkE [(0, (Sl.v l1)), (3, (Sl.v out2)), (4, (.int .i64 i3)), (5, (.int .i64 k5))] b) h1) ?_
    intro k5 H b
    refine WL_round ?_
    refine W_seq ?_
    refine W_seq ?_
    refine W_set ?_
    intro N9 eN9
    have H := H (fun (x7 : Bool) => ∀ b, N9 (mkE [(0, (Sl.v l1)), (3, (Sl.v out2)), (4, (.int .i64 i3)), (5, (.int .i64 k5)), (34, (.bool x7))] b) h1) (by
      intro x7 H b
      rw [eN9]
      show W _ _ _ _ _ _ _
      refine W_if x7 rfl (fun g47 => ?_) (fun g47 => ?_)
      · have H := H.1 g47
        refine W_skip ?_
        show W _ _ _ _ _ _ _
        refine W_block ?_
        refine W_region (.pu 0 (.pu 1 (.pu 2 .fin))) rfl rfl ?_
        refine s_pu (d := some 35) (v := (.int .i64 k5)) rfl rfl rfl (r_move rfl) ?_
        refine s_pu (d := some 36) (v := (.int .i64 (w64 (k5 + 1)))) rfl rfl rfl (r_add rfl rfl) ?_
        refine s_pu (d := some 5) (v := (.int .i64 (w64 (k5 + 1)))) rfl rfl rfl (r_assign rfl) ?_
        refine s_fin ?_
        exact WL_mk (l := [(0, (Sl.v l1)), (3, (Sl.v out2)), (4, (.int .i64 i3)), (5, (.int .i64 (w64 (k5 + 1))))]) H ⟨rfl, rfl, rfl, rfl, trivial⟩
      · have H := H.2 g47
        refine W_exit (inX_here ?_)
        show W _ _ _ _ _ _ _
        refine W_seq ?_
        refine W_seq ?_
        refine W_region (.pu 0 (.pu 1 (.pu 2 (.pu 3 .fin)))) rfl rfl ?_
        refine s_pu (d := some 37) (v := (.int .i64 k5)) rfl rfl rfl (r_move rfl) ?_
        refine s_pu (d := some 38) (v := (Sl.v out2)) rfl rfl rfl (r_move rfl) ?_
        refine s_pu (d := some 39) (v := (.int .i64 ((out2.len : Int)))) rfl rfl rfl (r_len Try.underlying24 rfl) ?_
        refine s_pu (d := some 40) (v := (.bool (decide (k5 = ((out2.len : Int)))))) rfl rfl rfl (r_eql rfl rfl) ?_
        refine s_fin ?_
        show W _ _ _ _ _ _ _
        refine W_set ?_
        intro N12 eN12
        have H := H (fun (out10 : Sl) (h2 : Heap) => ∀ b, N12 (mkE [(0, (Sl.v l1)), (3, (Sl.v out10)), (4, (.int .i64 i3)), (5, (.int .i64 k5))] b) h2) (by
          intro out10 h2 H b
          rw [eN12]
          show W _ _ _ _ _ _ _
          refine W_draw [0, 0, 0, 0, 12, 28, 0, 0, 192, 448, 960, 2044, 4095, 8191] (.pu 0 (.pu 1 (.pu 2 (.pu 3 (.pu 4 (.rd 5 (.pu 6 (.pu 7 (.pu 8 (.rd 9 (.ef 10 [9] (.ef 11 [5, 9] (.pu 12 (.ef 13 [5, 9] .fin .no)) .no) .no))))))))))) (by kernel_rfl) (by kernel_rfl) ?_
          refine s_pu (d := some 44) (v := (Sl.v out10)) rfl rfl rfl (r_move rfl) ?_
          refine s_pu (d := some 45) (v := (.int .i64 k5)) rfl rfl rfl (r_move rfl) ?_
          refine s_pu (d := some 46) (v := (Sl.v out10)) rfl rfl rfl (r_move rfl) ?_
          refine s_pu (d := some 47) (v := (.int .i64 k5)) rfl rfl rfl (r_move rfl) ?_
          obtain ⟨p13, e14, e15, e16, H⟩ := H
          obtain ⟨q17, e18⟩ : ∃ q : Addr, q = Addr.add p13 (Int.toNat k5 * 1) := ⟨_, rfl⟩
          rw [← e18] at H
          refine s_pu (d := some 48) (v := (.pointer (some q17))) rfl rfl rfl (fun w => (r_indexAddr Try.underlying24 Try.sizeOf22 rfl rfl e14 e15 e16 w).trans (by rw [e18])) ?_
          obtain ⟨x19, e20, H⟩ := H
          refine s_rd (d := some 49) (v := (Sl.v x19)) rfl rfl rfl (fun dr => r_load1 Try.isAgg22 rfl e20) ?_
          refine s_pu (d := some 50) (v := (Sl.v l1)) rfl rfl rfl (r_move rfl) ?_
          refine s_pu (d := some 51) (v := (.int .i64 i3)) rfl rfl rfl (r_move rfl) ?_
          obtain ⟨p21, e22, e23, e24, H⟩ := H
          obtain ⟨q25, e26⟩ : ∃ q : Addr, q = Addr.add p21 (Int.toNat i3 * 1) := ⟨_, rfl⟩
          rw [← e26] at H
          refine s_pu (d := some 52) (v := (.pointer (some q25))) rfl rfl rfl (fun w => (r_indexAddr Try.underlying22 Try.sizeOf3 rfl rfl e22 e23 e24 w).trans (by rw [e26])) ?_
          obtain ⟨x27, e28, H⟩ := H
          refine s_rd (d := some 53) (v := (.int .i64 x27)) rfl rfl rfl (fun dr => r_load1 Try.isAgg3 rfl e28) ?_
          obtain ⟨p29, e30⟩ : ∃ p : Addr, p = ⟨h2.size, 0, none⟩ := ⟨_, rfl⟩
          obtain ⟨h3, e31⟩ : ∃ hh : Heap, hh = h2.push (.cells #[(.int .i64 x27)] 3) := ⟨_, rfl⟩
          have H := H p29 h3 e30 e31
          obtain ⟨e32, H⟩ := H
          refine s_ef1 (d := some 54) (v := (Sl.v ((⟨some p29, 1, 1⟩ : Sl)))) (h' := h3) rfl rfl rfl (fun dr => (slFLis_22.build (cells := #[(.int .i64 x27)]) (by decide) rfl (by kernel_rfl)).trans (by rw [e30, e31]; rfl)) ⟨trivial, (.inl ⟨rfl, fun dr => r_load1 Try.isAgg22 rfl e32⟩), trivial⟩ ?_ trivial
          refine s_ef (d := some 55) rfl rfl rfl (fun dr => slFLis_22.append rfl rfl H) ?_ trivial
          rintro _ h4 ⟨s33, rfl, H⟩
          refine ⟨⟨trivial, trivial, trivial⟩, ?_⟩
          obtain ⟨p34, e35, e36, e37, H⟩ := H
          obtain ⟨q38, e39⟩ : ∃ q : Addr, q = Addr.add p34 (Int.toNat k5 * 1) := ⟨_, rfl⟩
          rw [← e39] at H
          refine s_pu (d := some 56) (v := (.pointer (some q38))) rfl rfl rfl (fun w => (r_indexAddr Try.underlying24 Try.sizeOf22 rfl rfl e35 e36 e37 w).trans (by rw [e39])) ?_
          obtain ⟨e41, H⟩ := H
          obtain ⟨h5, e40⟩ : ∃ hh : Heap, hh = hsets h4 q38 0 [(Sl.v s33)] := ⟨_, rfl⟩
          have H := H h5 e40
          refine s_st (d := none) (h' := h5) rfl rfl rfl (fun dr => (r_store (v := (Sl.v s33)) Try.sizeOf22 rfl rfl rfl (one_all rfl) e41).trans (by rw [e40]; rfl)) ⟨trivial, trivial, trivial⟩ ?_ trivial
          refine s_fin ?_
          show W _ _ _ _ _ _ _
          refine W_region (.pu 0 (.pu 1 (.pu 2 .fin))) rfl rfl ?_
          refine s_pu (d := some 10) (v := (.int .i64 i3)) rfl rfl rfl (r_move rfl) ?_
          refine s_pu (d := some 11) (v := (.int .i64 (w64 (i3 + 1)))) rfl rfl rfl (r_add rfl rfl) ?_
          refine s_pu (d := some 4) (v := (.int .i64 (w64 (i3 + 1)))) rfl rfl rfl (r_assign rfl) ?_
          refine s_fin ?_
          exact WL_mk (l := [(0, (Sl.v l1)), (3, (Sl.v out10)), (4, (.int .i64 (w64 (i3 + 1))))]) H ⟨rfl, rfl, rfl, trivial⟩)
        clear eN12
        refine W_if (decide (k5 = ((out2.len : Int)))) rfl (fun g46 => ?_) (fun g46 => ?_)
        · have H := H.1 g46
          refine W_region (.pu 0 (.ef 1 [] (.ef 2 [] (.pu 3 .fin) .no) .no)) rfl rfl ?_
          refine s_pu (d := some 41) (v := (Sl.v out2)) rfl rfl rfl (r_move rfl) ?_
          obtain ⟨p42, e43⟩ : ∃ p : Addr, p = ⟨h1.size, 0, none⟩ := ⟨_, rfl⟩
          obtain ⟨h6, e44⟩ : ∃ hh : Heap, hh = h1.push (.cells #[(Sl.v Sl.nil)] 22) := ⟨_, rfl⟩
          have H := H p42 h6 e43 e44
          refine s_ef1 (d := some 42) (v := (Sl.v ((⟨some p42, 1, 1⟩ : Sl)))) (h' := h6) rfl rfl rfl (fun dr => (slFLis_24.build (cells := #[(Sl.v Sl.nil)]) (by decide) rfl (by kernel_rfl)).trans (by rw [e43, e44]; rfl)) trivial ?_ trivial
          refine s_ef (d := some 43) rfl rfl rfl (fun dr => slFLis_24.append rfl rfl H) ?_ trivial
          rintro _ h7 ⟨s45, rfl, H⟩
          refine ⟨trivial, ?_⟩
          refine s_pu (d := some 3) (v := (Sl.v s45)) rfl rfl rfl (r_assign rfl) ?_
          refine s_fin ?_
          exact N_mk (l := [(0, (Sl.v l1)), (3, (Sl.v s45)), (4, (.int .i64 i3)), (5, (.int .i64 k5))]) H ⟨rfl, rfl, rfl, rfl, trivial⟩
        · have H := H.2 g46
          refine W_skip ?_
          exact N_mk (l := [(0, (Sl.v l1)), (3, (Sl.v out2)), (4, (.int .i64 i3)), (5, (.int .i64 k5))]) H ⟨rfl, rfl, rfl, rfl, trivial⟩)
    clear eN9
    refine W_draw [0, 0, 2, 7, 15, 31, 31, 127, 255, 31, 31, 1567, 3615, 7711, 15903, 32767, 65535, 31, 31, 393247, 917535, 2097151, 4194303] (.pu 0 (.pu 1 (.pu 2 (.pu 3 (.pu 4 (.pu 5 (.pu 6 (.pu 7 (.rd 8 (.pu 9 (.pu 10 (.pu 11 (.rd 12 (.pu 13 (.pu 14 (.pu 15 (.rd 16 (.pu 17 (.pu 18 (.pu 19 (.rd 20 (.pu 21 (.pu 22 .fin))))))))))))))))))))))) (by kernel_rfl) (by kernel_rfl) ?_
    refine s_pu (d := some 12) (v := (.int .i64 k5)) rfl rfl rfl (r_move rfl) ?_
    refine s_pu (d := some 13) (v := (Sl.v out2)) rfl rfl rfl (r_move rfl) ?_
    refine s_pu (d := some 14) (v := (.int .i64 ((out2.len : Int)))) rfl rfl rfl (r_len Try.underlying24 rfl) ?_
    refine s_pu (d := some 15) (v := (.bool (decide (k5 < ((out2.len : Int)))))) rfl rfl rfl (r_lss rfl rfl) ?_
    refine s_pu (d := some 16) (v := (.bool (decide (k5 < ((out2.len : Int)))))) rfl rfl rfl (r_move rfl) ?_
    rcases Bool.eq_false_or_eq_true (decide (k5 < ((out2.len : Int)))) with g48 | g48
    · have H := H.1 g48
      refine s_pu (d := some 17) (v := (Sl.v out2)) rfl rfl (wants_yes rfl rfl rfl rfl g48) (r_move rfl) ?_
      refine s_pu (d := some 18) (v := (.int .i64 k5)) rfl rfl (wants_yes rfl rfl rfl rfl g48) (r_move rfl) ?_
      obtain ⟨p49, e50, e51, e52, H⟩ := H
      obtain ⟨q53, e54⟩ : ∃ q : Addr, q = Addr.add p49 (Int.toNat k5 * 1) := ⟨_, rfl⟩
      rw [← e54] at H
      refine s_pu (d := some 19) (v := (.pointer (some q53))) rfl rfl (wants_yes rfl rfl rfl rfl g48) (fun w => (r_indexAddr Try.underlying24 Try.sizeOf22 rfl rfl e50 e51 e52 w).trans (by rw [e54])) ?_
      obtain ⟨x55, e56, H⟩ := H
      refine s_rd (d := some 20) (v := (Sl.v x55)) rfl rfl (wants_yes rfl rfl rfl rfl g48) (fun dr => r_load1 Try.isAgg22 rfl e56) ?_
      refine s_pu (d := some 21) (v := (Sl.v out2)) rfl rfl (wants_yes rfl rfl rfl rfl g48) (r_move rfl) ?_
      refine s_pu (d := some 22) (v := (.int .i64 k5)) rfl rfl (wants_yes rfl rfl rfl rfl g48) (r_move rfl) ?_
      obtain ⟨p57, e58, e59, e60, H⟩ := H
      obtain ⟨q61, e62⟩ : ∃ q : Addr, q = Addr.add p57 (Int.toNat k5 * 1) := ⟨_, rfl⟩
      rw [← e62] at H
      refine s_pu (d := some 23) (v := (.pointer (some q61))) rfl rfl (wants_yes rfl rfl rfl rfl g48) (fun w => (r_indexAddr Try.underlying24 Try.sizeOf22 rfl rfl e58 e59 e60 w).trans (by rw [e62])) ?_
      obtain ⟨x63, e64, H⟩ := H
      refine s_rd (d := some 24) (v := (Sl.v x63)) rfl rfl (wants_yes rfl rfl rfl rfl g48) (fun dr => r_load1 Try.isAgg22 rfl e64) ?_
      refine s_pu (d := some 25) (v := (.int .i64 ((x63.len : Int)))) rfl rfl (wants_yes rfl rfl rfl rfl g48) (r_len Try.underlying22 rfl) ?_
      refine s_pu (d := some 26) (v := (.int .i64 (w64 (((x63.len : Int)) - 1)))) rfl rfl (wants_yes rfl rfl rfl rfl g48) (r_sub rfl rfl) ?_
      obtain ⟨p65, e66, e67, e68, H⟩ := H
      obtain ⟨q69, e70⟩ : ∃ q : Addr, q = Addr.add p65 (Int.toNat (w64 (((x63.len : Int)) - 1)) * 1) := ⟨_, rfl⟩
      rw [← e70] at H
      refine s_pu (d := some 27) (v := (.pointer (some q69))) rfl rfl (wants_yes rfl rfl rfl rfl g48) (fun w => (r_indexAddr Try.underlying22 Try.sizeOf3 rfl rfl e66 e67 e68 w).trans (by rw [e70])) ?_
      obtain ⟨x71, e72, H⟩ := H
      refine s_rd (d := some 28) (v := (.int .i64 x71)) rfl rfl (wants_yes rfl rfl rfl rfl g48) (fun dr => r_load1 Try.isAgg3 rfl e72) ?_
      refine s_pu (d := some 29) (v := (Sl.v l1)) rfl rfl (wants_yes rfl rfl rfl rfl g48) (r_move rfl) ?_
      refine s_pu (d := some 30) (v := (.int .i64 i3)) rfl rfl (wants_yes rfl rfl rfl rfl g48) (r_move rfl) ?_
      obtain ⟨p73, e74, e75, e76, H⟩ := H
      obtain ⟨q77, e78⟩ : ∃ q : Addr, q = Addr.add p73 (Int.toNat i3 * 1) := ⟨_, rfl⟩
      rw [← e78] at H
      refine s_pu (d := some 31) (v := (.pointer (some q77))) rfl rfl (wants_yes rfl rfl rfl rfl g48) (fun w => (r_indexAddr Try.underlying22 Try.sizeOf3 rfl rfl e74 e75 e76 w).trans (by rw [e78])) ?_
      obtain ⟨x79, e80, H⟩ := H
      refine s_rd (d := some 32) (v := (.int .i64 x79)) rfl rfl (wants_yes rfl rfl rfl rfl g48) (fun dr => r_load1 Try.isAgg3 rfl e80) ?_
      refine s_pu (d := some 33) (v := (.bool (decide (x71 < x79)))) rfl rfl (wants_yes rfl rfl rfl rfl g48) (r_lss rfl rfl) ?_
      refine s_pu (d := some 34) (v := (.bool (decide (x71 < x79)))) rfl rfl rfl (r_pick1 rfl g48 rfl) ?_
      refine s_fin ?_
      exact N_mk (l := [(0, (Sl.v l1)), (3, (Sl.v out2)), (4, (.int .i64 i3)), (5, (.int .i64 k5)), (34, (.bool (decide (x71 < x79))))]) H ⟨rfl, rfl, rfl, rfl, rfl, trivial⟩
    · have H := H.2 g48
      refine s_sk (d := some 17) rfl rfl (wants_no rfl rfl rfl rfl g48) ?_
      refine s_sk (d := some 18) rfl rfl (wants_no rfl rfl rfl rfl g48) ?_
      refine s_sk (d := some 19) rfl rfl (wants_no rfl rfl rfl rfl g48) ?_
      refine s_skd (d := some 20) rfl rfl (wants_no rfl rfl rfl rfl g48) ?_
      refine s_sk (d := some 21) rfl rfl (wants_no rfl rfl rfl rfl g48) ?_
      refine s_sk (d := some 22) rfl rfl (wants_no rfl rfl rfl rfl g48) ?_
      refine s_sk (d := some 23) rfl rfl (wants_no rfl rfl rfl rfl g48) ?_
      refine s_skd (d := some 24) rfl rfl (wants_no rfl rfl rfl rfl g48) ?_
      refine s_sk (d := some 25) rfl rfl (wants_no rfl rfl rfl rfl g48) ?_
      refine s_sk (d := some 26) rfl rfl (wants_no rfl rfl rfl rfl g48) ?_
      refine s_sk (d := some 27) rfl rfl (wants_no rfl rfl rfl rfl g48) ?_
      refine s_skd (d := some 28) rfl rfl (wants_no rfl rfl rfl rfl g48) ?_
      refine s_sk (d := some 29) rfl rfl (wants_no rfl rfl rfl rfl g48) ?_
      refine s_sk (d := some 30) rfl rfl (wants_no rfl rfl rfl rfl g48) ?_
      refine s_sk (d := some 31) rfl rfl (wants_no rfl rfl rfl rfl g48) ?_
      refine s_skd (d := some 32) rfl rfl (wants_no rfl rfl rfl rfl g48) ?_
      refine s_sk (d := some 33) rfl rfl (wants_no rfl rfl rfl rfl g48) ?_
      refine s_pu (d := some 34) (v := (.bool false)) rfl rfl rfl (r_pick0 rfl g48 rfl) ?_
      refine s_fin ?_
      exact N_mk (l := [(0, (Sl.v l1)), (3, (Sl.v out2)), (4, (.int .i64 i3)), (5, (.int .i64 k5)), (34, (.bool false))]) H ⟨rfl, rfl, rfl, rfl, rfl, trivial⟩
  · have H := H.2 g81
    refine W_exit (inX_here ?_)
    show W _ _ _ _ _ _ _
    refine W_seq ?_
    refine W_region (.pu 0 (.pu 1 .fin)) rfl rfl ?_
    refine s_pu (d := some 57) (v := (Sl.v out2)) rfl rfl rfl (r_move rfl) ?_
    refine s_pu (d := some 2) (v := (Sl.v out2)) rfl rfl rfl (r_assign rfl) ?_
    refine s_fin ?_
    show W _ _ _ _ _ _ _
    refine W_ret ?_
    exact ⟨[(Sl.v out2)], ⟨_, _, rfl, rfl, rfl⟩, out2, rfl, H⟩

/-! ### slices_Reverse_int_int -/

def slices_Reverse_int_int_F (r : World) (s1 : Sl) (h : Heap) (R : Heap → Prop) : Prop :=
  ∀ X4 : Int → Int → Heap → Prop, (∀ (i2 : Int) (j3 : Int) (h1 : Heap),
    (Br (decide (i2 < j3)) (
      Ix s1 j3 1 fun q9 =>
      LdI h1 q9 fun x11 =>
      Ix s1 i2 1 fun q17 =>
      LdI h1 q17 fun x19 =>
      Ix s1 i2 1 fun q25 =>
      St h1 q25 1 [(.int .i64 x11)] fun h2 =>
      Ix s1 j3 1 fun q33 =>
      St h2 q33 1 [(.int .i64 x19)] fun h3 =>
      X4 (w64 (i2 + 1)) (w64 (j3 - 1)) h3) (
      R h1)) →
    X4 i2 j3 h1) →
  X4 0 (w64 (((s1.len : Int)) - 1)) h

set_option maxRecDepth 100000 in
theorem slices_Reverse_int_int_of {r : World} {s1 : Sl} {h : Heap} {R : Heap → Prop} (H : slices_Reverse_int_int_F r s1 h R) : slices_Reverse_int_int r s1 h R := by
  unfold slices_Reverse_int_int_F at H
  refine calls_of 28 [] Try.func32 rfl rfl rfl rfl rfl ?_
  refine W_seq ?_
  refine W_region (.pu 0 (.pu 1 (.pu 2 (.pu 3 (.pu 4 .fin))))) rfl rfl ?_
  refine s_pu (d := some 4) (v := (Sl.v s1)) rfl rfl rfl (r_move rfl) ?_
  refine s_pu (d := some 5) (v := (.int .i64 ((s1.len : Int)))) rfl rfl rfl (r_len Try.underlying22 rfl) ?_
  refine s_pu (d := some 6) (v := (.int .i64 (w64 (((s1.len : Int)) - 1)))) rfl rfl rfl (r_sub rfl rfl) ?_
  refine s_pu (d := some 2) (v := (.int .i64 0)) rfl rfl rfl (r_assign rfl) ?_
  refine s_pu (d := some 3) (v := (.int .i64 (w64 (((s1.len : Int)) - 1)))) rfl rfl rfl (r_assign rfl) ?_
  refine s_fin ?_
  show W _ _ _ _ _ _ _
  refine W_block ?_
  refine W_loop (WL_mk (l := [(0, (Sl.v s1)), (2, (.int .i64 0)), (3, (.int .i64 (w64 (((s1.len : Int)) - 1))))]) ?_ ⟨rfl, rfl, rfl, trivial⟩)
  refine H (fun (i2 : Int) (j3 : Int) (h1 : Heap) => ∀ b, WL _ _ _ _ _ (mkE [(0, (Sl.v s1)), (2, (.int .i64 i2)), (3, (.int .i64 j3))] b) h1) ?_
  intro i2 j3 h1 H b
  refine WL_round ?_
  refine W_seq ?_
  refine W_seq ?_
  refine W_region (.pu 0 (.pu 1 (.pu 2 .fin))) rfl rfl ?_
  refine s_pu (d := some 7) (v := (.int .i64 i2)) rfl rfl rfl (r_move rfl) ?_
  refine s_pu (d := some 8) (v := (.int .i64 j3)) rfl rfl rfl (r_move rfl) ?_
  refine s_pu (d := some 9) (v := (.bool (decide (i2 < j3)))) rfl rfl rfl (r_lss rfl rfl) ?_
  refine s_fin ?_
  show W _ _ _ _ _ _ _
  refine W_if (decide (i2 < j3)) rfl (fun g37 => ?_) (fun g37 => ?_)
  · have H := H.1 g37
    refine W_skip ?_
    show W _ _ _ _ _ _ _
    refine W_seq ?_
    refine W_block ?_
    refine W_draw [0, 0, 0, 0, 0, 0, 48, 112, 0, 0, 768, 1792, 4083, 8179, 16383, 32767] (.pu 0 (.pu 1 (.pu 2 (.pu 3 (.pu 4 (.pu 5 (.pu 6 (.rd 7 (.pu 8 (.pu 9 (.pu 10 (.rd 11 (.pu 12 (.ef 13 [7, 11] (.pu 14 (.ef 15 [7, 11] .fin .no)) .no)))))))))))))) (by kernel_rfl) (by kernel_rfl) ?_
    refine s_pu (d := some 14) (v := (Sl.v s1)) rfl rfl rfl (r_move rfl) ?_
    refine s_pu (d := some 15) (v := (.int .i64 i2)) rfl rfl rfl (r_move rfl) ?_
    refine s_pu (d := some 16) (v := (Sl.v s1)) rfl rfl rfl (r_move rfl) ?_
    refine s_pu (d := some 17) (v := (.int .i64 j3)) rfl rfl rfl (r_move rfl) ?_
    refine s_pu (d := some 18) (v := (Sl.v s1)) rfl rfl rfl (r_move rfl) ?_
    refine s_pu (d := some 19) (v := (.int .i64 j3)) rfl rfl rfl (r_move rfl) ?_
    obtain ⟨p5, e6, e7, e8, H⟩ := H
    obtain ⟨q9, e10⟩ : ∃ q : Addr, q = Addr.add p5 (Int.toNat j3 * 1) := ⟨_, rfl⟩
    rw [← e10] at H
    refine s_pu (d := some 20) (v := (.pointer (some q9))) rfl rfl rfl (fun w => (r_indexAddr Try.underlying22 Try.sizeOf3 rfl rfl e6 e7 e8 w).trans (by rw [e10])) ?_
    obtain ⟨x11, e12, H⟩ := H
    refine s_rd (d := some 21) (v := (.int .i64 x11)) rfl rfl rfl (fun dr => r_load1 Try.isAgg3 rfl e12) ?_
    refine s_pu (d := some 22) (v := (Sl.v s1)) rfl rfl rfl (r_move rfl) ?_
    refine s_pu (d := some 23) (v := (.int .i64 i2)) rfl rfl rfl (r_move rfl) ?_
    obtain ⟨p13, e14, e15, e16, H⟩ := H
    obtain ⟨q17, e18⟩ : ∃ q : Addr, q = Addr.add p13 (Int.toNat i2 * 1) := ⟨_, rfl⟩
    rw [← e18] at H
    refine s_pu (d := some 24) (v := (.pointer (some q17))) rfl rfl rfl (fun w => (r_indexAddr Try.underlying22 Try.sizeOf3 rfl rfl e14 e15 e16 w).trans (by rw [e18])) ?_
    obtain ⟨x19, e20, H⟩ := H
    refine s_rd (d := some 25) (v := (.int .i64 x19)) rfl rfl rfl (fun dr => r_load1 Try.isAgg3 rfl e20) ?_
    obtain ⟨p21, e22, e23, e24, H⟩ := H
    obtain ⟨q25, e26⟩ : ∃ q : Addr, q = Addr.add p21 (Int.toNat i2 * 1) := ⟨_, rfl⟩
    rw [← e26] at H
    refine s_pu (d := some 26) (v := (.pointer (some q25))) rfl rfl rfl (fun w => (r_indexAddr Try.underlying22 Try.sizeOf3 rfl rfl e22 e23 e24 w).trans (by rw [e26])) ?_
    obtain ⟨e28, H⟩ := H
    obtain ⟨h2, e27⟩ : ∃ hh : Heap, hh = hsets h1 q25 0 [(.int .i64 x11)] := ⟨_, rfl⟩
    have H := H h2 e27
    refine s_st (d := none) (h' := h2) rfl rfl rfl (fun dr => (r_store (v := (.int .i64 x11)) Try.sizeOf3 rfl rfl rfl (one_all rfl) e28).trans (by rw [e27]; rfl)) ⟨trivial, trivial, trivial⟩ ?_ trivial
    obtain ⟨p29, e30, e31, e32, H⟩ := H
    obtain ⟨q33, e34⟩ : ∃ q : Addr, q = Addr.add p29 (Int.toNat j3 * 1) := ⟨_, rfl⟩
    rw [← e34] at H
    refine s_pu (d := some 27) (v := (.pointer (some q33))) rfl rfl rfl (fun w => (r_indexAddr Try.underlying22 Try.sizeOf3 rfl rfl e30 e31 e32 w).trans (by rw [e34])) ?_
    obtain ⟨e36, H⟩ := H
    obtain ⟨h3, e35⟩ : ∃ hh : Heap, hh = hsets h2 q33 0 [(.int .i64 x19)] := ⟨_, rfl⟩
    have H := H h3 e35
    refine s_st (d := none) (h' := h3) rfl rfl rfl (fun dr => (r_store (v := (.int .i64 x19)) Try.sizeOf3 rfl rfl rfl (one_all rfl) e36).trans (by rw [e35]; rfl)) ⟨trivial, trivial, trivial⟩ ?_ trivial
    refine s_fin ?_
    show W _ _ _ _ _ _ _
    refine W_region (.pu 0 (.pu 1 (.pu 2 (.pu 3 (.pu 4 (.pu 5 .fin)))))) rfl rfl ?_
    refine s_pu (d := some 10) (v := (.int .i64 i2)) rfl rfl rfl (r_move rfl) ?_
    refine s_pu (d := some 11) (v := (.int .i64 (w64 (i2 + 1)))) rfl rfl rfl (r_add rfl rfl) ?_
    refine s_pu (d := some 12) (v := (.int .i64 j3)) rfl rfl rfl (r_move rfl) ?_
    refine s_pu (d := some 13) (v := (.int .i64 (w64 (j3 - 1)))) rfl rfl rfl (r_sub rfl rfl) ?_
    refine s_pu (d := some 2) (v := (.int .i64 (w64 (i2 + 1)))) rfl rfl rfl (r_assign rfl) ?_
    refine s_pu (d := some 3) (v := (.int .i64 (w64 (j3 - 1)))) rfl rfl rfl (r_assign rfl) ?_
    refine s_fin ?_
    exact WL_mk (l := [(0, (Sl.v s1)), (2, (.int .i64 (w64 (i2 + 1)))), (3, (.int .i64 (w64 (j3 - 1))))]) H ⟨rfl, rfl, rfl, trivial⟩
  · have H := H.2 g37
    refine W_exit (inX_here ?_)
    exact ⟨[], rfl, rfl, H⟩

/-! ### law5_risen -/

def law5_risen_F (r : World)  (h : Heap) (R : Bool → Heap → Prop) : Prop :=
  New h (.cells #[(.int .i64 3), (.int .i64 1), (.int .i64 2)] 3) fun p1 h1 =>
  lis_Longest r ((⟨some p1, 3, 3⟩ : Sl)) h1 fun y4 h2 =>
  R (decide (((y4.len : Int)) = 2)) h2

set_option maxRecDepth 100000 in
theorem law5_risen_of {r : World}  {h : Heap} {R : Bool → Heap → Prop} (H : law5_risen_F r  h R) : law5_risen r  h R := by
  unfold law5_risen_F at H
  refine calls_of 7 [.tmp 0] Try.func11 rfl rfl rfl rfl rfl ?_
  refine W_seq ?_
  refine W_region (.pu 0 .fin) rfl rfl ?_
  refine s_pu (d := some 0) (v := (.bool false)) rfl rfl rfl (r_assign rfl) ?_
  refine s_fin ?_
  show W _ _ _ _ _ _ _
  refine W_seq ?_
  refine W_region (.ef 0 [] (.ef 1 [] (.pu 2 .fin) .no) .no) rfl rfl ?_
  obtain ⟨p1, e2⟩ : ∃ p : Addr, p = ⟨h.size, 0, none⟩ := ⟨_, rfl⟩
  obtain ⟨h1, e3⟩ : ∃ hh : Heap, hh = h.push (.cells #[(.int .i64 3), (.int .i64 1), (.int .i64 2)] 3) := ⟨_, rfl⟩
  have H := H p1 h1 e2 e3
  refine s_ef1 (d := some 2) (v := (Sl.v ((⟨some p1, 3, 3⟩ : Sl)))) (h' := h1) rfl rfl rfl (fun dr => (slFLis_22.build (cells := #[(.int .i64 3), (.int .i64 1), (.int .i64 2)]) (by decide) rfl (by kernel_rfl)).trans (by rw [e2, e3]; rfl)) trivial ?_ trivial
  refine s_ef (d := some 3) rfl rfl rfl (fun dr => r_call Try.call13 rfl rfl H) ?_ trivial
  rintro _ h2 ⟨y4, rfl, H⟩
  refine ⟨trivial, ?_⟩
  refine s_pu (d := some 1) (v := (Sl.v y4)) rfl rfl rfl (r_assign rfl) ?_
  refine s_fin ?_
  show W _ _ _ _ _ _ _
  refine W_seq ?_
  refine W_region (.pu 0 (.pu 1 (.pu 2 (.pu 3 .fin)))) rfl rfl ?_
  refine s_pu (d := some 4) (v := (Sl.v y4)) rfl rfl rfl (r_move rfl) ?_
  refine s_pu (d := some 5) (v := (.int .i64 ((y4.len : Int)))) rfl rfl rfl (r_len Try.underlying22 rfl) ?_
  refine s_pu (d := some 6) (v := (.bool (decide (((y4.len : Int)) = 2)))) rfl rfl rfl (r_eql rfl rfl) ?_
  refine s_pu (d := some 0) (v := (.bool (decide (((y4.len : Int)) = 2)))) rfl rfl rfl (r_assign rfl) ?_
  refine s_fin ?_
  show W _ _ _ _ _ _ _
  refine W_ret ?_
  exact ⟨[(.bool (decide (((y4.len : Int)) = 2)))], ⟨_, _, rfl, rfl, rfl⟩, (decide (((y4.len : Int)) = 2)), rfl, H⟩

/-! ### law5_LisFalls -/

def law5_LisFalls_F (r : World) (l1 : Sl) (h : Heap) (R : Bool → Heap → Prop) : Prop :=
  law5_risen r h fun y2 h1 =>
  Br (!y2) (
    R false h1) (
    lis_Falls r l1 h1 fun y3 h2 =>
    MkS 4 1 1 (.bool false) ((l1.len : Int)) h2 fun s4 h3 =>
    ∀ X12 : Int → Int → Heap → Prop, (∀ (n10 : Int) (i11 : Int) (h4 : Heap),
      (Br (decide (i11 < ((y3.len : Int)))) (
        Ix y3 i11 1 fun q17 =>
        LdS h4 q17 fun x19 =>
        Br (decide (((x19.len : Int)) = 0)) (
          R false h4) (
          ∀ X23 : Int → Int → Heap → Prop, (∀ (n21 : Int) (k22 : Int) (h5 : Heap),
            (Ix y3 i11 1 fun q28 =>
            LdS h5 q28 fun x30 =>
            Br (decide (k22 < ((x30.len : Int)))) (
              Ix y3 i11 1 fun q36 =>
              LdS h5 q36 fun x38 =>
              Ix x38 k22 1 fun q44 =>
              LdI h5 q44 fun x46 =>
              ∀ J49 : Bool → Prop, (∀ (x48 : Bool),
                (Br x48 (
                  R false h5) (
                  Ix s4 x46 1 fun q55 =>
                  St h5 q55 1 [(.bool true)] fun h6 =>
                  ∀ J60 : Bool → Prop, (∀ (x59 : Bool),
                    (Br x59 (
                      R false h6) (
                      X23 (w64 (n21 + 1)) (w64 (k22 + 1)) h6)) →
                    J60 x59) →
                  Br (decide (0 < k22)) (
                    Ix y3 i11 1 fun q68 =>
                    LdS h6 q68 fun x70 =>
                    Ix x70 (w64 (k22 - 1)) 1 fun q76 =>
                    LdI h6 q76 fun x78 =>
                    Br (decide (x46 ≤ x78)) (
                      J60 true) (
                      Ix l1 x46 1 fun q85 =>
                      LdI h6 q85 fun x87 =>
                      Ix y3 i11 1 fun q93 =>
                      LdS h6 q93 fun x95 =>
                      Ix x95 (w64 (k22 - 1)) 1 fun q101 =>
                      LdI h6 q101 fun x103 =>
                      Ix l1 x103 1 fun q109 =>
                      LdI h6 q109 fun x111 =>
                      J60 (decide (x111 < x87)))) (
                    J60 false))) →
                J49 x48) →
              Br (decide (x46 < 0)) (
                J49 true) (
                Br (decide (((l1.len : Int)) ≤ x46)) (
                  J49 true) (
                  Ix s4 x46 1 fun q120 =>
                  LdB h5 q120 fun x122 =>
                  J49 x122))) (
              X12 n21 (w64 (i11 + 1)) h5)) →
            X23 n21 k22 h5) →
          X23 n10 0 h4)) (
        ∀ J127 : Bool → Heap → Prop, (∀ (x126 : Bool) (h7 : Heap),
          (R x126 h7) →
          J127 x126 h7) →
        Br (decide (n10 = ((l1.len : Int)))) (
          lis_Longest r l1 h4 fun y130 h8 =>
          J127 (decide (((y3.len : Int)) = ((y130.len : Int)))) h8) (
          J127 false h4))) →
      X12 n10 i11 h4) →
    X12 0 0 h3)

set_option maxRecDepth 100000 in
theorem law5_LisFalls_of {r : World} {l1 : Sl} {h : Heap} {R : Bool → Heap → Prop} (H : law5_LisFalls_F r l1 h R) : law5_LisFalls r l1 h R := by
  unfold law5_LisFalls_F at H
  refine calls_of 109 [.tmp 2] Try.func3 rfl rfl rfl rfl rfl ?_
  refine W_seq ?_
  refine W_region (.pu 0 .fin) rfl rfl ?_
  refine s_pu (d := some 2) (v := (.bool false)) rfl rfl rfl (r_assign rfl) ?_
  refine s_fin ?_
  show W _ _ _ _ _ _ _
  refine W_seq ?_
  refine W_region (.ef 0 [] (.pu 1 .fin) .no) rfl rfl ?_
  refine s_ef (d := some 10) rfl rfl rfl (fun dr => r_call Try.call11 rfl rfl H) ?_ trivial
  rintro _ h1 ⟨y2, rfl, H⟩
  refine ⟨trivial, ?_⟩
  refine s_pu (d := some 3) (v := (.bool y2)) rfl rfl rfl (r_assign rfl) ?_
  refine s_fin ?_
  show W _ _ _ _ _ _ _
  refine W_seq ?_
  refine W_seq ?_
  refine W_region (.pu 0 (.pu 1 .fin)) rfl rfl ?_
  refine s_pu (d := some 11) (v := (.bool y2)) rfl rfl rfl (r_move rfl) ?_
  refine s_pu (d := some 12) (v := (.bool (!y2))) rfl rfl rfl (r_not rfl) ?_
  refine s_fin ?_
  show W _ _ _ _ _ _ _
  refine W_if (!y2) rfl (fun g132 => ?_) (fun g132 => ?_)
  · have H := H.1 g132
    refine W_seq ?_
    refine W_region (.pu 0 .fin) rfl rfl ?_
    refine s_pu (d := some 2) (v := (.bool false)) rfl rfl rfl (r_assign rfl) ?_
    refine s_fin ?_
    show W _ _ _ _ _ _ _
    refine W_ret ?_
    exact ⟨[(.bool false)], ⟨_, _, rfl, rfl, rfl⟩, false, rfl, H⟩
  · have H := H.2 g132
    refine W_skip ?_
    show W _ _ _ _ _ _ _
    refine W_seq ?_
    refine W_region (.pu 0 (.ef 1 [] (.pu 2 .fin) .no)) rfl rfl ?_
    refine s_pu (d := some 13) (v := (Sl.v l1)) rfl rfl rfl (r_move rfl) ?_
    refine s_ef (d := some 14) rfl rfl rfl (fun dr => r_call Try.call12 rfl rfl H) ?_ trivial
    rintro _ h2 ⟨y3, rfl, H⟩
    refine ⟨trivial, ?_⟩
    refine s_pu (d := some 4) (v := (Sl.v y3)) rfl rfl rfl (r_assign rfl) ?_
    refine s_fin ?_
    show W _ _ _ _ _ _ _
    refine W_seq ?_
    refine W_region (.pu 0 (.pu 1 (.ef 2 [] (.pu 3 .fin) .no))) rfl rfl ?_
    refine s_pu (d := some 15) (v := (Sl.v l1)) rfl rfl rfl (r_move rfl) ?_
    refine s_pu (d := some 16) (v := (.int .i64 ((l1.len : Int)))) rfl rfl rfl (r_len Try.underlying22 rfl) ?_
    obtain ⟨e5, e6, e7, H⟩ := H
    obtain ⟨s4, e8⟩ : ∃ s : Sl, s = ⟨some ⟨h2.size, 0, none⟩, Int.toNat ((l1.len : Int)), Int.toNat ((l1.len : Int))⟩ := ⟨_, rfl⟩
    obtain ⟨h3, e9⟩ : ∃ hh : Heap, hh = _ := ⟨_, rfl⟩
    have H := H s4 h3 e8 e9
    refine s_ef1 (d := some 17) (v := (Sl.v s4)) (h' := h3) rfl rfl rfl (fun dr => (slFLis_26.make rfl rfl e5 e6 e7).trans (by rw [e8, e9]; rfl)) trivial ?_ trivial
    refine s_pu (d := some 5) (v := (Sl.v s4)) rfl rfl rfl (r_assign rfl) ?_
    refine s_fin ?_
    show W _ _ _ _ _ _ _
    refine W_seq ?_
    refine W_region (.pu 0 .fin) rfl rfl ?_
    refine s_pu (d := some 6) (v := (.int .i64 0)) rfl rfl rfl (r_assign rfl) ?_
    refine s_fin ?_
    show W _ _ _ _ _ _ _
    refine W_seq ?_
    refine W_seq ?_
    refine W_region (.pu 0 .fin) rfl rfl ?_
    refine s_pu (d := some 7) (v := (.int .i64 0)) rfl rfl rfl (r_assign rfl) ?_
    refine s_fin ?_
    show W _ _ _ _ _ _ _
    refine W_block ?_
    refine W_loop (WL_mk (l := [(0, (Sl.v l1)), (4, (Sl.v y3)), (5, (Sl.v s4)), (6, (.int .i64 0)), (7, (.int .i64 0))]) ?_ ⟨rfl, rfl, rfl, rfl, rfl, trivial⟩)
    refine H (fun (n10 : Int) (i11 : Int) (h4 : Heap) => ∀ b, WL _ _ _ _ _ (mkE [(0, (Sl.v l1)), (4, (Sl.v y3)), (5, (Sl.v s4)), (6, (.int .i64 n10)), (7, (.int .i64 i11))] b) h4) ?_
    intro n10 i11 h4 H b
    refine WL_round ?_
    refine W_seq ?_
    refine W_seq ?_
    refine W_region (.pu 0 (.pu 1 (.pu 2 (.pu 3 .fin)))) rfl rfl ?_
    refine s_pu (d := some 18) (v := (.int .i64 i11)) rfl rfl rfl (r_move rfl) ?_
    refine s_pu (d := some 19) (v := (Sl.v y3)) rfl rfl rfl (r_move rfl) ?_
    refine s_pu (d := some 20) (v := (.int .i64 ((y3.len : Int)))) rfl rfl rfl (r_len Try.underlying24 rfl) ?_
    refine s_pu (d := some 21) (v := (.bool (decide (i11 < ((y3.len : Int)))))) rfl rfl rfl (r_lss rfl rfl) ?_
    refine s_fin ?_
    show W _ _ _ _ _ _ _
    refine W_if (decide (i11 < ((y3.len : Int)))) rfl (fun g131 => ?_) (fun g131 => ?_)
    · have H := H.1 g131
      refine W_skip ?_
      show W _ _ _ _ _ _ _
      refine W_seq ?_
      refine W_block ?_
      refine W_seq ?_
      refine W_seq ?_
      refine W_region (.pu 0 (.pu 1 (.pu 2 (.rl 3 (.pu 4 (.pu 5 .fin)))))) rfl rfl ?_
      refine s_pu (d := some 24) (v := (Sl.v y3)) rfl rfl rfl (r_move rfl) ?_
      refine s_pu (d := some 25) (v := (.int .i64 i11)) rfl rfl rfl (r_move rfl) ?_
      obtain ⟨p13, e14, e15, e16, H⟩ := H
      obtain ⟨q17, e18⟩ : ∃ q : Addr, q = Addr.add p13 (Int.toNat i11 * 1) := ⟨_, rfl⟩
      rw [← e18] at H
      refine s_pu (d := some 26) (v := (.pointer (some q17))) rfl rfl rfl (fun w => (r_indexAddr Try.underlying24 Try.sizeOf22 rfl rfl e14 e15 e16 w).trans (by rw [e18])) ?_
      obtain ⟨x19, e20, H⟩ := H
      refine s_rl (d := some 27) (v := (Sl.v x19)) rfl rfl rfl (fun dr => r_load1 Try.isAgg22 rfl e20) ?_
      refine s_pu (d := some 28) (v := (.int .i64 ((x19.len : Int)))) rfl rfl rfl (r_len Try.underlying22 rfl) ?_
      refine s_pu (d := some 29) (v := (.bool (decide (((x19.len : Int)) = 0)))) rfl rfl rfl (r_eql rfl rfl) ?_
      refine s_fin ?_
      show W _ _ _ _ _ _ _
      refine W_if (decide (((x19.len : Int)) = 0)) rfl (fun g125 => ?_) (fun g125 => ?_)
      · have H := H.1 g125
        refine W_seq ?_
        refine W_region (.pu 0 .fin) rfl rfl ?_
        refine s_pu (d := some 2) (v := (.bool false)) rfl rfl rfl (r_assign rfl) ?_
        refine s_fin ?_
        show W _ _ _ _ _ _ _
        refine W_ret ?_
        exact ⟨[(.bool false)], ⟨_, _, rfl, rfl, rfl⟩, false, rfl, H⟩
      · have H := H.2 g125
        refine W_skip ?_
        show W _ _ _ _ _ _ _
        refine W_seq ?_
        refine W_region (.pu 0 .fin) rfl rfl ?_
        refine s_pu (d := some 8) (v := (.int .i64 0)) rfl rfl rfl (r_assign rfl) ?_
        refine s_fin ?_
        show W _ _ _ _ _ _ _
        refine W_block ?_
        refine W_loop (WL_mk (l := [(0, (Sl.v l1)), (4, (Sl.v y3)), (5, (Sl.v s4)), (6, (.int .i64 n10)), (7, (.int .i64 i11)), (8, (.int .i64 0))]) ?_ ⟨rfl, rfl, rfl, rfl, rfl, rfl, trivial⟩)
        refine H (fun (n21 : Int) (k22 : Int) (h5 : Heap) => ∀ b, WL _ _ _ _ _ (mkE [(0, (Sl.v l1)), (4, (Sl.v y3)), (5, (Sl.v s4)), (6, (.int .i64 n21)), (7, (.int .i64 i11)), (8, (.int .i64 k22))] b) h5) ?_
        intro n21 k22 h5 H b
        refine WL_round ?_
        refine W_seq ?_
        refine W_seq ?_
        refine W_region (.pu 0 (.pu 1 (.pu 2 (.pu 3 (.rl 4 (.pu 5 (.pu 6 .fin))))))) rfl rfl ?_
        refine s_pu (d := some 30) (v := (.int .i64 k22)) rfl rfl rfl (r_move rfl) ?_
        refine s_pu (d := some 31) (v := (Sl.v y3)) rfl rfl rfl (r_move rfl) ?_
        refine s_pu (d := some 32) (v := (.int .i64 i11)) rfl rfl rfl (r_move rfl) ?_
        obtain ⟨p24, e25, e26, e27, H⟩ := H
        obtain ⟨q28, e29⟩ : ∃ q : Addr, q = Addr.add p24 (Int.toNat i11 * 1) := ⟨_, rfl⟩
        rw [← e29] at H
        refine s_pu (d := some 33) (v := (.pointer (some q28))) rfl rfl rfl (fun w => (r_indexAddr Try.underlying24 Try.sizeOf22 rfl rfl e25 e26 e27 w).trans (by rw [e29])) ?_
        obtain ⟨x30, e31, H⟩ := H
        refine s_rl (d := some 34) (v := (Sl.v x30)) rfl rfl rfl (fun dr => r_load1 Try.isAgg22 rfl e31) ?_
        refine s_pu (d := some 35) (v := (.int .i64 ((x30.len : Int)))) rfl rfl rfl (r_len Try.underlying22 rfl) ?_
        refine s_pu (d := some 36) (v := (.bool (decide (k22 < ((x30.len : Int)))))) rfl rfl rfl (r_lss rfl rfl) ?_
        refine s_fin ?_
        show W _ _ _ _ _ _ _
        refine W_if (decide (k22 < ((x30.len : Int)))) rfl (fun g124 => ?_) (fun g124 => ?_)
        · have H := H.1 g124
          refine W_skip ?_
          show W _ _ _ _ _ _ _
          refine W_seq ?_
          refine W_block ?_
          refine W_seq ?_
          refine W_region (.pu 0 (.pu 1 (.pu 2 (.rl 3 (.pu 4 (.pu 5 (.rl 6 (.pu 7 .fin)))))))) rfl rfl ?_
          refine s_pu (d := some 39) (v := (Sl.v y3)) rfl rfl rfl (r_move rfl) ?_
          refine s_pu (d := some 40) (v := (.int .i64 i11)) rfl rfl rfl (r_move rfl) ?_
          obtain ⟨p32, e33, e34, e35, H⟩ := H
          obtain ⟨q36, e37⟩ : ∃ q : Addr, q = Addr.add p32 (Int.toNat i11 * 1) := ⟨_, rfl⟩
          rw [← e37] at H
          refine s_pu (d := some 41) (v := (.pointer (some q36))) rfl rfl rfl (fun w => (r_indexAddr Try.underlying24 Try.sizeOf22 rfl rfl e33 e34 e35 w).trans (by rw [e37])) ?_
          obtain ⟨x38, e39, H⟩ := H
          refine s_rl (d := some 42) (v := (Sl.v x38)) rfl rfl rfl (fun dr => r_load1 Try.isAgg22 rfl e39) ?_
          refine s_pu (d := some 43) (v := (.int .i64 k22)) rfl rfl rfl (r_move rfl) ?_
          obtain ⟨p40, e41, e42, e43, H⟩ := H
          obtain ⟨q44, e45⟩ : ∃ q : Addr, q = Addr.add p40 (Int.toNat k22 * 1) := ⟨_, rfl⟩
          rw [← e45] at H
          refine s_pu (d := some 44) (v := (.pointer (some q44))) rfl rfl rfl (fun w => (r_indexAddr Try.underlying22 Try.sizeOf3 rfl rfl e41 e42 e43 w).trans (by rw [e45])) ?_
          obtain ⟨x46, e47, H⟩ := H
          refine s_rl (d := some 45) (v := (.int .i64 x46)) rfl rfl rfl (fun dr => r_load1 Try.isAgg3 rfl e47) ?_
          refine s_pu (d := some 9) (v := (.int .i64 x46)) rfl rfl rfl (r_assign rfl) ?_
          refine s_fin ?_
          show W _ _ _ _ _ _ _
          refine W_seq ?_
          refine W_seq ?_
          refine W_set ?_
          intro N50 eN50
          have H := H (fun (x48 : Bool) => ∀ b, N50 (mkE [(0, (Sl.v l1)), (4, (Sl.v y3)), (5, (Sl.v s4)), (6, (.int .i64 n21)), (7, (.int .i64 i11)), (8, (.int .i64 k22)), (9, (.int .i64 x46)), (59, (.bool x48))] b) h5) (by
            intro x48 H b
            rw [eN50]
            show W _ _ _ _ _ _ _
            refine W_if x48 rfl (fun g113 => ?_) (fun g113 => ?_)
            · have H := H.1 g113
              refine W_seq ?_
              refine W_region (.pu 0 .fin) rfl rfl ?_
              refine s_pu (d := some 2) (v := (.bool false)) rfl rfl rfl (r_assign rfl) ?_
              refine s_fin ?_
              show W _ _ _ _ _ _ _
              refine W_ret ?_
              exact ⟨[(.bool false)], ⟨_, _, rfl, rfl, rfl⟩, false, rfl, H⟩
            · have H := H.2 g113
              refine W_skip ?_
              show W _ _ _ _ _ _ _
              refine W_seq ?_
              refine W_region (.pu 0 (.pu 1 (.pu 2 (.ef 3 [] .fin .no)))) rfl rfl ?_
              refine s_pu (d := some 60) (v := (Sl.v s4)) rfl rfl rfl (r_move rfl) ?_
              refine s_pu (d := some 61) (v := (.int .i64 x46)) rfl rfl rfl (r_move rfl) ?_
              obtain ⟨p51, e52, e53, e54, H⟩ := H
              obtain ⟨q55, e56⟩ : ∃ q : Addr, q = Addr.add p51 (Int.toNat x46 * 1) := ⟨_, rfl⟩
              rw [← e56] at H
              refine s_pu (d := some 62) (v := (.pointer (some q55))) rfl rfl rfl (fun w => (r_indexAddr Try.underlying26 Try.sizeOf4 rfl rfl e52 e53 e54 w).trans (by rw [e56])) ?_
              obtain ⟨e58, H⟩ := H
              obtain ⟨h6, e57⟩ : ∃ hh : Heap, hh = hsets h5 q55 0 [(.bool true)] := ⟨_, rfl⟩
              have H := H h6 e57
              refine s_st (d := none) (h' := h6) rfl rfl rfl (fun dr => (r_store (v := (.bool true)) Try.sizeOf4 rfl rfl rfl (one_all rfl) e58).trans (by rw [e57]; rfl)) trivial ?_ trivial
              refine s_fin ?_
              show W _ _ _ _ _ _ _
              refine W_seq ?_
              refine W_region (.pu 0 (.pu 1 (.pu 2 .fin))) rfl rfl ?_
              refine s_pu (d := some 63) (v := (.int .i64 n21)) rfl rfl rfl (r_move rfl) ?_
              refine s_pu (d := some 64) (v := (.int .i64 (w64 (n21 + 1)))) rfl rfl rfl (r_add rfl rfl) ?_
              refine s_pu (d := some 6) (v := (.int .i64 (w64 (n21 + 1)))) rfl rfl rfl (r_assign rfl) ?_
              refine s_fin ?_
              show W _ _ _ _ _ _ _
              refine W_seq ?_
              refine W_set ?_
              intro N61 eN61
              have H := H (fun (x59 : Bool) => ∀ b, N61 (mkE [(0, (Sl.v l1)), (4, (Sl.v y3)), (5, (Sl.v s4)), (6, (.int .i64 (w64 (n21 + 1)))), (7, (.int .i64 i11)), (8, (.int .i64 k22)), (96, (.bool x59))] b) h6) (by
                intro x59 H b
                rw [eN61]
                show W _ _ _ _ _ _ _
                refine W_if x59 rfl (fun g62 => ?_) (fun g62 => ?_)
                · have H := H.1 g62
                  refine W_seq ?_
                  refine W_region (.pu 0 .fin) rfl rfl ?_
                  refine s_pu (d := some 2) (v := (.bool false)) rfl rfl rfl (r_assign rfl) ?_
                  refine s_fin ?_
                  show W _ _ _ _ _ _ _
                  refine W_ret ?_
                  exact ⟨[(.bool false)], ⟨_, _, rfl, rfl, rfl⟩, false, rfl, H⟩
                · have H := H.2 g62
                  refine W_skip ?_
                  show W _ _ _ _ _ _ _
                  refine W_region (.pu 0 (.pu 1 (.pu 2 .fin))) rfl rfl ?_
                  refine s_pu (d := some 37) (v := (.int .i64 k22)) rfl rfl rfl (r_move rfl) ?_
                  refine s_pu (d := some 38) (v := (.int .i64 (w64 (k22 + 1)))) rfl rfl rfl (r_add rfl rfl) ?_
                  refine s_pu (d := some 8) (v := (.int .i64 (w64 (k22 + 1)))) rfl rfl rfl (r_assign rfl) ?_
                  refine s_fin ?_
                  exact WL_mk (l := [(0, (Sl.v l1)), (4, (Sl.v y3)), (5, (Sl.v s4)), (6, (.int .i64 (w64 (n21 + 1)))), (7, (.int .i64 i11)), (8, (.int .i64 (w64 (k22 + 1))))]) H ⟨rfl, rfl, rfl, rfl, rfl, rfl, trivial⟩)
              clear eN61
              refine W_draw [0, 1, 3, 7, 7, 7, 55, 119, 7, 263, 1015, 2039, 4095, 8191, 16383, 16383, 65535, 131071, 16383, 16383, 16383, 1589247, 3686399, 16383, 8404991, 33046527, 66600959, 133971967, 268189695, 536870911, 1073741823, 2147483647] (.pu 0 (.pu 1 (.pu 2 (.pu 3 (.pu 4 (.pu 5 (.pu 6 (.rd 7 (.pu 8 (.pu 9 (.pu 10 (.rd 11 (.pu 12 (.pu 13 (.pu 14 (.pu 15 (.pu 16 (.rd 17 (.pu 18 (.pu 19 (.pu 20 (.pu 21 (.rd 22 (.pu 23 (.pu 24 (.pu 25 (.rd 26 (.pu 27 (.rd 28 (.pu 29 (.pu 30 (.pu 31 .fin)))))))))))))))))))))))))))))))) (by kernel_rfl) (by kernel_rfl) ?_
              refine s_pu (d := some 65) (v := (.int .i64 k22)) rfl rfl rfl (r_move rfl) ?_
              refine s_pu (d := some 66) (v := (.bool (decide (0 < k22)))) rfl rfl rfl (r_gtr rfl rfl) ?_
              refine s_pu (d := some 67) (v := (.bool (decide (0 < k22)))) rfl rfl rfl (r_move rfl) ?_
              rcases Bool.eq_false_or_eq_true (decide (0 < k22)) with g63 | g63
              · have H := H.1 g63
                refine s_pu (d := some 68) (v := (.int .i64 x46)) rfl rfl (wants_yes rfl rfl rfl rfl g63) (r_move rfl) ?_
                refine s_pu (d := some 69) (v := (Sl.v y3)) rfl rfl (wants_yes rfl rfl rfl rfl g63) (r_move rfl) ?_
                refine s_pu (d := some 70) (v := (.int .i64 i11)) rfl rfl (wants_yes rfl rfl rfl rfl g63) (r_move rfl) ?_
                obtain ⟨p64, e65, e66, e67, H⟩ := H
                obtain ⟨q68, e69⟩ : ∃ q : Addr, q = Addr.add p64 (Int.toNat i11 * 1) := ⟨_, rfl⟩
                rw [← e69] at H
                refine s_pu (d := some 71) (v := (.pointer (some q68))) rfl rfl (wants_yes rfl rfl rfl rfl g63) (fun w => (r_indexAddr Try.underlying24 Try.sizeOf22 rfl rfl e65 e66 e67 w).trans (by rw [e69])) ?_
                obtain ⟨x70, e71, H⟩ := H
                refine s_rd (d := some 72) (v := (Sl.v x70)) rfl rfl (wants_yes rfl rfl rfl rfl g63) (fun dr => r_load1 Try.isAgg22 rfl e71) ?_
                refine s_pu (d := some 73) (v := (.int .i64 k22)) rfl rfl (wants_yes rfl rfl rfl rfl g63) (r_move rfl) ?_
                refine s_pu (d := some 74) (v := (.int .i64 (w64 (k22 - 1)))) rfl rfl (wants_yes rfl rfl rfl rfl g63) (r_sub rfl rfl) ?_
                obtain ⟨p72, e73, e74, e75, H⟩ := H
                obtain ⟨q76, e77⟩ : ∃ q : Addr, q = Addr.add p72 (Int.toNat (w64 (k22 - 1)) * 1) := ⟨_, rfl⟩
                rw [← e77] at H
                refine s_pu (d := some 75) (v := (.pointer (some q76))) rfl rfl (wants_yes rfl rfl rfl rfl g63) (fun w => (r_indexAddr Try.underlying22 Try.sizeOf3 rfl rfl e73 e74 e75 w).trans (by rw [e77])) ?_
                obtain ⟨x78, e79, H⟩ := H
                refine s_rd (d := some 76) (v := (.int .i64 x78)) rfl rfl (wants_yes rfl rfl rfl rfl g63) (fun dr => r_load1 Try.isAgg3 rfl e79) ?_
                refine s_pu (d := some 77) (v := (.bool (decide (x46 ≤ x78)))) rfl rfl (wants_yes rfl rfl rfl rfl g63) (r_leq rfl rfl) ?_
                refine s_pu (d := some 78) (v := (.bool (decide (x46 ≤ x78)))) rfl rfl (wants_yes rfl rfl rfl rfl g63) (r_move rfl) ?_
                rcases Bool.eq_false_or_eq_true (decide (x46 ≤ x78)) with g80 | g80
                · have H := H.1 g80
                  refine s_sk (d := some 79) rfl rfl (wants_no rfl rfl rfl rfl g80) ?_
                  refine s_sk (d := some 80) rfl rfl (wants_no rfl rfl rfl rfl g80) ?_
                  refine s_sk (d := some 81) rfl rfl (wants_no rfl rfl rfl rfl g80) ?_
                  refine s_skd (d := some 82) rfl rfl (wants_no rfl rfl rfl rfl g80) ?_
                  refine s_sk (d := some 83) rfl rfl (wants_no rfl rfl rfl rfl g80) ?_
                  refine s_sk (d := some 84) rfl rfl (wants_no rfl rfl rfl rfl g80) ?_
                  refine s_sk (d := some 85) rfl rfl (wants_no rfl rfl rfl rfl g80) ?_
                  refine s_sk (d := some 86) rfl rfl (wants_no rfl rfl rfl rfl g80) ?_
                  refine s_skd (d := some 87) rfl rfl (wants_no rfl rfl rfl rfl g80) ?_
                  refine s_sk (d := some 88) rfl rfl (wants_no rfl rfl rfl rfl g80) ?_
                  refine s_sk (d := some 89) rfl rfl (wants_no rfl rfl rfl rfl g80) ?_
                  refine s_sk (d := some 90) rfl rfl (wants_no rfl rfl rfl rfl g80) ?_
                  refine s_skd (d := some 91) rfl rfl (wants_no rfl rfl rfl rfl g80) ?_
                  refine s_sk (d := some 92) rfl rfl (wants_no rfl rfl rfl rfl g80) ?_
                  refine s_skd (d := some 93) rfl rfl (wants_no rfl rfl rfl rfl g80) ?_
                  refine s_sk (d := some 94) rfl rfl (wants_no rfl rfl rfl rfl g80) ?_
                  refine s_pu (d := some 95) (v := (.bool true)) rfl rfl (wants_yes rfl rfl rfl rfl g63) (r_pick1 rfl g80 rfl) ?_
                  refine s_pu (d := some 96) (v := (.bool true)) rfl rfl rfl (r_pick1 rfl g63 rfl) ?_
                  refine s_fin ?_
                  exact N_mk (l := [(0, (Sl.v l1)), (4, (Sl.v y3)), (5, (Sl.v s4)), (6, (.int .i64 (w64 (n21 + 1)))), (7, (.int .i64 i11)), (8, (.int .i64 k22)), (96, (.bool true))]) H ⟨rfl, rfl, rfl, rfl, rfl, rfl, rfl, trivial⟩
                · have H := H.2 g80
                  refine s_pu (d := some 79) (v := (Sl.v l1)) rfl rfl (wants_yes rfl rfl rfl rfl g80) (r_move rfl) ?_
                  refine s_pu (d := some 80) (v := (.int .i64 x46)) rfl rfl (wants_yes rfl rfl rfl rfl g80) (r_move rfl) ?_
                  obtain ⟨p81, e82, e83, e84, H⟩ := H
                  obtain ⟨q85, e86⟩ : ∃ q : Addr, q = Addr.add p81 (Int.toNat x46 * 1) := ⟨_, rfl⟩
                  rw [← e86] at H
                  refine s_pu (d := some 81) (v := (.pointer (some q85))) rfl rfl (wants_yes rfl rfl rfl rfl g80) (fun w => (r_indexAddr Try.underlying22 Try.sizeOf3 rfl rfl e82 e83 e84 w).trans (by rw [e86])) ?_
                  obtain ⟨x87, e88, H⟩ := H
                  refine s_rd (d := some 82) (v := (.int .i64 x87)) rfl rfl (wants_yes rfl rfl rfl rfl g80) (fun dr => r_load1 Try.isAgg3 rfl e88) ?_
                  refine s_pu (d := some 83) (v := (Sl.v l1)) rfl rfl (wants_yes rfl rfl rfl rfl g80) (r_move rfl) ?_
                  refine s_pu (d := some 84) (v := (Sl.v y3)) rfl rfl (wants_yes rfl rfl rfl rfl g80) (r_move rfl) ?_
                  refine s_pu (d := some 85) (v := (.int .i64 i11)) rfl rfl (wants_yes rfl rfl rfl rfl g80) (r_move rfl) ?_
                  obtain ⟨p89, e90, e91, e92, H⟩ := H
                  obtain ⟨q93, e94⟩ : ∃ q : Addr, q = Addr.add p89 (Int.toNat i11 * 1) := ⟨_, rfl⟩
                  rw [← e94] at H
                  refine s_pu (d := some 86) (v := (.pointer (some q93))) rfl rfl (wants_yes rfl rfl rfl rfl g80) (fun w => (r_indexAddr Try.underlying24 Try.sizeOf22 rfl rfl e90 e91 e92 w).trans (by rw [e94])) ?_
                  obtain ⟨x95, e96, H⟩ := H
                  refine s_rd (d := some 87) (v := (Sl.v x95)) rfl rfl (wants_yes rfl rfl rfl rfl g80) (fun dr => r_load1 Try.isAgg22 rfl e96) ?_
                  refine s_pu (d := some 88) (v := (.int .i64 k22)) rfl rfl (wants_yes rfl rfl rfl rfl g80) (r_move rfl) ?_
                  refine s_pu (d := some 89) (v := (.int .i64 (w64 (k22 - 1)))) rfl rfl (wants_yes rfl rfl rfl rfl g80) (r_sub rfl rfl) ?_
                  obtain ⟨p97, e98, e99, e100, H⟩ := H
                  obtain ⟨q101, e102⟩ : ∃ q : Addr, q = Addr.add p97 (Int.toNat (w64 (k22 - 1)) * 1) := ⟨_, rfl⟩
                  rw [← e102] at H
                  refine s_pu (d := some 90) (v := (.pointer (some q101))) rfl rfl (wants_yes rfl rfl rfl rfl g80) (fun w => (r_indexAddr Try.underlying22 Try.sizeOf3 rfl rfl e98 e99 e100 w).trans (by rw [e102])) ?_
                  obtain ⟨x103, e104, H⟩ := H
                  refine s_rd (d := some 91) (v := (.int .i64 x103)) rfl rfl (wants_yes rfl rfl rfl rfl g80) (fun dr => r_load1 Try.isAgg3 rfl e104) ?_
                  obtain ⟨p105, e106, e107, e108, H⟩ := H
                  obtain ⟨q109, e110⟩ : ∃ q : Addr, q = Addr.add p105 (Int.toNat x103 * 1) := ⟨_, rfl⟩
                  rw [← e110] at H
                  refine s_pu (d := some 92) (v := (.pointer (some q109))) rfl rfl (wants_yes rfl rfl rfl rfl g80) (fun w => (r_indexAddr Try.underlying22 Try.sizeOf3 rfl rfl e106 e107 e108 w).trans (by rw [e110])) ?_
                  obtain ⟨x111, e112, H⟩ := H
                  refine s_rd (d := some 93) (v := (.int .i64 x111)) rfl rfl (wants_yes rfl rfl rfl rfl g80) (fun dr => r_load1 Try.isAgg3 rfl e112) ?_
                  refine s_pu (d := some 94) (v := (.bool (decide (x111 < x87)))) rfl rfl (wants_yes rfl rfl rfl rfl g80) (r_gtr rfl rfl) ?_
                  refine s_pu (d := some 95) (v := (.bool (decide (x111 < x87)))) rfl rfl (wants_yes rfl rfl rfl rfl g63) (r_pick0 rfl g80 rfl) ?_
                  refine s_pu (d := some 96) (v := (.bool (decide (x111 < x87)))) rfl rfl rfl (r_pick1 rfl g63 rfl) ?_
                  refine s_fin ?_
                  exact N_mk (l := [(0, (Sl.v l1)), (4, (Sl.v y3)), (5, (Sl.v s4)), (6, (.int .i64 (w64 (n21 + 1)))), (7, (.int .i64 i11)), (8, (.int .i64 k22)), (96, (.bool (decide (x111 < x87))))]) H ⟨rfl, rfl, rfl, rfl, rfl, rfl, rfl, trivial⟩
              · have H := H.2 g63
                refine s_sk (d := some 68) rfl rfl (wants_no rfl rfl rfl rfl g63) ?_
                refine s_sk (d := some 69) rfl rfl (wants_no rfl rfl rfl rfl g63) ?_
                refine s_sk (d := some 70) rfl rfl (wants_no rfl rfl rfl rfl g63) ?_
                refine s_sk (d := some 71) rfl rfl (wants_no rfl rfl rfl rfl g63) ?_
                refine s_skd (d := some 72) rfl rfl (wants_no rfl rfl rfl rfl g63) ?_
                refine s_sk (d := some 73) rfl rfl (wants_no rfl rfl rfl rfl g63) ?_
                refine s_sk (d := some 74) rfl rfl (wants_no rfl rfl rfl rfl g63) ?_
                refine s_sk (d := some 75) rfl rfl (wants_no rfl rfl rfl rfl g63) ?_
                refine s_skd (d := some 76) rfl rfl (wants_no rfl rfl rfl rfl g63) ?_
                refine s_sk (d := some 77) rfl rfl (wants_no rfl rfl rfl rfl g63) ?_
                refine s_sk (d := some 78) rfl rfl (wants_no rfl rfl rfl rfl g63) ?_
                refine s_sk (d := some 79) rfl rfl (wants_un rfl rfl rfl) ?_
                refine s_sk (d := some 80) rfl rfl (wants_un rfl rfl rfl) ?_
                refine s_sk (d := some 81) rfl rfl (wants_un rfl rfl rfl) ?_
                refine s_skd (d := some 82) rfl rfl (wants_un rfl rfl rfl) ?_
                refine s_sk (d := some 83) rfl rfl (wants_un rfl rfl rfl) ?_
                refine s_sk (d := some 84) rfl rfl (wants_un rfl rfl rfl) ?_
                refine s_sk (d := some 85) rfl rfl (wants_un rfl rfl rfl) ?_
                refine s_sk (d := some 86) rfl rfl (wants_un rfl rfl rfl) ?_
                refine s_skd (d := some 87) rfl rfl (wants_un rfl rfl rfl) ?_
                refine s_sk (d := some 88) rfl rfl (wants_un rfl rfl rfl) ?_
                refine s_sk (d := some 89) rfl rfl (wants_un rfl rfl rfl) ?_
                refine s_sk (d := some 90) rfl rfl (wants_un rfl rfl rfl) ?_
                refine s_skd (d := some 91) rfl rfl (wants_un rfl rfl rfl) ?_
                refine s_sk (d := some 92) rfl rfl (wants_un rfl rfl rfl) ?_
                refine s_skd (d := some 93) rfl rfl (wants_un rfl rfl rfl) ?_
                refine s_sk (d := some 94) rfl rfl (wants_un rfl rfl rfl) ?_
                refine s_sk (d := some 95) rfl rfl (wants_no rfl rfl rfl rfl g63) ?_
                refine s_pu (d := some 96) (v := (.bool false)) rfl rfl rfl (r_pick0 rfl g63 rfl) ?_
                refine s_fin ?_
                exact N_mk (l := [(0, (Sl.v l1)), (4, (Sl.v y3)), (5, (Sl.v s4)), (6, (.int .i64 (w64 (n21 + 1)))), (7, (.int .i64 i11)), (8, (.int .i64 k22)), (96, (.bool false))]) H ⟨rfl, rfl, rfl, rfl, rfl, rfl, rfl, trivial⟩)
          clear eN50
          refine W_region (.pu 0 (.pu 1 (.pu 2 (.pu 3 (.pu 4 (.pu 5 (.pu 6 (.pu 7 (.pu 8 (.pu 9 (.pu 10 (.pu 11 (.rl 12 (.pu 13 .fin)))))))))))))) rfl rfl ?_
          refine s_pu (d := some 46) (v := (.int .i64 x46)) rfl rfl rfl (r_move rfl) ?_
          refine s_pu (d := some 47) (v := (.bool (decide (x46 < 0)))) rfl rfl rfl (r_lss rfl rfl) ?_
          refine s_pu (d := some 48) (v := (.bool (decide (x46 < 0)))) rfl rfl rfl (r_move rfl) ?_
          rcases Bool.eq_false_or_eq_true (decide (x46 < 0)) with g114 | g114
          · have H := H.1 g114
            refine s_sk (d := some 49) rfl rfl (wants_no rfl rfl rfl rfl g114) ?_
            refine s_sk (d := some 50) rfl rfl (wants_no rfl rfl rfl rfl g114) ?_
            refine s_sk (d := some 51) rfl rfl (wants_no rfl rfl rfl rfl g114) ?_
            refine s_sk (d := some 52) rfl rfl (wants_no rfl rfl rfl rfl g114) ?_
            refine s_pu (d := some 53) (v := (.bool true)) rfl rfl rfl (r_pick1 rfl g114 rfl) ?_
            refine s_pu (d := some 54) (v := (.bool true)) rfl rfl rfl (r_move rfl) ?_
            refine s_sk (d := some 55) rfl rfl (wants_no rfl rfl rfl rfl rfl) ?_
            refine s_sk (d := some 56) rfl rfl (wants_no rfl rfl rfl rfl rfl) ?_
            refine s_sk (d := some 57) rfl rfl (wants_no rfl rfl rfl rfl rfl) ?_
            refine s_skl (d := some 58) rfl rfl (wants_no rfl rfl rfl rfl rfl) ?_
            refine s_pu (d := some 59) (v := (.bool true)) rfl rfl rfl (r_pick1 rfl rfl rfl) ?_
            refine s_fin ?_
            exact N_mk (l := [(0, (Sl.v l1)), (4, (Sl.v y3)), (5, (Sl.v s4)), (6, (.int .i64 n21)), (7, (.int .i64 i11)), (8, (.int .i64 k22)), (9, (.int .i64 x46)), (59, (.bool true))]) H ⟨rfl, rfl, rfl, rfl, rfl, rfl, rfl, rfl, trivial⟩
          · have H := H.2 g114
            refine s_pu (d := some 49) (v := (.int .i64 x46)) rfl rfl (wants_yes rfl rfl rfl rfl g114) (r_move rfl) ?_
            refine s_pu (d := some 50) (v := (Sl.v l1)) rfl rfl (wants_yes rfl rfl rfl rfl g114) (r_move rfl) ?_
            refine s_pu (d := some 51) (v := (.int .i64 ((l1.len : Int)))) rfl rfl (wants_yes rfl rfl rfl rfl g114) (r_len Try.underlying22 rfl) ?_
            refine s_pu (d := some 52) (v := (.bool (decide (((l1.len : Int)) ≤ x46)))) rfl rfl (wants_yes rfl rfl rfl rfl g114) (r_geq rfl rfl) ?_
            refine s_pu (d := some 53) (v := (.bool (decide (((l1.len : Int)) ≤ x46)))) rfl rfl rfl (r_pick0 rfl g114 rfl) ?_
            refine s_pu (d := some 54) (v := (.bool (decide (((l1.len : Int)) ≤ x46)))) rfl rfl rfl (r_move rfl) ?_
            rcases Bool.eq_false_or_eq_true (decide (((l1.len : Int)) ≤ x46)) with g115 | g115
            · have H := H.1 g115
              refine s_sk (d := some 55) rfl rfl (wants_no rfl rfl rfl rfl g115) ?_
              refine s_sk (d := some 56) rfl rfl (wants_no rfl rfl rfl rfl g115) ?_
              refine s_sk (d := some 57) rfl rfl (wants_no rfl rfl rfl rfl g115) ?_
              refine s_skl (d := some 58) rfl rfl (wants_no rfl rfl rfl rfl g115) ?_
              refine s_pu (d := some 59) (v := (.bool true)) rfl rfl rfl (r_pick1 rfl g115 rfl) ?_
              refine s_fin ?_
              exact N_mk (l := [(0, (Sl.v l1)), (4, (Sl.v y3)), (5, (Sl.v s4)), (6, (.int .i64 n21)), (7, (.int .i64 i11)), (8, (.int .i64 k22)), (9, (.int .i64 x46)), (59, (.bool true))]) H ⟨rfl, rfl, rfl, rfl, rfl, rfl, rfl, rfl, trivial⟩
            · have H := H.2 g115
              refine s_pu (d := some 55) (v := (Sl.v s4)) rfl rfl (wants_yes rfl rfl rfl rfl g115) (r_move rfl) ?_
              refine s_pu (d := some 56) (v := (.int .i64 x46)) rfl rfl (wants_yes rfl rfl rfl rfl g115) (r_move rfl) ?_
              obtain ⟨p116, e117, e118, e119, H⟩ := H
              obtain ⟨q120, e121⟩ : ∃ q : Addr, q = Addr.add p116 (Int.toNat x46 * 1) := ⟨_, rfl⟩
              rw [← e121] at H
              refine s_pu (d := some 57) (v := (.pointer (some q120))) rfl rfl (wants_yes rfl rfl rfl rfl g115) (fun w => (r_indexAddr Try.underlying26 Try.sizeOf4 rfl rfl e117 e118 e119 w).trans (by rw [e121])) ?_
              obtain ⟨x122, e123, H⟩ := H
              refine s_rl (d := some 58) (v := (.bool x122)) rfl rfl (wants_yes rfl rfl rfl rfl g115) (fun dr => r_load1 Try.isAgg4 rfl e123) ?_
              refine s_pu (d := some 59) (v := (.bool x122)) rfl rfl rfl (r_pick0 rfl g115 rfl) ?_
              refine s_fin ?_
              exact N_mk (l := [(0, (Sl.v l1)), (4, (Sl.v y3)), (5, (Sl.v s4)), (6, (.int .i64 n21)), (7, (.int .i64 i11)), (8, (.int .i64 k22)), (9, (.int .i64 x46)), (59, (.bool x122))]) H ⟨rfl, rfl, rfl, rfl, rfl, rfl, rfl, rfl, trivial⟩
        · have H := H.2 g124
          refine W_exit (inX_here ?_)
          show W _ _ _ _ _ _ _
          refine W_region (.pu 0 (.pu 1 (.pu 2 .fin))) rfl rfl ?_
          refine s_pu (d := some 22) (v := (.int .i64 i11)) rfl rfl rfl (r_move rfl) ?_
          refine s_pu (d := some 23) (v := (.int .i64 (w64 (i11 + 1)))) rfl rfl rfl (r_add rfl rfl) ?_
          refine s_pu (d := some 7) (v := (.int .i64 (w64 (i11 + 1)))) rfl rfl rfl (r_assign rfl) ?_
          refine s_fin ?_
          exact WL_mk (l := [(0, (Sl.v l1)), (4, (Sl.v y3)), (5, (Sl.v s4)), (6, (.int .i64 n21)), (7, (.int .i64 (w64 (i11 + 1))))]) H ⟨rfl, rfl, rfl, rfl, rfl, trivial⟩
    · have H := H.2 g131
      refine W_exit (inX_here ?_)
      show W _ _ _ _ _ _ _
      refine W_seq ?_
      refine W_set ?_
      intro N128 eN128
      have H := H (fun (x126 : Bool) (h7 : Heap) => ∀ b, N128 (mkE [(2, (.bool x126))] b) h7) (by
        intro x126 h7 H b
        rw [eN128]
        show W _ _ _ _ _ _ _
        refine W_ret ?_
        exact ⟨[(.bool x126)], ⟨_, _, rfl, rfl, rfl⟩, x126, rfl, H⟩)
      clear eN128
      refine W_region (.pu 0 (.pu 1 (.pu 2 (.pu 3 (.pu 4 (.pu 5 (.pu 6 (.pu 7 (.ef 8 [] (.pu 9 (.pu 10 (.pu 11 (.pu 12 .fin)))) .no))))))))) rfl rfl ?_
      refine s_pu (d := some 97) (v := (.int .i64 n10)) rfl rfl rfl (r_move rfl) ?_
      refine s_pu (d := some 98) (v := (Sl.v l1)) rfl rfl rfl (r_move rfl) ?_
      refine s_pu (d := some 99) (v := (.int .i64 ((l1.len : Int)))) rfl rfl rfl (r_len Try.underlying22 rfl) ?_
      refine s_pu (d := some 100) (v := (.bool (decide (n10 = ((l1.len : Int)))))) rfl rfl rfl (r_eql rfl rfl) ?_
      refine s_pu (d := some 101) (v := (.bool (decide (n10 = ((l1.len : Int)))))) rfl rfl rfl (r_move rfl) ?_
      rcases Bool.eq_false_or_eq_true (decide (n10 = ((l1.len : Int)))) with g129 | g129
      · have H := H.1 g129
        refine s_pu (d := some 102) (v := (Sl.v y3)) rfl rfl (wants_yes rfl rfl rfl rfl g129) (r_move rfl) ?_
        refine s_pu (d := some 103) (v := (.int .i64 ((y3.len : Int)))) rfl rfl (wants_yes rfl rfl rfl rfl g129) (r_len Try.underlying24 rfl) ?_
        refine s_pu (d := some 104) (v := (Sl.v l1)) rfl rfl (wants_yes rfl rfl rfl rfl g129) (r_move rfl) ?_
        refine s_ef (d := some 105) rfl rfl (wants_yes rfl rfl rfl rfl g129) (fun dr => r_call Try.call13 rfl rfl H) ?_ trivial
        rintro _ h8 ⟨y130, rfl, H⟩
        refine ⟨trivial, ?_⟩
        refine s_pu (d := some 106) (v := (.int .i64 ((y130.len : Int)))) rfl rfl (wants_yes rfl rfl rfl rfl g129) (r_len Try.underlying22 rfl) ?_
        refine s_pu (d := some 107) (v := (.bool (decide (((y3.len : Int)) = ((y130.len : Int)))))) rfl rfl (wants_yes rfl rfl rfl rfl g129) (r_eql rfl rfl) ?_
        refine s_pu (d := some 108) (v := (.bool (decide (((y3.len : Int)) = ((y130.len : Int)))))) rfl rfl rfl (r_pick1 rfl g129 rfl) ?_
        refine s_pu (d := some 2) (v := (.bool (decide (((y3.len : Int)) = ((y130.len : Int)))))) rfl rfl rfl (r_assign rfl) ?_
        refine s_fin ?_
        exact N_mk (l := [(2, (.bool (decide (((y3.len : Int)) = ((y130.len : Int))))))]) H ⟨rfl, trivial⟩
      · have H := H.2 g129
        refine s_sk (d := some 102) rfl rfl (wants_no rfl rfl rfl rfl g129) ?_
        refine s_sk (d := some 103) rfl rfl (wants_no rfl rfl rfl rfl g129) ?_
        refine s_sk (d := some 104) rfl rfl (wants_no rfl rfl rfl rfl g129) ?_
        refine s_skf (d := some 105) rfl rfl (wants_no rfl rfl rfl rfl g129) trivial ?_ trivial
        refine s_sk (d := some 106) rfl rfl (wants_no rfl rfl rfl rfl g129) ?_
        refine s_sk (d := some 107) rfl rfl (wants_no rfl rfl rfl rfl g129) ?_
        refine s_pu (d := some 108) (v := (.bool false)) rfl rfl rfl (r_pick0 rfl g129 rfl) ?_
        refine s_pu (d := some 2) (v := (.bool false)) rfl rfl rfl (r_assign rfl) ?_
        refine s_fin ?_
        exact N_mk (l := [(2, (.bool false))]) H ⟨rfl, trivial⟩

/-! ### law5_LisMany -/

def law5_LisMany_F (r : World) (l1 : Sl) (vr2 : Int) (h : Heap) (R : Bool → Heap → Prop) : Prop :=
  law5_risen r h fun y3 h1 =>
  Br (!y3) (
    R false h1) (
    Br ((decide (vr2 < 1)) || (decide (((l1.len : Int)) = 0))) (
      R true h1) (
      lis_Longest r l1 h1 fun y7 h2 =>
      Br (decide (vr2 < ((y7.len : Int)))) (
        R true h2) (
        (vr2 ≠ 0) ∧
        lis_Falls r l1 h2 fun y9 h3 =>
        ∀ X12 : Int → Int → Prop, (∀ (most10 : Int) (i11 : Int),
          (Br (decide (i11 < ((y9.len : Int)))) (
            Ix y9 i11 1 fun q17 =>
            LdS h3 q17 fun x19 =>
            X12 (max most10 ((x19.len : Int))) (w64 (i11 + 1))) (
            ∀ x21 : Bool, x21 = (decide ((w64 (Int.tdiv (w64 (((l1.len : Int)) - 1)) vr2)) < most10)) →
            R x21 h3)) →
          X12 most10 i11) →
        X12 0 0)))

set_option maxRecDepth 100000 in
theorem law5_LisMany_of {r : World} {l1 : Sl} {vr2 : Int} {h : Heap} {R : Bool → Heap → Prop} (H : law5_LisMany_F r l1 vr2 h R) : law5_LisMany r l1 vr2 h R := by
  unfold law5_LisMany_F at H
  refine calls_of 48 [.tmp 4] Try.func4 rfl rfl rfl rfl rfl ?_
  refine W_seq ?_
  refine W_region (.pu 0 .fin) rfl rfl ?_
  refine s_pu (d := some 4) (v := (.bool false)) rfl rfl rfl (r_assign rfl) ?_
  refine s_fin ?_
  show W _ _ _ _ _ _ _
  refine W_seq ?_
  refine W_region (.ef 0 [] (.pu 1 .fin) .no) rfl rfl ?_
  refine s_ef (d := some 10) rfl rfl rfl (fun dr => r_call Try.call11 rfl rfl H) ?_ trivial
  rintro _ h1 ⟨y3, rfl, H⟩
  refine ⟨trivial, ?_⟩
  refine s_pu (d := some 5) (v := (.bool y3)) rfl rfl rfl (r_assign rfl) ?_
  refine s_fin ?_
  show W _ _ _ _ _ _ _
  refine W_seq ?_
  refine W_seq ?_
  refine W_region (.pu 0 (.pu 1 .fin)) rfl rfl ?_
  refine s_pu (d := some 11) (v := (.bool y3)) rfl rfl rfl (r_move rfl) ?_
  refine s_pu (d := some 12) (v := (.bool (!y3))) rfl rfl rfl (r_not rfl) ?_
  refine s_fin ?_
  show W _ _ _ _ _ _ _
  refine W_if (!y3) rfl (fun g27 => ?_) (fun g27 => ?_)
  · have H := H.1 g27
    refine W_seq ?_
    refine W_region (.pu 0 .fin) rfl rfl ?_
    refine s_pu (d := some 4) (v := (.bool false)) rfl rfl rfl (r_assign rfl) ?_
    refine s_fin ?_
    show W _ _ _ _ _ _ _
    refine W_ret ?_
    exact ⟨[(.bool false)], ⟨_, _, rfl, rfl, rfl⟩, false, rfl, H⟩
  · have H := H.2 g27
    refine W_skip ?_
    show W _ _ _ _ _ _ _
    refine W_seq ?_
    refine W_seq ?_
    refine W_region (.pu 0 (.pu 1 (.pu 2 (.pu 3 (.pu 4 (.pu 5 (.pu 6 .fin))))))) rfl rfl ?_
    refine s_pu (d := some 13) (v := (.int .i64 vr2)) rfl rfl rfl (r_move rfl) ?_
    refine s_pu (d := some 14) (v := (.bool (decide (vr2 < 1)))) rfl rfl rfl (r_lss rfl rfl) ?_
    refine s_pu (d := some 15) (v := (.bool (decide (vr2 < 1)))) rfl rfl rfl (r_move rfl) ?_
    refine S_meet (l := [(0, (Sl.v l1)), (1, (.int .i64 vr2)), (19, (.bool ((decide (vr2 < 1)) || (decide (((l1.len : Int)) = 0)))))]) (i := 4) ?_ (fun HJ => ?_)
    · intro b
      show S _ _ _ _ _ _
      refine s_fin ?_
      show W _ _ _ _ _ _ _
      refine W_if ((decide (vr2 < 1)) || (decide (((l1.len : Int)) = 0))) rfl (fun g25 => ?_) (fun g25 => ?_)
      · have H := H.1 g25
        refine W_seq ?_
        refine W_region (.pu 0 .fin) rfl rfl ?_
        refine s_pu (d := some 4) (v := (.bool true)) rfl rfl rfl (r_assign rfl) ?_
        refine s_fin ?_
        show W _ _ _ _ _ _ _
        refine W_ret ?_
        exact ⟨[(.bool true)], ⟨_, _, rfl, rfl, rfl⟩, true, rfl, H⟩
      · have H := H.2 g25
        refine W_skip ?_
        show W _ _ _ _ _ _ _
        refine W_seq ?_
        refine W_seq ?_
        refine W_region (.pu 0 (.ef 1 [] (.pu 2 (.pu 3 (.pu 4 .fin))) .no)) rfl rfl ?_
        refine s_pu (d := some 20) (v := (Sl.v l1)) rfl rfl rfl (r_move rfl) ?_
        refine s_ef (d := some 21) rfl rfl rfl (fun dr => r_call Try.call13 rfl rfl H) ?_ trivial
        rintro _ h2 ⟨y7, rfl, H⟩
        refine ⟨trivial, ?_⟩
        refine s_pu (d := some 22) (v := (.int .i64 ((y7.len : Int)))) rfl rfl rfl (r_len Try.underlying22 rfl) ?_
        refine s_pu (d := some 23) (v := (.int .i64 vr2)) rfl rfl rfl (r_move rfl) ?_
        refine s_pu (d := some 24) (v := (.bool (decide (vr2 < ((y7.len : Int)))))) rfl rfl rfl (r_gtr rfl rfl) ?_
        refine s_fin ?_
        show W _ _ _ _ _ _ _
        refine W_if (decide (vr2 < ((y7.len : Int)))) rfl (fun g24 => ?_) (fun g24 => ?_)
        · have H := H.1 g24
          refine W_seq ?_
          refine W_region (.pu 0 .fin) rfl rfl ?_
          refine s_pu (d := some 4) (v := (.bool true)) rfl rfl rfl (r_assign rfl) ?_
          refine s_fin ?_
          show W _ _ _ _ _ _ _
          refine W_ret ?_
          exact ⟨[(.bool true)], ⟨_, _, rfl, rfl, rfl⟩, true, rfl, H⟩
        · have H := H.2 g24
          refine W_skip ?_
          show W _ _ _ _ _ _ _
          refine W_seq ?_
          refine W_region (.pu 0 (.pu 1 (.pu 2 (.pu 3 (.pu 4 (.pu 5 .fin)))))) rfl rfl ?_
          refine s_pu (d := some 25) (v := (Sl.v l1)) rfl rfl rfl (r_move rfl) ?_
          refine s_pu (d := some 26) (v := (.int .i64 ((l1.len : Int)))) rfl rfl rfl (r_len Try.underlying22 rfl) ?_
          refine s_pu (d := some 27) (v := (.int .i64 (w64 (((l1.len : Int)) - 1)))) rfl rfl rfl (r_sub rfl rfl) ?_
          refine s_pu (d := some 28) (v := (.int .i64 vr2)) rfl rfl rfl (r_move rfl) ?_
          obtain ⟨e8, H⟩ := H
          refine s_pu (d := some 29) (v := (.int .i64 (w64 (Int.tdiv (w64 (((l1.len : Int)) - 1)) vr2)))) rfl rfl rfl (r_quo rfl rfl e8) ?_
          refine s_pu (d := some 6) (v := (.int .i64 (w64 (Int.tdiv (w64 (((l1.len : Int)) - 1)) vr2)))) rfl rfl rfl (r_assign rfl) ?_
          refine s_fin ?_
          show W _ _ _ _ _ _ _
          refine W_seq ?_
          refine W_region (.pu 0 (.ef 1 [] (.pu 2 .fin) .no)) rfl rfl ?_
          refine s_pu (d := some 30) (v := (Sl.v l1)) rfl rfl rfl (r_move rfl) ?_
          refine s_ef (d := some 31) rfl rfl rfl (fun dr => r_call Try.call12 rfl rfl H) ?_ trivial
          rintro _ h3 ⟨y9, rfl, H⟩
          refine ⟨trivial, ?_⟩
          refine s_pu (d := some 7) (v := (Sl.v y9)) rfl rfl rfl (r_assign rfl) ?_
          refine s_fin ?_
          show W _ _ _ _ _ _ _
          refine W_seq ?_
          refine W_region (.pu 0 .fin) rfl rfl ?_
          refine s_pu (d := some 8) (v := (.int .i64 0)) rfl rfl rfl (r_assign rfl) ?_
          refine s_fin ?_
          show W _ _ _ _ _ _ _
          refine W_seq ?_
          refine W_seq ?_
          refine W_region (.pu 0 .fin) rfl rfl ?_
          refine s_pu (d := some 9) (v := (.int .i64 0)) rfl rfl rfl (r_assign rfl) ?_
          refine s_fin ?_
          show W _ _ _ _ _ _ _
          refine W_block ?_
          refine W_loop (WL_mk (l := [(6, (.int .i64 (w64 (Int.tdiv (w64 (((l1.len : Int)) - 1)) vr2)))), (7, (Sl.v y9)), (8, (.int .i64 0)), (9, (.int .i64 0))]) ?_ ⟨rfl, rfl, rfl, rfl, trivial⟩)
          refine H (fun (most10 : Int) (i11 : Int) => ∀ b, WL _ _ _ _ _ (mkE [(6, (.int .i64 (w64 (Int.tdiv (w64 (((l1.len : Int)) - 1)) vr2)))), (7, (Sl.v y9)), (8, (.int .i64 most10)), (9, (.int .i64 i11))] b) h3) ?_
          intro most10 i11 H b
          refine WL_round ?_
          refine W_seq ?_
          refine W_seq ?_
          refine W_region (.pu 0 (.pu 1 (.pu 2 (.pu 3 .fin)))) rfl rfl ?_
          refine s_pu (d := some 32) (v := (.int .i64 i11)) rfl rfl rfl (r_move rfl) ?_
          refine s_pu (d := some 33) (v := (Sl.v y9)) rfl rfl rfl (r_move rfl) ?_
          refine s_pu (d := some 34) (v := (.int .i64 ((y9.len : Int)))) rfl rfl rfl (r_len Try.underlying24 rfl) ?_
          refine s_pu (d := some 35) (v := (.bool (decide (i11 < ((y9.len : Int)))))) rfl rfl rfl (r_lss rfl rfl) ?_
          refine s_fin ?_
          show W _ _ _ _ _ _ _
          refine W_if (decide (i11 < ((y9.len : Int)))) rfl (fun g23 => ?_) (fun g23 => ?_)
          · have H := H.1 g23
            refine W_skip ?_
            show W _ _ _ _ _ _ _
            refine W_seq ?_
            refine W_block ?_
            refine W_region (.pu 0 (.pu 1 (.pu 2 (.pu 3 (.rl 4 (.pu 5 (.pu 6 (.pu 7 .fin)))))))) rfl rfl ?_
            refine s_pu (d := some 38) (v := (.int .i64 most10)) rfl rfl rfl (r_move rfl) ?_
            refine s_pu (d := some 39) (v := (Sl.v y9)) rfl rfl rfl (r_move rfl) ?_
            refine s_pu (d := some 40) (v := (.int .i64 i11)) rfl rfl rfl (r_move rfl) ?_
            obtain ⟨p13, e14, e15, e16, H⟩ := H
            obtain ⟨q17, e18⟩ : ∃ q : Addr, q = Addr.add p13 (Int.toNat i11 * 1) := ⟨_, rfl⟩
            rw [← e18] at H
            refine s_pu (d := some 41) (v := (.pointer (some q17))) rfl rfl rfl (fun w => (r_indexAddr Try.underlying24 Try.sizeOf22 rfl rfl e14 e15 e16 w).trans (by rw [e18])) ?_
            obtain ⟨x19, e20, H⟩ := H
            refine s_rl (d := some 42) (v := (Sl.v x19)) rfl rfl rfl (fun dr => r_load1 Try.isAgg22 rfl e20) ?_
            refine s_pu (d := some 43) (v := (.int .i64 ((x19.len : Int)))) rfl rfl rfl (r_len Try.underlying22 rfl) ?_
            refine s_pu (d := some 44) (v := (.int .i64 (max most10 ((x19.len : Int))))) rfl rfl rfl (r_max rfl rfl) ?_
            refine s_pu (d := some 8) (v := (.int .i64 (max most10 ((x19.len : Int))))) rfl rfl rfl (r_assign rfl) ?_
            refine s_fin ?_
            show W _ _ _ _ _ _ _
            refine W_region (.pu 0 (.pu 1 (.pu 2 .fin))) rfl rfl ?_
            refine s_pu (d := some 36) (v := (.int .i64 i11)) rfl rfl rfl (r_move rfl) ?_
            refine s_pu (d := some 37) (v := (.int .i64 (w64 (i11 + 1)))) rfl rfl rfl (r_add rfl rfl) ?_
            refine s_pu (d := some 9) (v := (.int .i64 (w64 (i11 + 1)))) rfl rfl rfl (r_assign rfl) ?_
            refine s_fin ?_
            exact WL_mk (l := [(6, (.int .i64 (w64 (Int.tdiv (w64 (((l1.len : Int)) - 1)) vr2)))), (7, (Sl.v y9)), (8, (.int .i64 (max most10 ((x19.len : Int))))), (9, (.int .i64 (w64 (i11 + 1))))]) H ⟨rfl, rfl, rfl, rfl, trivial⟩
          · have H := H.2 g23
            refine W_exit (inX_here ?_)
            show W _ _ _ _ _ _ _
            refine W_seq ?_
            refine W_region (.pu 0 (.pu 1 (.pu 2 (.pu 3 .fin)))) rfl rfl ?_
            refine s_pu (d := some 45) (v := (.int .i64 most10)) rfl rfl rfl (r_move rfl) ?_
            refine s_pu (d := some 46) (v := (.int .i64 (w64 (Int.tdiv (w64 (((l1.len : Int)) - 1)) vr2)))) rfl rfl rfl (r_move rfl) ?_
            refine s_pu (d := some 47) (v := (.bool (decide ((w64 (Int.tdiv (w64 (((l1.len : Int)) - 1)) vr2)) < most10)))) rfl rfl rfl (r_gtr rfl rfl) ?_
            obtain ⟨x21, e22⟩ : ∃ x : Bool, x = (decide ((w64 (Int.tdiv (w64 (((l1.len : Int)) - 1)) vr2)) < most10)) := ⟨_, rfl⟩
            have H := H x21 e22
            refine s_pu (d := some 4) (v := (.bool x21)) rfl rfl rfl (r_assign (congrArg Value.bool e22.symm)) ?_
            refine s_fin ?_
            show W _ _ _ _ _ _ _
            refine W_ret ?_
            exact ⟨[(.bool x21)], ⟨_, _, rfl, rfl, rfl⟩, x21, rfl, H⟩
    · rcases Bool.eq_false_or_eq_true (decide (vr2 < 1)) with g4 | g4
      · refine s_sk (d := some 16) rfl rfl (wants_no rfl rfl rfl rfl g4) ?_
        refine s_sk (d := some 17) rfl rfl (wants_no rfl rfl rfl rfl g4) ?_
        refine s_sk (d := some 18) rfl rfl (wants_no rfl rfl rfl rfl g4) ?_
        refine s_pu (d := some 19) (v := (.bool true)) rfl rfl rfl (r_pick1 rfl g4 rfl) ?_
        exact S_mk (l := [(0, (Sl.v l1)), (1, (.int .i64 vr2)), (19, (.bool ((decide (vr2 < 1)) || (decide (((l1.len : Int)) = 0)))))]) HJ ⟨rfl, rfl, (by rw [g4]; rfl), trivial⟩
      · refine s_pu (d := some 16) (v := (Sl.v l1)) rfl rfl (wants_yes rfl rfl rfl rfl g4) (r_move rfl) ?_
        refine s_pu (d := some 17) (v := (.int .i64 ((l1.len : Int)))) rfl rfl (wants_yes rfl rfl rfl rfl g4) (r_len Try.underlying22 rfl) ?_
        refine s_pu (d := some 18) (v := (.bool (decide (((l1.len : Int)) = 0)))) rfl rfl (wants_yes rfl rfl rfl rfl g4) (r_eql rfl rfl) ?_
        refine s_pu (d := some 19) (v := (.bool (decide (((l1.len : Int)) = 0)))) rfl rfl rfl (r_pick0 rfl g4 rfl) ?_
        exact S_mk (l := [(0, (Sl.v l1)), (1, (.int .i64 vr2)), (19, (.bool ((decide (vr2 < 1)) || (decide (((l1.len : Int)) = 0)))))]) HJ ⟨rfl, rfl, (by rw [g4]; rfl), trivial⟩

/-! ### law5_LisPiles -/

def law5_LisPiles_F (r : World) (l1 : Sl) (h : Heap) (R : Bool → Heap → Prop) : Prop :=
  law5_risen r h fun y2 h1 =>
  lis_Piles r l1 h1 fun y3 h2 =>
  ref1_Piled r l1 h2 fun y4 h3 =>
  same_Rows r y3 y4 h3 fun y5 h4 =>
  R (y2 && y5) h4

set_option maxRecDepth 100000 in
theorem law5_LisPiles_of {r : World} {l1 : Sl} {h : Heap} {R : Bool → Heap → Prop} (H : law5_LisPiles_F r l1 h R) : law5_LisPiles r l1 h R := by
  unfold law5_LisPiles_F at H
  refine calls_of 15 [.tmp 2] Try.func5 rfl rfl rfl rfl rfl ?_
  refine W_seq ?_
  refine W_region (.pu 0 .fin) rfl rfl ?_
  refine s_pu (d := some 2) (v := (.bool false)) rfl rfl rfl (r_assign rfl) ?_
  refine s_fin ?_
  show W _ _ _ _ _ _ _
  refine W_seq ?_
  refine W_region (.ef 0 [] (.pu 1 .fin) .no) rfl rfl ?_
  refine s_ef (d := some 5) rfl rfl rfl (fun dr => r_call Try.call11 rfl rfl H) ?_ trivial
  rintro _ h1 ⟨y2, rfl, H⟩
  refine ⟨trivial, ?_⟩
  refine s_pu (d := some 3) (v := (.bool y2)) rfl rfl rfl (r_assign rfl) ?_
  refine s_fin ?_
  show W _ _ _ _ _ _ _
  refine W_seq ?_
  refine W_region (.pu 0 (.ef 1 [] (.pu 2 (.ef 3 [] (.ef 4 [] (.pu 5 .fin) .no) .no)) .no)) rfl rfl ?_
  refine s_pu (d := some 6) (v := (Sl.v l1)) rfl rfl rfl (r_move rfl) ?_
  refine s_ef (d := some 7) rfl rfl rfl (fun dr => r_call Try.call15 rfl rfl H) ?_ trivial
  rintro _ h2 ⟨y3, rfl, H⟩
  refine ⟨trivial, ?_⟩
  refine s_pu (d := some 8) (v := (Sl.v l1)) rfl rfl rfl (r_move rfl) ?_
  refine s_ef (d := some 9) rfl rfl rfl (fun dr => r_call Try.call16 rfl rfl H) ?_ trivial
  rintro _ h3 ⟨y4, rfl, H⟩
  refine ⟨trivial, ?_⟩
  refine s_ef (d := some 10) rfl rfl rfl (fun dr => r_call Try.call14 rfl rfl H) ?_ trivial
  rintro _ h4 ⟨y5, rfl, H⟩
  refine ⟨trivial, ?_⟩
  refine s_pu (d := some 4) (v := (.bool y5)) rfl rfl rfl (r_assign rfl) ?_
  refine s_fin ?_
  show W _ _ _ _ _ _ _
  refine W_seq ?_
  refine W_region (.pu 0 (.pu 1 (.pu 2 (.pu 3 (.pu 4 .fin))))) rfl rfl ?_
  refine s_pu (d := some 11) (v := (.bool y2)) rfl rfl rfl (r_move rfl) ?_
  refine s_pu (d := some 12) (v := (.bool y2)) rfl rfl rfl (r_move rfl) ?_
  refine S_meet (l := [(14, (.bool (y2 && y5)))]) (i := 2) ?_ (fun HJ => ?_)
  · intro b
    show S _ _ _ _ _ _
    refine s_pu (d := some 2) (v := (.bool (y2 && y5))) rfl rfl rfl (r_assign rfl) ?_
    refine s_fin ?_
    show W _ _ _ _ _ _ _
    refine W_ret ?_
    exact ⟨[(.bool (y2 && y5))], ⟨_, _, rfl, rfl, rfl⟩, (y2 && y5), rfl, H⟩
  · rcases Bool.eq_false_or_eq_true y2 with g6 | g6
    · refine s_pu (d := some 13) (v := (.bool y5)) rfl rfl (wants_yes rfl rfl rfl rfl g6) (r_move rfl) ?_
      refine s_pu (d := some 14) (v := (.bool y5)) rfl rfl rfl (r_pick1 rfl g6 rfl) ?_
      exact S_mk (l := [(14, (.bool (y2 && y5)))]) HJ ⟨(by rw [g6]; rfl), trivial⟩
    · refine s_sk (d := some 13) rfl rfl (wants_no rfl rfl rfl rfl g6) ?_
      refine s_pu (d := some 14) (v := (.bool false)) rfl rfl rfl (r_pick0 rfl g6 rfl) ?_
      exact S_mk (l := [(14, (.bool (y2 && y5)))]) HJ ⟨(by rw [g6]; rfl), trivial⟩

/-! ### law5_LisLongest -/

def law5_LisLongest_F (r : World) (l1 : Sl) (vi2 : Sl) (h : Heap) (R : Bool → Heap → Prop) : Prop :=
  law5_risen r h fun y3 h1 =>
  Br (!y3) (
    R false h1) (
    lis_Longest r l1 h1 fun y4 h2 =>
    ∀ X6 : Int → Prop, (∀ (i5 : Int),
      (Br (decide (i5 < ((y4.len : Int)))) (
        ∀ J8 : Bool → Prop, (∀ (x7 : Bool),
          (Br x7 (
            R false h2) (
            X6 (w64 (i5 + 1)))) →
          J8 x7) →
        Ix y4 i5 1 fun q15 =>
        LdI h2 q15 fun x17 =>
        Br (decide (x17 < 0)) (
          J8 true) (
          Ix y4 i5 1 fun q24 =>
          LdI h2 q24 fun x26 =>
          Br (decide (((l1.len : Int)) ≤ x26)) (
            J8 true) (
            Br (decide (0 < i5)) (
              Ix y4 i5 1 fun q34 =>
              LdI h2 q34 fun x36 =>
              Ix y4 (w64 (i5 - 1)) 1 fun q42 =>
              LdI h2 q42 fun x44 =>
              Br (decide (x36 ≤ x44)) (
                J8 true) (
                Ix y4 i5 1 fun q51 =>
                LdI h2 q51 fun x53 =>
                Ix l1 x53 1 fun q59 =>
                LdI h2 q59 fun x61 =>
                Ix y4 (w64 (i5 - 1)) 1 fun q67 =>
                LdI h2 q67 fun x69 =>
                Ix l1 x69 1 fun q75 =>
                LdI h2 q75 fun x77 =>
                J8 (decide (x61 ≤ x77)))) (
              J8 false)))) (
        ∀ X82 : Int → Int → Int → Prop, (∀ (n79 : Int) (last80 : Int) (i81 : Int),
          (Br (decide (i81 < ((l1.len : Int)))) (
            ∀ J85 : Int → Int → Prop, (∀ (n83 : Int) (last84 : Int),
              (X82 n83 last84 (w64 (i81 + 1))) →
              J85 n83 last84) →
            ∀ J88 : Bool → Prop, (∀ (x87 : Bool),
              (Br x87 (
                Ix l1 i81 1 fun q94 =>
                LdI h2 q94 fun x96 =>
                J85 (w64 (n79 + 1)) x96) (
                J85 n79 last80)) →
              J88 x87) →
            Br (decide (i81 < ((vi2.len : Int)))) (
              Ix vi2 i81 1 fun q104 =>
              LdB h2 q104 fun x106 =>
              Br x106 (
                Br (decide (n79 = 0)) (
                  J88 true) (
                  Ix l1 i81 1 fun q114 =>
                  LdI h2 q114 fun x116 =>
                  J88 (decide (last80 < x116)))) (
                J88 false)) (
              J88 false)) (
            ∀ J119 : Bool → Heap → Prop, (∀ (x118 : Bool) (h3 : Heap),
              (R x118 h3) →
              J119 x118 h3) →
            Br (decide (n79 ≤ ((y4.len : Int)))) (
              lis_Piles r l1 h2 fun y122 h4 =>
              Br (decide (((y4.len : Int)) = ((y122.len : Int)))) (
                ∀ x124 : Bool, x124 = ((decide (0 < ((y4.len : Int)))) == (decide (0 < ((l1.len : Int))))) →
                J119 x124 h4) (
                J119 false h4)) (
              J119 false h2))) →
          X82 n79 last80 i81) →
        X82 0 0 0)) →
      X6 i5) →
    X6 0)

set_option maxRecDepth 100000 in
theorem law5_LisLongest_of {r : World} {l1 : Sl} {vi2 : Sl} {h : Heap} {R : Bool → Heap → Prop} (H : law5_LisLongest_F r l1 vi2 h R) : law5_LisLongest r l1 vi2 h R := by
  unfold law5_LisLongest_F at H
  refine calls_of 125 [.tmp 4] Try.func6 rfl rfl rfl rfl rfl ?_
  refine W_seq ?_
  refine W_region (.pu 0 .fin) rfl rfl ?_
  refine s_pu (d := some 4) (v := (.bool false)) rfl rfl rfl (r_assign rfl) ?_
  refine s_fin ?_
  show W _ _ _ _ _ _ _
  refine W_seq ?_
  refine W_region (.ef 0 [] (.pu 1 .fin) .no) rfl rfl ?_
  refine s_ef (d := some 11) rfl rfl rfl (fun dr => r_call Try.call11 rfl rfl H) ?_ trivial
  rintro _ h1 ⟨y3, rfl, H⟩
  refine ⟨trivial, ?_⟩
  refine s_pu (d := some 5) (v := (.bool y3)) rfl rfl rfl (r_assign rfl) ?_
  refine s_fin ?_
  show W _ _ _ _ _ _ _
  refine W_seq ?_
  refine W_seq ?_
  refine W_region (.pu 0 (.pu 1 .fin)) rfl rfl ?_
  refine s_pu (d := some 12) (v := (.bool y3)) rfl rfl rfl (r_move rfl) ?_
  refine s_pu (d := some 13) (v := (.bool (!y3))) rfl rfl rfl (r_not rfl) ?_
  refine s_fin ?_
  show W _ _ _ _ _ _ _
  refine W_if (!y3) rfl (fun g128 => ?_) (fun g128 => ?_)
  · have H := H.1 g128
    refine W_seq ?_
    refine W_region (.pu 0 .fin) rfl rfl ?_
    refine s_pu (d := some 4) (v := (.bool false)) rfl rfl rfl (r_assign rfl) ?_
    refine s_fin ?_
    show W _ _ _ _ _ _ _
    refine W_ret ?_
    exact ⟨[(.bool false)], ⟨_, _, rfl, rfl, rfl⟩, false, rfl, H⟩
  · have H := H.2 g128
    refine W_skip ?_
    show W _ _ _ _ _ _ _
    refine W_seq ?_
    refine W_region (.pu 0 (.ef 1 [] (.pu 2 .fin) .no)) rfl rfl ?_
    refine s_pu (d := some 14) (v := (Sl.v l1)) rfl rfl rfl (r_move rfl) ?_
    refine s_ef (d := some 15) rfl rfl rfl (fun dr => r_call Try.call13 rfl rfl H) ?_ trivial
    rintro _ h2 ⟨y4, rfl, H⟩
    refine ⟨trivial, ?_⟩
    refine s_pu (d := some 6) (v := (Sl.v y4)) rfl rfl rfl (r_assign rfl) ?_
    refine s_fin ?_
    show W _ _ _ _ _ _ _
    refine W_seq ?_
    refine W_seq ?_
    refine W_region (.pu 0 .fin) rfl rfl ?_
    refine s_pu (d := some 7) (v := (.int .i64 0)) rfl rfl rfl (r_assign rfl) ?_
    refine s_fin ?_
    show W _ _ _ _ _ _ _
    refine W_block ?_
    refine W_loop (WL_mk (l := [(0, (Sl.v l1)), (1, (Sl.v vi2)), (6, (Sl.v y4)), (7, (.int .i64 0))]) ?_ ⟨rfl, rfl, rfl, rfl, trivial⟩)
    refine H (fun (i5 : Int) => ∀ b, WL _ _ _ _ _ (mkE [(0, (Sl.v l1)), (1, (Sl.v vi2)), (6, (Sl.v y4)), (7, (.int .i64 i5))] b) h2) ?_
    intro i5 H b
    refine WL_round ?_
    refine W_seq ?_
    refine W_seq ?_
    refine W_region (.pu 0 (.pu 1 (.pu 2 (.pu 3 .fin)))) rfl rfl ?_
    refine s_pu (d := some 16) (v := (.int .i64 i5)) rfl rfl rfl (r_move rfl) ?_
    refine s_pu (d := some 17) (v := (Sl.v y4)) rfl rfl rfl (r_move rfl) ?_
    refine s_pu (d := some 18) (v := (.int .i64 ((y4.len : Int)))) rfl rfl rfl (r_len Try.underlying22 rfl) ?_
    refine s_pu (d := some 19) (v := (.bool (decide (i5 < ((y4.len : Int)))))) rfl rfl rfl (r_lss rfl rfl) ?_
    refine s_fin ?_
    show W _ _ _ _ _ _ _
    refine W_if (decide (i5 < ((y4.len : Int)))) rfl (fun g127 => ?_) (fun g127 => ?_)
    · have H := H.1 g127
      refine W_skip ?_
      show W _ _ _ _ _ _ _
      refine W_seq ?_
      refine W_block ?_
      refine W_seq ?_
      refine W_set ?_
      intro N9 eN9
      have H := H (fun (x7 : Bool) => ∀ b, N9 (mkE [(0, (Sl.v l1)), (1, (Sl.v vi2)), (6, (Sl.v y4)), (7, (.int .i64 i5)), (69, (.bool x7))] b) h2) (by
        intro x7 H b
        rw [eN9]
        show W _ _ _ _ _ _ _
        refine W_if x7 rfl (fun g10 => ?_) (fun g10 => ?_)
        · have H := H.1 g10
          refine W_seq ?_
          refine W_region (.pu 0 .fin) rfl rfl ?_
          refine s_pu (d := some 4) (v := (.bool false)) rfl rfl rfl (r_assign rfl) ?_
          refine s_fin ?_
          show W _ _ _ _ _ _ _
          refine W_ret ?_
          exact ⟨[(.bool false)], ⟨_, _, rfl, rfl, rfl⟩, false, rfl, H⟩
        · have H := H.2 g10
          refine W_skip ?_
          show W _ _ _ _ _ _ _
          refine W_region (.pu 0 (.pu 1 (.pu 2 .fin))) rfl rfl ?_
          refine s_pu (d := some 20) (v := (.int .i64 i5)) rfl rfl rfl (r_move rfl) ?_
          refine s_pu (d := some 21) (v := (.int .i64 (w64 (i5 + 1)))) rfl rfl rfl (r_add rfl rfl) ?_
          refine s_pu (d := some 7) (v := (.int .i64 (w64 (i5 + 1)))) rfl rfl rfl (r_assign rfl) ?_
          refine s_fin ?_
          exact WL_mk (l := [(0, (Sl.v l1)), (1, (Sl.v vi2)), (6, (Sl.v y4)), (7, (.int .i64 (w64 (i5 + 1))))]) H ⟨rfl, rfl, rfl, rfl, trivial⟩)
      clear eN9
      refine W_draw [0, 0, 3, 7, 15, 31, 63, 63, 255, 511, 63, 1087, 4095, 8191, 16383, 32767, 65535, 131071, 262143, 262143, 1048575, 2097151, 262143, 262143, 8650751, 29622271, 63176703, 134217727, 268435455, 536870911, 536870911, 536870911, 3758096383, 8053063679, 17179869183, 34359738367, 536870911, 536870911, 536870911, 275414777855, 962609545215, 2062121172991, 4329863905279, 8727910416383, 17592186044415, 35184372088831, 70368744177663, 140737488355327] (.pu 0 (.pu 1 (.pu 2 (.rd 3 (.pu 4 (.pu 5 (.pu 6 (.pu 7 (.pu 8 (.rd 9 (.pu 10 (.pu 11 (.pu 12 (.pu 13 (.pu 14 (.pu 15 (.pu 16 (.pu 17 (.pu 18 (.pu 19 (.pu 20 (.rd 21 (.pu 22 (.pu 23 (.pu 24 (.pu 25 (.rd 26 (.pu 27 (.pu 28 (.pu 29 (.pu 30 (.pu 31 (.pu 32 (.rd 33 (.pu 34 (.rd 35 (.pu 36 (.pu 37 (.pu 38 (.pu 39 (.pu 40 (.rd 41 (.pu 42 (.rd 43 (.pu 44 (.pu 45 (.pu 46 (.pu 47 .fin)))))))))))))))))))))))))))))))))))))))))))))))) (by kernel_rfl) (by kernel_rfl) ?_
      refine s_pu (d := some 22) (v := (Sl.v y4)) rfl rfl rfl (r_move rfl) ?_
      refine s_pu (d := some 23) (v := (.int .i64 i5)) rfl rfl rfl (r_move rfl) ?_
      obtain ⟨p11, e12, e13, e14, H⟩ := H
      obtain ⟨q15, e16⟩ : ∃ q : Addr, q = Addr.add p11 (Int.toNat i5 * 1) := ⟨_, rfl⟩
      rw [← e16] at H
      refine s_pu (d := some 24) (v := (.pointer (some q15))) rfl rfl rfl (fun w => (r_indexAddr Try.underlying22 Try.sizeOf3 rfl rfl e12 e13 e14 w).trans (by rw [e16])) ?_
      obtain ⟨x17, e18, H⟩ := H
      refine s_rd (d := some 25) (v := (.int .i64 x17)) rfl rfl rfl (fun dr => r_load1 Try.isAgg3 rfl e18) ?_
      refine s_pu (d := some 26) (v := (.bool (decide (x17 < 0)))) rfl rfl rfl (r_lss rfl rfl) ?_
      refine s_pu (d := some 27) (v := (.bool (decide (x17 < 0)))) rfl rfl rfl (r_move rfl) ?_
      rcases Bool.eq_false_or_eq_true (decide (x17 < 0)) with g19 | g19
      · have H := H.1 g19
        refine s_sk (d := some 28) rfl rfl (wants_no rfl rfl rfl rfl g19) ?_
        refine s_sk (d := some 29) rfl rfl (wants_no rfl rfl rfl rfl g19) ?_
        refine s_sk (d := some 30) rfl rfl (wants_no rfl rfl rfl rfl g19) ?_
        refine s_skd (d := some 31) rfl rfl (wants_no rfl rfl rfl rfl g19) ?_
        refine s_sk (d := some 32) rfl rfl (wants_no rfl rfl rfl rfl g19) ?_
        refine s_sk (d := some 33) rfl rfl (wants_no rfl rfl rfl rfl g19) ?_
        refine s_sk (d := some 34) rfl rfl (wants_no rfl rfl rfl rfl g19) ?_
        refine s_pu (d := some 35) (v := (.bool true)) rfl rfl rfl (r_pick1 rfl g19 rfl) ?_
        refine s_pu (d := some 36) (v := (.bool true)) rfl rfl rfl (r_move rfl) ?_
        refine s_sk (d := some 37) rfl rfl (wants_no rfl rfl rfl rfl rfl) ?_
        refine s_sk (d := some 38) rfl rfl (wants_no rfl rfl rfl rfl rfl) ?_
        refine s_sk (d := some 39) rfl rfl (wants_no rfl rfl rfl rfl rfl) ?_
        refine s_sk (d := some 40) rfl rfl (wants_un rfl rfl rfl) ?_
        refine s_sk (d := some 41) rfl rfl (wants_un rfl rfl rfl) ?_
        refine s_sk (d := some 42) rfl rfl (wants_un rfl rfl rfl) ?_
        refine s_skd (d := some 43) rfl rfl (wants_un rfl rfl rfl) ?_
        refine s_sk (d := some 44) rfl rfl (wants_un rfl rfl rfl) ?_
        refine s_sk (d := some 45) rfl rfl (wants_un rfl rfl rfl) ?_
        refine s_sk (d := some 46) rfl rfl (wants_un rfl rfl rfl) ?_
        refine s_sk (d := some 47) rfl rfl (wants_un rfl rfl rfl) ?_
        refine s_skd (d := some 48) rfl rfl (wants_un rfl rfl rfl) ?_
        refine s_sk (d := some 49) rfl rfl (wants_un rfl rfl rfl) ?_
        refine s_sk (d := some 50) rfl rfl (wants_un rfl rfl rfl) ?_
        refine s_sk (d := some 51) rfl rfl (wants_un rfl rfl rfl) ?_
        refine s_sk (d := some 52) rfl rfl (wants_un rfl rfl rfl) ?_
        refine s_sk (d := some 53) rfl rfl (wants_un rfl rfl rfl) ?_
        refine s_sk (d := some 54) rfl rfl (wants_un rfl rfl rfl) ?_
        refine s_skd (d := some 55) rfl rfl (wants_un rfl rfl rfl) ?_
        refine s_sk (d := some 56) rfl rfl (wants_un rfl rfl rfl) ?_
        refine s_skd (d := some 57) rfl rfl (wants_un rfl rfl rfl) ?_
        refine s_sk (d := some 58) rfl rfl (wants_un rfl rfl rfl) ?_
        refine s_sk (d := some 59) rfl rfl (wants_un rfl rfl rfl) ?_
        refine s_sk (d := some 60) rfl rfl (wants_un rfl rfl rfl) ?_
        refine s_sk (d := some 61) rfl rfl (wants_un rfl rfl rfl) ?_
        refine s_sk (d := some 62) rfl rfl (wants_un rfl rfl rfl) ?_
        refine s_skd (d := some 63) rfl rfl (wants_un rfl rfl rfl) ?_
        refine s_sk (d := some 64) rfl rfl (wants_un rfl rfl rfl) ?_
        refine s_skd (d := some 65) rfl rfl (wants_un rfl rfl rfl) ?_
        refine s_sk (d := some 66) rfl rfl (wants_un rfl rfl rfl) ?_
        refine s_sk (d := some 67) rfl rfl (wants_un rfl rfl rfl) ?_
        refine s_sk (d := some 68) rfl rfl (wants_no rfl rfl rfl rfl rfl) ?_
        refine s_pu (d := some 69) (v := (.bool true)) rfl rfl rfl (r_pick1 rfl rfl rfl) ?_
        refine s_fin ?_
        exact N_mk (l := [(0, (Sl.v l1)), (1, (Sl.v vi2)), (6, (Sl.v y4)), (7, (.int .i64 i5)), (69, (.bool true))]) H ⟨rfl, rfl, rfl, rfl, rfl, trivial⟩
      · have H := H.2 g19
        refine s_pu (d := some 28) (v := (Sl.v y4)) rfl rfl (wants_yes rfl rfl rfl rfl g19) (r_move rfl) ?_
        refine s_pu (d := some 29) (v := (.int .i64 i5)) rfl rfl (wants_yes rfl rfl rfl rfl g19) (r_move rfl) ?_
        obtain ⟨p20, e21, e22, e23, H⟩ := H
        obtain ⟨q24, e25⟩ : ∃ q : Addr, q = Addr.add p20 (Int.toNat i5 * 1) := ⟨_, rfl⟩
        rw [← e25] at H
        refine s_pu (d := some 30) (v := (.pointer (some q24))) rfl rfl (wants_yes rfl rfl rfl rfl g19) (fun w => (r_indexAddr Try.underlying22 Try.sizeOf3 rfl rfl e21 e22 e23 w).trans (by rw [e25])) ?_
        obtain ⟨x26, e27, H⟩ := H
        refine s_rd (d := some 31) (v := (.int .i64 x26)) rfl rfl (wants_yes rfl rfl rfl rfl g19) (fun dr => r_load1 Try.isAgg3 rfl e27) ?_
        refine s_pu (d := some 32) (v := (Sl.v l1)) rfl rfl (wants_yes rfl rfl rfl rfl g19) (r_move rfl) ?_
        refine s_pu (d := some 33) (v := (.int .i64 ((l1.len : Int)))) rfl rfl (wants_yes rfl rfl rfl rfl g19) (r_len Try.underlying22 rfl) ?_
        refine s_pu (d := some 34) (v := (.bool (decide (((l1.len : Int)) ≤ x26)))) rfl rfl (wants_yes rfl rfl rfl rfl g19) (r_geq rfl rfl) ?_
        refine s_pu (d := some 35) (v := (.bool (decide (((l1.len : Int)) ≤ x26)))) rfl rfl rfl (r_pick0 rfl g19 rfl) ?_
        refine s_pu (d := some 36) (v := (.bool (decide (((l1.len : Int)) ≤ x26)))) rfl rfl rfl (r_move rfl) ?_
        rcases Bool.eq_false_or_eq_true (decide (((l1.len : Int)) ≤ x26)) with g28 | g28
        · have H := H.1 g28
          refine s_sk (d := some 37) rfl rfl (wants_no rfl rfl rfl rfl g28) ?_
          refine s_sk (d := some 38) rfl rfl (wants_no rfl rfl rfl rfl g28) ?_
          refine s_sk (d := some 39) rfl rfl (wants_no rfl rfl rfl rfl g28) ?_
          refine s_sk (d := some 40) rfl rfl (wants_un rfl rfl rfl) ?_
          refine s_sk (d := some 41) rfl rfl (wants_un rfl rfl rfl) ?_
          refine s_sk (d := some 42) rfl rfl (wants_un rfl rfl rfl) ?_
          refine s_skd (d := some 43) rfl rfl (wants_un rfl rfl rfl) ?_
          refine s_sk (d := some 44) rfl rfl (wants_un rfl rfl rfl) ?_
          refine s_sk (d := some 45) rfl rfl (wants_un rfl rfl rfl) ?_
          refine s_sk (d := some 46) rfl rfl (wants_un rfl rfl rfl) ?_
          refine s_sk (d := some 47) rfl rfl (wants_un rfl rfl rfl) ?_
          refine s_skd (d := some 48) rfl rfl (wants_un rfl rfl rfl) ?_
          refine s_sk (d := some 49) rfl rfl (wants_un rfl rfl rfl) ?_
          refine s_sk (d := some 50) rfl rfl (wants_un rfl rfl rfl) ?_
          refine s_sk (d := some 51) rfl rfl (wants_un rfl rfl rfl) ?_
          refine s_sk (d := some 52) rfl rfl (wants_un rfl rfl rfl) ?_
          refine s_sk (d := some 53) rfl rfl (wants_un rfl rfl rfl) ?_
          refine s_sk (d := some 54) rfl rfl (wants_un rfl rfl rfl) ?_
          refine s_skd (d := some 55) rfl rfl (wants_un rfl rfl rfl) ?_
          refine s_sk (d := some 56) rfl rfl (wants_un rfl rfl rfl) ?_
          refine s_skd (d := some 57) rfl rfl (wants_un rfl rfl rfl) ?_
          refine s_sk (d := some 58) rfl rfl (wants_un rfl rfl rfl) ?_
          refine s_sk (d := some 59) rfl rfl (wants_un rfl rfl rfl) ?_
          refine s_sk (d := some 60) rfl rfl (wants_un rfl rfl rfl) ?_
          refine s_sk (d := some 61) rfl rfl (wants_un rfl rfl rfl) ?_
          refine s_sk (d := some 62) rfl rfl (wants_un rfl rfl rfl) ?_
          refine s_skd (d := some 63) rfl rfl (wants_un rfl rfl rfl) ?_
          refine s_sk (d := some 64) rfl rfl (wants_un rfl rfl rfl) ?_
          refine s_skd (d := some 65) rfl rfl (wants_un rfl rfl rfl) ?_
          refine s_sk (d := some 66) rfl rfl (wants_un rfl rfl rfl) ?_
          refine s_sk (d := some 67) rfl rfl (wants_un rfl rfl rfl) ?_
          refine s_sk (d := some 68) rfl rfl (wants_no rfl rfl rfl rfl g28) ?_
          refine s_pu (d := some 69) (v := (.bool true)) rfl rfl rfl (r_pick1 rfl g28 rfl) ?_
          refine s_fin ?_
          exact N_mk (l := [(0, (Sl.v l1)), (1, (Sl.v vi2)), (6, (Sl.v y4)), (7, (.int .i64 i5)), (69, (.bool true))]) H ⟨rfl, rfl, rfl, rfl, rfl, trivial⟩
        · have H := H.2 g28
          refine s_pu (d := some 37) (v := (.int .i64 i5)) rfl rfl (wants_yes rfl rfl rfl rfl g28) (r_move rfl) ?_
          refine s_pu (d := some 38) (v := (.bool (decide (0 < i5)))) rfl rfl (wants_yes rfl rfl rfl rfl g28) (r_gtr rfl rfl) ?_
          refine s_pu (d := some 39) (v := (.bool (decide (0 < i5)))) rfl rfl (wants_yes rfl rfl rfl rfl g28) (r_move rfl) ?_
          rcases Bool.eq_false_or_eq_true (decide (0 < i5)) with g29 | g29
          · have H := H.1 g29
            refine s_pu (d := some 40) (v := (Sl.v y4)) rfl rfl (wants_yes rfl rfl rfl rfl g29) (r_move rfl) ?_
            refine s_pu (d := some 41) (v := (.int .i64 i5)) rfl rfl (wants_yes rfl rfl rfl rfl g29) (r_move rfl) ?_
            obtain ⟨p30, e31, e32, e33, H⟩ := H
            obtain ⟨q34, e35⟩ : ∃ q : Addr, q = Addr.add p30 (Int.toNat i5 * 1) := ⟨_, rfl⟩
            rw [← e35] at H
            refine s_pu (d := some 42) (v := (.pointer (some q34))) rfl rfl (wants_yes rfl rfl rfl rfl g29) (fun w => (r_indexAddr Try.underlying22 Try.sizeOf3 rfl rfl e31 e32 e33 w).trans (by rw [e35])) ?_
            obtain ⟨x36, e37, H⟩ := H
            refine s_rd (d := some 43) (v := (.int .i64 x36)) rfl rfl (wants_yes rfl rfl rfl rfl g29) (fun dr => r_load1 Try.isAgg3 rfl e37) ?_
            refine s_pu (d := some 44) (v := (Sl.v y4)) rfl rfl (wants_yes rfl rfl rfl rfl g29) (r_move rfl) ?_
            refine s_pu (d := some 45) (v := (.int .i64 i5)) rfl rfl (wants_yes rfl rfl rfl rfl g29) (r_move rfl) ?_
            refine s_pu (d := some 46) (v := (.int .i64 (w64 (i5 - 1)))) rfl rfl (wants_yes rfl rfl rfl rfl g29) (r_sub rfl rfl) ?_
            obtain ⟨p38, e39, e40, e41, H⟩ := H
            obtain ⟨q42, e43⟩ : ∃ q : Addr, q = Addr.add p38 (Int.toNat (w64 (i5 - 1)) * 1) := ⟨_, rfl⟩
            rw [← e43] at H
            refine s_pu (d := some 47) (v := (.pointer (some q42))) rfl rfl (wants_yes rfl rfl rfl rfl g29) (fun w => (r_indexAddr Try.underlying22 Try.sizeOf3 rfl rfl e39 e40 e41 w).trans (by rw [e43])) ?_
            obtain ⟨x44, e45, H⟩ := H
            refine s_rd (d := some 48) (v := (.int .i64 x44)) rfl rfl (wants_yes rfl rfl rfl rfl g29) (fun dr => r_load1 Try.isAgg3 rfl e45) ?_
            refine s_pu (d := some 49) (v := (.bool (decide (x36 ≤ x44)))) rfl rfl (wants_yes rfl rfl rfl rfl g29) (r_leq rfl rfl) ?_
            refine s_pu (d := some 50) (v := (.bool (decide (x36 ≤ x44)))) rfl rfl (wants_yes rfl rfl rfl rfl g29) (r_move rfl) ?_
            rcases Bool.eq_false_or_eq_true (decide (x36 ≤ x44)) with g46 | g46
            · have H := H.1 g46
              refine s_sk (d := some 51) rfl rfl (wants_no rfl rfl rfl rfl g46) ?_
              refine s_sk (d := some 52) rfl rfl (wants_no rfl rfl rfl rfl g46) ?_
              refine s_sk (d := some 53) rfl rfl (wants_no rfl rfl rfl rfl g46) ?_
              refine s_sk (d := some 54) rfl rfl (wants_no rfl rfl rfl rfl g46) ?_
              refine s_skd (d := some 55) rfl rfl (wants_no rfl rfl rfl rfl g46) ?_
              refine s_sk (d := some 56) rfl rfl (wants_no rfl rfl rfl rfl g46) ?_
              refine s_skd (d := some 57) rfl rfl (wants_no rfl rfl rfl rfl g46) ?_
              refine s_sk (d := some 58) rfl rfl (wants_no rfl rfl rfl rfl g46) ?_
              refine s_sk (d := some 59) rfl rfl (wants_no rfl rfl rfl rfl g46) ?_
              refine s_sk (d := some 60) rfl rfl (wants_no rfl rfl rfl rfl g46) ?_
              refine s_sk (d := some 61) rfl rfl (wants_no rfl rfl rfl rfl g46) ?_
              refine s_sk (d := some 62) rfl rfl (wants_no rfl rfl rfl rfl g46) ?_
              refine s_skd (d := some 63) rfl rfl (wants_no rfl rfl rfl rfl g46) ?_
              refine s_sk (d := some 64) rfl rfl (wants_no rfl rfl rfl rfl g46) ?_
              refine s_skd (d := some 65) rfl rfl (wants_no rfl rfl rfl rfl g46) ?_
              refine s_sk (d := some 66) rfl rfl (wants_no rfl rfl rfl rfl g46) ?_
              refine s_pu (d := some 67) (v := (.bool true)) rfl rfl (wants_yes rfl rfl rfl rfl g29) (r_pick1 rfl g46 rfl) ?_
              refine s_pu (d := some 68) (v := (.bool true)) rfl rfl (wants_yes rfl rfl rfl rfl g28) (r_pick1 rfl g29 rfl) ?_
              refine s_pu (d := some 69) (v := (.bool true)) rfl rfl rfl (r_pick0 rfl g28 rfl) ?_
              refine s_fin ?_
              exact N_mk (l := [(0, (Sl.v l1)), (1, (Sl.v vi2)), (6, (Sl.v y4)), (7, (.int .i64 i5)), (69, (.bool true))]) H ⟨rfl, rfl, rfl, rfl, rfl, trivial⟩
            · have H := H.2 g46
              refine s_pu (d := some 51) (v := (Sl.v l1)) rfl rfl (wants_yes rfl rfl rfl rfl g46) (r_move rfl) ?_
              refine s_pu (d := some 52) (v := (Sl.v y4)) rfl rfl (wants_yes rfl rfl rfl rfl g46) (r_move rfl) ?_
              refine s_pu (d := some 53) (v := (.int .i64 i5)) rfl rfl (wants_yes rfl rfl rfl rfl g46) (r_move rfl) ?_
              obtain ⟨p47, e48, e49, e50, H⟩ := H
              obtain ⟨q51, e52⟩ : ∃ q : Addr, q = Addr.add p47 (Int.toNat i5 * 1) := ⟨_, rfl⟩
              rw [← e52] at H
              refine s_pu (d := some 54) (v := (.pointer (some q51))) rfl rfl (wants_yes rfl rfl rfl rfl g46) (fun w => (r_indexAddr Try.underlying22 Try.sizeOf3 rfl rfl e48 e49 e50 w).trans (by rw [e52])) ?_
              obtain ⟨x53, e54, H⟩ := H
              refine s_rd (d := some 55) (v := (.int .i64 x53)) rfl rfl (wants_yes rfl rfl rfl rfl g46) (fun dr => r_load1 Try.isAgg3 rfl e54) ?_
              obtain ⟨p55, e56, e57, e58, H⟩ := H
              obtain ⟨q59, e60⟩ : ∃ q : Addr, q = Addr.add p55 (Int.toNat x53 * 1) := ⟨_, rfl⟩
              rw [← e60] at H
              refine s_pu (d := some 56) (v := (.pointer (some q59))) rfl rfl (wants_yes rfl rfl rfl rfl g46) (fun w => (r_indexAddr Try.underlying22 Try.sizeOf3 rfl rfl e56 e57 e58 w).trans (by rw [e60])) ?_
              obtain ⟨x61, e62, H⟩ := H
              refine s_rd (d := some 57) (v := (.int .i64 x61)) rfl rfl (wants_yes rfl rfl rfl rfl g46) (fun dr => r_load1 Try.isAgg3 rfl e62) ?_
              refine s_pu (d := some 58) (v := (Sl.v l1)) rfl rfl (wants_yes rfl rfl rfl rfl g46) (r_move rfl) ?_
              refine s_pu (d := some 59) (v := (Sl.v y4)) rfl rfl (wants_yes rfl rfl rfl rfl g46) (r_move rfl) ?_
              refine s_pu (d := some 60) (v := (.int .i64 i5)) rfl rfl (wants_yes rfl rfl rfl rfl g46) (r_move rfl) ?_
              refine s_pu (d := some 61) (v := (.int .i64 (w64 (i5 - 1)))) rfl rfl (wants_yes rfl rfl rfl rfl g46) (r_sub rfl rfl) ?_
              obtain ⟨p63, e64, e65, e66, H⟩ := H
              obtain ⟨q67, e68⟩ : ∃ q : Addr, q = Addr.add p63 (Int.toNat (w64 (i5 - 1)) * 1) := ⟨_, rfl⟩
              rw [← e68] at H
              refine s_pu (d := some 62) (v := (.pointer (some q67))) rfl rfl (wants_yes rfl rfl rfl rfl g46) (fun w => (r_indexAddr Try.underlying22 Try.sizeOf3 rfl rfl e64 e65 e66 w).trans (by rw [e68])) ?_
              obtain ⟨x69, e70, H⟩ := H
              refine s_rd (d := some 63) (v := (.int .i64 x69)) rfl rfl (wants_yes rfl rfl rfl rfl g46) (fun dr => r_load1 Try.isAgg3 rfl e70) ?_
              obtain ⟨p71, e72, e73, e74, H⟩ := H
              obtain ⟨q75, e76⟩ : ∃ q : Addr, q = Addr.add p71 (Int.toNat x69 * 1) := ⟨_, rfl⟩
              rw [← e76] at H
              refine s_pu (d := some 64) (v := (.pointer (some q75))) rfl rfl (wants_yes rfl rfl rfl rfl g46) (fun w => (r_indexAddr Try.underlying22 Try.sizeOf3 rfl rfl e72 e73 e74 w).trans (by rw [e76])) ?_
              obtain ⟨x77, e78, H⟩ := H
              refine s_rd (d := some 65) (v := (.int .i64 x77)) rfl rfl (wants_yes rfl rfl rfl rfl g46) (fun dr => r_load1 Try.isAgg3 rfl e78) ?_
              refine s_pu (d := some 66) (v := (.bool (decide (x61 ≤ x77)))) rfl rfl (wants_yes rfl rfl rfl rfl g46) (r_leq rfl rfl) ?_
              refine s_pu (d := some 67) (v := (.bool (decide (x61 ≤ x77)))) rfl rfl (wants_yes rfl rfl rfl rfl g29) (r_pick0 rfl g46 rfl) ?_
              refine s_pu (d := some 68) (v := (.bool (decide (x61 ≤ x77)))) rfl rfl (wants_yes rfl rfl rfl rfl g28) (r_pick1 rfl g29 rfl) ?_
              refine s_pu (d := some 69) (v := (.bool (decide (x61 ≤ x77)))) rfl rfl rfl (r_pick0 rfl g28 rfl) ?_
              refine s_fin ?_
              exact N_mk (l := [(0, (Sl.v l1)), (1, (Sl.v vi2)), (6, (Sl.v y4)), (7, (.int .i64 i5)), (69, (.bool (decide (x61 ≤ x77))))]) H ⟨rfl, rfl, rfl, rfl, rfl, trivial⟩
          · have H := H.2 g29
            refine s_sk (d := some 40) rfl rfl (wants_no rfl rfl rfl rfl g29) ?_
            refine s_sk (d := some 41) rfl rfl (wants_no rfl rfl rfl rfl g29) ?_
            refine s_sk (d := some 42) rfl rfl (wants_no rfl rfl rfl rfl g29) ?_
            refine s_skd (d := some 43) rfl rfl (wants_no rfl rfl rfl rfl g29) ?_
            refine s_sk (d := some 44) rfl rfl (wants_no rfl rfl rfl rfl g29) ?_
            refine s_sk (d := some 45) rfl rfl (wants_no rfl rfl rfl rfl g29) ?_
            refine s_sk (d := some 46) rfl rfl (wants_no rfl rfl rfl rfl g29) ?_
            refine s_sk (d := some 47) rfl rfl (wants_no rfl rfl rfl rfl g29) ?_
            refine s_skd (d := some 48) rfl rfl (wants_no rfl rfl rfl rfl g29) ?_
            refine s_sk (d := some 49) rfl rfl (wants_no rfl rfl rfl rfl g29) ?_
            refine s_sk (d := some 50) rfl rfl (wants_no rfl rfl rfl rfl g29) ?_
            refine s_sk (d := some 51) rfl rfl (wants_un rfl rfl rfl) ?_
            refine s_sk (d := some 52) rfl rfl (wants_un rfl rfl rfl) ?_
            refine s_sk (d := some 53) rfl rfl (wants_un rfl rfl rfl) ?_
            refine s_sk (d := some 54) rfl rfl (wants_un rfl rfl rfl) ?_
            refine s_skd (d := some 55) rfl rfl (wants_un rfl rfl rfl) ?_
            refine s_sk (d := some 56) rfl rfl (wants_un rfl rfl rfl) ?_
            refine s_skd (d := some 57) rfl rfl (wants_un rfl rfl rfl) ?_
            refine s_sk (d := some 58) rfl rfl (wants_un rfl rfl rfl) ?_
            refine s_sk (d := some 59) rfl rfl (wants_un rfl rfl rfl) ?_
            refine s_sk (d := some 60) rfl rfl (wants_un rfl rfl rfl) ?_
            refine s_sk (d := some 61) rfl rfl (wants_un rfl rfl rfl) ?_
            refine s_sk (d := some 62) rfl rfl (wants_un rfl rfl rfl) ?_
            refine s_skd (d := some 63) rfl rfl (wants_un rfl rfl rfl) ?_
            refine s_sk (d := some 64) rfl rfl (wants_un rfl rfl rfl) ?_
            refine s_skd (d := some 65) rfl rfl (wants_un rfl rfl rfl) ?_
            refine s_sk (d := some 66) rfl rfl (wants_un rfl rfl rfl) ?_
            refine s_sk (d := some 67) rfl rfl (wants_no rfl rfl rfl rfl g29) ?_
            refine s_pu (d := some 68) (v := (.bool false)) rfl rfl (wants_yes rfl rfl rfl rfl g28) (r_pick0 rfl g29 rfl) ?_
            refine s_pu (d := some 69) (v := (.bool false)) rfl rfl rfl (r_pick0 rfl g28 rfl) ?_
            refine s_fin ?_
            exact N_mk (l := [(0, (Sl.v l1)), (1, (Sl.v vi2)), (6, (Sl.v y4)), (7, (.int .i64 i5)), (69, (.bool false))]) H ⟨rfl, rfl, rfl, rfl, rfl, trivial⟩
    · have H := H.2 g127
      refine W_exit (inX_here ?_)
      show W _ _ _ _ _ _ _
      refine W_seq ?_
      refine W_region (.pu 0 .fin) rfl rfl ?_
      refine s_pu (d := some 8) (v := (.int .i64 0)) rfl rfl rfl (r_assign rfl) ?_
      refine s_fin ?_
      show W _ _ _ _ _ _ _
      refine W_seq ?_
      refine W_region (.pu 0 .fin) rfl rfl ?_
      refine s_pu (d := some 9) (v := (.int .i64 0)) rfl rfl rfl (r_assign rfl) ?_
      refine s_fin ?_
      show W _ _ _ _ _ _ _
      refine W_seq ?_
      refine W_seq ?_
      refine W_region (.pu 0 .fin) rfl rfl ?_
      refine s_pu (d := some 10) (v := (.int .i64 0)) rfl rfl rfl (r_assign rfl) ?_
      refine s_fin ?_
      show W _ _ _ _ _ _ _
      refine W_block ?_
      refine W_loop (WL_mk (l := [(0, (Sl.v l1)), (1, (Sl.v vi2)), (6, (Sl.v y4)), (8, (.int .i64 0)), (9, (.int .i64 0)), (10, (.int .i64 0))]) ?_ ⟨rfl, rfl, rfl, rfl, rfl, rfl, trivial⟩)
      refine H (fun (n79 : Int) (last80 : Int) (i81 : Int) => ∀ b, WL _ _ _ _ _ (mkE [(0, (Sl.v l1)), (1, (Sl.v vi2)), (6, (Sl.v y4)), (8, (.int .i64 n79)), (9, (.int .i64 last80)), (10, (.int .i64 i81))] b) h2) ?_
      intro n79 last80 i81 H b
      refine WL_round ?_
      refine W_seq ?_
      refine W_seq ?_
      refine W_region (.pu 0 (.pu 1 (.pu 2 (.pu 3 .fin)))) rfl rfl ?_
      refine s_pu (d := some 70) (v := (.int .i64 i81)) rfl rfl rfl (r_move rfl) ?_
      refine s_pu (d := some 71) (v := (Sl.v l1)) rfl rfl rfl (r_move rfl) ?_
      refine s_pu (d := some 72) (v := (.int .i64 ((l1.len : Int)))) rfl rfl rfl (r_len Try.underlying22 rfl) ?_
      refine s_pu (d := some 73) (v := (.bool (decide (i81 < ((l1.len : Int)))))) rfl rfl rfl (r_lss rfl rfl) ?_
      refine s_fin ?_
      show W _ _ _ _ _ _ _
      refine W_if (decide (i81 < ((l1.len : Int)))) rfl (fun g126 => ?_) (fun g126 => ?_)
      · have H := H.1 g126
        refine W_skip ?_
        show W _ _ _ _ _ _ _
        refine W_seq ?_
        refine W_set ?_
        intro N86 eN86
        have H := H (fun (n83 : Int) (last84 : Int) => ∀ b, N86 (mkE [(0, (Sl.v l1)), (1, (Sl.v vi2)), (6, (Sl.v y4)), (8, (.int .i64 n83)), (9, (.int .i64 last84)), (10, (.int .i64 i81))] b) h2) (by
          intro n83 last84 H b
          rw [eN86]
          show W _ _ _ _ _ _ _
          refine W_region (.pu 0 (.pu 1 (.pu 2 .fin))) rfl rfl ?_
          refine s_pu (d := some 74) (v := (.int .i64 i81)) rfl rfl rfl (r_move rfl) ?_
          refine s_pu (d := some 75) (v := (.int .i64 (w64 (i81 + 1)))) rfl rfl rfl (r_add rfl rfl) ?_
          refine s_pu (d := some 10) (v := (.int .i64 (w64 (i81 + 1)))) rfl rfl rfl (r_assign rfl) ?_
          refine s_fin ?_
          exact WL_mk (l := [(0, (Sl.v l1)), (1, (Sl.v vi2)), (6, (Sl.v y4)), (8, (.int .i64 n83)), (9, (.int .i64 last84)), (10, (.int .i64 (w64 (i81 + 1))))]) H ⟨rfl, rfl, rfl, rfl, rfl, rfl, trivial⟩)
        clear eN86
        refine W_block ?_
        refine W_seq ?_
        refine W_set ?_
        intro N89 eN89
        have H := H (fun (x87 : Bool) => ∀ b, N89 (mkE [(0, (Sl.v l1)), (1, (Sl.v vi2)), (6, (Sl.v y4)), (8, (.int .i64 n79)), (9, (.int .i64 last80)), (10, (.int .i64 i81)), (97, (.bool x87))] b) h2) (by
          intro x87 H b
          rw [eN89]
          show W _ _ _ _ _ _ _
          refine W_if x87 rfl (fun g98 => ?_) (fun g98 => ?_)
          · have H := H.1 g98
            refine W_seq ?_
            refine W_region (.pu 0 (.pu 1 (.pu 2 .fin))) rfl rfl ?_
            refine s_pu (d := some 98) (v := (.int .i64 n79)) rfl rfl rfl (r_move rfl) ?_
            refine s_pu (d := some 99) (v := (.int .i64 (w64 (n79 + 1)))) rfl rfl rfl (r_add rfl rfl) ?_
            refine s_pu (d := some 8) (v := (.int .i64 (w64 (n79 + 1)))) rfl rfl rfl (r_assign rfl) ?_
            refine s_fin ?_
            show W _ _ _ _ _ _ _
            refine W_region (.pu 0 (.pu 1 (.pu 2 (.rl 3 (.pu 4 .fin))))) rfl rfl ?_
            refine s_pu (d := some 100) (v := (Sl.v l1)) rfl rfl rfl (r_move rfl) ?_
            refine s_pu (d := some 101) (v := (.int .i64 i81)) rfl rfl rfl (r_move rfl) ?_
            obtain ⟨p90, e91, e92, e93, H⟩ := H
            obtain ⟨q94, e95⟩ : ∃ q : Addr, q = Addr.add p90 (Int.toNat i81 * 1) := ⟨_, rfl⟩
            rw [← e95] at H
            refine s_pu (d := some 102) (v := (.pointer (some q94))) rfl rfl rfl (fun w => (r_indexAddr Try.underlying22 Try.sizeOf3 rfl rfl e91 e92 e93 w).trans (by rw [e95])) ?_
            obtain ⟨x96, e97, H⟩ := H
            refine s_rl (d := some 103) (v := (.int .i64 x96)) rfl rfl rfl (fun dr => r_load1 Try.isAgg3 rfl e97) ?_
            refine s_pu (d := some 9) (v := (.int .i64 x96)) rfl rfl rfl (r_assign rfl) ?_
            refine s_fin ?_
            exact N_mk (l := [(0, (Sl.v l1)), (1, (Sl.v vi2)), (6, (Sl.v y4)), (8, (.int .i64 (w64 (n79 + 1)))), (9, (.int .i64 x96)), (10, (.int .i64 i81))]) H ⟨rfl, rfl, rfl, rfl, rfl, rfl, trivial⟩
          · have H := H.2 g98
            refine W_skip ?_
            exact N_mk (l := [(0, (Sl.v l1)), (1, (Sl.v vi2)), (6, (Sl.v y4)), (8, (.int .i64 n79)), (9, (.int .i64 last80)), (10, (.int .i64 i81))]) H ⟨rfl, rfl, rfl, rfl, rfl, rfl, trivial⟩)
        clear eN89
        refine W_region (.pu 0 (.pu 1 (.pu 2 (.pu 3 (.pu 4 (.pu 5 (.pu 6 (.pu 7 (.rl 8 (.pu 9 (.pu 10 (.pu 11 (.pu 12 (.pu 13 (.pu 14 (.pu 15 (.pu 16 (.rl 17 (.pu 18 (.pu 19 (.pu 20 (.pu 21 .fin)))))))))))))))))))))) rfl rfl ?_
        refine s_pu (d := some 76) (v := (.int .i64 i81)) rfl rfl rfl (r_move rfl) ?_
        refine s_pu (d := some 77) (v := (Sl.v vi2)) rfl rfl rfl (r_move rfl) ?_
        refine s_pu (d := some 78) (v := (.int .i64 ((vi2.len : Int)))) rfl rfl rfl (r_len Try.underlying26 rfl) ?_
        refine s_pu (d := some 79) (v := (.bool (decide (i81 < ((vi2.len : Int)))))) rfl rfl rfl (r_lss rfl rfl) ?_
        refine s_pu (d := some 80) (v := (.bool (decide (i81 < ((vi2.len : Int)))))) rfl rfl rfl (r_move rfl) ?_
        rcases Bool.eq_false_or_eq_true (decide (i81 < ((vi2.len : Int)))) with g99 | g99
        · have H := H.1 g99
          refine s_pu (d := some 81) (v := (Sl.v vi2)) rfl rfl (wants_yes rfl rfl rfl rfl g99) (r_move rfl) ?_
          refine s_pu (d := some 82) (v := (.int .i64 i81)) rfl rfl (wants_yes rfl rfl rfl rfl g99) (r_move rfl) ?_
          obtain ⟨p100, e101, e102, e103, H⟩ := H
          obtain ⟨q104, e105⟩ : ∃ q : Addr, q = Addr.add p100 (Int.toNat i81 * 1) := ⟨_, rfl⟩
          rw [← e105] at H
          refine s_pu (d := some 83) (v := (.pointer (some q104))) rfl rfl (wants_yes rfl rfl rfl rfl g99) (fun w => (r_indexAddr Try.underlying26 Try.sizeOf4 rfl rfl e101 e102 e103 w).trans (by rw [e105])) ?_
          obtain ⟨x106, e107, H⟩ := H
          refine s_rl (d := some 84) (v := (.bool x106)) rfl rfl (wants_yes rfl rfl rfl rfl g99) (fun dr => r_load1 Try.isAgg4 rfl e107) ?_
          refine s_pu (d := some 85) (v := (.bool x106)) rfl rfl rfl (r_pick1 rfl g99 rfl) ?_
          refine s_pu (d := some 86) (v := (.bool x106)) rfl rfl rfl (r_move rfl) ?_
          rcases Bool.eq_false_or_eq_true x106 with g108 | g108
          · have H := H.1 g108
            refine s_pu (d := some 87) (v := (.int .i64 n79)) rfl rfl (wants_yes rfl rfl rfl rfl g108) (r_move rfl) ?_
            refine s_pu (d := some 88) (v := (.bool (decide (n79 = 0)))) rfl rfl (wants_yes rfl rfl rfl rfl g108) (r_eql rfl rfl) ?_
            refine s_pu (d := some 89) (v := (.bool (decide (n79 = 0)))) rfl rfl (wants_yes rfl rfl rfl rfl g108) (r_move rfl) ?_
            rcases Bool.eq_false_or_eq_true (decide (n79 = 0)) with g109 | g109
            · have H := H.1 g109
              refine s_sk (d := some 90) rfl rfl (wants_no rfl rfl rfl rfl g109) ?_
              refine s_sk (d := some 91) rfl rfl (wants_no rfl rfl rfl rfl g109) ?_
              refine s_sk (d := some 92) rfl rfl (wants_no rfl rfl rfl rfl g109) ?_
              refine s_skl (d := some 93) rfl rfl (wants_no rfl rfl rfl rfl g109) ?_
              refine s_sk (d := some 94) rfl rfl (wants_no rfl rfl rfl rfl g109) ?_
              refine s_sk (d := some 95) rfl rfl (wants_no rfl rfl rfl rfl g109) ?_
              refine s_pu (d := some 96) (v := (.bool true)) rfl rfl (wants_yes rfl rfl rfl rfl g108) (r_pick1 rfl g109 rfl) ?_
              refine s_pu (d := some 97) (v := (.bool true)) rfl rfl rfl (r_pick1 rfl g108 rfl) ?_
              refine s_fin ?_
              exact N_mk (l := [(0, (Sl.v l1)), (1, (Sl.v vi2)), (6, (Sl.v y4)), (8, (.int .i64 n79)), (9, (.int .i64 last80)), (10, (.int .i64 i81)), (97, (.bool true))]) H ⟨rfl, rfl, rfl, rfl, rfl, rfl, rfl, trivial⟩
            · have H := H.2 g109
              refine s_pu (d := some 90) (v := (Sl.v l1)) rfl rfl (wants_yes rfl rfl rfl rfl g109) (r_move rfl) ?_
              refine s_pu (d := some 91) (v := (.int .i64 i81)) rfl rfl (wants_yes rfl rfl rfl rfl g109) (r_move rfl) ?_
              obtain ⟨p110, e111, e112, e113, H⟩ := H
              obtain ⟨q114, e115⟩ : ∃ q : Addr, q = Addr.add p110 (Int.toNat i81 * 1) := ⟨_, rfl⟩
              rw [← e115] at H
              refine s_pu (d := some 92) (v := (.pointer (some q114))) rfl rfl (wants_yes rfl rfl rfl rfl g109) (fun w => (r_indexAddr Try.underlying22 Try.sizeOf3 rfl rfl e111 e112 e113 w).trans (by rw [e115])) ?_
              obtain ⟨x116, e117, H⟩ := H
              refine s_rl (d := some 93) (v := (.int .i64 x116)) rfl rfl (wants_yes rfl rfl rfl rfl g109) (fun dr => r_load1 Try.isAgg3 rfl e117) ?_
              refine s_pu (d := some 94) (v := (.int .i64 last80)) rfl rfl (wants_yes rfl rfl rfl rfl g109) (r_move rfl) ?_
              refine s_pu (d := some 95) (v := (.bool (decide (last80 < x116)))) rfl rfl (wants_yes rfl rfl rfl rfl g109) (r_gtr rfl rfl) ?_
              refine s_pu (d := some 96) (v := (.bool (decide (last80 < x116)))) rfl rfl (wants_yes rfl rfl rfl rfl g108) (r_pick0 rfl g109 rfl) ?_
              refine s_pu (d := some 97) (v := (.bool (decide (last80 < x116)))) rfl rfl rfl (r_pick1 rfl g108 rfl) ?_
              refine s_fin ?_
              exact N_mk (l := [(0, (Sl.v l1)), (1, (Sl.v vi2)), (6, (Sl.v y4)), (8, (.int .i64 n79)), (9, (.int .i64 last80)), (10, (.int .i64 i81)), (97, (.bool (decide (last80 < x116))))]) H ⟨rfl, rfl, rfl, rfl, rfl, rfl, rfl, trivial⟩
          · have H := H.2 g108
            refine s_sk (d := some 87) rfl rfl (wants_no rfl rfl rfl rfl g108) ?_
            refine s_sk (d := some 88) rfl rfl (wants_no rfl rfl rfl rfl g108) ?_
            refine s_sk (d := some 89) rfl rfl (wants_no rfl rfl rfl rfl g108) ?_
            refine s_sk (d := some 90) rfl rfl (wants_un rfl rfl rfl) ?_
            refine s_sk (d := some 91) rfl rfl (wants_un rfl rfl rfl) ?_
            refine s_sk (d := some 92) rfl rfl (wants_un rfl rfl rfl) ?_
            refine s_skl (d := some 93) rfl rfl (wants_un rfl rfl rfl) ?_
            refine s_sk (d := some 94) rfl rfl (wants_un rfl rfl rfl) ?_
            refine s_sk (d := some 95) rfl rfl (wants_un rfl rfl rfl) ?_
            refine s_sk (d := some 96) rfl rfl (wants_no rfl rfl rfl rfl g108) ?_
            refine s_pu (d := some 97) (v := (.bool false)) rfl rfl rfl (r_pick0 rfl g108 rfl) ?_
            refine s_fin ?_
            exact N_mk (l := [(0, (Sl.v l1)), (1, (Sl.v vi2)), (6, (Sl.v y4)), (8, (.int .i64 n79)), (9, (.int .i64 last80)), (10, (.int .i64 i81)), (97, (.bool false))]) H ⟨rfl, rfl, rfl, rfl, rfl, rfl, rfl, trivial⟩
        · have H := H.2 g99
          refine s_sk (d := some 81) rfl rfl (wants_no rfl rfl rfl rfl g99) ?_
          refine s_sk (d := some 82) rfl rfl (wants_no rfl rfl rfl rfl g99) ?_
          refine s_sk (d := some 83) rfl rfl (wants_no rfl rfl rfl rfl g99) ?_
          refine s_skl (d := some 84) rfl rfl (wants_no rfl rfl rfl rfl g99) ?_
          refine s_pu (d := some 85) (v := (.bool false)) rfl rfl rfl (r_pick0 rfl g99 rfl) ?_
          refine s_pu (d := some 86) (v := (.bool false)) rfl rfl rfl (r_move rfl) ?_
          refine s_sk (d := some 87) rfl rfl (wants_no rfl rfl rfl rfl rfl) ?_
          refine s_sk (d := some 88) rfl rfl (wants_no rfl rfl rfl rfl rfl) ?_
          refine s_sk (d := some 89) rfl rfl (wants_no rfl rfl rfl rfl rfl) ?_
          refine s_sk (d := some 90) rfl rfl (wants_un rfl rfl rfl) ?_
          refine s_sk (d := some 91) rfl rfl (wants_un rfl rfl rfl) ?_
          refine s_sk (d := some 92) rfl rfl (wants_un rfl rfl rfl) ?_
          refine s_skl (d := some 93) rfl rfl (wants_un rfl rfl rfl) ?_
          refine s_sk (d := some 94) rfl rfl (wants_un rfl rfl rfl) ?_
          refine s_sk (d := some 95) rfl rfl (wants_un rfl rfl rfl) ?_
          refine s_sk (d := some 96) rfl rfl (wants_no rfl rfl rfl rfl rfl) ?_
          refine s_pu (d := some 97) (v := (.bool false)) rfl rfl rfl (r_pick0 rfl rfl rfl) ?_
          refine s_fin ?_
          exact N_mk (l := [(0, (Sl.v l1)), (1, (Sl.v vi2)), (6, (Sl.v y4)), (8, (.int .i64 n79)), (9, (.int .i64 last80)), (10, (.int .i64 i81)), (97, (.bool false))]) H ⟨rfl, rfl, rfl, rfl, rfl, rfl, rfl, trivial⟩
      · have H := H.2 g126
        refine W_exit (inX_here ?_)
        show W _ _ _ _ _ _ _
        refine W_seq ?_
        refine W_set ?_
        intro N120 eN120
        have H := H (fun (x118 : Bool) (h3 : Heap) => ∀ b, N120 (mkE [(4, (.bool x118))] b) h3) (by
          intro x118 h3 H b
          rw [eN120]
          show W _ _ _ _ _ _ _
          refine W_ret ?_
          exact ⟨[(.bool x118)], ⟨_, _, rfl, rfl, rfl⟩, x118, rfl, H⟩)
        clear eN120
        refine W_region (.pu 0 (.pu 1 (.pu 2 (.pu 3 (.pu 4 (.pu 5 (.pu 6 (.pu 7 (.ef 8 [] (.pu 9 (.pu 10 (.pu 11 (.pu 12 (.pu 13 (.pu 14 (.pu 15 (.pu 16 (.pu 17 (.pu 18 (.pu 19 (.pu 20 (.pu 21 .fin))))))))))))) .no))))))))) rfl rfl ?_
        refine s_pu (d := some 104) (v := (.int .i64 n79)) rfl rfl rfl (r_move rfl) ?_
        refine s_pu (d := some 105) (v := (Sl.v y4)) rfl rfl rfl (r_move rfl) ?_
        refine s_pu (d := some 106) (v := (.int .i64 ((y4.len : Int)))) rfl rfl rfl (r_len Try.underlying22 rfl) ?_
        refine s_pu (d := some 107) (v := (.bool (decide (n79 ≤ ((y4.len : Int)))))) rfl rfl rfl (r_leq rfl rfl) ?_
        refine s_pu (d := some 108) (v := (.bool (decide (n79 ≤ ((y4.len : Int)))))) rfl rfl rfl (r_move rfl) ?_
        rcases Bool.eq_false_or_eq_true (decide (n79 ≤ ((y4.len : Int)))) with g121 | g121
        · have H := H.1 g121
          refine s_pu (d := some 109) (v := (Sl.v y4)) rfl rfl (wants_yes rfl rfl rfl rfl g121) (r_move rfl) ?_
          refine s_pu (d := some 110) (v := (.int .i64 ((y4.len : Int)))) rfl rfl (wants_yes rfl rfl rfl rfl g121) (r_len Try.underlying22 rfl) ?_
          refine s_pu (d := some 111) (v := (Sl.v l1)) rfl rfl (wants_yes rfl rfl rfl rfl g121) (r_move rfl) ?_
          refine s_ef (d := some 112) rfl rfl (wants_yes rfl rfl rfl rfl g121) (fun dr => r_call Try.call15 rfl rfl H) ?_ trivial
          rintro _ h4 ⟨y122, rfl, H⟩
          refine ⟨trivial, ?_⟩
          refine s_pu (d := some 113) (v := (.int .i64 ((y122.len : Int)))) rfl rfl (wants_yes rfl rfl rfl rfl g121) (r_len Try.underlying24 rfl) ?_
          refine s_pu (d := some 114) (v := (.bool (decide (((y4.len : Int)) = ((y122.len : Int)))))) rfl rfl (wants_yes rfl rfl rfl rfl g121) (r_eql rfl rfl) ?_
          refine s_pu (d := some 115) (v := (.bool (decide (((y4.len : Int)) = ((y122.len : Int)))))) rfl rfl rfl (r_pick1 rfl g121 rfl) ?_
          refine s_pu (d := some 116) (v := (.bool (decide (((y4.len : Int)) = ((y122.len : Int)))))) rfl rfl rfl (r_move rfl) ?_
          rcases Bool.eq_false_or_eq_true (decide (((y4.len : Int)) = ((y122.len : Int)))) with g123 | g123
          · have H := H.1 g123
            refine s_pu (d := some 117) (v := (Sl.v y4)) rfl rfl (wants_yes rfl rfl rfl rfl g123) (r_move rfl) ?_
            refine s_pu (d := some 118) (v := (.int .i64 ((y4.len : Int)))) rfl rfl (wants_yes rfl rfl rfl rfl g123) (r_len Try.underlying22 rfl) ?_
            refine s_pu (d := some 119) (v := (.bool (decide (0 < ((y4.len : Int)))))) rfl rfl (wants_yes rfl rfl rfl rfl g123) (r_gtr rfl rfl) ?_
            refine s_pu (d := some 120) (v := (Sl.v l1)) rfl rfl (wants_yes rfl rfl rfl rfl g123) (r_move rfl) ?_
            refine s_pu (d := some 121) (v := (.int .i64 ((l1.len : Int)))) rfl rfl (wants_yes rfl rfl rfl rfl g123) (r_len Try.underlying22 rfl) ?_
            refine s_pu (d := some 122) (v := (.bool (decide (0 < ((l1.len : Int)))))) rfl rfl (wants_yes rfl rfl rfl rfl g123) (r_gtr rfl rfl) ?_
            refine s_pu (d := some 123) (v := (.bool ((decide (0 < ((y4.len : Int)))) == (decide (0 < ((l1.len : Int))))))) rfl rfl (wants_yes rfl rfl rfl rfl g123) (r_eqlB Try.underlying4 rfl rfl) ?_
            refine s_pu (d := some 124) (v := (.bool ((decide (0 < ((y4.len : Int)))) == (decide (0 < ((l1.len : Int))))))) rfl rfl rfl (r_pick1 rfl g123 rfl) ?_
            obtain ⟨x124, e125⟩ : ∃ x : Bool, x = ((decide (0 < ((y4.len : Int)))) == (decide (0 < ((l1.len : Int))))) := ⟨_, rfl⟩
            have H := H x124 e125
            refine s_pu (d := some 4) (v := (.bool x124)) rfl rfl rfl (r_assign (congrArg Value.bool e125.symm)) ?_
            refine s_fin ?_
            exact N_mk (l := [(4, (.bool x124))]) H ⟨rfl, trivial⟩
          · have H := H.2 g123
            refine s_sk (d := some 117) rfl rfl (wants_no rfl rfl rfl rfl g123) ?_
            refine s_sk (d := some 118) rfl rfl (wants_no rfl rfl rfl rfl g123) ?_
            refine s_sk (d := some 119) rfl rfl (wants_no rfl rfl rfl rfl g123) ?_
            refine s_sk (d := some 120) rfl rfl (wants_no rfl rfl rfl rfl g123) ?_
            refine s_sk (d := some 121) rfl rfl (wants_no rfl rfl rfl rfl g123) ?_
            refine s_sk (d := some 122) rfl rfl (wants_no rfl rfl rfl rfl g123) ?_
            refine s_sk (d := some 123) rfl rfl (wants_no rfl rfl rfl rfl g123) ?_
            refine s_pu (d := some 124) (v := (.bool false)) rfl rfl rfl (r_pick0 rfl g123 rfl) ?_
            refine s_pu (d := some 4) (v := (.bool false)) rfl rfl rfl (r_assign rfl) ?_
            refine s_fin ?_
            exact N_mk (l := [(4, (.bool false))]) H ⟨rfl, trivial⟩
        · have H := H.2 g121
          refine s_sk (d := some 109) rfl rfl (wants_no rfl rfl rfl rfl g121) ?_
          refine s_sk (d := some 110) rfl rfl (wants_no rfl rfl rfl rfl g121) ?_
          refine s_sk (d := some 111) rfl rfl (wants_no rfl rfl rfl rfl g121) ?_
          refine s_skf (d := some 112) rfl rfl (wants_no rfl rfl rfl rfl g121) trivial ?_ trivial
          refine s_sk (d := some 113) rfl rfl (wants_no rfl rfl rfl rfl g121) ?_
          refine s_sk (d := some 114) rfl rfl (wants_no rfl rfl rfl rfl g121) ?_
          refine s_pu (d := some 115) (v := (.bool false)) rfl rfl rfl (r_pick0 rfl g121 rfl) ?_
          refine s_pu (d := some 116) (v := (.bool false)) rfl rfl rfl (r_move rfl) ?_
          refine s_sk (d := some 117) rfl rfl (wants_no rfl rfl rfl rfl rfl) ?_
          refine s_sk (d := some 118) rfl rfl (wants_no rfl rfl rfl rfl rfl) ?_
          refine s_sk (d := some 119) rfl rfl (wants_no rfl rfl rfl rfl rfl) ?_
          refine s_sk (d := some 120) rfl rfl (wants_no rfl rfl rfl rfl rfl) ?_
          refine s_sk (d := some 121) rfl rfl (wants_no rfl rfl rfl rfl rfl) ?_
          refine s_sk (d := some 122) rfl rfl (wants_no rfl rfl rfl rfl rfl) ?_
          refine s_sk (d := some 123) rfl rfl (wants_no rfl rfl rfl rfl rfl) ?_
          refine s_pu (d := some 124) (v := (.bool false)) rfl rfl rfl (r_pick0 rfl rfl rfl) ?_
          refine s_pu (d := some 4) (v := (.bool false)) rfl rfl rfl (r_assign rfl) ?_
          refine s_fin ?_
          exact N_mk (l := [(4, (.bool false))]) H ⟨rfl, trivial⟩

end Go.Proofs.Ythjfnfhgnbmgcaa
