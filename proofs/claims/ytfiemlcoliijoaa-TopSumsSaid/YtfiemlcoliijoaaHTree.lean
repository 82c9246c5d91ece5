/- Typed words of functions, and that they hold: printed by gen.py (an own tool of this claim) off the model's own form of each function. -/
import Derived.Test.YtfiemlcoliijoaaProg
import Derived.Test.YtfiemlcoliijoaaHFingC
namespace Go.Proofs.Ytfiemlcoliijoaa
open Go Go.RowKit Go.Tw
set_option linter.unusedVariables false



/-! ### the calls -/

abbrev finger_Of (r : World) (l1 : Sl) (h : Heap) (R : Option Addr → Heap → Prop) : Prop :=
  CallsH Try.prog r 25 [(Sl.v l1)] h fun v h' => ∃ (y2 : Option Addr), v = (.agg #[(.pointer y2)]) ∧ R y2 h'

theorem finger_Of.mono {r : World} {l1 : Sl} {h : Heap} {R R' : Option Addr → Heap → Prop} (H : finger_Of r l1 h R) (hr : ∀ y2 h, R y2 h → R' y2 h) : finger_Of r l1 h R' :=
  CallsH.mono H fun _ _ hx => by
    obtain ⟨y2, hv, hR⟩ := hx
    exact ⟨y2, hv, hr _ _ hR⟩

abbrev finger_Tree_PushRight (r : World) (t1 : Option Addr) (x2 : Int) (h : Heap) (R : Option Addr → Heap → Prop) : Prop :=
  CallsH Try.prog r 40 [(.agg #[(.pointer t1)]), (.int .i64 x2)] h fun v h' => ∃ (y3 : Option Addr), v = (.agg #[(.pointer y3)]) ∧ R y3 h'

theorem finger_Tree_PushRight.mono {r : World} {t1 : Option Addr} {x2 : Int} {h : Heap} {R R' : Option Addr → Heap → Prop} (H : finger_Tree_PushRight r t1 x2 h R) (hr : ∀ y3 h, R y3 h → R' y3 h) : finger_Tree_PushRight r t1 x2 h R' :=
  CallsH.mono H fun _ _ hx => by
    obtain ⟨y3, hv, hR⟩ := hx
    exact ⟨y3, hv, hr _ _ hR⟩

abbrev finger_Tree_Measure (r : World) (t1 : Option Addr) (h : Heap) (R : Int → Int → Int → Int → Int → Heap → Prop) : Prop :=
  CallsH Try.prog r 27 [(.agg #[(.pointer t1)])] h fun v h' => ∃ (y2 : Int) (y3 : Int) (y4 : Int) (y5 : Int) (y6 : Int), v = (.agg #[(.int .i64 y2), (.int .i64 y3), (.int .i64 y4), (.int .i64 y5), (.int .i64 y6)]) ∧ R y2 y3 y4 y5 y6 h'

theorem finger_Tree_Measure.mono {r : World} {t1 : Option Addr} {h : Heap} {R R' : Int → Int → Int → Int → Int → Heap → Prop} (H : finger_Tree_Measure r t1 h R) (hr : ∀ y2 y3 y4 y5 y6 h, R y2 y3 y4 y5 y6 h → R' y2 y3 y4 y5 y6 h) : finger_Tree_Measure r t1 h R' :=
  CallsH.mono H fun _ _ hx => by
    obtain ⟨y2, y3, y4, y5, y6, hv, hR⟩ := hx
    exact ⟨y2, y3, y4, y5, y6, hv, hr _ _ _ _ _ _ hR⟩

abbrev finger_Tree_Split (r : World) (t1 : Option Addr) (p2 : Value) (h : Heap) (R : Option Addr → Option Addr → Heap → Prop) : Prop :=
  CallsH Try.prog r 51 [(.agg #[(.pointer t1)]), p2] h fun v h' => ∃ (y3 : Option Addr) (y4 : Option Addr), v = (.tuple #[(.agg #[(.pointer y3)]), (.agg #[(.pointer y4)])]) ∧ R y3 y4 h'

theorem finger_Tree_Split.mono {r : World} {t1 : Option Addr} {p2 : Value} {h : Heap} {R R' : Option Addr → Option Addr → Heap → Prop} (H : finger_Tree_Split r t1 p2 h R) (hr : ∀ y3 y4 h, R y3 y4 h → R' y3 y4 h) : finger_Tree_Split r t1 p2 h R' :=
  CallsH.mono H fun _ _ hx => by
    obtain ⟨y3, y4, hv, hR⟩ := hx
    exact ⟨y3, y4, hv, hr _ _ _ hR⟩

abbrev seq_Of (r : World) (l1 : Sl) (h : Heap) (R : Option Addr → Heap → Prop) : Prop :=
  CallsH Try.prog r 11 [(Sl.v l1)] h fun v h' => ∃ (y2 : Option Addr), v = (.agg #[(.pointer y2)]) ∧ R y2 h'

theorem seq_Of.mono {r : World} {l1 : Sl} {h : Heap} {R R' : Option Addr → Heap → Prop} (H : seq_Of r l1 h R) (hr : ∀ y2 h, R y2 h → R' y2 h) : seq_Of r l1 h R' :=
  CallsH.mono H fun _ _ hx => by
    obtain ⟨y2, hv, hR⟩ := hx
    exact ⟨y2, hv, hr _ _ hR⟩

abbrev seq_Seq_Len (r : World) (s1 : Option Addr) (h : Heap) (R : Int → Heap → Prop) : Prop :=
  CallsH Try.prog r 41 [(.agg #[(.pointer s1)])] h fun v h' => ∃ (y2 : Int), v = (.int .i64 y2) ∧ R y2 h'

theorem seq_Seq_Len.mono {r : World} {s1 : Option Addr} {h : Heap} {R R' : Int → Heap → Prop} (H : seq_Seq_Len r s1 h R) (hr : ∀ y2 h, R y2 h → R' y2 h) : seq_Seq_Len r s1 h R' :=
  CallsH.mono H fun _ _ hx => by
    obtain ⟨y2, hv, hR⟩ := hx
    exact ⟨y2, hv, hr _ _ hR⟩

abbrev seq_Seq_cut (r : World) (s1 : Option Addr) (i2 : Int) (h : Heap) (R : Option Addr → Option Addr → Heap → Prop) : Prop :=
  CallsH Try.prog r 42 [(.agg #[(.pointer s1)]), (.int .i64 i2)] h fun v h' => ∃ (y3 : Option Addr) (y4 : Option Addr), v = (.tuple #[(.agg #[(.pointer y3)]), (.agg #[(.pointer y4)])]) ∧ R y3 y4 h'

theorem seq_Seq_cut.mono {r : World} {s1 : Option Addr} {i2 : Int} {h : Heap} {R R' : Option Addr → Option Addr → Heap → Prop} (H : seq_Seq_cut r s1 i2 h R) (hr : ∀ y3 y4 h, R y3 y4 h → R' y3 y4 h) : seq_Seq_cut r s1 i2 h R' :=
  CallsH.mono H fun _ _ hx => by
    obtain ⟨y3, y4, hv, hR⟩ := hx
    exact ⟨y3, y4, hv, hr _ _ _ hR⟩

abbrev seq_Seq_cut_1 (r : World) (m1 : Int) (m2 : Int) (m3 : Int) (m4 : Int) (m5 : Int) (c6 : Addr) (h : Heap) (R : Bool → Heap → Prop) : Prop :=
  CallsH Try.prog r 52 [(.agg #[(.int .i64 m1), (.int .i64 m2), (.int .i64 m3), (.int .i64 m4), (.int .i64 m5)]), (.pointer (some c6))] h fun v h' => ∃ (y7 : Bool), v = (.bool y7) ∧ R y7 h'

theorem seq_Seq_cut_1.mono {r : World} {m1 : Int} {m2 : Int} {m3 : Int} {m4 : Int} {m5 : Int} {c6 : Addr} {h : Heap} {R R' : Bool → Heap → Prop} (H : seq_Seq_cut_1 r m1 m2 m3 m4 m5 c6 h R) (hr : ∀ y7 h, R y7 h → R' y7 h) : seq_Seq_cut_1 r m1 m2 m3 m4 m5 c6 h R' :=
  CallsH.mono H fun _ _ hx => by
    obtain ⟨y7, hv, hR⟩ := hx
    exact ⟨y7, hv, hr _ _ hR⟩

abbrev seq_Seq_Slice (r : World) (s1 : Option Addr) (i2 : Int) (j3 : Int) (h : Heap) (R : Option Addr → Bool → Heap → Prop) : Prop :=
  CallsH Try.prog r 26 [(.agg #[(.pointer s1)]), (.int .i64 i2), (.int .i64 j3)] h fun v h' => ∃ (y4 : Option Addr) (y5 : Bool), v = (.tuple #[(.agg #[(.pointer y4)]), (.bool y5)]) ∧ R y4 y5 h'

theorem seq_Seq_Slice.mono {r : World} {s1 : Option Addr} {i2 : Int} {j3 : Int} {h : Heap} {R R' : Option Addr → Bool → Heap → Prop} (H : seq_Seq_Slice r s1 i2 j3 h R) (hr : ∀ y4 y5 h, R y4 y5 h → R' y4 y5 h) : seq_Seq_Slice r s1 i2 j3 h R' :=
  CallsH.mono H fun _ _ hx => by
    obtain ⟨y4, y5, hv, hR⟩ := hx
    exact ⟨y4, y5, hv, hr _ _ _ hR⟩

abbrev seq_Seq_Measure (r : World) (s1 : Option Addr) (i2 : Int) (j3 : Int) (h : Heap) (R : Int → Int → Int → Int → Int → Bool → Heap → Prop) : Prop :=
  CallsH Try.prog r 12 [(.agg #[(.pointer s1)]), (.int .i64 i2), (.int .i64 j3)] h fun v h' => ∃ (y4 : Int) (y5 : Int) (y6 : Int) (y7 : Int) (y8 : Int) (y9 : Bool), v = (.tuple #[(.agg #[(.int .i64 y4), (.int .i64 y5), (.int .i64 y6), (.int .i64 y7), (.int .i64 y8)]), (.bool y9)]) ∧ R y4 y5 y6 y7 y8 y9 h'

theorem seq_Seq_Measure.mono {r : World} {s1 : Option Addr} {i2 : Int} {j3 : Int} {h : Heap} {R R' : Int → Int → Int → Int → Int → Bool → Heap → Prop} (H : seq_Seq_Measure r s1 i2 j3 h R) (hr : ∀ y4 y5 y6 y7 y8 y9 h, R y4 y5 y6 y7 y8 y9 h → R' y4 y5 y6 y7 y8 y9 h) : seq_Seq_Measure r s1 i2 j3 h R' :=
  CallsH.mono H fun _ _ hx => by
    obtain ⟨y4, y5, y6, y7, y8, y9, hv, hR⟩ := hx
    exact ⟨y4, y5, y6, y7, y8, y9, hv, hr _ _ _ _ _ _ _ hR⟩

/-! ### finger_Of -/

def finger_Of_F (r : World) (l1 : Sl) (h : Heap) (R : Option Addr → Heap → Prop) : Prop :=
  New h (.cells #[(.pointer none)] 44) fun p2 h1 =>
  New h1 (.cells #[(.pointer none)] 44) fun p5 h2 =>
  ∀ X9 : Int → Heap → Prop, (∀ (x8 : Int) (h3 : Heap),
    (Br (decide (x8 < ((l1.len : Int)))) (
      Ix l1 x8 1 fun q14 =>
      LdI h3 q14 fun x16 =>
      LdP h3 (Addr.add p5 0) fun x18 =>
      finger_Tree_PushRight r x18 x16 h3 fun y20 h4 =>
      St h4 p5 1 [(.pointer y20)] fun h5 =>
      X9 (w64 (x8 + 1)) h5) (
      LdP h3 (Addr.add p5 0) fun x23 =>
      St h3 p2 1 [(.pointer x23)] fun h6 =>
      LdP h6 (Addr.add p2 0) fun x27 =>
      R x27 h6)) →
    X9 x8 h3) →
  X9 0 h2

set_option maxRecDepth 100000 in
theorem finger_Of_of {r : World} {l1 : Sl} {h : Heap} {R : Option Addr → Heap → Prop} (H : finger_Of_F r l1 h R) : finger_Of r l1 h R := by
  unfold finger_Of_F at H
  refine calls_of 17 [.cell 2 44] Try.func25 rfl rfl rfl rfl rfl ?_
  refine W_seq ?_
  refine W_region (.ef 0 [] .fin .no) rfl rfl ?_
  obtain ⟨p2, e3⟩ : ∃ p : Addr, p = ⟨h.size, 0, none⟩ := ⟨_, rfl⟩
  obtain ⟨h1, e4⟩ : ∃ hh : Heap, hh = h.push (.cells #[(.pointer none)] 44) := ⟨_, rfl⟩
  have H := H p2 h1 e3 e4
  refine s_ef1 (d := some 2) (v := (.pointer (some p2))) (h' := h1) rfl rfl rfl (fun dr => (r_alloc Try.zeroValue44).trans (by rw [e3, e4]; rfl)) trivial ?_ trivial
  refine s_fin ?_
  show W _ _ _ _ _ _ _ _
  refine W_seq ?_
  refine W_region (.ef 0 [] .fin .no) rfl rfl ?_
  obtain ⟨p5, e6⟩ : ∃ p : Addr, p = ⟨h1.size, 0, none⟩ := ⟨_, rfl⟩
  obtain ⟨h2, e7⟩ : ∃ hh : Heap, hh = h1.push (.cells #[(.pointer none)] 44) := ⟨_, rfl⟩
  have H := H p5 h2 e6 e7
  refine s_ef1 (d := some 3) (v := (.pointer (some p5))) (h' := h2) rfl rfl rfl (fun dr => (r_alloc Try.zeroValue44).trans (by rw [e6, e7]; rfl)) trivial ?_ trivial
  refine s_fin ?_
  show W _ _ _ _ _ _ _ _
  refine W_seq ?_
  refine W_seq ?_
  refine W_region (.pu 0 (.pu 1 (.pu 2 .fin))) rfl rfl ?_
  refine s_pu (d := some 6) (v := (Sl.v l1)) rfl rfl rfl (r_move rfl) ?_
  refine s_pu (d := some 7) (v := (.int .i64 ((l1.len : Int)))) rfl rfl rfl (r_len Try.underlying22 rfl) ?_
  refine s_pu (d := some 8) (v := (.int .i64 0)) rfl rfl rfl (r_move rfl) ?_
  refine s_fin ?_
  show W _ _ _ _ _ _ _ _
  refine W_block ?_
  refine W_loop (WL_mk (l := [(2, (.pointer (some p2))), (3, (.pointer (some p5))), (6, (Sl.v l1)), (7, (.int .i64 ((l1.len : Int)))), (8, (.int .i64 0))]) ?_ ⟨rfl, rfl, rfl, rfl, rfl, trivial⟩)
  refine H (fun (x8 : Int) (h3 : Heap) => ∀ b, WL _ _ _ _ _ _ (mkE [(2, (.pointer (some p2))), (3, (.pointer (some p5))), (6, (Sl.v l1)), (7, (.int .i64 ((l1.len : Int)))), (8, (.int .i64 x8))] b) h3) ?_
  intro x8 h3 H b
  refine WL_round ?_
  refine W_seq ?_
  refine W_region (.pu 0 .fin) rfl rfl ?_
  refine s_pu (d := some 9) (v := (.bool (decide (x8 < ((l1.len : Int)))))) rfl rfl rfl (r_lss rfl rfl) ?_
  refine s_fin ?_
  show W _ _ _ _ _ _ _ _
  refine W_seq ?_
  refine W_if (decide (x8 < ((l1.len : Int)))) rfl (fun g29 => ?_) (fun g29 => ?_)
  · have H := H.1 g29
    refine W_skip ?_
    show W _ _ _ _ _ _ _ _
    refine W_seq ?_
    refine W_block ?_
    refine W_seq ?_
    refine W_region (.pu 0 (.rl 1 (.pu 2 .fin))) rfl rfl ?_
    obtain ⟨p10, e11, e12, e13, H⟩ := H
    obtain ⟨q14, e15⟩ : ∃ q : Addr, q = Addr.add p10 (Int.toNat x8 * 1) := ⟨_, rfl⟩
    rw [← e15] at H
    refine s_pu (d := some 10) (v := (.pointer (some q14))) rfl rfl rfl (fun w => (r_indexAddr Try.underlying22 Try.sizeOf3 rfl rfl e11 e12 e13 w).trans (by rw [e15])) ?_
    obtain ⟨x16, e17, H⟩ := H
    refine s_rl (d := some 11) (v := (.int .i64 x16)) rfl rfl rfl (fun dr => r_load1 Try.isAgg3 rfl e17) ?_
    refine s_pu (d := some 5) (v := (.int .i64 x16)) rfl rfl rfl (r_assign rfl) ?_
    refine s_fin ?_
    show W _ _ _ _ _ _ _ _
    refine W_region (.rl 0 (.pu 1 (.ef 2 [] (.ef 3 [] .fin .no) .no))) rfl rfl ?_
    obtain ⟨x18, e19, H⟩ := H
    refine s_rl (d := some 12) (v := (.agg #[(.pointer x18)])) rfl rfl rfl (fun dr => r_loadN Try.isAgg44 Try.sizeOf44 (vs := [(.pointer x18)]) rfl rfl ⟨e19, trivial⟩) ?_
    refine s_pu (d := some 13) (v := (.int .i64 x16)) rfl rfl rfl (r_move rfl) ?_
    refine s_ef (d := some 14) rfl rfl rfl (fun dr => r_call Try.call40 rfl rfl H) ?_ trivial
    rintro _ h4 ⟨y20, rfl, H⟩
    refine ⟨trivial, ?_⟩
    obtain ⟨e22, H⟩ := H
    obtain ⟨h5, e21⟩ : ∃ hh : Heap, hh = hsets h4 p5 0 [(.pointer y20)] := ⟨_, rfl⟩
    have H := H h5 e21
    refine s_st (d := none) (h' := h5) rfl rfl rfl (fun dr => (r_store (v := (.agg #[(.pointer y20)])) Try.sizeOf44 rfl rfl rfl (one_all rfl) e22).trans (by rw [e21]; rfl)) trivial ?_ trivial
    refine s_fin ?_
    show W _ _ _ _ _ _ _ _
    refine W_region (.pu 0 (.pu 1 .fin)) rfl rfl ?_
    refine s_pu (d := some 15) (v := (.int .i64 (w64 (x8 + 1)))) rfl rfl rfl (r_add rfl rfl) ?_
    refine s_pu (d := some 8) (v := (.int .i64 (w64 (x8 + 1)))) rfl rfl rfl (r_move rfl) ?_
    refine s_fin ?_
    exact WL_mk (l := [(2, (.pointer (some p2))), (3, (.pointer (some p5))), (6, (Sl.v l1)), (7, (.int .i64 ((l1.len : Int)))), (8, (.int .i64 (w64 (x8 + 1))))]) H ⟨rfl, rfl, rfl, rfl, rfl, trivial⟩
  · have H := H.2 g29
    refine W_exit (inX_here ?_)
    show W _ _ _ _ _ _ _ _
    refine W_seq ?_
    refine W_region (.rl 0 (.ef 1 [] .fin .no)) rfl rfl ?_
    obtain ⟨x23, e24, H⟩ := H
    refine s_rl (d := some 16) (v := (.agg #[(.pointer x23)])) rfl rfl rfl (fun dr => r_loadN Try.isAgg44 Try.sizeOf44 (vs := [(.pointer x23)]) rfl rfl ⟨e24, trivial⟩) ?_
    obtain ⟨e26, H⟩ := H
    obtain ⟨h6, e25⟩ : ∃ hh : Heap, hh = hsets h3 p2 0 [(.pointer x23)] := ⟨_, rfl⟩
    have H := H h6 e25
    refine s_st (d := none) (h' := h6) rfl rfl rfl (fun dr => (r_store (v := (.agg #[(.pointer x23)])) Try.sizeOf44 rfl rfl rfl (one_all rfl) e26).trans (by rw [e25]; rfl)) trivial ?_ trivial
    refine s_fin ?_
    show W _ _ _ _ _ _ _ _
    refine W_ret ?_
    obtain ⟨x27, e28, H⟩ := H
    exact ⟨[(.agg #[(.pointer x27)])], ⟨_, _, _, rfl, rfl, fun dr => run_loadVarN Try.isAgg44 Try.sizeOf44 (vs := [(.pointer x27)]) rfl ⟨e28, trivial⟩, rfl⟩, x27, rfl, H⟩

/-! ### finger_Tree_PushRight -/

def finger_Tree_PushRight_F (r : World) (t1 : Option Addr) (x2 : Int) (h : Heap) (R : Option Addr → Heap → Prop) : Prop :=
  New h (.cells #[(.pointer t1)] 44) fun p3 h1 =>
  New h1 (.cells #[(.pointer none)] 44) fun p6 h2 =>
  LdP h2 (Addr.add p3 0) fun x9 =>
  finger_number r x2 h2 fun y11 h3 =>
  (hcell h3 (Addr.add p3 0) = some (.pointer x9)) ∧
  finger_pushRight r x9 y11 h3 fun y13 h4 =>
  St h4 p6 1 [(.pointer y13)] fun h5 =>
  LdP h5 (Addr.add p6 0) fun x16 =>
  R x16 h5

set_option maxRecDepth 100000 in
theorem finger_Tree_PushRight_of {r : World} {t1 : Option Addr} {x2 : Int} {h : Heap} {R : Option Addr → Heap → Prop} (H : finger_Tree_PushRight_F r t1 x2 h R) : finger_Tree_PushRight r t1 x2 h R := by
  unfold finger_Tree_PushRight_F at H
  refine calls_of 11 [.cell 4 44] Try.func40 rfl rfl rfl rfl rfl ?_
  refine W_seq ?_
  refine W_region (.ef 0 [] (.ef 1 [] .fin .no) .no) rfl rfl ?_
  obtain ⟨p3, e4⟩ : ∃ p : Addr, p = ⟨h.size, 0, none⟩ := ⟨_, rfl⟩
  obtain ⟨h1, e5⟩ : ∃ hh : Heap, hh = h.push (.cells #[(.pointer t1)] 44) := ⟨_, rfl⟩
  have H := H p3 h1 e4 e5
  refine s_ef1 (d := some 2) (v := (.pointer (some p3))) (h' := h1) rfl rfl rfl (fun dr => (r_box (v := (.agg #[(.pointer t1)])) rfl).trans (by rw [e4, e5]; rfl)) trivial ?_ trivial
  obtain ⟨p6, e7⟩ : ∃ p : Addr, p = ⟨h1.size, 0, none⟩ := ⟨_, rfl⟩
  obtain ⟨h2, e8⟩ : ∃ hh : Heap, hh = h1.push (.cells #[(.pointer none)] 44) := ⟨_, rfl⟩
  have H := H p6 h2 e7 e8
  refine s_ef1 (d := some 4) (v := (.pointer (some p6))) (h' := h2) rfl rfl rfl (fun dr => (r_alloc Try.zeroValue44).trans (by rw [e7, e8]; rfl)) trivial ?_ trivial
  refine s_fin ?_
  show W _ _ _ _ _ _ _ _
  refine W_seq ?_
  refine W_draw [0, 1, 0, 4, 15, 31, 63] (.pu 0 (.rd 1 (.pu 2 (.ef 3 [] (.ef 4 [1] (.pu 5 (.ef 6 [1] .fin .no)) .no) .no)))) (by kernel_rfl) (by kernel_rfl) ?_
  refine s_pu (d := some 5) (v := (.pointer (some (Addr.add p3 0)))) rfl rfl rfl (r_fieldAddr Try.underlying44 Try.sizeOf42 rfl rfl rfl) ?_
  obtain ⟨x9, e10, H⟩ := H
  refine s_rd (d := some 6) (v := (.pointer x9)) rfl rfl rfl (fun dr => r_load1 Try.isAgg42 rfl e10) ?_
  refine s_pu (d := some 7) (v := (.int .i64 x2)) rfl rfl rfl (r_move rfl) ?_
  refine s_ef (d := some 8) rfl rfl rfl (fun dr => r_call Try.call50 rfl rfl H) ?_ trivial
  rintro _ h3 ⟨y11, rfl, H⟩
  obtain ⟨e12, H⟩ := H
  refine ⟨⟨(.inl ⟨rfl, fun dr => r_load1 Try.isAgg42 rfl e12⟩), trivial⟩, ?_⟩
  refine s_ef (d := some 9) rfl rfl rfl (fun dr => r_call Try.call49 rfl rfl H) ?_ trivial
  rintro _ h4 ⟨y13, rfl, H⟩
  refine ⟨⟨trivial, trivial⟩, ?_⟩
  refine s_pu (d := some 10) (v := (.agg #[(.pointer y13)])) rfl rfl rfl (fun w => by kernel_rfl) ?_
  obtain ⟨e15, H⟩ := H
  obtain ⟨h5, e14⟩ : ∃ hh : Heap, hh = hsets h4 p6 0 [(.pointer y13)] := ⟨_, rfl⟩
  have H := H h5 e14
  refine s_st (d := none) (h' := h5) rfl rfl rfl (fun dr => (r_store (v := (.agg #[(.pointer y13)])) Try.sizeOf44 rfl rfl rfl (one_all rfl) e15).trans (by rw [e14]; rfl)) ⟨trivial, trivial⟩ ?_ trivial
  refine s_fin ?_
  show W _ _ _ _ _ _ _ _
  refine W_ret ?_
  obtain ⟨x16, e17, H⟩ := H
  exact ⟨[(.agg #[(.pointer x16)])], ⟨_, _, _, rfl, rfl, fun dr => run_loadVarN Try.isAgg44 Try.sizeOf44 (vs := [(.pointer x16)]) rfl ⟨e17, trivial⟩, rfl⟩, x16, rfl, H⟩

/-! ### finger_Tree_Measure -/

def finger_Tree_Measure_F (r : World) (t1 : Option Addr) (h : Heap) (R : Int → Int → Int → Int → Int → Heap → Prop) : Prop :=
  New h (.cells #[(.pointer t1)] 44) fun p2 h1 =>
  New h1 (.cells #[(.int .i64 0), (.int .i64 0), (.int .i64 0), (.int .i64 0), (.int .i64 0)] 40) fun p5 h2 =>
  LdP h2 (Addr.add p2 0) fun x8 =>
  finger_level_measure r x8 h2 fun y10 y11 y12 y13 y14 h3 =>
  St h3 p5 5 [(.int .i64 y10), (.int .i64 y11), (.int .i64 y12), (.int .i64 y13), (.int .i64 y14)] fun h4 =>
  LdI h4 (Addr.add p5 0) fun x17 =>
  LdI h4 (Addr.add p5 1) fun x19 =>
  LdI h4 (Addr.add p5 2) fun x21 =>
  LdI h4 (Addr.add p5 3) fun x23 =>
  LdI h4 (Addr.add p5 4) fun x25 =>
  R x17 x19 x21 x23 x25 h4

set_option maxRecDepth 100000 in
theorem finger_Tree_Measure_of {r : World} {t1 : Option Addr} {h : Heap} {R : Int → Int → Int → Int → Int → Heap → Prop} (H : finger_Tree_Measure_F r t1 h R) : finger_Tree_Measure r t1 h R := by
  unfold finger_Tree_Measure_F at H
  refine calls_of 6 [.cell 2 40] Try.func27 rfl rfl rfl rfl rfl ?_
  refine W_seq ?_
  refine W_region (.ef 0 [] (.ef 1 [] .fin .no) .no) rfl rfl ?_
  obtain ⟨p2, e3⟩ : ∃ p : Addr, p = ⟨h.size, 0, none⟩ := ⟨_, rfl⟩
  obtain ⟨h1, e4⟩ : ∃ hh : Heap, hh = h.push (.cells #[(.pointer t1)] 44) := ⟨_, rfl⟩
  have H := H p2 h1 e3 e4
  refine s_ef1 (d := some 1) (v := (.pointer (some p2))) (h' := h1) rfl rfl rfl (fun dr => (r_box (v := (.agg #[(.pointer t1)])) rfl).trans (by rw [e3, e4]; rfl)) trivial ?_ trivial
  obtain ⟨p5, e6⟩ : ∃ p : Addr, p = ⟨h1.size, 0, none⟩ := ⟨_, rfl⟩
  obtain ⟨h2, e7⟩ : ∃ hh : Heap, hh = h1.push (.cells #[(.int .i64 0), (.int .i64 0), (.int .i64 0), (.int .i64 0), (.int .i64 0)] 40) := ⟨_, rfl⟩
  have H := H p5 h2 e6 e7
  refine s_ef1 (d := some 2) (v := (.pointer (some p5))) (h' := h2) rfl rfl rfl (fun dr => (r_alloc Try.zeroValue40).trans (by rw [e6, e7]; rfl)) trivial ?_ trivial
  refine s_fin ?_
  show W _ _ _ _ _ _ _ _
  refine W_seq ?_
  refine W_region (.pu 0 (.rl 1 (.ef 2 [] (.ef 3 [] .fin .no) .no))) rfl rfl ?_
  refine s_pu (d := some 3) (v := (.pointer (some (Addr.add p2 0)))) rfl rfl rfl (r_fieldAddr Try.underlying44 Try.sizeOf42 rfl rfl rfl) ?_
  obtain ⟨x8, e9, H⟩ := H
  refine s_rl (d := some 4) (v := (.pointer x8)) rfl rfl rfl (fun dr => r_load1 Try.isAgg42 rfl e9) ?_
  refine s_ef (d := some 5) rfl rfl rfl (fun dr => r_call Try.call43 rfl rfl H) ?_ trivial
  rintro _ h3 ⟨y10, y11, y12, y13, y14, rfl, H⟩
  refine ⟨trivial, ?_⟩
  obtain ⟨e16, H⟩ := H
  obtain ⟨h4, e15⟩ : ∃ hh : Heap, hh = hsets h3 p5 0 [(.int .i64 y10), (.int .i64 y11), (.int .i64 y12), (.int .i64 y13), (.int .i64 y14)] := ⟨_, rfl⟩
  have H := H h4 e15
  refine s_st (d := none) (h' := h4) rfl rfl rfl (fun dr => (r_store (v := (.agg #[(.int .i64 y10), (.int .i64 y11), (.int .i64 y12), (.int .i64 y13), (.int .i64 y14)])) Try.sizeOf40 rfl rfl rfl (one_all rfl) e16).trans (by rw [e15]; rfl)) trivial ?_ trivial
  refine s_fin ?_
  show W _ _ _ _ _ _ _ _
  refine W_ret ?_
  obtain ⟨x17, e18, H⟩ := H
  obtain ⟨x19, e20, H⟩ := H
  obtain ⟨x21, e22, H⟩ := H
  obtain ⟨x23, e24, H⟩ := H
  obtain ⟨x25, e26, H⟩ := H
  exact ⟨[(.agg #[(.int .i64 x17), (.int .i64 x19), (.int .i64 x21), (.int .i64 x23), (.int .i64 x25)])], ⟨_, _, _, rfl, rfl, fun dr => run_loadVarN Try.isAgg40 Try.sizeOf40 (vs := [(.int .i64 x17), (.int .i64 x19), (.int .i64 x21), (.int .i64 x23), (.int .i64 x25)]) rfl ⟨e18, e20, e22, e24, e26, trivial⟩, rfl⟩, x17, x19, x21, x23, x25, rfl, H⟩

/-! ### finger_Tree_Split -/

def finger_Tree_Split_F (r : World) (t1 : Option Addr) (p2 : Value) (h : Heap) (R : Option Addr → Option Addr → Heap → Prop) : Prop :=
  New h (.cells #[(.pointer t1)] 44) fun p3 h1 =>
  New h1 (.cells #[(.pointer none)] 44) fun p6 h2 =>
  New h2 (.cells #[(.pointer none)] 44) fun p9 h3 =>
  ∀ J13 : Bool → Heap → Prop, (∀ (x12 : Bool) (h4 : Heap),
    (Br x12 (
      LdP h4 (Addr.add p3 0) fun x15 =>
      St h4 p6 1 [(.pointer x15)] fun h5 =>
      St h5 p9 1 [(.pointer none)] fun h6 =>
      LdP h6 (Addr.add p6 0) fun x21 =>
      LdP h6 (Addr.add p9 0) fun x23 =>
      R x21 x23 h6) (
      mono_None r h4 fun y25 y26 y27 y28 y29 h7 =>
      CallV Try.prog r p2 [(.agg #[(.int .i64 y25), (.int .i64 y26), (.int .i64 y27), (.int .i64 y28), (.int .i64 y29)])] h7 fun v63 h8 => ∃ (y30 : Bool), v63 = (.bool y30) ∧
      Br y30 (
        LdP h8 (Addr.add p3 0) fun x31 =>
        St h8 p6 1 [(.pointer none)] fun h9 =>
        (hcell h9 (Addr.add p3 0) = some (.pointer x31)) ∧
        St h9 p9 1 [(.pointer x31)] fun h10 =>
        LdP h10 (Addr.add p6 0) fun x38 =>
        LdP h10 (Addr.add p9 0) fun x40 =>
        R x38 x40 h10) (
        LdP h8 (Addr.add p3 0) fun x42 =>
        mono_None r h8 fun y44 y45 y46 y47 y48 h11 =>
        (hcell h11 (Addr.add p3 0) = some (.pointer x42)) ∧
        finger_asker_cut r p2 y44 y45 y46 y47 y48 x42 h11 fun y50 y51 y52 h12 =>
        finger_pushLeft r y51 y52 h12 fun y53 h13 =>
        St h13 p6 1 [(.pointer y50)] fun h14 =>
        St h14 p9 1 [(.pointer y53)] fun h15 =>
        LdP h15 (Addr.add p6 0) fun x58 =>
        LdP h15 (Addr.add p9 0) fun x60 =>
        R x58 x60 h15))) →
    J13 x12 h4) →
  LdP h3 (Addr.add p3 0) fun x65 =>
  Br (Option.isNone x65) (
    J13 true h3) (
    LdP h3 (Addr.add p3 0) fun x68 =>
    Ck x68 fun p70 =>
    LdI h3 (Addr.add (Addr.add p70 0) 0) fun x72 =>
    LdI h3 (Addr.add (Addr.add p70 0) 1) fun x74 =>
    LdI h3 (Addr.add (Addr.add p70 0) 2) fun x76 =>
    LdI h3 (Addr.add (Addr.add p70 0) 3) fun x78 =>
    LdI h3 (Addr.add (Addr.add p70 0) 4) fun x80 =>
    CallV Try.prog r p2 [(.agg #[(.int .i64 x72), (.int .i64 x74), (.int .i64 x76), (.int .i64 x78), (.int .i64 x80)])] h3 fun v83 h16 => ∃ (y82 : Bool), v83 = (.bool y82) ∧
    J13 (!y82) h16)

set_option maxRecDepth 100000 in
theorem finger_Tree_Split_of {r : World} {t1 : Option Addr} {p2 : Value} {h : Heap} {R : Option Addr → Option Addr → Heap → Prop} (H : finger_Tree_Split_F r t1 p2 h R) : finger_Tree_Split r t1 p2 h R := by
  unfold finger_Tree_Split_F at H
  refine calls_of 44 [.cell 4 44, .cell 5 44] Try.func51 rfl rfl rfl rfl rfl ?_
  refine W_seq ?_
  refine W_region (.ef 0 [] (.ef 1 [] (.ef 2 [] .fin .no) .no) .no) rfl rfl ?_
  obtain ⟨p3, e4⟩ : ∃ p : Addr, p = ⟨h.size, 0, none⟩ := ⟨_, rfl⟩
  obtain ⟨h1, e5⟩ : ∃ hh : Heap, hh = h.push (.cells #[(.pointer t1)] 44) := ⟨_, rfl⟩
  have H := H p3 h1 e4 e5
  refine s_ef1 (d := some 2) (v := (.pointer (some p3))) (h' := h1) rfl rfl rfl (fun dr => (r_box (v := (.agg #[(.pointer t1)])) rfl).trans (by rw [e4, e5]; rfl)) trivial ?_ trivial
  obtain ⟨p6, e7⟩ : ∃ p : Addr, p = ⟨h1.size, 0, none⟩ := ⟨_, rfl⟩
  obtain ⟨h2, e8⟩ : ∃ hh : Heap, hh = h1.push (.cells #[(.pointer none)] 44) := ⟨_, rfl⟩
  have H := H p6 h2 e7 e8
  refine s_ef1 (d := some 4) (v := (.pointer (some p6))) (h' := h2) rfl rfl rfl (fun dr => (r_alloc Try.zeroValue44).trans (by rw [e7, e8]; rfl)) trivial ?_ trivial
  obtain ⟨p9, e10⟩ : ∃ p : Addr, p = ⟨h2.size, 0, none⟩ := ⟨_, rfl⟩
  obtain ⟨h3, e11⟩ : ∃ hh : Heap, hh = h2.push (.cells #[(.pointer none)] 44) := ⟨_, rfl⟩
  have H := H p9 h3 e10 e11
  refine s_ef1 (d := some 5) (v := (.pointer (some p9))) (h' := h3) rfl rfl rfl (fun dr => (r_alloc Try.zeroValue44).trans (by rw [e10, e11]; rfl)) trivial ?_ trivial
  refine s_fin ?_
  show W _ _ _ _ _ _ _ _
  refine W_seq ?_
  refine W_seq ?_
  refine W_set ?_
  intro N14 eN14
  have H := H (fun (x12 : Bool) (h4 : Heap) => ∀ b, N14 [] (mkE [(1, p2), (2, (.pointer (some p3))), (4, (.pointer (some p6))), (5, (.pointer (some p9))), (21, (.bool x12))] b) h4) (by
    intro x12 h4 H b
    rw [eN14]
    show W _ _ _ _ _ _ _ _
    refine W_if x12 rfl (fun g64 => ?_) (fun g64 => ?_)
    · have H := H.1 g64
      refine W_seq ?_
      refine W_region (.rl 0 (.pu 1 (.ef 2 [] (.ef 3 [] .fin .no) .no))) rfl rfl ?_
      obtain ⟨x15, e16, H⟩ := H
      refine s_rl (d := some 22) (v := (.agg #[(.pointer x15)])) rfl rfl rfl (fun dr => r_loadN Try.isAgg44 Try.sizeOf44 (vs := [(.pointer x15)]) rfl rfl ⟨e16, trivial⟩) ?_
      refine s_pu (d := some 23) (v := (.agg #[(.pointer none)])) rfl rfl rfl (fun w => by kernel_rfl) ?_
      obtain ⟨e18, H⟩ := H
      obtain ⟨h5, e17⟩ : ∃ hh : Heap, hh = hsets h4 p6 0 [(.pointer x15)] := ⟨_, rfl⟩
      have H := H h5 e17
      refine s_st (d := none) (h' := h5) rfl rfl rfl (fun dr => (r_store (v := (.agg #[(.pointer x15)])) Try.sizeOf44 rfl rfl rfl (one_all rfl) e18).trans (by rw [e17]; rfl)) trivial ?_ trivial
      obtain ⟨e20, H⟩ := H
      obtain ⟨h6, e19⟩ : ∃ hh : Heap, hh = hsets h5 p9 0 [(.pointer none)] := ⟨_, rfl⟩
      have H := H h6 e19
      refine s_st (d := none) (h' := h6) rfl rfl rfl (fun dr => (r_store (v := (.agg #[(.pointer none)])) Try.sizeOf44 rfl rfl rfl (one_all rfl) e20).trans (by rw [e19]; rfl)) trivial ?_ trivial
      refine s_fin ?_
      show W _ _ _ _ _ _ _ _
      refine W_ret ?_
      obtain ⟨x21, e22, H⟩ := H
      obtain ⟨x23, e24, H⟩ := H
      exact ⟨[(.agg #[(.pointer x21)]), (.agg #[(.pointer x23)])], ⟨_, _, _, rfl, rfl, fun dr => run_loadVarN Try.isAgg44 Try.sizeOf44 (vs := [(.pointer x21)]) rfl ⟨e22, trivial⟩, ⟨_, _, _, rfl, rfl, fun dr => run_loadVarN Try.isAgg44 Try.sizeOf44 (vs := [(.pointer x23)]) rfl ⟨e24, trivial⟩, rfl⟩⟩, x21, x23, rfl, H⟩
    · have H := H.2 g64
      refine W_skip ?_
      show W _ _ _ _ _ _ _ _
      refine W_seq ?_
      refine W_seq ?_
      refine W_region (.pu 0 (.ef 1 [] (.ef 2 [] .fin .no) .no)) rfl rfl ?_
      refine s_pu (d := some 24) (v := p2) rfl rfl rfl (r_move rfl) ?_
      refine s_ef (d := some 25) rfl rfl rfl (fun dr => r_call Try.call30 rfl rfl H) ?_ trivial
      rintro _ h7 ⟨y25, y26, y27, y28, y29, rfl, H⟩
      refine ⟨trivial, ?_⟩
      refine s_ef (d := some 26) rfl rfl rfl (fun dr => r_callV rfl rfl H) ?_ trivial
      rintro _ h8 ⟨y30, rfl, H⟩
      refine ⟨trivial, ?_⟩
      refine s_fin ?_
      show W _ _ _ _ _ _ _ _
      refine W_if y30 rfl (fun g62 => ?_) (fun g62 => ?_)
      · have H := H.1 g62
        refine W_seq ?_
        refine W_draw [0, 0, 1, 7] (.pu 0 (.rd 1 (.ef 2 [] (.ef 3 [1] .fin .no) .no))) (by kernel_rfl) (by kernel_rfl) ?_
        refine s_pu (d := some 27) (v := (.agg #[(.pointer none)])) rfl rfl rfl (fun w => by kernel_rfl) ?_
        obtain ⟨x31, e32, H⟩ := H
        refine s_rd (d := some 28) (v := (.agg #[(.pointer x31)])) rfl rfl rfl (fun dr => r_loadN Try.isAgg44 Try.sizeOf44 (vs := [(.pointer x31)]) rfl rfl ⟨e32, trivial⟩) ?_
        obtain ⟨e34, H⟩ := H
        obtain ⟨h9, e33⟩ : ∃ hh : Heap, hh = hsets h8 p6 0 [(.pointer none)] := ⟨_, rfl⟩
        have H := H h9 e33
        obtain ⟨e35, H⟩ := H
        refine s_st (d := none) (h' := h9) rfl rfl rfl (fun dr => (r_store (v := (.agg #[(.pointer none)])) Try.sizeOf44 rfl rfl rfl (one_all rfl) e34).trans (by rw [e33]; rfl)) ⟨(.inl ⟨rfl, fun dr => r_loadN Try.isAgg44 Try.sizeOf44 (vs := [(.pointer x31)]) rfl rfl ⟨e35, trivial⟩⟩), trivial⟩ ?_ trivial
        obtain ⟨e37, H⟩ := H
        obtain ⟨h10, e36⟩ : ∃ hh : Heap, hh = hsets h9 p9 0 [(.pointer x31)] := ⟨_, rfl⟩
        have H := H h10 e36
        refine s_st (d := none) (h' := h10) rfl rfl rfl (fun dr => (r_store (v := (.agg #[(.pointer x31)])) Try.sizeOf44 rfl rfl rfl (one_all rfl) e37).trans (by rw [e36]; rfl)) ⟨trivial, trivial⟩ ?_ trivial
        refine s_fin ?_
        show W _ _ _ _ _ _ _ _
        refine W_ret ?_
        obtain ⟨x38, e39, H⟩ := H
        obtain ⟨x40, e41, H⟩ := H
        exact ⟨[(.agg #[(.pointer x38)]), (.agg #[(.pointer x40)])], ⟨_, _, _, rfl, rfl, fun dr => run_loadVarN Try.isAgg44 Try.sizeOf44 (vs := [(.pointer x38)]) rfl ⟨e39, trivial⟩, ⟨_, _, _, rfl, rfl, fun dr => run_loadVarN Try.isAgg44 Try.sizeOf44 (vs := [(.pointer x40)]) rfl ⟨e41, trivial⟩, rfl⟩⟩, x38, x40, rfl, H⟩
      · have H := H.2 g62
        refine W_skip ?_
        show W _ _ _ _ _ _ _ _
        refine W_seq ?_
        refine W_draw [0, 0, 0, 4, 15, 31, 63, 63, 63, 127, 767, 2047] (.pu 0 (.pu 2 (.rd 3 (.ef 1 [] (.ef 4 [3] (.pu 5 (.pu 6 (.pu 7 (.pu 8 (.pu 9 (.pu 10 (.pu 11 .fin))))))) .no) .no)))) (by kernel_rfl) (by kernel_rfl) ?_
        refine s_pu (d := some 30) (v := p2) rfl rfl rfl (r_move rfl) ?_
        refine s_pu (d := some 32) (v := (.pointer (some (Addr.add p3 0)))) rfl rfl rfl (r_fieldAddr Try.underlying44 Try.sizeOf42 rfl rfl rfl) ?_
        obtain ⟨x42, e43, H⟩ := H
        refine s_rd (d := some 33) (v := (.pointer x42)) rfl rfl rfl (fun dr => r_load1 Try.isAgg42 rfl e43) ?_
        refine s_ef (d := some 31) rfl rfl rfl (fun dr => r_call Try.call30 rfl rfl H) ?_ trivial
        rintro _ h11 ⟨y44, y45, y46, y47, y48, rfl, H⟩
        obtain ⟨e49, H⟩ := H
        refine ⟨⟨(.inl ⟨rfl, fun dr => r_load1 Try.isAgg42 rfl e49⟩), trivial⟩, ?_⟩
        refine s_ef (d := some 34) rfl rfl rfl (fun dr => r_call Try.call60 rfl rfl H) ?_ trivial
        rintro _ h12 ⟨y50, y51, y52, rfl, H⟩
        refine ⟨⟨trivial, trivial⟩, ?_⟩
        refine s_pu (d := some 29) (v := (.tuple #[(.pointer y50), (.pointer y51), (.pointer y52)])) rfl rfl rfl (r_move rfl) ?_
        refine s_pu (d := some 35) (v := (.pointer y50)) rfl rfl rfl (r_extract rfl rfl) ?_
        refine s_pu (d := some 36) (v := (.pointer y51)) rfl rfl rfl (r_extract rfl rfl) ?_
        refine s_pu (d := some 37) (v := (.pointer y52)) rfl rfl rfl (r_extract rfl rfl) ?_
        refine s_pu (d := some 6) (v := (.pointer y50)) rfl rfl rfl (r_assign rfl) ?_
        refine s_pu (d := some 7) (v := (.pointer y51)) rfl rfl rfl (r_assign rfl) ?_
        refine s_pu (d := some 8) (v := (.pointer y52)) rfl rfl rfl (r_assign rfl) ?_
        refine s_fin ?_
        show W _ _ _ _ _ _ _ _
        refine W_seq ?_
        refine W_region (.pu 0 (.pu 1 (.pu 2 (.pu 3 (.ef 4 [] (.pu 5 (.ef 6 [] (.ef 7 [] .fin .no) .no)) .no))))) rfl rfl ?_
        refine s_pu (d := some 38) (v := (.pointer y50)) rfl rfl rfl (r_move rfl) ?_
        refine s_pu (d := some 39) (v := (.agg #[(.pointer y50)])) rfl rfl rfl (fun w => by kernel_rfl) ?_
        refine s_pu (d := some 40) (v := (.pointer y51)) rfl rfl rfl (r_move rfl) ?_
        refine s_pu (d := some 41) (v := (.pointer y52)) rfl rfl rfl (r_move rfl) ?_
        refine s_ef (d := some 42) rfl rfl rfl (fun dr => r_call Try.call61 rfl rfl H) ?_ trivial
        rintro _ h13 ⟨y53, rfl, H⟩
        refine ⟨trivial, ?_⟩
        refine s_pu (d := some 43) (v := (.agg #[(.pointer y53)])) rfl rfl rfl (fun w => by kernel_rfl) ?_
        obtain ⟨e55, H⟩ := H
        obtain ⟨h14, e54⟩ : ∃ hh : Heap, hh = hsets h13 p6 0 [(.pointer y50)] := ⟨_, rfl⟩
        have H := H h14 e54
        refine s_st (d := none) (h' := h14) rfl rfl rfl (fun dr => (r_store (v := (.agg #[(.pointer y50)])) Try.sizeOf44 rfl rfl rfl (one_all rfl) e55).trans (by rw [e54]; rfl)) trivial ?_ trivial
        obtain ⟨e57, H⟩ := H
        obtain ⟨h15, e56⟩ : ∃ hh : Heap, hh = hsets h14 p9 0 [(.pointer y53)] := ⟨_, rfl⟩
        have H := H h15 e56
        refine s_st (d := none) (h' := h15) rfl rfl rfl (fun dr => (r_store (v := (.agg #[(.pointer y53)])) Try.sizeOf44 rfl rfl rfl (one_all rfl) e57).trans (by rw [e56]; rfl)) trivial ?_ trivial
        refine s_fin ?_
        show W _ _ _ _ _ _ _ _
        refine W_ret ?_
        obtain ⟨x58, e59, H⟩ := H
        obtain ⟨x60, e61, H⟩ := H
        exact ⟨[(.agg #[(.pointer x58)]), (.agg #[(.pointer x60)])], ⟨_, _, _, rfl, rfl, fun dr => run_loadVarN Try.isAgg44 Try.sizeOf44 (vs := [(.pointer x58)]) rfl ⟨e59, trivial⟩, ⟨_, _, _, rfl, rfl, fun dr => run_loadVarN Try.isAgg44 Try.sizeOf44 (vs := [(.pointer x60)]) rfl ⟨e61, trivial⟩, rfl⟩⟩, x58, x60, rfl, H⟩)
  clear eN14
  refine W_region (.pu 0 (.rl 1 (.pu 2 (.pu 3 (.pu 4 (.pu 5 (.rl 6 (.pu 7 (.pu 8 (.rl 9 (.ef 10 [] (.pu 11 (.pu 12 .fin)) .no))))))))))) rfl rfl ?_
  refine s_pu (d := some 9) (v := (.pointer (some (Addr.add p3 0)))) rfl rfl rfl (r_fieldAddr Try.underlying44 Try.sizeOf42 rfl rfl rfl) ?_
  obtain ⟨x65, e66, H⟩ := H
  refine s_rl (d := some 10) (v := (.pointer x65)) rfl rfl rfl (fun dr => r_load1 Try.isAgg42 rfl e66) ?_
  refine s_pu (d := some 11) (v := (.bool (Option.isNone x65))) rfl rfl rfl (r_nilP Try.underlying42 rfl rfl) ?_
  refine s_pu (d := some 12) (v := (.bool (Option.isNone x65))) rfl rfl rfl (r_move rfl) ?_
  rcases Bool.eq_false_or_eq_true (Option.isNone x65) with g67 | g67
  · have H := H.1 g67
    refine s_sk (d := some 13) rfl rfl (wants_no rfl rfl rfl rfl g67) ?_
    refine s_sk (d := some 14) rfl rfl (wants_no rfl rfl rfl rfl g67) ?_
    refine s_skl (d := some 15) rfl rfl (wants_no rfl rfl rfl rfl g67) ?_
    refine s_sk (d := some 16) rfl rfl (wants_no rfl rfl rfl rfl g67) ?_
    refine s_sk (d := some 17) rfl rfl (wants_no rfl rfl rfl rfl g67) ?_
    refine s_skl (d := some 18) rfl rfl (wants_no rfl rfl rfl rfl g67) ?_
    refine s_skf (d := some 19) rfl rfl (wants_no rfl rfl rfl rfl g67) trivial ?_ trivial
    refine s_sk (d := some 20) rfl rfl (wants_no rfl rfl rfl rfl g67) ?_
    refine s_pu (d := some 21) (v := (.bool true)) rfl rfl rfl (r_pick1 rfl g67 rfl) ?_
    refine s_fin ?_
    exact N_mk (l := [(1, p2), (2, (.pointer (some p3))), (4, (.pointer (some p6))), (5, (.pointer (some p9))), (21, (.bool true))]) H ⟨rfl, rfl, rfl, rfl, rfl, trivial⟩
  · have H := H.2 g67
    refine s_pu (d := some 13) (v := p2) rfl rfl (wants_yes rfl rfl rfl rfl g67) (r_move rfl) ?_
    refine s_pu (d := some 14) (v := (.pointer (some (Addr.add p3 0)))) rfl rfl (wants_yes rfl rfl rfl rfl g67) (r_fieldAddr Try.underlying44 Try.sizeOf42 rfl rfl rfl) ?_
    obtain ⟨x68, e69, H⟩ := H
    refine s_rl (d := some 15) (v := (.pointer x68)) rfl rfl (wants_yes rfl rfl rfl rfl g67) (fun dr => r_load1 Try.isAgg42 rfl e69) ?_
    obtain ⟨p70, e71, H⟩ := H
    refine s_pu (d := some 16) (v := (.pointer (some p70))) rfl rfl (wants_yes rfl rfl rfl rfl g67) (r_nilCheck rfl e71) ?_
    refine s_pu (d := some 17) (v := (.pointer (some (Addr.add p70 0)))) rfl rfl (wants_yes rfl rfl rfl rfl g67) (r_fieldAddr Try.underlying104 Try.sizeOf40 rfl rfl rfl) ?_
    obtain ⟨x72, e73, H⟩ := H
    obtain ⟨x74, e75, H⟩ := H
    obtain ⟨x76, e77, H⟩ := H
    obtain ⟨x78, e79, H⟩ := H
    obtain ⟨x80, e81, H⟩ := H
    refine s_rl (d := some 18) (v := (.agg #[(.int .i64 x72), (.int .i64 x74), (.int .i64 x76), (.int .i64 x78), (.int .i64 x80)])) rfl rfl (wants_yes rfl rfl rfl rfl g67) (fun dr => r_loadN Try.isAgg40 Try.sizeOf40 (vs := [(.int .i64 x72), (.int .i64 x74), (.int .i64 x76), (.int .i64 x78), (.int .i64 x80)]) rfl rfl ⟨e73, e75, e77, e79, e81, trivial⟩) ?_
    refine s_ef (d := some 19) rfl rfl (wants_yes rfl rfl rfl rfl g67) (fun dr => r_callV rfl rfl H) ?_ trivial
    rintro _ h16 ⟨y82, rfl, H⟩
    refine ⟨trivial, ?_⟩
    refine s_pu (d := some 20) (v := (.bool (!y82))) rfl rfl (wants_yes rfl rfl rfl rfl g67) (r_not rfl) ?_
    refine s_pu (d := some 21) (v := (.bool (!y82))) rfl rfl rfl (r_pick0 rfl g67 rfl) ?_
    refine s_fin ?_
    exact N_mk (l := [(1, p2), (2, (.pointer (some p3))), (4, (.pointer (some p6))), (5, (.pointer (some p9))), (21, (.bool (!y82)))]) H ⟨rfl, rfl, rfl, rfl, rfl, trivial⟩

/-! ### seq_Of -/

def seq_Of_F (r : World) (l1 : Sl) (h : Heap) (R : Option Addr → Heap → Prop) : Prop :=
  New h (.cells #[(.pointer none)] 46) fun p2 h1 =>
  finger_Of r l1 h1 fun y5 h2 =>
  St h2 p2 1 [(.pointer y5)] fun h3 =>
  LdP h3 (Addr.add p2 0) fun x8 =>
  R x8 h3

set_option maxRecDepth 100000 in
theorem seq_Of_of {r : World} {l1 : Sl} {h : Heap} {R : Option Addr → Heap → Prop} (H : seq_Of_F r l1 h R) : seq_Of r l1 h R := by
  unfold seq_Of_F at H
  refine calls_of 6 [.cell 2 46] Try.func11 rfl rfl rfl rfl rfl ?_
  refine W_seq ?_
  refine W_region (.ef 0 [] .fin .no) rfl rfl ?_
  obtain ⟨p2, e3⟩ : ∃ p : Addr, p = ⟨h.size, 0, none⟩ := ⟨_, rfl⟩
  obtain ⟨h1, e4⟩ : ∃ hh : Heap, hh = h.push (.cells #[(.pointer none)] 46) := ⟨_, rfl⟩
  have H := H p2 h1 e3 e4
  refine s_ef1 (d := some 2) (v := (.pointer (some p2))) (h' := h1) rfl rfl rfl (fun dr => (r_alloc Try.zeroValue46).trans (by rw [e3, e4]; rfl)) trivial ?_ trivial
  refine s_fin ?_
  show W _ _ _ _ _ _ _ _
  refine W_seq ?_
  refine W_region (.pu 0 (.ef 1 [] (.pu 2 (.ef 3 [] .fin .no)) .no)) rfl rfl ?_
  refine s_pu (d := some 3) (v := (Sl.v l1)) rfl rfl rfl (r_move rfl) ?_
  refine s_ef (d := some 4) rfl rfl rfl (fun dr => r_call Try.call25 rfl rfl H) ?_ trivial
  rintro _ h2 ⟨y5, rfl, H⟩
  refine ⟨trivial, ?_⟩
  refine s_pu (d := some 5) (v := (.agg #[(.pointer y5)])) rfl rfl rfl (fun w => by kernel_rfl) ?_
  obtain ⟨e7, H⟩ := H
  obtain ⟨h3, e6⟩ : ∃ hh : Heap, hh = hsets h2 p2 0 [(.pointer y5)] := ⟨_, rfl⟩
  have H := H h3 e6
  refine s_st (d := none) (h' := h3) rfl rfl rfl (fun dr => (r_store (v := (.agg #[(.pointer y5)])) Try.sizeOf46 rfl rfl rfl (one_all rfl) e7).trans (by rw [e6]; rfl)) trivial ?_ trivial
  refine s_fin ?_
  show W _ _ _ _ _ _ _ _
  refine W_ret ?_
  obtain ⟨x8, e9, H⟩ := H
  exact ⟨[(.agg #[(.pointer x8)])], ⟨_, _, _, rfl, rfl, fun dr => run_loadVarN Try.isAgg46 Try.sizeOf46 (vs := [(.pointer x8)]) rfl ⟨e9, trivial⟩, rfl⟩, x8, rfl, H⟩

/-! ### seq_Seq_Len -/

def seq_Seq_Len_F (r : World) (s1 : Option Addr) (h : Heap) (R : Int → Heap → Prop) : Prop :=
  New h (.cells #[(.pointer s1)] 46) fun p2 h1 =>
  LdP h1 (Addr.add (Addr.add p2 0) 0) fun x5 =>
  finger_Tree_Measure r x5 h1 fun y7 y8 y9 y10 y11 h2 =>
  R y7 h2

set_option maxRecDepth 100000 in
theorem seq_Seq_Len_of {r : World} {s1 : Option Addr} {h : Heap} {R : Int → Heap → Prop} (H : seq_Seq_Len_F r s1 h R) : seq_Seq_Len r s1 h R := by
  unfold seq_Seq_Len_F at H
  refine calls_of 7 [.tmp 2] Try.func41 rfl rfl rfl rfl rfl ?_
  refine W_seq ?_
  refine W_region (.ef 0 [] (.pu 1 .fin) .no) rfl rfl ?_
  obtain ⟨p2, e3⟩ : ∃ p : Addr, p = ⟨h.size, 0, none⟩ := ⟨_, rfl⟩
  obtain ⟨h1, e4⟩ : ∃ hh : Heap, hh = h.push (.cells #[(.pointer s1)] 46) := ⟨_, rfl⟩
  have H := H p2 h1 e3 e4
  refine s_ef1 (d := some 1) (v := (.pointer (some p2))) (h' := h1) rfl rfl rfl (fun dr => (r_box (v := (.agg #[(.pointer s1)])) rfl).trans (by rw [e3, e4]; rfl)) trivial ?_ trivial
  refine s_pu (d := some 2) (v := (.int .i64 0)) rfl rfl rfl (r_assign rfl) ?_
  refine s_fin ?_
  show W _ _ _ _ _ _ _ _
  refine W_seq ?_
  refine W_region (.pu 0 (.rl 1 (.ef 2 [] (.pu 3 (.pu 4 .fin)) .no))) rfl rfl ?_
  refine s_pu (d := some 3) (v := (.pointer (some (Addr.add p2 0)))) rfl rfl rfl (r_fieldAddr Try.underlying46 Try.sizeOf44 rfl rfl rfl) ?_
  obtain ⟨x5, e6, H⟩ := H
  refine s_rl (d := some 4) (v := (.agg #[(.pointer x5)])) rfl rfl rfl (fun dr => r_loadN Try.isAgg44 Try.sizeOf44 (vs := [(.pointer x5)]) rfl rfl ⟨e6, trivial⟩) ?_
  refine s_ef (d := some 5) rfl rfl rfl (fun dr => r_call Try.call27 rfl rfl H) ?_ trivial
  rintro _ h2 ⟨y7, y8, y9, y10, y11, rfl, H⟩
  refine ⟨trivial, ?_⟩
  refine s_pu (d := some 6) (v := (.int .i64 y7)) rfl rfl rfl (fun w => by kernel_rfl) ?_
  refine s_pu (d := some 2) (v := (.int .i64 y7)) rfl rfl rfl (r_assign rfl) ?_
  refine s_fin ?_
  show W _ _ _ _ _ _ _ _
  refine W_ret ?_
  exact ⟨[(.int .i64 y7)], ⟨_, _, rfl, rfl, rfl⟩, y7, rfl, H⟩

/-! ### seq_Seq_cut -/

def seq_Seq_cut_F (r : World) (s1 : Option Addr) (i2 : Int) (h : Heap) (R : Option Addr → Option Addr → Heap → Prop) : Prop :=
  New h (.cells #[(.pointer s1)] 46) fun p3 h1 =>
  New h1 (.cells #[(.int .i64 i2)] 3) fun p6 h2 =>
  New h2 (.cells #[(.pointer none)] 44) fun p9 h3 =>
  New h3 (.cells #[(.pointer none)] 44) fun p12 h4 =>
  LdP h4 (Addr.add (Addr.add p3 0) 0) fun x15 =>
  finger_Tree_Split r x15 ((.func (.func 52) #[] #[(.pointer (some p6))])) h4 fun y17 y18 h5 =>
  St h5 p9 1 [(.pointer y17)] fun h6 =>
  St h6 p12 1 [(.pointer y18)] fun h7 =>
  LdP h7 (Addr.add p9 0) fun x23 =>
  LdP h7 (Addr.add p12 0) fun x25 =>
  R x23 x25 h7

set_option maxRecDepth 100000 in
theorem seq_Seq_cut_of {r : World} {s1 : Option Addr} {i2 : Int} {h : Heap} {R : Option Addr → Option Addr → Heap → Prop} (H : seq_Seq_cut_F r s1 i2 h R) : seq_Seq_cut r s1 i2 h R := by
  unfold seq_Seq_cut_F at H
  refine calls_of 12 [.cell 4 44, .cell 5 44] Try.func42 rfl rfl rfl rfl rfl ?_
  refine W_seq ?_
  refine W_region (.ef 0 [] (.ef 1 [] (.ef 2 [] (.ef 3 [] .fin .no) .no) .no) .no) rfl rfl ?_
  obtain ⟨p3, e4⟩ : ∃ p : Addr, p = ⟨h.size, 0, none⟩ := ⟨_, rfl⟩
  obtain ⟨h1, e5⟩ : ∃ hh : Heap, hh = h.push (.cells #[(.pointer s1)] 46) := ⟨_, rfl⟩
  have H := H p3 h1 e4 e5
  refine s_ef1 (d := some 2) (v := (.pointer (some p3))) (h' := h1) rfl rfl rfl (fun dr => (r_box (v := (.agg #[(.pointer s1)])) rfl).trans (by rw [e4, e5]; rfl)) trivial ?_ trivial
  obtain ⟨p6, e7⟩ : ∃ p : Addr, p = ⟨h1.size, 0, none⟩ := ⟨_, rfl⟩
  obtain ⟨h2, e8⟩ : ∃ hh : Heap, hh = h1.push (.cells #[(.int .i64 i2)] 3) := ⟨_, rfl⟩
  have H := H p6 h2 e7 e8
  refine s_ef1 (d := some 3) (v := (.pointer (some p6))) (h' := h2) rfl rfl rfl (fun dr => (r_box (v := (.int .i64 i2)) rfl).trans (by rw [e7, e8]; rfl)) trivial ?_ trivial
  obtain ⟨p9, e10⟩ : ∃ p : Addr, p = ⟨h2.size, 0, none⟩ := ⟨_, rfl⟩
  obtain ⟨h3, e11⟩ : ∃ hh : Heap, hh = h2.push (.cells #[(.pointer none)] 44) := ⟨_, rfl⟩
  have H := H p9 h3 e10 e11
  refine s_ef1 (d := some 4) (v := (.pointer (some p9))) (h' := h3) rfl rfl rfl (fun dr => (r_alloc Try.zeroValue44).trans (by rw [e10, e11]; rfl)) trivial ?_ trivial
  obtain ⟨p12, e13⟩ : ∃ p : Addr, p = ⟨h3.size, 0, none⟩ := ⟨_, rfl⟩
  obtain ⟨h4, e14⟩ : ∃ hh : Heap, hh = h3.push (.cells #[(.pointer none)] 44) := ⟨_, rfl⟩
  have H := H p12 h4 e13 e14
  refine s_ef1 (d := some 5) (v := (.pointer (some p12))) (h' := h4) rfl rfl rfl (fun dr => (r_alloc Try.zeroValue44).trans (by rw [e13, e14]; rfl)) trivial ?_ trivial
  refine s_fin ?_
  show W _ _ _ _ _ _ _ _
  refine W_seq ?_
  refine W_region (.pu 0 (.rl 1 (.pu 2 (.ef 3 [] (.pu 4 (.pu 5 (.ef 6 [] (.ef 7 [] .fin .no) .no))) .no)))) rfl rfl ?_
  refine s_pu (d := some 6) (v := (.pointer (some (Addr.add p3 0)))) rfl rfl rfl (r_fieldAddr Try.underlying46 Try.sizeOf44 rfl rfl rfl) ?_
  obtain ⟨x15, e16, H⟩ := H
  refine s_rl (d := some 7) (v := (.agg #[(.pointer x15)])) rfl rfl rfl (fun dr => r_loadN Try.isAgg44 Try.sizeOf44 (vs := [(.pointer x15)]) rfl rfl ⟨e16, trivial⟩) ?_
  refine s_pu (d := some 8) (v := ((.func (.func 52) #[] #[(.pointer (some p6))]))) rfl rfl rfl (r_makeFunc rfl rfl) ?_
  refine s_ef (d := some 9) rfl rfl rfl (fun dr => r_call Try.call51 rfl rfl H) ?_ trivial
  rintro _ h5 ⟨y17, y18, rfl, H⟩
  refine ⟨trivial, ?_⟩
  refine s_pu (d := some 10) (v := (.agg #[(.pointer y17)])) rfl rfl rfl (r_extract rfl rfl) ?_
  refine s_pu (d := some 11) (v := (.agg #[(.pointer y18)])) rfl rfl rfl (r_extract rfl rfl) ?_
  obtain ⟨e20, H⟩ := H
  obtain ⟨h6, e19⟩ : ∃ hh : Heap, hh = hsets h5 p9 0 [(.pointer y17)] := ⟨_, rfl⟩
  have H := H h6 e19
  refine s_st (d := none) (h' := h6) rfl rfl rfl (fun dr => (r_store (v := (.agg #[(.pointer y17)])) Try.sizeOf44 rfl rfl rfl (one_all rfl) e20).trans (by rw [e19]; rfl)) trivial ?_ trivial
  obtain ⟨e22, H⟩ := H
  obtain ⟨h7, e21⟩ : ∃ hh : Heap, hh = hsets h6 p12 0 [(.pointer y18)] := ⟨_, rfl⟩
  have H := H h7 e21
  refine s_st (d := none) (h' := h7) rfl rfl rfl (fun dr => (r_store (v := (.agg #[(.pointer y18)])) Try.sizeOf44 rfl rfl rfl (one_all rfl) e22).trans (by rw [e21]; rfl)) trivial ?_ trivial
  refine s_fin ?_
  show W _ _ _ _ _ _ _ _
  refine W_ret ?_
  obtain ⟨x23, e24, H⟩ := H
  obtain ⟨x25, e26, H⟩ := H
  exact ⟨[(.agg #[(.pointer x23)]), (.agg #[(.pointer x25)])], ⟨_, _, _, rfl, rfl, fun dr => run_loadVarN Try.isAgg44 Try.sizeOf44 (vs := [(.pointer x23)]) rfl ⟨e24, trivial⟩, ⟨_, _, _, rfl, rfl, fun dr => run_loadVarN Try.isAgg44 Try.sizeOf44 (vs := [(.pointer x25)]) rfl ⟨e26, trivial⟩, rfl⟩⟩, x23, x25, rfl, H⟩

/-! ### seq_Seq_cut_1 -/

def seq_Seq_cut_1_F (r : World) (m1 : Int) (m2 : Int) (m3 : Int) (m4 : Int) (m5 : Int) (c6 : Addr) (h : Heap) (R : Bool → Heap → Prop) : Prop :=
  New h (.cells #[(.int .i64 m1), (.int .i64 m2), (.int .i64 m3), (.int .i64 m4), (.int .i64 m5)] 40) fun p7 h1 =>
  LdI h1 (Addr.add p7 0) fun x10 =>
  LdI h1 c6 fun x12 =>
  R (decide (x12 < x10)) h1

set_option maxRecDepth 100000 in
theorem seq_Seq_cut_1_of {r : World} {m1 : Int} {m2 : Int} {m3 : Int} {m4 : Int} {m5 : Int} {c6 : Addr} {h : Heap} {R : Bool → Heap → Prop} (H : seq_Seq_cut_1_F r m1 m2 m3 m4 m5 c6 h R) : seq_Seq_cut_1 r m1 m2 m3 m4 m5 c6 h R := by
  unfold seq_Seq_cut_1_F at H
  refine calls_of 8 [.tmp 3] Try.func52 rfl rfl rfl rfl rfl ?_
  refine W_seq ?_
  refine W_region (.ef 0 [] (.pu 1 .fin) .no) rfl rfl ?_
  obtain ⟨p7, e8⟩ : ∃ p : Addr, p = ⟨h.size, 0, none⟩ := ⟨_, rfl⟩
  obtain ⟨h1, e9⟩ : ∃ hh : Heap, hh = h.push (.cells #[(.int .i64 m1), (.int .i64 m2), (.int .i64 m3), (.int .i64 m4), (.int .i64 m5)] 40) := ⟨_, rfl⟩
  have H := H p7 h1 e8 e9
  refine s_ef1 (d := some 2) (v := (.pointer (some p7))) (h' := h1) rfl rfl rfl (fun dr => (r_box (v := (.agg #[(.int .i64 m1), (.int .i64 m2), (.int .i64 m3), (.int .i64 m4), (.int .i64 m5)])) rfl).trans (by rw [e8, e9]; rfl)) trivial ?_ trivial
  refine s_pu (d := some 3) (v := (.bool false)) rfl rfl rfl (r_assign rfl) ?_
  refine s_fin ?_
  show W _ _ _ _ _ _ _ _
  refine W_seq ?_
  refine W_region (.pu 0 (.rl 1 (.rl 2 (.pu 3 (.pu 4 .fin))))) rfl rfl ?_
  refine s_pu (d := some 4) (v := (.pointer (some (Addr.add p7 0)))) rfl rfl rfl (r_fieldAddr Try.underlying40 Try.sizeOf3 rfl rfl rfl) ?_
  obtain ⟨x10, e11, H⟩ := H
  refine s_rl (d := some 5) (v := (.int .i64 x10)) rfl rfl rfl (fun dr => r_load1 Try.isAgg3 rfl e11) ?_
  obtain ⟨x12, e13, H⟩ := H
  refine s_rl (d := some 6) (v := (.int .i64 x12)) rfl rfl rfl (fun dr => r_load1 Try.isAgg3 rfl e13) ?_
  refine s_pu (d := some 7) (v := (.bool (decide (x12 < x10)))) rfl rfl rfl (r_gtr rfl rfl) ?_
  refine s_pu (d := some 3) (v := (.bool (decide (x12 < x10)))) rfl rfl rfl (r_assign rfl) ?_
  refine s_fin ?_
  show W _ _ _ _ _ _ _ _
  refine W_ret ?_
  exact ⟨[(.bool (decide (x12 < x10)))], ⟨_, _, rfl, rfl, rfl⟩, (decide (x12 < x10)), rfl, H⟩

/-! ### seq_Seq_Slice -/

def seq_Seq_Slice_F (r : World) (s1 : Option Addr) (i2 : Int) (j3 : Int) (h : Heap) (R : Option Addr → Bool → Heap → Prop) : Prop :=
  New h (.cells #[(.pointer s1)] 46) fun p4 h1 =>
  New h1 (.cells #[(.pointer none)] 46) fun p7 h2 =>
  ∀ J11 : Bool → Heap → Prop, (∀ (x10 : Bool) (h3 : Heap),
    (Br x10 (
      St h3 p7 1 [(.pointer none)] fun h4 =>
      LdP h4 (Addr.add p7 0) fun x15 =>
      R x15 false h4) (
      LdP h3 (Addr.add p4 0) fun x17 =>
      seq_Seq_cut r x17 j3 h3 fun y19 y20 h5 =>
      New h5 (.cells #[(.pointer none)] 44) fun p21 h6 =>
      New h6 (.cells #[(.pointer none)] 44) fun p24 h7 =>
      St h7 p21 1 [(.pointer y19)] fun h8 =>
      St h8 p24 1 [(.pointer y20)] fun h9 =>
      LdP h9 (Addr.add p21 0) fun x31 =>
      seq_Seq_cut r x31 i2 h9 fun y33 y34 h10 =>
      New h10 (.cells #[(.pointer none)] 44) fun p35 h11 =>
      New h11 (.cells #[(.pointer none)] 44) fun p38 h12 =>
      St h12 p35 1 [(.pointer y33)] fun h13 =>
      St h13 p38 1 [(.pointer y34)] fun h14 =>
      LdP h14 (Addr.add p38 0) fun x45 =>
      St h14 p7 1 [(.pointer x45)] fun h15 =>
      LdP h15 (Addr.add p7 0) fun x49 =>
      R x49 true h15)) →
    J11 x10 h3) →
  Br (decide (i2 < 0)) (
    J11 true h2) (
    Br (decide (j3 < i2)) (
      J11 true h2) (
      LdP h2 (Addr.add p4 0) fun x54 =>
      seq_Seq_Len r x54 h2 fun y56 h16 =>
      J11 (decide (y56 < j3)) h16))

set_option maxRecDepth 100000 in
theorem seq_Seq_Slice_of {r : World} {s1 : Option Addr} {i2 : Int} {j3 : Int} {h : Heap} {R : Option Addr → Bool → Heap → Prop} (H : seq_Seq_Slice_F r s1 i2 j3 h R) : seq_Seq_Slice r s1 i2 j3 h R := by
  unfold seq_Seq_Slice_F at H
  refine calls_of 41 [.cell 6 46, .tmp 7] Try.func26 rfl rfl rfl rfl rfl ?_
  refine W_seq ?_
  refine W_region (.ef 0 [] (.ef 1 [] (.pu 2 .fin) .no) .no) rfl rfl ?_
  obtain ⟨p4, e5⟩ : ∃ p : Addr, p = ⟨h.size, 0, none⟩ := ⟨_, rfl⟩
  obtain ⟨h1, e6⟩ : ∃ hh : Heap, hh = h.push (.cells #[(.pointer s1)] 46) := ⟨_, rfl⟩
  have H := H p4 h1 e5 e6
  refine s_ef1 (d := some 3) (v := (.pointer (some p4))) (h' := h1) rfl rfl rfl (fun dr => (r_box (v := (.agg #[(.pointer s1)])) rfl).trans (by rw [e5, e6]; rfl)) trivial ?_ trivial
  obtain ⟨p7, e8⟩ : ∃ p : Addr, p = ⟨h1.size, 0, none⟩ := ⟨_, rfl⟩
  obtain ⟨h2, e9⟩ : ∃ hh : Heap, hh = h1.push (.cells #[(.pointer none)] 46) := ⟨_, rfl⟩
  have H := H p7 h2 e8 e9
  refine s_ef1 (d := some 6) (v := (.pointer (some p7))) (h' := h2) rfl rfl rfl (fun dr => (r_alloc Try.zeroValue46).trans (by rw [e8, e9]; rfl)) trivial ?_ trivial
  refine s_pu (d := some 7) (v := (.bool false)) rfl rfl rfl (r_assign rfl) ?_
  refine s_fin ?_
  show W _ _ _ _ _ _ _ _
  refine W_seq ?_
  refine W_seq ?_
  refine W_set ?_
  intro N12 eN12
  have H := H (fun (x10 : Bool) (h3 : Heap) => ∀ b, N12 [] (mkE [(1, (.int .i64 i2)), (2, (.int .i64 j3)), (3, (.pointer (some p4))), (6, (.pointer (some p7))), (24, (.bool x10))] b) h3) (by
    intro x10 h3 H b
    rw [eN12]
    show W _ _ _ _ _ _ _ _
    refine W_if x10 rfl (fun g51 => ?_) (fun g51 => ?_)
    · have H := H.1 g51
      refine W_seq ?_
      refine W_region (.pu 0 (.ef 1 [] (.pu 2 .fin) .no)) rfl rfl ?_
      refine s_pu (d := some 25) (v := (.agg #[(.pointer none)])) rfl rfl rfl (fun w => by kernel_rfl) ?_
      obtain ⟨e14, H⟩ := H
      obtain ⟨h4, e13⟩ : ∃ hh : Heap, hh = hsets h3 p7 0 [(.pointer none)] := ⟨_, rfl⟩
      have H := H h4 e13
      refine s_st (d := none) (h' := h4) rfl rfl rfl (fun dr => (r_store (v := (.agg #[(.pointer none)])) Try.sizeOf46 rfl rfl rfl (one_all rfl) e14).trans (by rw [e13]; rfl)) trivial ?_ trivial
      refine s_pu (d := some 7) (v := (.bool false)) rfl rfl rfl (r_assign rfl) ?_
      refine s_fin ?_
      show W _ _ _ _ _ _ _ _
      refine W_ret ?_
      obtain ⟨x15, e16, H⟩ := H
      exact ⟨[(.agg #[(.pointer x15)]), (.bool false)], ⟨_, _, _, rfl, rfl, fun dr => run_loadVarN Try.isAgg46 Try.sizeOf46 (vs := [(.pointer x15)]) rfl ⟨e16, trivial⟩, ⟨_, _, rfl, rfl, rfl⟩⟩, x15, false, rfl, H⟩
    · have H := H.2 g51
      refine W_skip ?_
      show W _ _ _ _ _ _ _ _
      refine W_seq ?_
      refine W_region (.rl 0 (.pu 1 (.ef 2 [] (.pu 3 (.pu 4 (.pu 5 (.ef 6 [] (.ef 7 [] (.ef 8 [] (.ef 9 [] .fin .no) .no) .no) .no)))) .no))) rfl rfl ?_
      obtain ⟨x17, e18, H⟩ := H
      refine s_rl (d := some 27) (v := (.agg #[(.pointer x17)])) rfl rfl rfl (fun dr => r_loadN Try.isAgg46 Try.sizeOf46 (vs := [(.pointer x17)]) rfl rfl ⟨e18, trivial⟩) ?_
      refine s_pu (d := some 28) (v := (.int .i64 j3)) rfl rfl rfl (r_move rfl) ?_
      refine s_ef (d := some 29) rfl rfl rfl (fun dr => r_call Try.call42 rfl rfl H) ?_ trivial
      rintro _ h5 ⟨y19, y20, rfl, H⟩
      refine ⟨trivial, ?_⟩
      refine s_pu (d := some 26) (v := (.tuple #[(.agg #[(.pointer y19)]), (.agg #[(.pointer y20)])])) rfl rfl rfl (r_move rfl) ?_
      refine s_pu (d := some 30) (v := (.agg #[(.pointer y19)])) rfl rfl rfl (r_extract rfl rfl) ?_
      refine s_pu (d := some 31) (v := (.agg #[(.pointer y20)])) rfl rfl rfl (r_extract rfl rfl) ?_
      obtain ⟨p21, e22⟩ : ∃ p : Addr, p = ⟨h5.size, 0, none⟩ := ⟨_, rfl⟩
      obtain ⟨h6, e23⟩ : ∃ hh : Heap, hh = h5.push (.cells #[(.pointer none)] 44) := ⟨_, rfl⟩
      have H := H p21 h6 e22 e23
      refine s_ef1 (d := some 8) (v := (.pointer (some p21))) (h' := h6) rfl rfl rfl (fun dr => (r_alloc Try.zeroValue44).trans (by rw [e22, e23]; rfl)) trivial ?_ trivial
      obtain ⟨p24, e25⟩ : ∃ p : Addr, p = ⟨h6.size, 0, none⟩ := ⟨_, rfl⟩
      obtain ⟨h7, e26⟩ : ∃ hh : Heap, hh = h6.push (.cells #[(.pointer none)] 44) := ⟨_, rfl⟩
      have H := H p24 h7 e25 e26
      refine s_ef1 (d := some 9) (v := (.pointer (some p24))) (h' := h7) rfl rfl rfl (fun dr => (r_alloc Try.zeroValue44).trans (by rw [e25, e26]; rfl)) trivial ?_ trivial
      obtain ⟨e28, H⟩ := H
      obtain ⟨h8, e27⟩ : ∃ hh : Heap, hh = hsets h7 p21 0 [(.pointer y19)] := ⟨_, rfl⟩
      have H := H h8 e27
      refine s_st (d := none) (h' := h8) rfl rfl rfl (fun dr => (r_store (v := (.agg #[(.pointer y19)])) Try.sizeOf44 rfl rfl rfl (one_all rfl) e28).trans (by rw [e27]; rfl)) trivial ?_ trivial
      obtain ⟨e30, H⟩ := H
      obtain ⟨h9, e29⟩ : ∃ hh : Heap, hh = hsets h8 p24 0 [(.pointer y20)] := ⟨_, rfl⟩
      have H := H h9 e29
      refine s_st (d := none) (h' := h9) rfl rfl rfl (fun dr => (r_store (v := (.agg #[(.pointer y20)])) Try.sizeOf44 rfl rfl rfl (one_all rfl) e30).trans (by rw [e29]; rfl)) trivial ?_ trivial
      refine s_fin ?_
      show W _ _ _ _ _ _ _ _
      refine W_seq ?_
      refine W_region (.rl 0 (.pu 1 (.pu 2 (.ef 3 [] (.pu 4 (.pu 5 (.pu 6 (.ef 7 [] (.ef 8 [] (.ef 9 [] (.ef 10 [] .fin .no) .no) .no) .no)))) .no)))) rfl rfl ?_
      obtain ⟨x31, e32, H⟩ := H
      refine s_rl (d := some 33) (v := (.agg #[(.pointer x31)])) rfl rfl rfl (fun dr => r_loadN Try.isAgg44 Try.sizeOf44 (vs := [(.pointer x31)]) rfl rfl ⟨e32, trivial⟩) ?_
      refine s_pu (d := some 34) (v := (.agg #[(.pointer x31)])) rfl rfl rfl (fun w => by kernel_rfl) ?_
      refine s_pu (d := some 35) (v := (.int .i64 i2)) rfl rfl rfl (r_move rfl) ?_
      refine s_ef (d := some 36) rfl rfl rfl (fun dr => r_call Try.call42 rfl rfl H) ?_ trivial
      rintro _ h10 ⟨y33, y34, rfl, H⟩
      refine ⟨trivial, ?_⟩
      refine s_pu (d := some 32) (v := (.tuple #[(.agg #[(.pointer y33)]), (.agg #[(.pointer y34)])])) rfl rfl rfl (r_move rfl) ?_
      refine s_pu (d := some 37) (v := (.agg #[(.pointer y33)])) rfl rfl rfl (r_extract rfl rfl) ?_
      refine s_pu (d := some 38) (v := (.agg #[(.pointer y34)])) rfl rfl rfl (r_extract rfl rfl) ?_
      obtain ⟨p35, e36⟩ : ∃ p : Addr, p = ⟨h10.size, 0, none⟩ := ⟨_, rfl⟩
      obtain ⟨h11, e37⟩ : ∃ hh : Heap, hh = h10.push (.cells #[(.pointer none)] 44) := ⟨_, rfl⟩
      have H := H p35 h11 e36 e37
      refine s_ef1 (d := some 10) (v := (.pointer (some p35))) (h' := h11) rfl rfl rfl (fun dr => (r_alloc Try.zeroValue44).trans (by rw [e36, e37]; rfl)) trivial ?_ trivial
      obtain ⟨p38, e39⟩ : ∃ p : Addr, p = ⟨h11.size, 0, none⟩ := ⟨_, rfl⟩
      obtain ⟨h12, e40⟩ : ∃ hh : Heap, hh = h11.push (.cells #[(.pointer none)] 44) := ⟨_, rfl⟩
      have H := H p38 h12 e39 e40
      refine s_ef1 (d := some 11) (v := (.pointer (some p38))) (h' := h12) rfl rfl rfl (fun dr => (r_alloc Try.zeroValue44).trans (by rw [e39, e40]; rfl)) trivial ?_ trivial
      obtain ⟨e42, H⟩ := H
      obtain ⟨h13, e41⟩ : ∃ hh : Heap, hh = hsets h12 p35 0 [(.pointer y33)] := ⟨_, rfl⟩
      have H := H h13 e41
      refine s_st (d := none) (h' := h13) rfl rfl rfl (fun dr => (r_store (v := (.agg #[(.pointer y33)])) Try.sizeOf44 rfl rfl rfl (one_all rfl) e42).trans (by rw [e41]; rfl)) trivial ?_ trivial
      obtain ⟨e44, H⟩ := H
      obtain ⟨h14, e43⟩ : ∃ hh : Heap, hh = hsets h13 p38 0 [(.pointer y34)] := ⟨_, rfl⟩
      have H := H h14 e43
      refine s_st (d := none) (h' := h14) rfl rfl rfl (fun dr => (r_store (v := (.agg #[(.pointer y34)])) Try.sizeOf44 rfl rfl rfl (one_all rfl) e44).trans (by rw [e43]; rfl)) trivial ?_ trivial
      refine s_fin ?_
      show W _ _ _ _ _ _ _ _
      refine W_seq ?_
      refine W_region (.rl 0 (.pu 1 (.ef 2 [] (.pu 3 .fin) .no))) rfl rfl ?_
      obtain ⟨x45, e46, H⟩ := H
      refine s_rl (d := some 39) (v := (.agg #[(.pointer x45)])) rfl rfl rfl (fun dr => r_loadN Try.isAgg44 Try.sizeOf44 (vs := [(.pointer x45)]) rfl rfl ⟨e46, trivial⟩) ?_
      refine s_pu (d := some 40) (v := (.agg #[(.pointer x45)])) rfl rfl rfl (fun w => by kernel_rfl) ?_
      obtain ⟨e48, H⟩ := H
      obtain ⟨h15, e47⟩ : ∃ hh : Heap, hh = hsets h14 p7 0 [(.pointer x45)] := ⟨_, rfl⟩
      have H := H h15 e47
      refine s_st (d := none) (h' := h15) rfl rfl rfl (fun dr => (r_store (v := (.agg #[(.pointer x45)])) Try.sizeOf46 rfl rfl rfl (one_all rfl) e48).trans (by rw [e47]; rfl)) trivial ?_ trivial
      refine s_pu (d := some 7) (v := (.bool true)) rfl rfl rfl (r_assign rfl) ?_
      refine s_fin ?_
      show W _ _ _ _ _ _ _ _
      refine W_ret ?_
      obtain ⟨x49, e50, H⟩ := H
      exact ⟨[(.agg #[(.pointer x49)]), (.bool true)], ⟨_, _, _, rfl, rfl, fun dr => run_loadVarN Try.isAgg46 Try.sizeOf46 (vs := [(.pointer x49)]) rfl ⟨e50, trivial⟩, ⟨_, _, rfl, rfl, rfl⟩⟩, x49, true, rfl, H⟩)
  clear eN12
  refine W_region (.pu 0 (.pu 1 (.pu 2 (.pu 3 (.pu 4 (.pu 5 (.pu 6 (.pu 7 (.pu 8 (.rl 9 (.ef 10 [] (.pu 11 (.pu 12 .fin)) .no))))))))))) rfl rfl ?_
  refine s_pu (d := some 12) (v := (.int .i64 i2)) rfl rfl rfl (r_move rfl) ?_
  refine s_pu (d := some 13) (v := (.bool (decide (i2 < 0)))) rfl rfl rfl (r_lss rfl rfl) ?_
  refine s_pu (d := some 14) (v := (.bool (decide (i2 < 0)))) rfl rfl rfl (r_move rfl) ?_
  rcases Bool.eq_false_or_eq_true (decide (i2 < 0)) with g52 | g52
  · have H := H.1 g52
    refine s_sk (d := some 15) rfl rfl (wants_no rfl rfl rfl rfl g52) ?_
    refine s_sk (d := some 16) rfl rfl (wants_no rfl rfl rfl rfl g52) ?_
    refine s_sk (d := some 17) rfl rfl (wants_no rfl rfl rfl rfl g52) ?_
    refine s_pu (d := some 18) (v := (.bool true)) rfl rfl rfl (r_pick1 rfl g52 rfl) ?_
    refine s_pu (d := some 19) (v := (.bool true)) rfl rfl rfl (r_move rfl) ?_
    refine s_sk (d := some 20) rfl rfl (wants_no rfl rfl rfl rfl rfl) ?_
    refine s_skl (d := some 21) rfl rfl (wants_no rfl rfl rfl rfl rfl) ?_
    refine s_skf (d := some 22) rfl rfl (wants_no rfl rfl rfl rfl rfl) trivial ?_ trivial
    refine s_sk (d := some 23) rfl rfl (wants_no rfl rfl rfl rfl rfl) ?_
    refine s_pu (d := some 24) (v := (.bool true)) rfl rfl rfl (r_pick1 rfl rfl rfl) ?_
    refine s_fin ?_
    exact N_mk (l := [(1, (.int .i64 i2)), (2, (.int .i64 j3)), (3, (.pointer (some p4))), (6, (.pointer (some p7))), (24, (.bool true))]) H ⟨rfl, rfl, rfl, rfl, rfl, trivial⟩
  · have H := H.2 g52
    refine s_pu (d := some 15) (v := (.int .i64 j3)) rfl rfl (wants_yes rfl rfl rfl rfl g52) (r_move rfl) ?_
    refine s_pu (d := some 16) (v := (.int .i64 i2)) rfl rfl (wants_yes rfl rfl rfl rfl g52) (r_move rfl) ?_
    refine s_pu (d := some 17) (v := (.bool (decide (j3 < i2)))) rfl rfl (wants_yes rfl rfl rfl rfl g52) (r_lss rfl rfl) ?_
    refine s_pu (d := some 18) (v := (.bool (decide (j3 < i2)))) rfl rfl rfl (r_pick0 rfl g52 rfl) ?_
    refine s_pu (d := some 19) (v := (.bool (decide (j3 < i2)))) rfl rfl rfl (r_move rfl) ?_
    rcases Bool.eq_false_or_eq_true (decide (j3 < i2)) with g53 | g53
    · have H := H.1 g53
      refine s_sk (d := some 20) rfl rfl (wants_no rfl rfl rfl rfl g53) ?_
      refine s_skl (d := some 21) rfl rfl (wants_no rfl rfl rfl rfl g53) ?_
      refine s_skf (d := some 22) rfl rfl (wants_no rfl rfl rfl rfl g53) trivial ?_ trivial
      refine s_sk (d := some 23) rfl rfl (wants_no rfl rfl rfl rfl g53) ?_
      refine s_pu (d := some 24) (v := (.bool true)) rfl rfl rfl (r_pick1 rfl g53 rfl) ?_
      refine s_fin ?_
      exact N_mk (l := [(1, (.int .i64 i2)), (2, (.int .i64 j3)), (3, (.pointer (some p4))), (6, (.pointer (some p7))), (24, (.bool true))]) H ⟨rfl, rfl, rfl, rfl, rfl, trivial⟩
    · have H := H.2 g53
      refine s_pu (d := some 20) (v := (.int .i64 j3)) rfl rfl (wants_yes rfl rfl rfl rfl g53) (r_move rfl) ?_
      obtain ⟨x54, e55, H⟩ := H
      refine s_rl (d := some 21) (v := (.agg #[(.pointer x54)])) rfl rfl (wants_yes rfl rfl rfl rfl g53) (fun dr => r_loadN Try.isAgg46 Try.sizeOf46 (vs := [(.pointer x54)]) rfl rfl ⟨e55, trivial⟩) ?_
      refine s_ef (d := some 22) rfl rfl (wants_yes rfl rfl rfl rfl g53) (fun dr => r_call Try.call41 rfl rfl H) ?_ trivial
      rintro _ h16 ⟨y56, rfl, H⟩
      refine ⟨trivial, ?_⟩
      refine s_pu (d := some 23) (v := (.bool (decide (y56 < j3)))) rfl rfl (wants_yes rfl rfl rfl rfl g53) (r_gtr rfl rfl) ?_
      refine s_pu (d := some 24) (v := (.bool (decide (y56 < j3)))) rfl rfl rfl (r_pick0 rfl g53 rfl) ?_
      refine s_fin ?_
      exact N_mk (l := [(1, (.int .i64 i2)), (2, (.int .i64 j3)), (3, (.pointer (some p4))), (6, (.pointer (some p7))), (24, (.bool (decide (y56 < j3))))]) H ⟨rfl, rfl, rfl, rfl, rfl, trivial⟩

/-! ### seq_Seq_Measure -/

def seq_Seq_Measure_F (r : World) (s1 : Option Addr) (i2 : Int) (j3 : Int) (h : Heap) (R : Int → Int → Int → Int → Int → Bool → Heap → Prop) : Prop :=
  New h (.cells #[(.pointer s1)] 46) fun p4 h1 =>
  New h1 (.cells #[(.int .i64 0), (.int .i64 0), (.int .i64 0), (.int .i64 0), (.int .i64 0)] 40) fun p7 h2 =>
  LdP h2 (Addr.add p4 0) fun x10 =>
  seq_Seq_Slice r x10 i2 j3 h2 fun y12 y13 h3 =>
  New h3 (.cells #[(.pointer none)] 46) fun p14 h4 =>
  St h4 p14 1 [(.pointer y12)] fun h5 =>
  Br (!y13) (
    St h5 p7 5 [(.int .i64 0), (.int .i64 0), (.int .i64 0), (.int .i64 0), (.int .i64 0)] fun h6 =>
    LdI h6 (Addr.add p7 0) fun x21 =>
    LdI h6 (Addr.add p7 1) fun x23 =>
    LdI h6 (Addr.add p7 2) fun x25 =>
    LdI h6 (Addr.add p7 3) fun x27 =>
    LdI h6 (Addr.add p7 4) fun x29 =>
    R x21 x23 x25 x27 x29 false h6) (
    LdP h5 (Addr.add (Addr.add p14 0) 0) fun x31 =>
    finger_Tree_Measure r x31 h5 fun y33 y34 y35 y36 y37 h7 =>
    St h7 p7 5 [(.int .i64 y33), (.int .i64 y34), (.int .i64 y35), (.int .i64 y36), (.int .i64 y37)] fun h8 =>
    LdI h8 (Addr.add p7 0) fun x40 =>
    LdI h8 (Addr.add p7 1) fun x42 =>
    LdI h8 (Addr.add p7 2) fun x44 =>
    LdI h8 (Addr.add p7 3) fun x46 =>
    LdI h8 (Addr.add p7 4) fun x48 =>
    R x40 x42 x44 x46 x48 true h8)

set_option maxRecDepth 100000 in
theorem seq_Seq_Measure_of {r : World} {s1 : Option Addr} {i2 : Int} {j3 : Int} {h : Heap} {R : Int → Int → Int → Int → Int → Bool → Heap → Prop} (H : seq_Seq_Measure_F r s1 i2 j3 h R) : seq_Seq_Measure r s1 i2 j3 h R := by
  unfold seq_Seq_Measure_F at H
  refine calls_of 23 [.cell 6 40, .tmp 7] Try.func12 rfl rfl rfl rfl rfl ?_
  refine W_seq ?_
  refine W_region (.ef 0 [] (.ef 1 [] (.pu 2 .fin) .no) .no) rfl rfl ?_
  obtain ⟨p4, e5⟩ : ∃ p : Addr, p = ⟨h.size, 0, none⟩ := ⟨_, rfl⟩
  obtain ⟨h1, e6⟩ : ∃ hh : Heap, hh = h.push (.cells #[(.pointer s1)] 46) := ⟨_, rfl⟩
  have H := H p4 h1 e5 e6
  refine s_ef1 (d := some 3) (v := (.pointer (some p4))) (h' := h1) rfl rfl rfl (fun dr => (r_box (v := (.agg #[(.pointer s1)])) rfl).trans (by rw [e5, e6]; rfl)) trivial ?_ trivial
  obtain ⟨p7, e8⟩ : ∃ p : Addr, p = ⟨h1.size, 0, none⟩ := ⟨_, rfl⟩
  obtain ⟨h2, e9⟩ : ∃ hh : Heap, hh = h1.push (.cells #[(.int .i64 0), (.int .i64 0), (.int .i64 0), (.int .i64 0), (.int .i64 0)] 40) := ⟨_, rfl⟩
  have H := H p7 h2 e8 e9
  refine s_ef1 (d := some 6) (v := (.pointer (some p7))) (h' := h2) rfl rfl rfl (fun dr => (r_alloc Try.zeroValue40).trans (by rw [e8, e9]; rfl)) trivial ?_ trivial
  refine s_pu (d := some 7) (v := (.bool false)) rfl rfl rfl (r_assign rfl) ?_
  refine s_fin ?_
  show W _ _ _ _ _ _ _ _
  refine W_seq ?_
  refine W_region (.rl 0 (.pu 1 (.pu 2 (.ef 3 [] (.pu 4 (.pu 5 (.pu 6 (.ef 7 [] (.ef 8 [] (.pu 9 .fin) .no) .no)))) .no)))) rfl rfl ?_
  obtain ⟨x10, e11, H⟩ := H
  refine s_rl (d := some 11) (v := (.agg #[(.pointer x10)])) rfl rfl rfl (fun dr => r_loadN Try.isAgg46 Try.sizeOf46 (vs := [(.pointer x10)]) rfl rfl ⟨e11, trivial⟩) ?_
  refine s_pu (d := some 12) (v := (.int .i64 i2)) rfl rfl rfl (r_move rfl) ?_
  refine s_pu (d := some 13) (v := (.int .i64 j3)) rfl rfl rfl (r_move rfl) ?_
  refine s_ef (d := some 14) rfl rfl rfl (fun dr => r_call Try.call26 rfl rfl H) ?_ trivial
  rintro _ h3 ⟨y12, y13, rfl, H⟩
  refine ⟨trivial, ?_⟩
  refine s_pu (d := some 10) (v := (.tuple #[(.agg #[(.pointer y12)]), (.bool y13)])) rfl rfl rfl (r_move rfl) ?_
  refine s_pu (d := some 15) (v := (.agg #[(.pointer y12)])) rfl rfl rfl (r_extract rfl rfl) ?_
  refine s_pu (d := some 16) (v := (.bool y13)) rfl rfl rfl (r_extract rfl rfl) ?_
  obtain ⟨p14, e15⟩ : ∃ p : Addr, p = ⟨h3.size, 0, none⟩ := ⟨_, rfl⟩
  obtain ⟨h4, e16⟩ : ∃ hh : Heap, hh = h3.push (.cells #[(.pointer none)] 46) := ⟨_, rfl⟩
  have H := H p14 h4 e15 e16
  refine s_ef1 (d := some 8) (v := (.pointer (some p14))) (h' := h4) rfl rfl rfl (fun dr => (r_alloc Try.zeroValue46).trans (by rw [e15, e16]; rfl)) trivial ?_ trivial
  obtain ⟨e18, H⟩ := H
  obtain ⟨h5, e17⟩ : ∃ hh : Heap, hh = hsets h4 p14 0 [(.pointer y12)] := ⟨_, rfl⟩
  have H := H h5 e17
  refine s_st (d := none) (h' := h5) rfl rfl rfl (fun dr => (r_store (v := (.agg #[(.pointer y12)])) Try.sizeOf46 rfl rfl rfl (one_all rfl) e18).trans (by rw [e17]; rfl)) trivial ?_ trivial
  refine s_pu (d := some 9) (v := (.bool y13)) rfl rfl rfl (r_assign rfl) ?_
  refine s_fin ?_
  show W _ _ _ _ _ _ _ _
  refine W_seq ?_
  refine W_seq ?_
  refine W_region (.pu 0 (.pu 1 .fin)) rfl rfl ?_
  refine s_pu (d := some 17) (v := (.bool y13)) rfl rfl rfl (r_move rfl) ?_
  refine s_pu (d := some 18) (v := (.bool (!y13))) rfl rfl rfl (r_not rfl) ?_
  refine s_fin ?_
  show W _ _ _ _ _ _ _ _
  refine W_if (!y13) rfl (fun g50 => ?_) (fun g50 => ?_)
  · have H := H.1 g50
    refine W_seq ?_
    refine W_region (.pu 0 (.ef 1 [] (.pu 2 .fin) .no)) rfl rfl ?_
    refine s_pu (d := some 19) (v := (.agg #[(.int .i64 0), (.int .i64 0), (.int .i64 0), (.int .i64 0), (.int .i64 0)])) rfl rfl rfl (fun w => by kernel_rfl) ?_
    obtain ⟨e20, H⟩ := H
    obtain ⟨h6, e19⟩ : ∃ hh : Heap, hh = hsets h5 p7 0 [(.int .i64 0), (.int .i64 0), (.int .i64 0), (.int .i64 0), (.int .i64 0)] := ⟨_, rfl⟩
    have H := H h6 e19
    refine s_st (d := none) (h' := h6) rfl rfl rfl (fun dr => (r_store (v := (.agg #[(.int .i64 0), (.int .i64 0), (.int .i64 0), (.int .i64 0), (.int .i64 0)])) Try.sizeOf40 rfl rfl rfl (one_all rfl) e20).trans (by rw [e19]; rfl)) trivial ?_ trivial
    refine s_pu (d := some 7) (v := (.bool false)) rfl rfl rfl (r_assign rfl) ?_
    refine s_fin ?_
    show W _ _ _ _ _ _ _ _
    refine W_ret ?_
    obtain ⟨x21, e22, H⟩ := H
    obtain ⟨x23, e24, H⟩ := H
    obtain ⟨x25, e26, H⟩ := H
    obtain ⟨x27, e28, H⟩ := H
    obtain ⟨x29, e30, H⟩ := H
    exact ⟨[(.agg #[(.int .i64 x21), (.int .i64 x23), (.int .i64 x25), (.int .i64 x27), (.int .i64 x29)]), (.bool false)], ⟨_, _, _, rfl, rfl, fun dr => run_loadVarN Try.isAgg40 Try.sizeOf40 (vs := [(.int .i64 x21), (.int .i64 x23), (.int .i64 x25), (.int .i64 x27), (.int .i64 x29)]) rfl ⟨e22, e24, e26, e28, e30, trivial⟩, ⟨_, _, rfl, rfl, rfl⟩⟩, x21, x23, x25, x27, x29, false, rfl, H⟩
  · have H := H.2 g50
    refine W_skip ?_
    show W _ _ _ _ _ _ _ _
    refine W_seq ?_
    refine W_region (.pu 0 (.rl 1 (.ef 2 [] (.ef 3 [] (.pu 4 .fin) .no) .no))) rfl rfl ?_
    refine s_pu (d := some 20) (v := (.pointer (some (Addr.add p14 0)))) rfl rfl rfl (r_fieldAddr Try.underlying46 Try.sizeOf44 rfl rfl rfl) ?_
    obtain ⟨x31, e32, H⟩ := H
    refine s_rl (d := some 21) (v := (.agg #[(.pointer x31)])) rfl rfl rfl (fun dr => r_loadN Try.isAgg44 Try.sizeOf44 (vs := [(.pointer x31)]) rfl rfl ⟨e32, trivial⟩) ?_
    refine s_ef (d := some 22) rfl rfl rfl (fun dr => r_call Try.call27 rfl rfl H) ?_ trivial
    rintro _ h7 ⟨y33, y34, y35, y36, y37, rfl, H⟩
    refine ⟨trivial, ?_⟩
    obtain ⟨e39, H⟩ := H
    obtain ⟨h8, e38⟩ : ∃ hh : Heap, hh = hsets h7 p7 0 [(.int .i64 y33), (.int .i64 y34), (.int .i64 y35), (.int .i64 y36), (.int .i64 y37)] := ⟨_, rfl⟩
    have H := H h8 e38
    refine s_st (d := none) (h' := h8) rfl rfl rfl (fun dr => (r_store (v := (.agg #[(.int .i64 y33), (.int .i64 y34), (.int .i64 y35), (.int .i64 y36), (.int .i64 y37)])) Try.sizeOf40 rfl rfl rfl (one_all rfl) e39).trans (by rw [e38]; rfl)) trivial ?_ trivial
    refine s_pu (d := some 7) (v := (.bool true)) rfl rfl rfl (r_assign rfl) ?_
    refine s_fin ?_
    show W _ _ _ _ _ _ _ _
    refine W_ret ?_
    obtain ⟨x40, e41, H⟩ := H
    obtain ⟨x42, e43, H⟩ := H
    obtain ⟨x44, e45, H⟩ := H
    obtain ⟨x46, e47, H⟩ := H
    obtain ⟨x48, e49, H⟩ := H
    exact ⟨[(.agg #[(.int .i64 x40), (.int .i64 x42), (.int .i64 x44), (.int .i64 x46), (.int .i64 x48)]), (.bool true)], ⟨_, _, _, rfl, rfl, fun dr => run_loadVarN Try.isAgg40 Try.sizeOf40 (vs := [(.int .i64 x40), (.int .i64 x42), (.int .i64 x44), (.int .i64 x46), (.int .i64 x48)]) rfl ⟨e41, e43, e45, e47, e49, trivial⟩, ⟨_, _, rfl, rfl, rfl⟩⟩, x40, x42, x44, x46, x48, true, rfl, H⟩

end Go.Proofs.Ytfiemlcoliijoaa
