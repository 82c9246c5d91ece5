/- Typed words of functions, and that they hold: printed by gen.py (an own tool of this claim) off the model's own form of each function. -/
import Derived.Test.YtmjljnbjoldeaaaProg
import Derived.Test.YtmjljnbjoldeaaaFingC
namespace Go.Proofs.Ytmjljnbjoldeaaa
open Go Go.RowKit Go.Tw
set_option linter.unusedVariables false

theorem slFTree_22 : SlF Try.prog 22 3 1 8 (.int .i64 0) := ⟨Try.underlying22, ⟨Try.t3, by kernel_rfl, rfl, rfl, rfl⟩, rfl, Try.sizeOf3, Try.zeroValue3⟩
theorem slFTree_47 : SlF Try.prog 47 49 2 16 (.agg #[(.int .i64 0), (.int .i64 0)]) := ⟨Try.underlying47, ⟨Try.t49, by kernel_rfl, rfl, rfl, rfl⟩, rfl, Try.sizeOf49, Try.zeroValue49⟩

/-! ### the calls -/

abbrev finger_Of (r : World) (l1 : Sl) (h : Heap) (R : Option Addr → Heap → Prop) : Prop :=
  CallsH Try.prog r 22 [(Sl.v l1)] h fun v h' => ∃ (y2 : Option Addr), v = (.agg #[(.pointer y2)]) ∧ R y2 h'

theorem finger_Of.mono {r : World} {l1 : Sl} {h : Heap} {R R' : Option Addr → Heap → Prop} (H : finger_Of r l1 h R) (hr : ∀ y2 h, R y2 h → R' y2 h) : finger_Of r l1 h R' :=
  CallsH.mono H fun _ _ hx => by
    obtain ⟨y2, hv, hR⟩ := hx
    exact ⟨y2, hv, hr _ _ hR⟩

abbrev finger_Tree_PushLeft (r : World) (t1 : Option Addr) (x2 : Int) (h : Heap) (R : Option Addr → Heap → Prop) : Prop :=
  CallsH Try.prog r 13 [(.agg #[(.pointer t1)]), (.int .i64 x2)] h fun v h' => ∃ (y3 : Option Addr), v = (.agg #[(.pointer y3)]) ∧ R y3 h'

theorem finger_Tree_PushLeft.mono {r : World} {t1 : Option Addr} {x2 : Int} {h : Heap} {R R' : Option Addr → Heap → Prop} (H : finger_Tree_PushLeft r t1 x2 h R) (hr : ∀ y3 h, R y3 h → R' y3 h) : finger_Tree_PushLeft r t1 x2 h R' :=
  CallsH.mono H fun _ _ hx => by
    obtain ⟨y3, hv, hR⟩ := hx
    exact ⟨y3, hv, hr _ _ hR⟩

abbrev finger_Tree_PushRight (r : World) (t1 : Option Addr) (x2 : Int) (h : Heap) (R : Option Addr → Heap → Prop) : Prop :=
  CallsH Try.prog r 14 [(.agg #[(.pointer t1)]), (.int .i64 x2)] h fun v h' => ∃ (y3 : Option Addr), v = (.agg #[(.pointer y3)]) ∧ R y3 h'

theorem finger_Tree_PushRight.mono {r : World} {t1 : Option Addr} {x2 : Int} {h : Heap} {R R' : Option Addr → Heap → Prop} (H : finger_Tree_PushRight r t1 x2 h R) (hr : ∀ y3 h, R y3 h → R' y3 h) : finger_Tree_PushRight r t1 x2 h R' :=
  CallsH.mono H fun _ _ hx => by
    obtain ⟨y3, hv, hR⟩ := hx
    exact ⟨y3, hv, hr _ _ hR⟩

abbrev finger_Tree_PopLeft (r : World) (t1 : Option Addr) (h : Heap) (R : Int → Option Addr → Bool → Heap → Prop) : Prop :=
  CallsH Try.prog r 16 [(.agg #[(.pointer t1)])] h fun v h' => ∃ (y2 : Int) (y3 : Option Addr) (y4 : Bool), v = (.tuple #[(.int .i64 y2), (.agg #[(.pointer y3)]), (.bool y4)]) ∧ R y2 y3 y4 h'

theorem finger_Tree_PopLeft.mono {r : World} {t1 : Option Addr} {h : Heap} {R R' : Int → Option Addr → Bool → Heap → Prop} (H : finger_Tree_PopLeft r t1 h R) (hr : ∀ y2 y3 y4 h, R y2 y3 y4 h → R' y2 y3 y4 h) : finger_Tree_PopLeft r t1 h R' :=
  CallsH.mono H fun _ _ hx => by
    obtain ⟨y2, y3, y4, hv, hR⟩ := hx
    exact ⟨y2, y3, y4, hv, hr _ _ _ _ hR⟩

abbrev finger_Tree_PopRight (r : World) (t1 : Option Addr) (h : Heap) (R : Int → Option Addr → Bool → Heap → Prop) : Prop :=
  CallsH Try.prog r 17 [(.agg #[(.pointer t1)])] h fun v h' => ∃ (y2 : Int) (y3 : Option Addr) (y4 : Bool), v = (.tuple #[(.int .i64 y2), (.agg #[(.pointer y3)]), (.bool y4)]) ∧ R y2 y3 y4 h'

theorem finger_Tree_PopRight.mono {r : World} {t1 : Option Addr} {h : Heap} {R R' : Int → Option Addr → Bool → Heap → Prop} (H : finger_Tree_PopRight r t1 h R) (hr : ∀ y2 y3 y4 h, R y2 y3 y4 h → R' y2 y3 y4 h) : finger_Tree_PopRight r t1 h R' :=
  CallsH.mono H fun _ _ hx => by
    obtain ⟨y2, y3, y4, hv, hR⟩ := hx
    exact ⟨y2, y3, y4, hv, hr _ _ _ _ hR⟩

abbrev finger_Tree_Join (r : World) (t1 : Option Addr) (u2 : Option Addr) (h : Heap) (R : Option Addr → Heap → Prop) : Prop :=
  CallsH Try.prog r 26 [(.agg #[(.pointer t1)]), (.agg #[(.pointer u2)])] h fun v h' => ∃ (y3 : Option Addr), v = (.agg #[(.pointer y3)]) ∧ R y3 h'

theorem finger_Tree_Join.mono {r : World} {t1 : Option Addr} {u2 : Option Addr} {h : Heap} {R R' : Option Addr → Heap → Prop} (H : finger_Tree_Join r t1 u2 h R) (hr : ∀ y3 h, R y3 h → R' y3 h) : finger_Tree_Join r t1 u2 h R' :=
  CallsH.mono H fun _ _ hx => by
    obtain ⟨y3, hv, hR⟩ := hx
    exact ⟨y3, hv, hr _ _ hR⟩

abbrev finger_Tree_Measure (r : World) (t1 : Option Addr) (h : Heap) (R : Int → Int → Int → Int → Int → Heap → Prop) : Prop :=
  CallsH Try.prog r 20 [(.agg #[(.pointer t1)])] h fun v h' => ∃ (y2 : Int) (y3 : Int) (y4 : Int) (y5 : Int) (y6 : Int), v = (.agg #[(.int .i64 y2), (.int .i64 y3), (.int .i64 y4), (.int .i64 y5), (.int .i64 y6)]) ∧ R y2 y3 y4 y5 y6 h'

theorem finger_Tree_Measure.mono {r : World} {t1 : Option Addr} {h : Heap} {R R' : Int → Int → Int → Int → Int → Heap → Prop} (H : finger_Tree_Measure r t1 h R) (hr : ∀ y2 y3 y4 y5 y6 h, R y2 y3 y4 y5 y6 h → R' y2 y3 y4 y5 y6 h) : finger_Tree_Measure r t1 h R' :=
  CallsH.mono H fun _ _ hx => by
    obtain ⟨y2, y3, y4, y5, y6, hv, hR⟩ := hx
    exact ⟨y2, y3, y4, y5, y6, hv, hr _ _ _ _ _ _ hR⟩

abbrev finger_Tree_Split (r : World) (t1 : Option Addr) (p2 : Value) (h : Heap) (R : Option Addr → Option Addr → Heap → Prop) : Prop :=
  CallsH Try.prog r 25 [(.agg #[(.pointer t1)]), p2] h fun v h' => ∃ (y3 : Option Addr) (y4 : Option Addr), v = (.tuple #[(.agg #[(.pointer y3)]), (.agg #[(.pointer y4)])]) ∧ R y3 y4 h'

theorem finger_Tree_Split.mono {r : World} {t1 : Option Addr} {p2 : Value} {h : Heap} {R R' : Option Addr → Option Addr → Heap → Prop} (H : finger_Tree_Split r t1 p2 h R) (hr : ∀ y3 y4 h, R y3 y4 h → R' y3 y4 h) : finger_Tree_Split r t1 p2 h R' :=
  CallsH.mono H fun _ _ hx => by
    obtain ⟨y3, y4, hv, hR⟩ := hx
    exact ⟨y3, y4, hv, hr _ _ _ hR⟩

abbrev finger_Tree_Ints (r : World) (t1 : Option Addr) (h : Heap) (R : Sl → Heap → Prop) : Prop :=
  CallsH Try.prog r 19 [(.agg #[(.pointer t1)])] h fun v h' => ∃ (y2 : Sl), v = (Sl.v y2) ∧ R y2 h'

theorem finger_Tree_Ints.mono {r : World} {t1 : Option Addr} {h : Heap} {R R' : Sl → Heap → Prop} (H : finger_Tree_Ints r t1 h R) (hr : ∀ y2 h, R y2 h → R' y2 h) : finger_Tree_Ints r t1 h R' :=
  CallsH.mono H fun _ _ hx => by
    obtain ⟨y2, hv, hR⟩ := hx
    exact ⟨y2, hv, hr _ _ hR⟩

abbrev finger_Tree_Ints_1 (r : World) (l1 : Sl) (c2 : Addr) (c3 : Addr) (h : Heap) (R : Heap → Prop) : Prop :=
  CallsH Try.prog r 49 [(Sl.v l1), (.pointer (some c2)), (.pointer (some c3))] h fun v h' => v = (.tuple #[]) ∧ R  h'

theorem finger_Tree_Ints_1.mono {r : World} {l1 : Sl} {c2 : Addr} {c3 : Addr} {h : Heap} {R R' : Heap → Prop} (H : finger_Tree_Ints_1 r l1 c2 c3 h R) (hr : ∀  h, R  h → R'  h) : finger_Tree_Ints_1 r l1 c2 c3 h R' :=
  CallsH.mono H fun _ _ hx => by
    obtain ⟨hv, hR⟩ := hx
    exact ⟨hv, hr _ hR⟩

abbrev finger_Tree_Ints_2 (r : World) (v1 : Option Addr) (c2 : Addr) (c3 : Addr) (h : Heap) (R : Heap → Prop) : Prop :=
  CallsH Try.prog r 50 [(.pointer v1), (.pointer (some c2)), (.pointer (some c3))] h fun v h' => v = (.tuple #[]) ∧ R  h'

theorem finger_Tree_Ints_2.mono {r : World} {v1 : Option Addr} {c2 : Addr} {c3 : Addr} {h : Heap} {R R' : Heap → Prop} (H : finger_Tree_Ints_2 r v1 c2 c3 h R) (hr : ∀  h, R  h → R'  h) : finger_Tree_Ints_2 r v1 c2 c3 h R' :=
  CallsH.mono H fun _ _ hx => by
    obtain ⟨hv, hR⟩ := hx
    exact ⟨hv, hr _ hR⟩

abbrev finger_Tree_Digits (r : World) (t1 : Option Addr) (h : Heap) (R : Sl → Heap → Prop) : Prop :=
  CallsH Try.prog r 29 [(.agg #[(.pointer t1)])] h fun v h' => ∃ (y2 : Sl), v = (Sl.v y2) ∧ R y2 h'

theorem finger_Tree_Digits.mono {r : World} {t1 : Option Addr} {h : Heap} {R R' : Sl → Heap → Prop} (H : finger_Tree_Digits r t1 h R) (hr : ∀ y2 h, R y2 h → R' y2 h) : finger_Tree_Digits r t1 h R' :=
  CallsH.mono H fun _ _ hx => by
    obtain ⟨y2, hv, hR⟩ := hx
    exact ⟨y2, hv, hr _ _ hR⟩

/-! ### finger_Of -/

def finger_Of_F (r : World) (l1 : Sl) (h : Heap) (R : Option Addr → Heap → Prop) : Prop :=
  New h (.cells #[(.pointer none)] 26) fun p2 h1 =>
  New h1 (.cells #[(.pointer none)] 26) fun p5 h2 =>
  ∀ X9 : Int → Heap → Prop, (∀ (x8 : Int) (h3 : Heap),
    (Br (decide (x8 < ((l1.len : Int)))) (
      Ix l1 x8 1 fun q14 =>
      LdI h3 q14 fun x16 =>
      LdP h3 (Addr.add p5 0) fun x18 =>
      finger_Tree_PushRight r x18 x16 h3 fun y20 h4 =>
      St h4 p5 1 [(.pointer y20)] fun h5 =>
      X9 (w64 (x8 + 1)) h5) (
      LdP h3 (Addr.add p5 0) fun x23 =>
      St h3 p2 1 [(.pointer x23)] fun h6 =>
      LdP h6 (Addr.add p2 0) fun x27 =>
      R x27 h6)) →
    X9 x8 h3) →
  X9 0 h2

set_option maxRecDepth 100000 in
theorem finger_Of_of {r : World} {l1 : Sl} {h : Heap} {R : Option Addr → Heap → Prop} (H : finger_Of_F r l1 h R) : finger_Of r l1 h R := by
  unfold finger_Of_F at H
  refine calls_of 17 [.cell 2 26] Try.func22 rfl rfl rfl rfl rfl ?_
  refine W_seq ?_
  refine W_region (.ef 0 [] .fin .no) rfl rfl ?_
  obtain ⟨p2, e3⟩ : ∃ p : Addr, p = ⟨h.size, 0, none⟩ := ⟨_, rfl⟩
  obtain ⟨h1, e4⟩ : ∃ hh : Heap, hh = h.push (.cells #[(.pointer none)] 26) := ⟨_, rfl⟩
  have H := H p2 h1 e3 e4
  refine s_ef1 (d := some 2) (v := (.pointer (some p2))) (h' := h1) rfl rfl rfl (fun dr => (r_alloc Try.zeroValue26).trans (by rw [e3, e4]; rfl)) trivial ?_ trivial
  refine s_fin ?_
  show W _ _ _ _ _ _ _ _
  refine W_seq ?_
  refine W_region (.ef 0 [] .fin .no) rfl rfl ?_
  obtain ⟨p5, e6⟩ : ∃ p : Addr, p = ⟨h1.size, 0, none⟩ := ⟨_, rfl⟩
  obtain ⟨h2, e7⟩ : ∃ hh : Heap, hh = h1.push (.cells #[(.pointer none)] 26) := ⟨_, rfl⟩
  have H := H p5 h2 e6 e7
  refine s_ef1 (d := some 3) (v := (.pointer (some p5))) (h' := h2) rfl rfl rfl (fun dr => (r_alloc Try.zeroValue26).trans (by rw [e6, e7]; rfl)) trivial ?_ trivial
  refine s_fin ?_
  show W _ _ _ _ _ _ _ _
  refine W_seq ?_
  refine W_seq ?_
  refine W_region (.pu 0 (.pu 1 (.pu 2 .fin))) rfl rfl ?_
  refine s_pu (d := some 6) (v := (Sl.v l1)) rfl rfl rfl (r_move rfl) ?_
  refine s_pu (d := some 7) (v := (.int .i64 ((l1.len : Int)))) rfl rfl rfl (r_len Try.underlying22 rfl) ?_
  refine s_pu (d := some 8) (v := (.int .i64 0)) rfl rfl rfl (r_move rfl) ?_
  refine s_fin ?_
  show W _ _ _ _ _ _ _ _
  refine W_block ?_
  refine W_loop (WL_mk (l := [(2, (.pointer (some p2))), (3, (.pointer (some p5))), (6, (Sl.v l1)), (7, (.int .i64 ((l1.len : Int)))), (8, (.int .i64 0))]) ?_ ⟨rfl, rfl, rfl, rfl, rfl, trivial⟩)
  refine H (fun (x8 : Int) (h3 : Heap) => ∀ b, WL _ _ _ _ _ _ (mkE [(2, (.pointer (some p2))), (3, (.pointer (some p5))), (6, (Sl.v l1)), (7, (.int .i64 ((l1.len : Int)))), (8, (.int .i64 x8))] b) h3) ?_
  intro x8 h3 H b
  refine WL_round ?_
  refine W_seq ?_
  refine W_region (.pu 0 .fin) rfl rfl ?_
  refine s_pu (d := some 9) (v := (.bool (decide (x8 < ((l1.len : Int)))))) rfl rfl rfl (r_lss rfl rfl) ?_
  refine s_fin ?_
  show W _ _ _ _ _ _ _ _
  refine W_seq ?_
  refine W_if (decide (x8 < ((l1.len : Int)))) rfl (fun g29 => ?_) (fun g29 => ?_)
  · have H := H.1 g29
    refine W_skip ?_
    show W _ _ _ _ _ _ _ _
    refine W_seq ?_
    refine W_block ?_
    refine W_seq ?_
    refine W_region (.pu 0 (.rl 1 (.pu 2 .fin))) rfl rfl ?_
    obtain ⟨p10, e11, e12, e13, H⟩ := H
    obtain ⟨q14, e15⟩ : ∃ q : Addr, q = Addr.add p10 (Int.toNat x8 * 1) := ⟨_, rfl⟩
    rw [← e15] at H
    refine s_pu (d := some 10) (v := (.pointer (some q14))) rfl rfl rfl (fun w => (r_indexAddr Try.underlying22 Try.sizeOf3 rfl rfl e11 e12 e13 w).trans (by rw [e15])) ?_
    obtain ⟨x16, e17, H⟩ := H
    refine s_rl (d := some 11) (v := (.int .i64 x16)) rfl rfl rfl (fun dr => r_load1 Try.isAgg3 rfl e17) ?_
    refine s_pu (d := some 5) (v := (.int .i64 x16)) rfl rfl rfl (r_assign rfl) ?_
    refine s_fin ?_
    show W _ _ _ _ _ _ _ _
    refine W_region (.rl 0 (.pu 1 (.ef 2 [] (.ef 3 [] .fin .no) .no))) rfl rfl ?_
    obtain ⟨x18, e19, H⟩ := H
    refine s_rl (d := some 12) (v := (.agg #[(.pointer x18)])) rfl rfl rfl (fun dr => r_loadN Try.isAgg26 Try.sizeOf26 (vs := [(.pointer x18)]) rfl rfl ⟨e19, trivial⟩) ?_
    refine s_pu (d := some 13) (v := (.int .i64 x16)) rfl rfl rfl (r_move rfl) ?_
    refine s_ef (d := some 14) rfl rfl rfl (fun dr => r_call Try.call14 rfl rfl H) ?_ trivial
    rintro _ h4 ⟨y20, rfl, H⟩
    refine ⟨trivial, ?_⟩
    obtain ⟨e22, H⟩ := H
    obtain ⟨h5, e21⟩ : ∃ hh : Heap, hh = hsets h4 p5 0 [(.pointer y20)] := ⟨_, rfl⟩
    have H := H h5 e21
    refine s_st (d := none) (h' := h5) rfl rfl rfl (fun dr => (r_store (v := (.agg #[(.pointer y20)])) Try.sizeOf26 rfl rfl rfl (one_all rfl) e22).trans (by rw [e21]; rfl)) trivial ?_ trivial
    refine s_fin ?_
    show W _ _ _ _ _ _ _ _
    refine W_region (.pu 0 (.pu 1 .fin)) rfl rfl ?_
    refine s_pu (d := some 15) (v := (.int .i64 (w64 (x8 + 1)))) rfl rfl rfl (r_add rfl rfl) ?_
    refine s_pu (d := some 8) (v := (.int .i64 (w64 (x8 + 1)))) rfl rfl rfl (r_move rfl) ?_
    refine s_fin ?_
    exact WL_mk (l := [(2, (.pointer (some p2))), (3, (.pointer (some p5))), (6, (Sl.v l1)), (7, (.int .i64 ((l1.len : Int)))), (8, (.int .i64 (w64 (x8 + 1))))]) H ⟨rfl, rfl, rfl, rfl, rfl, trivial⟩
  · have H := H.2 g29
    refine W_exit (inX_here ?_)
    show W _ _ _ _ _ _ _ _
    refine W_seq ?_
    refine W_region (.rl 0 (.ef 1 [] .fin .no)) rfl rfl ?_
    obtain ⟨x23, e24, H⟩ := H
    refine s_rl (d := some 16) (v := (.agg #[(.pointer x23)])) rfl rfl rfl (fun dr => r_loadN Try.isAgg26 Try.sizeOf26 (vs := [(.pointer x23)]) rfl rfl ⟨e24, trivial⟩) ?_
    obtain ⟨e26, H⟩ := H
    obtain ⟨h6, e25⟩ : ∃ hh : Heap, hh = hsets h3 p2 0 [(.pointer x23)] := ⟨_, rfl⟩
    have H := H h6 e25
    refine s_st (d := none) (h' := h6) rfl rfl rfl (fun dr => (r_store (v := (.agg #[(.pointer x23)])) Try.sizeOf26 rfl rfl rfl (one_all rfl) e26).trans (by rw [e25]; rfl)) trivial ?_ trivial
    refine s_fin ?_
    show W _ _ _ _ _ _ _ _
    refine W_ret ?_
    obtain ⟨x27, e28, H⟩ := H
    exact ⟨[(.agg #[(.pointer x27)])], ⟨_, _, _, rfl, rfl, fun dr => run_loadVarN Try.isAgg26 Try.sizeOf26 (vs := [(.pointer x27)]) rfl ⟨e28, trivial⟩, rfl⟩, x27, rfl, H⟩

/-! ### finger_Tree_PushLeft -/

def finger_Tree_PushLeft_F (r : World) (t1 : Option Addr) (x2 : Int) (h : Heap) (R : Option Addr → Heap → Prop) : Prop :=
  New h (.cells #[(.pointer t1)] 26) fun p3 h1 =>
  New h1 (.cells #[(.pointer none)] 26) fun p6 h2 =>
  LdP h2 (Addr.add p3 0) fun x9 =>
  finger_number r x2 h2 fun y11 h3 =>
  (hcell h3 (Addr.add p3 0) = some (.pointer x9)) ∧
  finger_pushLeft r y11 x9 h3 fun y13 h4 =>
  St h4 p6 1 [(.pointer y13)] fun h5 =>
  LdP h5 (Addr.add p6 0) fun x16 =>
  R x16 h5

set_option maxRecDepth 100000 in
theorem finger_Tree_PushLeft_of {r : World} {t1 : Option Addr} {x2 : Int} {h : Heap} {R : Option Addr → Heap → Prop} (H : finger_Tree_PushLeft_F r t1 x2 h R) : finger_Tree_PushLeft r t1 x2 h R := by
  unfold finger_Tree_PushLeft_F at H
  refine calls_of 11 [.cell 4 26] Try.func13 rfl rfl rfl rfl rfl ?_
  refine W_seq ?_
  refine W_region (.ef 0 [] (.ef 1 [] .fin .no) .no) rfl rfl ?_
  obtain ⟨p3, e4⟩ : ∃ p : Addr, p = ⟨h.size, 0, none⟩ := ⟨_, rfl⟩
  obtain ⟨h1, e5⟩ : ∃ hh : Heap, hh = h.push (.cells #[(.pointer t1)] 26) := ⟨_, rfl⟩
  have H := H p3 h1 e4 e5
  refine s_ef1 (d := some 2) (v := (.pointer (some p3))) (h' := h1) rfl rfl rfl (fun dr => (r_box (v := (.agg #[(.pointer t1)])) rfl).trans (by rw [e4, e5]; rfl)) trivial ?_ trivial
  obtain ⟨p6, e7⟩ : ∃ p : Addr, p = ⟨h1.size, 0, none⟩ := ⟨_, rfl⟩
  obtain ⟨h2, e8⟩ : ∃ hh : Heap, hh = h1.push (.cells #[(.pointer none)] 26) := ⟨_, rfl⟩
  have H := H p6 h2 e7 e8
  refine s_ef1 (d := some 4) (v := (.pointer (some p6))) (h' := h2) rfl rfl rfl (fun dr => (r_alloc Try.zeroValue26).trans (by rw [e7, e8]; rfl)) trivial ?_ trivial
  refine s_fin ?_
  show W _ _ _ _ _ _ _ _
  refine W_seq ?_
  refine W_draw [0, 1, 0, 4, 15, 31, 63] (.pu 0 (.pu 2 (.rd 3 (.ef 1 [] (.ef 4 [3] (.pu 5 (.ef 6 [3] .fin .no)) .no) .no)))) (by kernel_rfl) (by kernel_rfl) ?_
  refine s_pu (d := some 5) (v := (.int .i64 x2)) rfl rfl rfl (r_move rfl) ?_
  refine s_pu (d := some 7) (v := (.pointer (some (Addr.add p3 0)))) rfl rfl rfl (r_fieldAddr Try.underlying26 Try.sizeOf24 rfl rfl rfl) ?_
  obtain ⟨x9, e10, H⟩ := H
  refine s_rd (d := some 8) (v := (.pointer x9)) rfl rfl rfl (fun dr => r_load1 Try.isAgg24 rfl e10) ?_
  refine s_ef (d := some 6) rfl rfl rfl (fun dr => r_call Try.call45 rfl rfl H) ?_ trivial
  rintro _ h3 ⟨y11, rfl, H⟩
  obtain ⟨e12, H⟩ := H
  refine ⟨⟨(.inl ⟨rfl, fun dr => r_load1 Try.isAgg24 rfl e12⟩), trivial⟩, ?_⟩
  refine s_ef (d := some 9) rfl rfl rfl (fun dr => r_call Try.call44 rfl rfl H) ?_ trivial
  rintro _ h4 ⟨y13, rfl, H⟩
  refine ⟨⟨trivial, trivial⟩, ?_⟩
  refine s_pu (d := some 10) (v := (.agg #[(.pointer y13)])) rfl rfl rfl (fun w => by kernel_rfl) ?_
  obtain ⟨e15, H⟩ := H
  obtain ⟨h5, e14⟩ : ∃ hh : Heap, hh = hsets h4 p6 0 [(.pointer y13)] := ⟨_, rfl⟩
  have H := H h5 e14
  refine s_st (d := none) (h' := h5) rfl rfl rfl (fun dr => (r_store (v := (.agg #[(.pointer y13)])) Try.sizeOf26 rfl rfl rfl (one_all rfl) e15).trans (by rw [e14]; rfl)) ⟨trivial, trivial⟩ ?_ trivial
  refine s_fin ?_
  show W _ _ _ _ _ _ _ _
  refine W_ret ?_
  obtain ⟨x16, e17, H⟩ := H
  exact ⟨[(.agg #[(.pointer x16)])], ⟨_, _, _, rfl, rfl, fun dr => run_loadVarN Try.isAgg26 Try.sizeOf26 (vs := [(.pointer x16)]) rfl ⟨e17, trivial⟩, rfl⟩, x16, rfl, H⟩

/-! ### finger_Tree_PushRight -/

def finger_Tree_PushRight_F (r : World) (t1 : Option Addr) (x2 : Int) (h : Heap) (R : Option Addr → Heap → Prop) : Prop :=
  New h (.cells #[(.pointer t1)] 26) fun p3 h1 =>
  New h1 (.cells #[(.pointer none)] 26) fun p6 h2 =>
  LdP h2 (Addr.add p3 0) fun x9 =>
  finger_number r x2 h2 fun y11 h3 =>
  (hcell h3 (Addr.add p3 0) = some (.pointer x9)) ∧
  finger_pushRight r x9 y11 h3 fun y13 h4 =>
  St h4 p6 1 [(.pointer y13)] fun h5 =>
  LdP h5 (Addr.add p6 0) fun x16 =>
  R x16 h5

set_option maxRecDepth 100000 in
theorem finger_Tree_PushRight_of {r : World} {t1 : Option Addr} {x2 : Int} {h : Heap} {R : Option Addr → Heap → Prop} (H : finger_Tree_PushRight_F r t1 x2 h R) : finger_Tree_PushRight r t1 x2 h R := by
  unfold finger_Tree_PushRight_F at H
  refine calls_of 11 [.cell 4 26] Try.func14 rfl rfl rfl rfl rfl ?_
  refine W_seq ?_
  refine W_region (.ef 0 [] (.ef 1 [] .fin .no) .no) rfl rfl ?_
  obtain ⟨p3, e4⟩ : ∃ p : Addr, p = ⟨h.size, 0, none⟩ := ⟨_, rfl⟩
  obtain ⟨h1, e5⟩ : ∃ hh : Heap, hh = h.push (.cells #[(.pointer t1)] 26) := ⟨_, rfl⟩
  have H := H p3 h1 e4 e5
  refine s_ef1 (d := some 2) (v := (.pointer (some p3))) (h' := h1) rfl rfl rfl (fun dr => (r_box (v := (.agg #[(.pointer t1)])) rfl).trans (by rw [e4, e5]; rfl)) trivial ?_ trivial
  obtain ⟨p6, e7⟩ : ∃ p : Addr, p = ⟨h1.size, 0, none⟩ := ⟨_, rfl⟩
  obtain ⟨h2, e8⟩ : ∃ hh : Heap, hh = h1.push (.cells #[(.pointer none)] 26) := ⟨_, rfl⟩
  have H := H p6 h2 e7 e8
  refine s_ef1 (d := some 4) (v := (.pointer (some p6))) (h' := h2) rfl rfl rfl (fun dr => (r_alloc Try.zeroValue26).trans (by rw [e7, e8]; rfl)) trivial ?_ trivial
  refine s_fin ?_
  show W _ _ _ _ _ _ _ _
  refine W_seq ?_
  refine W_draw [0, 1, 0, 4, 15, 31, 63] (.pu 0 (.rd 1 (.pu 2 (.ef 3 [] (.ef 4 [1] (.pu 5 (.ef 6 [1] .fin .no)) .no) .no)))) (by kernel_rfl) (by kernel_rfl) ?_
  refine s_pu (d := some 5) (v := (.pointer (some (Addr.add p3 0)))) rfl rfl rfl (r_fieldAddr Try.underlying26 Try.sizeOf24 rfl rfl rfl) ?_
  obtain ⟨x9, e10, H⟩ := H
  refine s_rd (d := some 6) (v := (.pointer x9)) rfl rfl rfl (fun dr => r_load1 Try.isAgg24 rfl e10) ?_
  refine s_pu (d := some 7) (v := (.int .i64 x2)) rfl rfl rfl (r_move rfl) ?_
  refine s_ef (d := some 8) rfl rfl rfl (fun dr => r_call Try.call45 rfl rfl H) ?_ trivial
  rintro _ h3 ⟨y11, rfl, H⟩
  obtain ⟨e12, H⟩ := H
  refine ⟨⟨(.inl ⟨rfl, fun dr => r_load1 Try.isAgg24 rfl e12⟩), trivial⟩, ?_⟩
  refine s_ef (d := some 9) rfl rfl rfl (fun dr => r_call Try.call46 rfl rfl H) ?_ trivial
  rintro _ h4 ⟨y13, rfl, H⟩
  refine ⟨⟨trivial, trivial⟩, ?_⟩
  refine s_pu (d := some 10) (v := (.agg #[(.pointer y13)])) rfl rfl rfl (fun w => by kernel_rfl) ?_
  obtain ⟨e15, H⟩ := H
  obtain ⟨h5, e14⟩ : ∃ hh : Heap, hh = hsets h4 p6 0 [(.pointer y13)] := ⟨_, rfl⟩
  have H := H h5 e14
  refine s_st (d := none) (h' := h5) rfl rfl rfl (fun dr => (r_store (v := (.agg #[(.pointer y13)])) Try.sizeOf26 rfl rfl rfl (one_all rfl) e15).trans (by rw [e14]; rfl)) ⟨trivial, trivial⟩ ?_ trivial
  refine s_fin ?_
  show W _ _ _ _ _ _ _ _
  refine W_ret ?_
  obtain ⟨x16, e17, H⟩ := H
  exact ⟨[(.agg #[(.pointer x16)])], ⟨_, _, _, rfl, rfl, fun dr => run_loadVarN Try.isAgg26 Try.sizeOf26 (vs := [(.pointer x16)]) rfl ⟨e17, trivial⟩, rfl⟩, x16, rfl, H⟩

/-! ### finger_Tree_PopLeft -/

def finger_Tree_PopLeft_F (r : World) (t1 : Option Addr) (h : Heap) (R : Int → Option Addr → Bool → Heap → Prop) : Prop :=
  New h (.cells #[(.pointer t1)] 26) fun p2 h1 =>
  New h1 (.cells #[(.pointer none)] 26) fun p5 h2 =>
  LdP h2 (Addr.add p2 0) fun x8 =>
  Br (Option.isNone x8) (
    St h2 p5 1 [(.pointer none)] fun h3 =>
    LdP h3 (Addr.add p5 0) fun x12 =>
    R 0 x12 false h3) (
    LdP h2 (Addr.add p2 0) fun x14 =>
    finger_popLeft r x14 h2 fun y16 y17 h4 =>
    Ck y16 fun p18 =>
    LdI h4 (Addr.add p18 5) fun x20 =>
    St h4 p5 1 [(.pointer y17)] fun h5 =>
    LdP h5 (Addr.add p5 0) fun x24 =>
    R x20 x24 true h5)

set_option maxRecDepth 100000 in
theorem finger_Tree_PopLeft_of {r : World} {t1 : Option Addr} {h : Heap} {R : Int → Option Addr → Bool → Heap → Prop} (H : finger_Tree_PopLeft_F r t1 h R) : finger_Tree_PopLeft r t1 h R := by
  unfold finger_Tree_PopLeft_F at H
  refine calls_of 23 [.tmp 2, .cell 3 26, .tmp 4] Try.func16 rfl rfl rfl rfl rfl ?_
  refine W_seq ?_
  refine W_region (.ef 0 [] (.pu 1 (.ef 2 [] (.pu 3 .fin) .no)) .no) rfl rfl ?_
  obtain ⟨p2, e3⟩ : ∃ p : Addr, p = ⟨h.size, 0, none⟩ := ⟨_, rfl⟩
  obtain ⟨h1, e4⟩ : ∃ hh : Heap, hh = h.push (.cells #[(.pointer t1)] 26) := ⟨_, rfl⟩
  have H := H p2 h1 e3 e4
  refine s_ef1 (d := some 1) (v := (.pointer (some p2))) (h' := h1) rfl rfl rfl (fun dr => (r_box (v := (.agg #[(.pointer t1)])) rfl).trans (by rw [e3, e4]; rfl)) trivial ?_ trivial
  refine s_pu (d := some 2) (v := (.int .i64 0)) rfl rfl rfl (r_assign rfl) ?_
  obtain ⟨p5, e6⟩ : ∃ p : Addr, p = ⟨h1.size, 0, none⟩ := ⟨_, rfl⟩
  obtain ⟨h2, e7⟩ : ∃ hh : Heap, hh = h1.push (.cells #[(.pointer none)] 26) := ⟨_, rfl⟩
  have H := H p5 h2 e6 e7
  refine s_ef1 (d := some 3) (v := (.pointer (some p5))) (h' := h2) rfl rfl rfl (fun dr => (r_alloc Try.zeroValue26).trans (by rw [e6, e7]; rfl)) trivial ?_ trivial
  refine s_pu (d := some 4) (v := (.bool false)) rfl rfl rfl (r_assign rfl) ?_
  refine s_fin ?_
  show W _ _ _ _ _ _ _ _
  refine W_seq ?_
  refine W_seq ?_
  refine W_region (.pu 0 (.rl 1 (.pu 2 .fin))) rfl rfl ?_
  refine s_pu (d := some 7) (v := (.pointer (some (Addr.add p2 0)))) rfl rfl rfl (r_fieldAddr Try.underlying26 Try.sizeOf24 rfl rfl rfl) ?_
  obtain ⟨x8, e9, H⟩ := H
  refine s_rl (d := some 8) (v := (.pointer x8)) rfl rfl rfl (fun dr => r_load1 Try.isAgg24 rfl e9) ?_
  refine s_pu (d := some 9) (v := (.bool (Option.isNone x8))) rfl rfl rfl (r_nilP Try.underlying24 rfl rfl) ?_
  refine s_fin ?_
  show W _ _ _ _ _ _ _ _
  refine W_if (Option.isNone x8) rfl (fun g26 => ?_) (fun g26 => ?_)
  · have H := H.1 g26
    refine W_seq ?_
    refine W_region (.pu 0 (.pu 1 (.ef 2 [] (.pu 3 .fin) .no))) rfl rfl ?_
    refine s_pu (d := some 10) (v := (.agg #[(.pointer none)])) rfl rfl rfl (fun w => by kernel_rfl) ?_
    refine s_pu (d := some 2) (v := (.int .i64 0)) rfl rfl rfl (r_assign rfl) ?_
    obtain ⟨e11, H⟩ := H
    obtain ⟨h3, e10⟩ : ∃ hh : Heap, hh = hsets h2 p5 0 [(.pointer none)] := ⟨_, rfl⟩
    have H := H h3 e10
    refine s_st (d := none) (h' := h3) rfl rfl rfl (fun dr => (r_store (v := (.agg #[(.pointer none)])) Try.sizeOf26 rfl rfl rfl (one_all rfl) e11).trans (by rw [e10]; rfl)) trivial ?_ trivial
    refine s_pu (d := some 4) (v := (.bool false)) rfl rfl rfl (r_assign rfl) ?_
    refine s_fin ?_
    show W _ _ _ _ _ _ _ _
    refine W_ret ?_
    obtain ⟨x12, e13, H⟩ := H
    exact ⟨[(.int .i64 0), (.agg #[(.pointer x12)]), (.bool false)], ⟨_, _, rfl, rfl, ⟨_, _, _, rfl, rfl, fun dr => run_loadVarN Try.isAgg26 Try.sizeOf26 (vs := [(.pointer x12)]) rfl ⟨e13, trivial⟩, ⟨_, _, rfl, rfl, rfl⟩⟩⟩, 0, x12, false, rfl, H⟩
  · have H := H.2 g26
    refine W_skip ?_
    show W _ _ _ _ _ _ _ _
    refine W_seq ?_
    refine W_region (.pu 0 (.rl 1 (.ef 2 [] (.pu 3 (.pu 4 (.pu 5 (.pu 6 (.pu 7 .fin))))) .no))) rfl rfl ?_
    refine s_pu (d := some 12) (v := (.pointer (some (Addr.add p2 0)))) rfl rfl rfl (r_fieldAddr Try.underlying26 Try.sizeOf24 rfl rfl rfl) ?_
    obtain ⟨x14, e15, H⟩ := H
    refine s_rl (d := some 13) (v := (.pointer x14)) rfl rfl rfl (fun dr => r_load1 Try.isAgg24 rfl e15) ?_
    refine s_ef (d := some 14) rfl rfl rfl (fun dr => r_call Try.call47 rfl rfl H) ?_ trivial
    rintro _ h4 ⟨y16, y17, rfl, H⟩
    refine ⟨trivial, ?_⟩
    refine s_pu (d := some 11) (v := (.tuple #[(.pointer y16), (.pointer y17)])) rfl rfl rfl (r_move rfl) ?_
    refine s_pu (d := some 15) (v := (.pointer y16)) rfl rfl rfl (r_extract rfl rfl) ?_
    refine s_pu (d := some 16) (v := (.pointer y17)) rfl rfl rfl (r_extract rfl rfl) ?_
    refine s_pu (d := some 5) (v := (.pointer y16)) rfl rfl rfl (r_assign rfl) ?_
    refine s_pu (d := some 6) (v := (.pointer y17)) rfl rfl rfl (r_assign rfl) ?_
    refine s_fin ?_
    show W _ _ _ _ _ _ _ _
    refine W_seq ?_
    refine W_region (.pu 0 (.pu 1 (.pu 2 (.rl 3 (.pu 4 (.pu 5 (.pu 6 (.ef 7 [] (.pu 8 .fin) .no)))))))) rfl rfl ?_
    refine s_pu (d := some 17) (v := (.pointer y16)) rfl rfl rfl (r_move rfl) ?_
    obtain ⟨p18, e19, H⟩ := H
    refine s_pu (d := some 18) (v := (.pointer (some p18))) rfl rfl rfl (r_nilCheck rfl e19) ?_
    refine s_pu (d := some 19) (v := (.pointer (some (Addr.add p18 5)))) rfl rfl rfl (r_fieldAddr Try.underlying76 Try.sizeOf3 rfl rfl rfl) ?_
    obtain ⟨x20, e21, H⟩ := H
    refine s_rl (d := some 20) (v := (.int .i64 x20)) rfl rfl rfl (fun dr => r_load1 Try.isAgg3 rfl e21) ?_
    refine s_pu (d := some 21) (v := (.pointer y17)) rfl rfl rfl (r_move rfl) ?_
    refine s_pu (d := some 22) (v := (.agg #[(.pointer y17)])) rfl rfl rfl (fun w => by kernel_rfl) ?_
    refine s_pu (d := some 2) (v := (.int .i64 x20)) rfl rfl rfl (r_assign rfl) ?_
    obtain ⟨e23, H⟩ := H
    obtain ⟨h5, e22⟩ : ∃ hh : Heap, hh = hsets h4 p5 0 [(.pointer y17)] := ⟨_, rfl⟩
    have H := H h5 e22
    refine s_st (d := none) (h' := h5) rfl rfl rfl (fun dr => (r_store (v := (.agg #[(.pointer y17)])) Try.sizeOf26 rfl rfl rfl (one_all rfl) e23).trans (by rw [e22]; rfl)) trivial ?_ trivial
    refine s_pu (d := some 4) (v := (.bool true)) rfl rfl rfl (r_assign rfl) ?_
    refine s_fin ?_
    show W _ _ _ _ _ _ _ _
    refine W_ret ?_
    obtain ⟨x24, e25, H⟩ := H
    exact ⟨[(.int .i64 x20), (.agg #[(.pointer x24)]), (.bool true)], ⟨_, _, rfl, rfl, ⟨_, _, _, rfl, rfl, fun dr => run_loadVarN Try.isAgg26 Try.sizeOf26 (vs := [(.pointer x24)]) rfl ⟨e25, trivial⟩, ⟨_, _, rfl, rfl, rfl⟩⟩⟩, x20, x24, true, rfl, H⟩

/-! ### finger_Tree_PopRight -/

def finger_Tree_PopRight_F (r : World) (t1 : Option Addr) (h : Heap) (R : Int → Option Addr → Bool → Heap → Prop) : Prop :=
  New h (.cells #[(.pointer t1)] 26) fun p2 h1 =>
  New h1 (.cells #[(.pointer none)] 26) fun p5 h2 =>
  LdP h2 (Addr.add p2 0) fun x8 =>
  Br (Option.isNone x8) (
    St h2 p5 1 [(.pointer none)] fun h3 =>
    LdP h3 (Addr.add p5 0) fun x12 =>
    R 0 x12 false h3) (
    LdP h2 (Addr.add p2 0) fun x14 =>
    finger_popRight r x14 h2 fun y16 y17 h4 =>
    Ck y16 fun p18 =>
    LdI h4 (Addr.add p18 5) fun x20 =>
    St h4 p5 1 [(.pointer y17)] fun h5 =>
    LdP h5 (Addr.add p5 0) fun x24 =>
    R x20 x24 true h5)

set_option maxRecDepth 100000 in
theorem finger_Tree_PopRight_of {r : World} {t1 : Option Addr} {h : Heap} {R : Int → Option Addr → Bool → Heap → Prop} (H : finger_Tree_PopRight_F r t1 h R) : finger_Tree_PopRight r t1 h R := by
  unfold finger_Tree_PopRight_F at H
  refine calls_of 23 [.tmp 2, .cell 3 26, .tmp 4] Try.func17 rfl rfl rfl rfl rfl ?_
  refine W_seq ?_
  refine W_region (.ef 0 [] (.pu 1 (.ef 2 [] (.pu 3 .fin) .no)) .no) rfl rfl ?_
  obtain ⟨p2, e3⟩ : ∃ p : Addr, p = ⟨h.size, 0, none⟩ := ⟨_, rfl⟩
  obtain ⟨h1, e4⟩ : ∃ hh : Heap, hh = h.push (.cells #[(.pointer t1)] 26) := ⟨_, rfl⟩
  have H := H p2 h1 e3 e4
  refine s_ef1 (d := some 1) (v := (.pointer (some p2))) (h' := h1) rfl rfl rfl (fun dr => (r_box (v := (.agg #[(.pointer t1)])) rfl).trans (by rw [e3, e4]; rfl)) trivial ?_ trivial
  refine s_pu (d := some 2) (v := (.int .i64 0)) rfl rfl rfl (r_assign rfl) ?_
  obtain ⟨p5, e6⟩ : ∃ p : Addr, p = ⟨h1.size, 0, none⟩ := ⟨_, rfl⟩
  obtain ⟨h2, e7⟩ : ∃ hh : Heap, hh = h1.push (.cells #[(.pointer none)] 26) := ⟨_, rfl⟩
  have H := H p5 h2 e6 e7
  refine s_ef1 (d := some 3) (v := (.pointer (some p5))) (h' := h2) rfl rfl rfl (fun dr => (r_alloc Try.zeroValue26).trans (by rw [e6, e7]; rfl)) trivial ?_ trivial
  refine s_pu (d := some 4) (v := (.bool false)) rfl rfl rfl (r_assign rfl) ?_
  refine s_fin ?_
  show W _ _ _ _ _ _ _ _
  refine W_seq ?_
  refine W_seq ?_
  refine W_region (.pu 0 (.rl 1 (.pu 2 .fin))) rfl rfl ?_
  refine s_pu (d := some 7) (v := (.pointer (some (Addr.add p2 0)))) rfl rfl rfl (r_fieldAddr Try.underlying26 Try.sizeOf24 rfl rfl rfl) ?_
  obtain ⟨x8, e9, H⟩ := H
  refine s_rl (d := some 8) (v := (.pointer x8)) rfl rfl rfl (fun dr => r_load1 Try.isAgg24 rfl e9) ?_
  refine s_pu (d := some 9) (v := (.bool (Option.isNone x8))) rfl rfl rfl (r_nilP Try.underlying24 rfl rfl) ?_
  refine s_fin ?_
  show W _ _ _ _ _ _ _ _
  refine W_if (Option.isNone x8) rfl (fun g26 => ?_) (fun g26 => ?_)
  · have H := H.1 g26
    refine W_seq ?_
    refine W_region (.pu 0 (.pu 1 (.ef 2 [] (.pu 3 .fin) .no))) rfl rfl ?_
    refine s_pu (d := some 10) (v := (.agg #[(.pointer none)])) rfl rfl rfl (fun w => by kernel_rfl) ?_
    refine s_pu (d := some 2) (v := (.int .i64 0)) rfl rfl rfl (r_assign rfl) ?_
    obtain ⟨e11, H⟩ := H
    obtain ⟨h3, e10⟩ : ∃ hh : Heap, hh = hsets h2 p5 0 [(.pointer none)] := ⟨_, rfl⟩
    have H := H h3 e10
    refine s_st (d := none) (h' := h3) rfl rfl rfl (fun dr => (r_store (v := (.agg #[(.pointer none)])) Try.sizeOf26 rfl rfl rfl (one_all rfl) e11).trans (by rw [e10]; rfl)) trivial ?_ trivial
    refine s_pu (d := some 4) (v := (.bool false)) rfl rfl rfl (r_assign rfl) ?_
    refine s_fin ?_
    show W _ _ _ _ _ _ _ _
    refine W_ret ?_
    obtain ⟨x12, e13, H⟩ := H
    exact ⟨[(.int .i64 0), (.agg #[(.pointer x12)]), (.bool false)], ⟨_, _, rfl, rfl, ⟨_, _, _, rfl, rfl, fun dr => run_loadVarN Try.isAgg26 Try.sizeOf26 (vs := [(.pointer x12)]) rfl ⟨e13, trivial⟩, ⟨_, _, rfl, rfl, rfl⟩⟩⟩, 0, x12, false, rfl, H⟩
  · have H := H.2 g26
    refine W_skip ?_
    show W _ _ _ _ _ _ _ _
    refine W_seq ?_
    refine W_region (.pu 0 (.rl 1 (.ef 2 [] (.pu 3 (.pu 4 (.pu 5 (.pu 6 (.pu 7 .fin))))) .no))) rfl rfl ?_
    refine s_pu (d := some 12) (v := (.pointer (some (Addr.add p2 0)))) rfl rfl rfl (r_fieldAddr Try.underlying26 Try.sizeOf24 rfl rfl rfl) ?_
    obtain ⟨x14, e15, H⟩ := H
    refine s_rl (d := some 13) (v := (.pointer x14)) rfl rfl rfl (fun dr => r_load1 Try.isAgg24 rfl e15) ?_
    refine s_ef (d := some 14) rfl rfl rfl (fun dr => r_call Try.call48 rfl rfl H) ?_ trivial
    rintro _ h4 ⟨y16, y17, rfl, H⟩
    refine ⟨trivial, ?_⟩
    refine s_pu (d := some 11) (v := (.tuple #[(.pointer y16), (.pointer y17)])) rfl rfl rfl (r_move rfl) ?_
    refine s_pu (d := some 15) (v := (.pointer y16)) rfl rfl rfl (r_extract rfl rfl) ?_
    refine s_pu (d := some 16) (v := (.pointer y17)) rfl rfl rfl (r_extract rfl rfl) ?_
    refine s_pu (d := some 5) (v := (.pointer y16)) rfl rfl rfl (r_assign rfl) ?_
    refine s_pu (d := some 6) (v := (.pointer y17)) rfl rfl rfl (r_assign rfl) ?_
    refine s_fin ?_
    show W _ _ _ _ _ _ _ _
    refine W_seq ?_
    refine W_region (.pu 0 (.pu 1 (.pu 2 (.rl 3 (.pu 4 (.pu 5 (.pu 6 (.ef 7 [] (.pu 8 .fin) .no)))))))) rfl rfl ?_
    refine s_pu (d := some 17) (v := (.pointer y16)) rfl rfl rfl (r_move rfl) ?_
    obtain ⟨p18, e19, H⟩ := H
    refine s_pu (d := some 18) (v := (.pointer (some p18))) rfl rfl rfl (r_nilCheck rfl e19) ?_
    refine s_pu (d := some 19) (v := (.pointer (some (Addr.add p18 5)))) rfl rfl rfl (r_fieldAddr Try.underlying76 Try.sizeOf3 rfl rfl rfl) ?_
    obtain ⟨x20, e21, H⟩ := H
    refine s_rl (d := some 20) (v := (.int .i64 x20)) rfl rfl rfl (fun dr => r_load1 Try.isAgg3 rfl e21) ?_
    refine s_pu (d := some 21) (v := (.pointer y17)) rfl rfl rfl (r_move rfl) ?_
    refine s_pu (d := some 22) (v := (.agg #[(.pointer y17)])) rfl rfl rfl (fun w => by kernel_rfl) ?_
    refine s_pu (d := some 2) (v := (.int .i64 x20)) rfl rfl rfl (r_assign rfl) ?_
    obtain ⟨e23, H⟩ := H
    obtain ⟨h5, e22⟩ : ∃ hh : Heap, hh = hsets h4 p5 0 [(.pointer y17)] := ⟨_, rfl⟩
    have H := H h5 e22
    refine s_st (d := none) (h' := h5) rfl rfl rfl (fun dr => (r_store (v := (.agg #[(.pointer y17)])) Try.sizeOf26 rfl rfl rfl (one_all rfl) e23).trans (by rw [e22]; rfl)) trivial ?_ trivial
    refine s_pu (d := some 4) (v := (.bool true)) rfl rfl rfl (r_assign rfl) ?_
    refine s_fin ?_
    show W _ _ _ _ _ _ _ _
    refine W_ret ?_
    obtain ⟨x24, e25, H⟩ := H
    exact ⟨[(.int .i64 x20), (.agg #[(.pointer x24)]), (.bool true)], ⟨_, _, rfl, rfl, ⟨_, _, _, rfl, rfl, fun dr => run_loadVarN Try.isAgg26 Try.sizeOf26 (vs := [(.pointer x24)]) rfl ⟨e25, trivial⟩, ⟨_, _, rfl, rfl, rfl⟩⟩⟩, x20, x24, true, rfl, H⟩

/-! ### finger_Tree_Join -/

def finger_Tree_Join_F (r : World) (t1 : Option Addr) (u2 : Option Addr) (h : Heap) (R : Option Addr → Heap → Prop) : Prop :=
  New h (.cells #[(.pointer t1)] 26) fun p3 h1 =>
  New h1 (.cells #[(.pointer u2)] 26) fun p6 h2 =>
  New h2 (.cells #[(.pointer none)] 26) fun p9 h3 =>
  LdP h3 (Addr.add p3 0) fun x12 =>
  LdP h3 (Addr.add p6 0) fun x14 =>
  finger_joined r x12 Sl.nil x14 h3 fun y16 h4 =>
  St h4 p9 1 [(.pointer y16)] fun h5 =>
  LdP h5 (Addr.add p9 0) fun x19 =>
  R x19 h5

set_option maxRecDepth 100000 in
theorem finger_Tree_Join_of {r : World} {t1 : Option Addr} {u2 : Option Addr} {h : Heap} {R : Option Addr → Heap → Prop} (H : finger_Tree_Join_F r t1 u2 h R) : finger_Tree_Join r t1 u2 h R := by
  unfold finger_Tree_Join_F at H
  refine calls_of 11 [.cell 4 26] Try.func26 rfl rfl rfl rfl rfl ?_
  refine W_seq ?_
  refine W_region (.ef 0 [] (.ef 1 [] (.ef 2 [] .fin .no) .no) .no) rfl rfl ?_
  obtain ⟨p3, e4⟩ : ∃ p : Addr, p = ⟨h.size, 0, none⟩ := ⟨_, rfl⟩
  obtain ⟨h1, e5⟩ : ∃ hh : Heap, hh = h.push (.cells #[(.pointer t1)] 26) := ⟨_, rfl⟩
  have H := H p3 h1 e4 e5
  refine s_ef1 (d := some 2) (v := (.pointer (some p3))) (h' := h1) rfl rfl rfl (fun dr => (r_box (v := (.agg #[(.pointer t1)])) rfl).trans (by rw [e4, e5]; rfl)) trivial ?_ trivial
  obtain ⟨p6, e7⟩ : ∃ p : Addr, p = ⟨h1.size, 0, none⟩ := ⟨_, rfl⟩
  obtain ⟨h2, e8⟩ : ∃ hh : Heap, hh = h1.push (.cells #[(.pointer u2)] 26) := ⟨_, rfl⟩
  have H := H p6 h2 e7 e8
  refine s_ef1 (d := some 3) (v := (.pointer (some p6))) (h' := h2) rfl rfl rfl (fun dr => (r_box (v := (.agg #[(.pointer u2)])) rfl).trans (by rw [e7, e8]; rfl)) trivial ?_ trivial
  obtain ⟨p9, e10⟩ : ∃ p : Addr, p = ⟨h2.size, 0, none⟩ := ⟨_, rfl⟩
  obtain ⟨h3, e11⟩ : ∃ hh : Heap, hh = h2.push (.cells #[(.pointer none)] 26) := ⟨_, rfl⟩
  have H := H p9 h3 e10 e11
  refine s_ef1 (d := some 4) (v := (.pointer (some p9))) (h' := h3) rfl rfl rfl (fun dr => (r_alloc Try.zeroValue26).trans (by rw [e10, e11]; rfl)) trivial ?_ trivial
  refine s_fin ?_
  show W _ _ _ _ _ _ _ _
  refine W_seq ?_
  refine W_region (.pu 0 (.rl 1 (.pu 2 (.rl 3 (.ef 4 [] (.pu 5 (.ef 6 [] .fin .no)) .no))))) rfl rfl ?_
  refine s_pu (d := some 5) (v := (.pointer (some (Addr.add p3 0)))) rfl rfl rfl (r_fieldAddr Try.underlying26 Try.sizeOf24 rfl rfl rfl) ?_
  obtain ⟨x12, e13, H⟩ := H
  refine s_rl (d := some 6) (v := (.pointer x12)) rfl rfl rfl (fun dr => r_load1 Try.isAgg24 rfl e13) ?_
  refine s_pu (d := some 7) (v := (.pointer (some (Addr.add p6 0)))) rfl rfl rfl (r_fieldAddr Try.underlying26 Try.sizeOf24 rfl rfl rfl) ?_
  obtain ⟨x14, e15, H⟩ := H
  refine s_rl (d := some 8) (v := (.pointer x14)) rfl rfl rfl (fun dr => r_load1 Try.isAgg24 rfl e15) ?_
  refine s_ef (d := some 9) rfl rfl rfl (fun dr => r_call Try.call55 rfl rfl H) ?_ trivial
  rintro _ h4 ⟨y16, rfl, H⟩
  refine ⟨trivial, ?_⟩
  refine s_pu (d := some 10) (v := (.agg #[(.pointer y16)])) rfl rfl rfl (fun w => by kernel_rfl) ?_
  obtain ⟨e18, H⟩ := H
  obtain ⟨h5, e17⟩ : ∃ hh : Heap, hh = hsets h4 p9 0 [(.pointer y16)] := ⟨_, rfl⟩
  have H := H h5 e17
  refine s_st (d := none) (h' := h5) rfl rfl rfl (fun dr => (r_store (v := (.agg #[(.pointer y16)])) Try.sizeOf26 rfl rfl rfl (one_all rfl) e18).trans (by rw [e17]; rfl)) trivial ?_ trivial
  refine s_fin ?_
  show W _ _ _ _ _ _ _ _
  refine W_ret ?_
  obtain ⟨x19, e20, H⟩ := H
  exact ⟨[(.agg #[(.pointer x19)])], ⟨_, _, _, rfl, rfl, fun dr => run_loadVarN Try.isAgg26 Try.sizeOf26 (vs := [(.pointer x19)]) rfl ⟨e20, trivial⟩, rfl⟩, x19, rfl, H⟩

/-! ### finger_Tree_Measure -/

def finger_Tree_Measure_F (r : World) (t1 : Option Addr) (h : Heap) (R : Int → Int → Int → Int → Int → Heap → Prop) : Prop :=
  New h (.cells #[(.pointer t1)] 26) fun p2 h1 =>
  New h1 (.cells #[(.int .i64 0), (.int .i64 0), (.int .i64 0), (.int .i64 0), (.int .i64 0)] 34) fun p5 h2 =>
  LdP h2 (Addr.add p2 0) fun x8 =>
  finger_level_measure r x8 h2 fun y10 y11 y12 y13 y14 h3 =>
  St h3 p5 5 [(.int .i64 y10), (.int .i64 y11), (.int .i64 y12), (.int .i64 y13), (.int .i64 y14)] fun h4 =>
  LdI h4 (Addr.add p5 0) fun x17 =>
  LdI h4 (Addr.add p5 1) fun x19 =>
  LdI h4 (Addr.add p5 2) fun x21 =>
  LdI h4 (Addr.add p5 3) fun x23 =>
  LdI h4 (Addr.add p5 4) fun x25 =>
  R x17 x19 x21 x23 x25 h4

set_option maxRecDepth 100000 in
theorem finger_Tree_Measure_of {r : World} {t1 : Option Addr} {h : Heap} {R : Int → Int → Int → Int → Int → Heap → Prop} (H : finger_Tree_Measure_F r t1 h R) : finger_Tree_Measure r t1 h R := by
  unfold finger_Tree_Measure_F at H
  refine calls_of 6 [.cell 2 34] Try.func20 rfl rfl rfl rfl rfl ?_
  refine W_seq ?_
  refine W_region (.ef 0 [] (.ef 1 [] .fin .no) .no) rfl rfl ?_
  obtain ⟨p2, e3⟩ : ∃ p : Addr, p = ⟨h.size, 0, none⟩ := ⟨_, rfl⟩
  obtain ⟨h1, e4⟩ : ∃ hh : Heap, hh = h.push (.cells #[(.pointer t1)] 26) := ⟨_, rfl⟩
  have H := H p2 h1 e3 e4
  refine s_ef1 (d := some 1) (v := (.pointer (some p2))) (h' := h1) rfl rfl rfl (fun dr => (r_box (v := (.agg #[(.pointer t1)])) rfl).trans (by rw [e3, e4]; rfl)) trivial ?_ trivial
  obtain ⟨p5, e6⟩ : ∃ p : Addr, p = ⟨h1.size, 0, none⟩ := ⟨_, rfl⟩
  obtain ⟨h2, e7⟩ : ∃ hh : Heap, hh = h1.push (.cells #[(.int .i64 0), (.int .i64 0), (.int .i64 0), (.int .i64 0), (.int .i64 0)] 34) := ⟨_, rfl⟩
  have H := H p5 h2 e6 e7
  refine s_ef1 (d := some 2) (v := (.pointer (some p5))) (h' := h2) rfl rfl rfl (fun dr => (r_alloc Try.zeroValue34).trans (by rw [e6, e7]; rfl)) trivial ?_ trivial
  refine s_fin ?_
  show W _ _ _ _ _ _ _ _
  refine W_seq ?_
  refine W_region (.pu 0 (.rl 1 (.ef 2 [] (.ef 3 [] .fin .no) .no))) rfl rfl ?_
  refine s_pu (d := some 3) (v := (.pointer (some (Addr.add p2 0)))) rfl rfl rfl (r_fieldAddr Try.underlying26 Try.sizeOf24 rfl rfl rfl) ?_
  obtain ⟨x8, e9, H⟩ := H
  refine s_rl (d := some 4) (v := (.pointer x8)) rfl rfl rfl (fun dr => r_load1 Try.isAgg24 rfl e9) ?_
  refine s_ef (d := some 5) rfl rfl rfl (fun dr => r_call Try.call51 rfl rfl H) ?_ trivial
  rintro _ h3 ⟨y10, y11, y12, y13, y14, rfl, H⟩
  refine ⟨trivial, ?_⟩
  obtain ⟨e16, H⟩ := H
  obtain ⟨h4, e15⟩ : ∃ hh : Heap, hh = hsets h3 p5 0 [(.int .i64 y10), (.int .i64 y11), (.int .i64 y12), (.int .i64 y13), (.int .i64 y14)] := ⟨_, rfl⟩
  have H := H h4 e15
  refine s_st (d := none) (h' := h4) rfl rfl rfl (fun dr => (r_store (v := (.agg #[(.int .i64 y10), (.int .i64 y11), (.int .i64 y12), (.int .i64 y13), (.int .i64 y14)])) Try.sizeOf34 rfl rfl rfl (one_all rfl) e16).trans (by rw [e15]; rfl)) trivial ?_ trivial
  refine s_fin ?_
  show W _ _ _ _ _ _ _ _
  refine W_ret ?_
  obtain ⟨x17, e18, H⟩ := H
  obtain ⟨x19, e20, H⟩ := H
  obtain ⟨x21, e22, H⟩ := H
  obtain ⟨x23, e24, H⟩ := H
  obtain ⟨x25, e26, H⟩ := H
  exact ⟨[(.agg #[(.int .i64 x17), (.int .i64 x19), (.int .i64 x21), (.int .i64 x23), (.int .i64 x25)])], ⟨_, _, _, rfl, rfl, fun dr => run_loadVarN Try.isAgg34 Try.sizeOf34 (vs := [(.int .i64 x17), (.int .i64 x19), (.int .i64 x21), (.int .i64 x23), (.int .i64 x25)]) rfl ⟨e18, e20, e22, e24, e26, trivial⟩, rfl⟩, x17, x19, x21, x23, x25, rfl, H⟩

/-! ### finger_Tree_Split -/

def finger_Tree_Split_F (r : World) (t1 : Option Addr) (p2 : Value) (h : Heap) (R : Option Addr → Option Addr → Heap → Prop) : Prop :=
  New h (.cells #[(.pointer t1)] 26) fun p3 h1 =>
  New h1 (.cells #[(.pointer none)] 26) fun p6 h2 =>
  New h2 (.cells #[(.pointer none)] 26) fun p9 h3 =>
  ∀ J13 : Bool → Heap → Prop, (∀ (x12 : Bool) (h4 : Heap),
    (Br x12 (
      LdP h4 (Addr.add p3 0) fun x15 =>
      St h4 p6 1 [(.pointer x15)] fun h5 =>
      St h5 p9 1 [(.pointer none)] fun h6 =>
      LdP h6 (Addr.add p6 0) fun x21 =>
      LdP h6 (Addr.add p9 0) fun x23 =>
      R x21 x23 h6) (
      mono_None r h4 fun y25 y26 y27 y28 y29 h7 =>
      CallV Try.prog r p2 [(.agg #[(.int .i64 y25), (.int .i64 y26), (.int .i64 y27), (.int .i64 y28), (.int .i64 y29)])] h7 fun v63 h8 => ∃ (y30 : Bool), v63 = (.bool y30) ∧
      Br y30 (
        LdP h8 (Addr.add p3 0) fun x31 =>
        St h8 p6 1 [(.pointer none)] fun h9 =>
        (hcell h9 (Addr.add p3 0) = some (.pointer x31)) ∧
        St h9 p9 1 [(.pointer x31)] fun h10 =>
        LdP h10 (Addr.add p6 0) fun x38 =>
        LdP h10 (Addr.add p9 0) fun x40 =>
        R x38 x40 h10) (
        LdP h8 (Addr.add p3 0) fun x42 =>
        mono_None r h8 fun y44 y45 y46 y47 y48 h11 =>
        (hcell h11 (Addr.add p3 0) = some (.pointer x42)) ∧
        finger_asker_cut r p2 y44 y45 y46 y47 y48 x42 h11 fun y50 y51 y52 h12 =>
        finger_pushLeft r y51 y52 h12 fun y53 h13 =>
        St h13 p6 1 [(.pointer y50)] fun h14 =>
        St h14 p9 1 [(.pointer y53)] fun h15 =>
        LdP h15 (Addr.add p6 0) fun x58 =>
        LdP h15 (Addr.add p9 0) fun x60 =>
        R x58 x60 h15))) →
    J13 x12 h4) →
  LdP h3 (Addr.add p3 0) fun x65 =>
  Br (Option.isNone x65) (
    J13 true h3) (
    LdP h3 (Addr.add p3 0) fun x68 =>
    Ck x68 fun p70 =>
    LdI h3 (Addr.add (Addr.add p70 0) 0) fun x72 =>
    LdI h3 (Addr.add (Addr.add p70 0) 1) fun x74 =>
    LdI h3 (Addr.add (Addr.add p70 0) 2) fun x76 =>
    LdI h3 (Addr.add (Addr.add p70 0) 3) fun x78 =>
    LdI h3 (Addr.add (Addr.add p70 0) 4) fun x80 =>
    CallV Try.prog r p2 [(.agg #[(.int .i64 x72), (.int .i64 x74), (.int .i64 x76), (.int .i64 x78), (.int .i64 x80)])] h3 fun v83 h16 => ∃ (y82 : Bool), v83 = (.bool y82) ∧
    J13 (!y82) h16)

set_option maxRecDepth 100000 in
theorem finger_Tree_Split_of {r : World} {t1 : Option Addr} {p2 : Value} {h : Heap} {R : Option Addr → Option Addr → Heap → Prop} (H : finger_Tree_Split_F r t1 p2 h R) : finger_Tree_Split r t1 p2 h R := by
  unfold finger_Tree_Split_F at H
  refine calls_of 44 [.cell 4 26, .cell 5 26] Try.func25 rfl rfl rfl rfl rfl ?_
  refine W_seq ?_
  refine W_region (.ef 0 [] (.ef 1 [] (.ef 2 [] .fin .no) .no) .no) rfl rfl ?_
  obtain ⟨p3, e4⟩ : ∃ p : Addr, p = ⟨h.size, 0, none⟩ := ⟨_, rfl⟩
  obtain ⟨h1, e5⟩ : ∃ hh : Heap, hh = h.push (.cells #[(.pointer t1)] 26) := ⟨_, rfl⟩
  have H := H p3 h1 e4 e5
  refine s_ef1 (d := some 2) (v := (.pointer (some p3))) (h' := h1) rfl rfl rfl (fun dr => (r_box (v := (.agg #[(.pointer t1)])) rfl).trans (by rw [e4, e5]; rfl)) trivial ?_ trivial
  obtain ⟨p6, e7⟩ : ∃ p : Addr, p = ⟨h1.size, 0, none⟩ := ⟨_, rfl⟩
  obtain ⟨h2, e8⟩ : ∃ hh : Heap, hh = h1.push (.cells #[(.pointer none)] 26) := ⟨_, rfl⟩
  have H := H p6 h2 e7 e8
  refine s_ef1 (d := some 4) (v := (.pointer (some p6))) (h' := h2) rfl rfl rfl (fun dr => (r_alloc Try.zeroValue26).trans (by rw [e7, e8]; rfl)) trivial ?_ trivial
  obtain ⟨p9, e10⟩ : ∃ p : Addr, p = ⟨h2.size, 0, none⟩ := ⟨_, rfl⟩
  obtain ⟨h3, e11⟩ : ∃ hh : Heap, hh = h2.push (.cells #[(.pointer none)] 26) := ⟨_, rfl⟩
  have H := H p9 h3 e10 e11
  refine s_ef1 (d := some 5) (v := (.pointer (some p9))) (h' := h3) rfl rfl rfl (fun dr => (r_alloc Try.zeroValue26).trans (by rw [e10, e11]; rfl)) trivial ?_ trivial
  refine s_fin ?_
  show W _ _ _ _ _ _ _ _
  refine W_seq ?_
  refine W_seq ?_
  refine W_set ?_
  intro N14 eN14
  have H := H (fun (x12 : Bool) (h4 : Heap) => ∀ b, N14 [] (mkE [(1, p2), (2, (.pointer (some p3))), (4, (.pointer (some p6))), (5, (.pointer (some p9))), (21, (.bool x12))] b) h4) (by
    intro x12 h4 H b
    rw [eN14]
    show W _ _ _ _ _ _ _ _
    refine W_if x12 rfl (fun g64 => ?_) (fun g64 => ?_)
    · have H := H.1 g64
      refine W_seq ?_
      refine W_region (.rl 0 (.pu 1 (.ef 2 [] (.ef 3 [] .fin .no) .no))) rfl rfl ?_
      obtain ⟨x15, e16, H⟩ := H
      refine s_rl (d := some 22) (v := (.agg #[(.pointer x15)])) rfl rfl rfl (fun dr => r_loadN Try.isAgg26 Try.sizeOf26 (vs := [(.pointer x15)]) rfl rfl ⟨e16, trivial⟩) ?_
      refine s_pu (d := some 23) (v := (.agg #[(.pointer none)])) rfl rfl rfl (fun w => by kernel_rfl) ?_
      obtain ⟨e18, H⟩ := H
      obtain ⟨h5, e17⟩ : ∃ hh : Heap, hh = hsets h4 p6 0 [(.pointer x15)] := ⟨_, rfl⟩
      have H := H h5 e17
      refine s_st (d := none) (h' := h5) rfl rfl rfl (fun dr => (r_store (v := (.agg #[(.pointer x15)])) Try.sizeOf26 rfl rfl rfl (one_all rfl) e18).trans (by rw [e17]; rfl)) trivial ?_ trivial
      obtain ⟨e20, H⟩ := H
      obtain ⟨h6, e19⟩ : ∃ hh : Heap, hh = hsets h5 p9 0 [(.pointer none)] := ⟨_, rfl⟩
      have H := H h6 e19
      refine s_st (d := none) (h' := h6) rfl rfl rfl (fun dr => (r_store (v := (.agg #[(.pointer none)])) Try.sizeOf26 rfl rfl rfl (one_all rfl) e20).trans (by rw [e19]; rfl)) trivial ?_ trivial
      refine s_fin ?_
      show W _ _ _ _ _ _ _ _
      refine W_ret ?_
      obtain ⟨x21, e22, H⟩ := H
      obtain ⟨x23, e24, H⟩ := H
      exact ⟨[(.agg #[(.pointer x21)]), (.agg #[(.pointer x23)])], ⟨_, _, _, rfl, rfl, fun dr => run_loadVarN Try.isAgg26 Try.sizeOf26 (vs := [(.pointer x21)]) rfl ⟨e22, trivial⟩, ⟨_, _, _, rfl, rfl, fun dr => run_loadVarN Try.isAgg26 Try.sizeOf26 (vs := [(.pointer x23)]) rfl ⟨e24, trivial⟩, rfl⟩⟩, x21, x23, rfl, H⟩
    · have H := H.2 g64
      refine W_skip ?_
      show W _ _ _ _ _ _ _ _
      refine W_seq ?_
      refine W_seq ?_
      refine W_region (.pu 0 (.ef 1 [] (.ef 2 [] .fin .no) .no)) rfl rfl ?_
      refine s_pu (d := some 24) (v := p2) rfl rfl rfl (r_move rfl) ?_
      refine s_ef (d := some 25) rfl rfl rfl (fun dr => r_call Try.call53 rfl rfl H) ?_ trivial
      rintro _ h7 ⟨y25, y26, y27, y28, y29, rfl, H⟩
      refine ⟨trivial, ?_⟩
      refine s_ef (d := some 26) rfl rfl rfl (fun dr => r_callV rfl rfl H) ?_ trivial
      rintro _ h8 ⟨y30, rfl, H⟩
      refine ⟨trivial, ?_⟩
      refine s_fin ?_
      show W _ _ _ _ _ _ _ _
      refine W_if y30 rfl (fun g62 => ?_) (fun g62 => ?_)
      · have H := H.1 g62
        refine W_seq ?_
        refine W_draw [0, 0, 1, 7] (.pu 0 (.rd 1 (.ef 2 [] (.ef 3 [1] .fin .no) .no))) (by kernel_rfl) (by kernel_rfl) ?_
        refine s_pu (d := some 27) (v := (.agg #[(.pointer none)])) rfl rfl rfl (fun w => by kernel_rfl) ?_
        obtain ⟨x31, e32, H⟩ := H
        refine s_rd (d := some 28) (v := (.agg #[(.pointer x31)])) rfl rfl rfl (fun dr => r_loadN Try.isAgg26 Try.sizeOf26 (vs := [(.pointer x31)]) rfl rfl ⟨e32, trivial⟩) ?_
        obtain ⟨e34, H⟩ := H
        obtain ⟨h9, e33⟩ : ∃ hh : Heap, hh = hsets h8 p6 0 [(.pointer none)] := ⟨_, rfl⟩
        have H := H h9 e33
        obtain ⟨e35, H⟩ := H
        refine s_st (d := none) (h' := h9) rfl rfl rfl (fun dr => (r_store (v := (.agg #[(.pointer none)])) Try.sizeOf26 rfl rfl rfl (one_all rfl) e34).trans (by rw [e33]; rfl)) ⟨(.inl ⟨rfl, fun dr => r_loadN Try.isAgg26 Try.sizeOf26 (vs := [(.pointer x31)]) rfl rfl ⟨e35, trivial⟩⟩), trivial⟩ ?_ trivial
        obtain ⟨e37, H⟩ := H
        obtain ⟨h10, e36⟩ : ∃ hh : Heap, hh = hsets h9 p9 0 [(.pointer x31)] := ⟨_, rfl⟩
        have H := H h10 e36
        refine s_st (d := none) (h' := h10) rfl rfl rfl (fun dr => (r_store (v := (.agg #[(.pointer x31)])) Try.sizeOf26 rfl rfl rfl (one_all rfl) e37).trans (by rw [e36]; rfl)) ⟨trivial, trivial⟩ ?_ trivial
        refine s_fin ?_
        show W _ _ _ _ _ _ _ _
        refine W_ret ?_
        obtain ⟨x38, e39, H⟩ := H
        obtain ⟨x40, e41, H⟩ := H
        exact ⟨[(.agg #[(.pointer x38)]), (.agg #[(.pointer x40)])], ⟨_, _, _, rfl, rfl, fun dr => run_loadVarN Try.isAgg26 Try.sizeOf26 (vs := [(.pointer x38)]) rfl ⟨e39, trivial⟩, ⟨_, _, _, rfl, rfl, fun dr => run_loadVarN Try.isAgg26 Try.sizeOf26 (vs := [(.pointer x40)]) rfl ⟨e41, trivial⟩, rfl⟩⟩, x38, x40, rfl, H⟩
      · have H := H.2 g62
        refine W_skip ?_
        show W _ _ _ _ _ _ _ _
        refine W_seq ?_
        refine W_draw [0, 0, 0, 4, 15, 31, 63, 63, 63, 127, 767, 2047] (.pu 0 (.pu 2 (.rd 3 (.ef 1 [] (.ef 4 [3] (.pu 5 (.pu 6 (.pu 7 (.pu 8 (.pu 9 (.pu 10 (.pu 11 .fin))))))) .no) .no)))) (by kernel_rfl) (by kernel_rfl) ?_
        refine s_pu (d := some 30) (v := p2) rfl rfl rfl (r_move rfl) ?_
        refine s_pu (d := some 32) (v := (.pointer (some (Addr.add p3 0)))) rfl rfl rfl (r_fieldAddr Try.underlying26 Try.sizeOf24 rfl rfl rfl) ?_
        obtain ⟨x42, e43, H⟩ := H
        refine s_rd (d := some 33) (v := (.pointer x42)) rfl rfl rfl (fun dr => r_load1 Try.isAgg24 rfl e43) ?_
        refine s_ef (d := some 31) rfl rfl rfl (fun dr => r_call Try.call53 rfl rfl H) ?_ trivial
        rintro _ h11 ⟨y44, y45, y46, y47, y48, rfl, H⟩
        obtain ⟨e49, H⟩ := H
        refine ⟨⟨(.inl ⟨rfl, fun dr => r_load1 Try.isAgg24 rfl e49⟩), trivial⟩, ?_⟩
        refine s_ef (d := some 34) rfl rfl rfl (fun dr => r_call Try.call54 rfl rfl H) ?_ trivial
        rintro _ h12 ⟨y50, y51, y52, rfl, H⟩
        refine ⟨⟨trivial, trivial⟩, ?_⟩
        refine s_pu (d := some 29) (v := (.tuple #[(.pointer y50), (.pointer y51), (.pointer y52)])) rfl rfl rfl (r_move rfl) ?_
        refine s_pu (d := some 35) (v := (.pointer y50)) rfl rfl rfl (r_extract rfl rfl) ?_
        refine s_pu (d := some 36) (v := (.pointer y51)) rfl rfl rfl (r_extract rfl rfl) ?_
        refine s_pu (d := some 37) (v := (.pointer y52)) rfl rfl rfl (r_extract rfl rfl) ?_
        refine s_pu (d := some 6) (v := (.pointer y50)) rfl rfl rfl (r_assign rfl) ?_
        refine s_pu (d := some 7) (v := (.pointer y51)) rfl rfl rfl (r_assign rfl) ?_
        refine s_pu (d := some 8) (v := (.pointer y52)) rfl rfl rfl (r_assign rfl) ?_
        refine s_fin ?_
        show W _ _ _ _ _ _ _ _
        refine W_seq ?_
        refine W_region (.pu 0 (.pu 1 (.pu 2 (.pu 3 (.ef 4 [] (.pu 5 (.ef 6 [] (.ef 7 [] .fin .no) .no)) .no))))) rfl rfl ?_
        refine s_pu (d := some 38) (v := (.pointer y50)) rfl rfl rfl (r_move rfl) ?_
        refine s_pu (d := some 39) (v := (.agg #[(.pointer y50)])) rfl rfl rfl (fun w => by kernel_rfl) ?_
        refine s_pu (d := some 40) (v := (.pointer y51)) rfl rfl rfl (r_move rfl) ?_
        refine s_pu (d := some 41) (v := (.pointer y52)) rfl rfl rfl (r_move rfl) ?_
        refine s_ef (d := some 42) rfl rfl rfl (fun dr => r_call Try.call44 rfl rfl H) ?_ trivial
        rintro _ h13 ⟨y53, rfl, H⟩
        refine ⟨trivial, ?_⟩
        refine s_pu (d := some 43) (v := (.agg #[(.pointer y53)])) rfl rfl rfl (fun w => by kernel_rfl) ?_
        obtain ⟨e55, H⟩ := H
        obtain ⟨h14, e54⟩ : ∃ hh : Heap, hh = hsets h13 p6 0 [(.pointer y50)] := ⟨_, rfl⟩
        have H := H h14 e54
        refine s_st (d := none) (h' := h14) rfl rfl rfl (fun dr => (r_store (v := (.agg #[(.pointer y50)])) Try.sizeOf26 rfl rfl rfl (one_all rfl) e55).trans (by rw [e54]; rfl)) trivial ?_ trivial
        obtain ⟨e57, H⟩ := H
        obtain ⟨h15, e56⟩ : ∃ hh : Heap, hh = hsets h14 p9 0 [(.pointer y53)] := ⟨_, rfl⟩
        have H := H h15 e56
        refine s_st (d := none) (h' := h15) rfl rfl rfl (fun dr => (r_store (v := (.agg #[(.pointer y53)])) Try.sizeOf26 rfl rfl rfl (one_all rfl) e57).trans (by rw [e56]; rfl)) trivial ?_ trivial
        refine s_fin ?_
        show W _ _ _ _ _ _ _ _
        refine W_ret ?_
        obtain ⟨x58, e59, H⟩ := H
        obtain ⟨x60, e61, H⟩ := H
        exact ⟨[(.agg #[(.pointer x58)]), (.agg #[(.pointer x60)])], ⟨_, _, _, rfl, rfl, fun dr => run_loadVarN Try.isAgg26 Try.sizeOf26 (vs := [(.pointer x58)]) rfl ⟨e59, trivial⟩, ⟨_, _, _, rfl, rfl, fun dr => run_loadVarN Try.isAgg26 Try.sizeOf26 (vs := [(.pointer x60)]) rfl ⟨e61, trivial⟩, rfl⟩⟩, x58, x60, rfl, H⟩)
  clear eN14
  refine W_region (.pu 0 (.rl 1 (.pu 2 (.pu 3 (.pu 4 (.pu 5 (.rl 6 (.pu 7 (.pu 8 (.rl 9 (.ef 10 [] (.pu 11 (.pu 12 .fin)) .no))))))))))) rfl rfl ?_
  refine s_pu (d := some 9) (v := (.pointer (some (Addr.add p3 0)))) rfl rfl rfl (r_fieldAddr Try.underlying26 Try.sizeOf24 rfl rfl rfl) ?_
  obtain ⟨x65, e66, H⟩ := H
  refine s_rl (d := some 10) (v := (.pointer x65)) rfl rfl rfl (fun dr => r_load1 Try.isAgg24 rfl e66) ?_
  refine s_pu (d := some 11) (v := (.bool (Option.isNone x65))) rfl rfl rfl (r_nilP Try.underlying24 rfl rfl) ?_
  refine s_pu (d := some 12) (v := (.bool (Option.isNone x65))) rfl rfl rfl (r_move rfl) ?_
  rcases Bool.eq_false_or_eq_true (Option.isNone x65) with g67 | g67
  · have H := H.1 g67
    refine s_sk (d := some 13) rfl rfl (wants_no rfl rfl rfl rfl g67) ?_
    refine s_sk (d := some 14) rfl rfl (wants_no rfl rfl rfl rfl g67) ?_
    refine s_skl (d := some 15) rfl rfl (wants_no rfl rfl rfl rfl g67) ?_
    refine s_sk (d := some 16) rfl rfl (wants_no rfl rfl rfl rfl g67) ?_
    refine s_sk (d := some 17) rfl rfl (wants_no rfl rfl rfl rfl g67) ?_
    refine s_skl (d := some 18) rfl rfl (wants_no rfl rfl rfl rfl g67) ?_
    refine s_skf (d := some 19) rfl rfl (wants_no rfl rfl rfl rfl g67) trivial ?_ trivial
    refine s_sk (d := some 20) rfl rfl (wants_no rfl rfl rfl rfl g67) ?_
    refine s_pu (d := some 21) (v := (.bool true)) rfl rfl rfl (r_pick1 rfl g67 rfl) ?_
    refine s_fin ?_
    exact N_mk (l := [(1, p2), (2, (.pointer (some p3))), (4, (.pointer (some p6))), (5, (.pointer (some p9))), (21, (.bool true))]) H ⟨rfl, rfl, rfl, rfl, rfl, trivial⟩
  · have H := H.2 g67
    refine s_pu (d := some 13) (v := p2) rfl rfl (wants_yes rfl rfl rfl rfl g67) (r_move rfl) ?_
    refine s_pu (d := some 14) (v := (.pointer (some (Addr.add p3 0)))) rfl rfl (wants_yes rfl rfl rfl rfl g67) (r_fieldAddr Try.underlying26 Try.sizeOf24 rfl rfl rfl) ?_
    obtain ⟨x68, e69, H⟩ := H
    refine s_rl (d := some 15) (v := (.pointer x68)) rfl rfl (wants_yes rfl rfl rfl rfl g67) (fun dr => r_load1 Try.isAgg24 rfl e69) ?_
    obtain ⟨p70, e71, H⟩ := H
    refine s_pu (d := some 16) (v := (.pointer (some p70))) rfl rfl (wants_yes rfl rfl rfl rfl g67) (r_nilCheck rfl e71) ?_
    refine s_pu (d := some 17) (v := (.pointer (some (Addr.add p70 0)))) rfl rfl (wants_yes rfl rfl rfl rfl g67) (r_fieldAddr Try.underlying80 Try.sizeOf34 rfl rfl rfl) ?_
    obtain ⟨x72, e73, H⟩ := H
    obtain ⟨x74, e75, H⟩ := H
    obtain ⟨x76, e77, H⟩ := H
    obtain ⟨x78, e79, H⟩ := H
    obtain ⟨x80, e81, H⟩ := H
    refine s_rl (d := some 18) (v := (.agg #[(.int .i64 x72), (.int .i64 x74), (.int .i64 x76), (.int .i64 x78), (.int .i64 x80)])) rfl rfl (wants_yes rfl rfl rfl rfl g67) (fun dr => r_loadN Try.isAgg34 Try.sizeOf34 (vs := [(.int .i64 x72), (.int .i64 x74), (.int .i64 x76), (.int .i64 x78), (.int .i64 x80)]) rfl rfl ⟨e73, e75, e77, e79, e81, trivial⟩) ?_
    refine s_ef (d := some 19) rfl rfl (wants_yes rfl rfl rfl rfl g67) (fun dr => r_callV rfl rfl H) ?_ trivial
    rintro _ h16 ⟨y82, rfl, H⟩
    refine ⟨trivial, ?_⟩
    refine s_pu (d := some 20) (v := (.bool (!y82))) rfl rfl (wants_yes rfl rfl rfl rfl g67) (r_not rfl) ?_
    refine s_pu (d := some 21) (v := (.bool (!y82))) rfl rfl rfl (r_pick0 rfl g67 rfl) ?_
    refine s_fin ?_
    exact N_mk (l := [(1, p2), (2, (.pointer (some p3))), (4, (.pointer (some p6))), (5, (.pointer (some p9))), (21, (.bool (!y82)))]) H ⟨rfl, rfl, rfl, rfl, rfl, trivial⟩

/-! ### finger_Tree_Ints -/

def finger_Tree_Ints_F (r : World) (t1 : Option Addr) (h : Heap) (R : Sl → Heap → Prop) : Prop :=
  New h (.cells #[(.pointer t1)] 26) fun p2 h1 =>
  New h1 (.cells #[(Sl.v Sl.nil)] 22) fun p5 h2 =>
  New h2 (.cells #[.nilFunc] 77) fun p8 h3 =>
  St h3 p8 1 [((.func (.func 49) #[] #[(.pointer (some p5)), (.pointer (some p8))]))] fun h4 =>
  New h4 (.cells #[.nilFunc] 78) fun p13 h5 =>
  St h5 p13 1 [((.func (.func 50) #[] #[(.pointer (some p8)), (.pointer (some p13))]))] fun h6 =>
  LdV h6 p13 fun x18 =>
  LdP h6 (Addr.add p2 0) fun x20 =>
  CallV Try.prog r x18 [(.pointer x20)] h6 fun v24 h7 => v24 = (.tuple #[]) ∧
  LdS h7 p5 fun x22 =>
  R x22 h7

set_option maxRecDepth 100000 in
theorem finger_Tree_Ints_of {r : World} {t1 : Option Addr} {h : Heap} {R : Sl → Heap → Prop} (H : finger_Tree_Ints_F r t1 h R) : finger_Tree_Ints r t1 h R := by
  unfold finger_Tree_Ints_F at H
  refine calls_of 13 [.tmp 2] Try.func19 rfl rfl rfl rfl rfl ?_
  refine W_seq ?_
  refine W_region (.ef 0 [] (.pu 1 .fin) .no) rfl rfl ?_
  obtain ⟨p2, e3⟩ : ∃ p : Addr, p = ⟨h.size, 0, none⟩ := ⟨_, rfl⟩
  obtain ⟨h1, e4⟩ : ∃ hh : Heap, hh = h.push (.cells #[(.pointer t1)] 26) := ⟨_, rfl⟩
  have H := H p2 h1 e3 e4
  refine s_ef1 (d := some 1) (v := (.pointer (some p2))) (h' := h1) rfl rfl rfl (fun dr => (r_box (v := (.agg #[(.pointer t1)])) rfl).trans (by rw [e3, e4]; rfl)) trivial ?_ trivial
  refine s_pu (d := some 2) (v := (Sl.v Sl.nil)) rfl rfl rfl (r_assign rfl) ?_
  refine s_fin ?_
  show W _ _ _ _ _ _ _ _
  refine W_seq ?_
  refine W_region (.ef 0 [] .fin .no) rfl rfl ?_
  obtain ⟨p5, e6⟩ : ∃ p : Addr, p = ⟨h1.size, 0, none⟩ := ⟨_, rfl⟩
  obtain ⟨h2, e7⟩ : ∃ hh : Heap, hh = h1.push (.cells #[(Sl.v Sl.nil)] 22) := ⟨_, rfl⟩
  have H := H p5 h2 e6 e7
  refine s_ef1 (d := some 3) (v := (.pointer (some p5))) (h' := h2) rfl rfl rfl (fun dr => (r_alloc Try.zeroValue22).trans (by rw [e6, e7]; rfl)) trivial ?_ trivial
  refine s_fin ?_
  show W _ _ _ _ _ _ _ _
  refine W_seq ?_
  refine W_region (.ef 0 [] .fin .no) rfl rfl ?_
  obtain ⟨p8, e9⟩ : ∃ p : Addr, p = ⟨h2.size, 0, none⟩ := ⟨_, rfl⟩
  obtain ⟨h3, e10⟩ : ∃ hh : Heap, hh = h2.push (.cells #[.nilFunc] 77) := ⟨_, rfl⟩
  have H := H p8 h3 e9 e10
  refine s_ef1 (d := some 4) (v := (.pointer (some p8))) (h' := h3) rfl rfl rfl (fun dr => (r_alloc Try.zeroValue77).trans (by rw [e9, e10]; rfl)) trivial ?_ trivial
  refine s_fin ?_
  show W _ _ _ _ _ _ _ _
  refine W_seq ?_
  refine W_region (.pu 0 (.ef 1 [] .fin .no)) rfl rfl ?_
  refine s_pu (d := some 6) (v := ((.func (.func 49) #[] #[(.pointer (some p5)), (.pointer (some p8))]))) rfl rfl rfl (r_makeFunc rfl rfl) ?_
  obtain ⟨e12, H⟩ := H
  obtain ⟨h4, e11⟩ : ∃ hh : Heap, hh = hsets h3 p8 0 [((.func (.func 49) #[] #[(.pointer (some p5)), (.pointer (some p8))]))] := ⟨_, rfl⟩
  have H := H h4 e11
  refine s_st (d := none) (h' := h4) rfl rfl rfl (fun dr => (r_store (v := ((.func (.func 49) #[] #[(.pointer (some p5)), (.pointer (some p8))]))) Try.sizeOf77 rfl rfl rfl (one_all rfl) e12).trans (by rw [e11]; rfl)) trivial ?_ trivial
  refine s_fin ?_
  show W _ _ _ _ _ _ _ _
  refine W_seq ?_
  refine W_region (.ef 0 [] .fin .no) rfl rfl ?_
  obtain ⟨p13, e14⟩ : ∃ p : Addr, p = ⟨h4.size, 0, none⟩ := ⟨_, rfl⟩
  obtain ⟨h5, e15⟩ : ∃ hh : Heap, hh = h4.push (.cells #[.nilFunc] 78) := ⟨_, rfl⟩
  have H := H p13 h5 e14 e15
  refine s_ef1 (d := some 5) (v := (.pointer (some p13))) (h' := h5) rfl rfl rfl (fun dr => (r_alloc Try.zeroValue78).trans (by rw [e14, e15]; rfl)) trivial ?_ trivial
  refine s_fin ?_
  show W _ _ _ _ _ _ _ _
  refine W_seq ?_
  refine W_region (.pu 0 (.ef 1 [] .fin .no)) rfl rfl ?_
  refine s_pu (d := some 7) (v := ((.func (.func 50) #[] #[(.pointer (some p8)), (.pointer (some p13))]))) rfl rfl rfl (r_makeFunc rfl rfl) ?_
  obtain ⟨e17, H⟩ := H
  obtain ⟨h6, e16⟩ : ∃ hh : Heap, hh = hsets h5 p13 0 [((.func (.func 50) #[] #[(.pointer (some p8)), (.pointer (some p13))]))] := ⟨_, rfl⟩
  have H := H h6 e16
  refine s_st (d := none) (h' := h6) rfl rfl rfl (fun dr => (r_store (v := ((.func (.func 50) #[] #[(.pointer (some p8)), (.pointer (some p13))]))) Try.sizeOf78 rfl rfl rfl (one_all rfl) e17).trans (by rw [e16]; rfl)) trivial ?_ trivial
  refine s_fin ?_
  show W _ _ _ _ _ _ _ _
  refine W_seq ?_
  refine W_region (.rl 0 (.pu 1 (.rl 2 (.ef 3 [] .fin .no)))) rfl rfl ?_
  obtain ⟨x18, e19, H⟩ := H
  refine s_rl (d := some 8) (v := x18) rfl rfl rfl (fun dr => r_load1 Try.isAgg78 rfl e19) ?_
  refine s_pu (d := some 9) (v := (.pointer (some (Addr.add p2 0)))) rfl rfl rfl (r_fieldAddr Try.underlying26 Try.sizeOf24 rfl rfl rfl) ?_
  obtain ⟨x20, e21, H⟩ := H
  refine s_rl (d := some 10) (v := (.pointer x20)) rfl rfl rfl (fun dr => r_load1 Try.isAgg24 rfl e21) ?_
  refine s_ef (d := some 11) rfl rfl rfl (fun dr => r_callV rfl rfl H) ?_ trivial
  rintro _ h7 ⟨rfl, H⟩
  refine ⟨trivial, ?_⟩
  refine s_fin ?_
  show W _ _ _ _ _ _ _ _
  refine W_seq ?_
  refine W_region (.rl 0 (.pu 1 .fin)) rfl rfl ?_
  obtain ⟨x22, e23, H⟩ := H
  refine s_rl (d := some 12) (v := (Sl.v x22)) rfl rfl rfl (fun dr => r_load1 Try.isAgg22 rfl e23) ?_
  refine s_pu (d := some 2) (v := (Sl.v x22)) rfl rfl rfl (r_assign rfl) ?_
  refine s_fin ?_
  show W _ _ _ _ _ _ _ _
  refine W_ret ?_
  exact ⟨[(Sl.v x22)], ⟨_, _, rfl, rfl, rfl⟩, x22, rfl, H⟩

/-! ### finger_Tree_Ints_1 -/

def finger_Tree_Ints_1_F (r : World) (l1 : Sl) (c2 : Addr) (c3 : Addr) (h : Heap) (R : Heap → Prop) : Prop :=
  ∀ X5 : Int → Heap → Prop, (∀ (x4 : Int) (h1 : Heap),
    (Br (decide (x4 < ((l1.len : Int)))) (
      Ix l1 x4 1 fun q10 =>
      LdP h1 q10 fun x12 =>
      Ck x12 fun p14 =>
      LdS h1 (Addr.add p14 6) fun x16 =>
      ∀ J18 : Heap → Prop, (∀ (h2 : Heap),
        (LdV h2 c3 fun x20 =>
        Ck x12 fun p22 =>
        LdS h2 (Addr.add p22 6) fun x24 =>
        CallV Try.prog r x20 [(Sl.v x24)] h2 fun v26 h3 => v26 = (.tuple #[]) ∧
        X5 (w64 (x4 + 1)) h3) →
        J18 h2) →
      Br (Option.isNone x16.a) (
        LdS h1 c2 fun x27 =>
        Ck x12 fun p29 =>
        LdI h1 (Addr.add p29 5) fun x31 =>
        New h1 (.cells #[(.int .i64 x31)] 3) fun p33 h4 =>
        (hcell h4 c2 = some (Sl.v x27)) ∧
        App 3 1 8 (.int .i64 0) x27 ((⟨some p33, 1, 1⟩ : Sl)) h4 fun s37 h5 =>
        St h5 c2 1 [(Sl.v s37)] fun h6 =>
        J18 h6) (
        J18 h1)) (
      R h1)) →
    X5 x4 h1) →
  X5 0 h

set_option maxRecDepth 100000 in
theorem finger_Tree_Ints_1_of {r : World} {l1 : Sl} {c2 : Addr} {c3 : Addr} {h : Heap} {R : Heap → Prop} (H : finger_Tree_Ints_1_F r l1 c2 c3 h R) : finger_Tree_Ints_1 r l1 c2 c3 h R := by
  unfold finger_Tree_Ints_1_F at H
  refine calls_of 31 [] Try.func49 rfl rfl rfl rfl rfl ?_
  refine W_seq ?_
  refine W_region (.pu 0 (.pu 1 (.pu 2 .fin))) rfl rfl ?_
  refine s_pu (d := some 6) (v := (Sl.v l1)) rfl rfl rfl (r_move rfl) ?_
  refine s_pu (d := some 7) (v := (.int .i64 ((l1.len : Int)))) rfl rfl rfl (r_len Try.underlying74 rfl) ?_
  refine s_pu (d := some 8) (v := (.int .i64 0)) rfl rfl rfl (r_move rfl) ?_
  refine s_fin ?_
  show W _ _ _ _ _ _ _ _
  refine W_block ?_
  refine W_loop (WL_mk (l := [(1, (.pointer (some c2))), (2, (.pointer (some c3))), (6, (Sl.v l1)), (7, (.int .i64 ((l1.len : Int)))), (8, (.int .i64 0))]) ?_ ⟨rfl, rfl, rfl, rfl, rfl, trivial⟩)
  refine H (fun (x4 : Int) (h1 : Heap) => ∀ b, WL _ _ _ _ _ _ (mkE [(1, (.pointer (some c2))), (2, (.pointer (some c3))), (6, (Sl.v l1)), (7, (.int .i64 ((l1.len : Int)))), (8, (.int .i64 x4))] b) h1) ?_
  intro x4 h1 H b
  refine WL_round ?_
  refine W_seq ?_
  refine W_region (.pu 0 .fin) rfl rfl ?_
  refine s_pu (d := some 9) (v := (.bool (decide (x4 < ((l1.len : Int)))))) rfl rfl rfl (r_lss rfl rfl) ?_
  refine s_fin ?_
  show W _ _ _ _ _ _ _ _
  refine W_seq ?_
  refine W_if (decide (x4 < ((l1.len : Int)))) rfl (fun g41 => ?_) (fun g41 => ?_)
  · have H := H.1 g41
    refine W_skip ?_
    show W _ _ _ _ _ _ _ _
    refine W_seq ?_
    refine W_block ?_
    refine W_seq ?_
    refine W_region (.pu 0 (.rl 1 (.pu 2 .fin))) rfl rfl ?_
    obtain ⟨p6, e7, e8, e9, H⟩ := H
    obtain ⟨q10, e11⟩ : ∃ q : Addr, q = Addr.add p6 (Int.toNat x4 * 1) := ⟨_, rfl⟩
    rw [← e11] at H
    refine s_pu (d := some 10) (v := (.pointer (some q10))) rfl rfl rfl (fun w => (r_indexAddr Try.underlying74 Try.sizeOf69 rfl rfl e7 e8 e9 w).trans (by rw [e11])) ?_
    obtain ⟨x12, e13, H⟩ := H
    refine s_rl (d := some 11) (v := (.pointer x12)) rfl rfl rfl (fun dr => r_load1 Try.isAgg69 rfl e13) ?_
    refine s_pu (d := some 5) (v := (.pointer x12)) rfl rfl rfl (r_assign rfl) ?_
    refine s_fin ?_
    show W _ _ _ _ _ _ _ _
    refine W_seq ?_
    refine W_seq ?_
    refine W_region (.pu 0 (.pu 1 (.pu 2 (.rl 3 (.pu 4 .fin))))) rfl rfl ?_
    refine s_pu (d := some 12) (v := (.pointer x12)) rfl rfl rfl (r_move rfl) ?_
    obtain ⟨p14, e15, H⟩ := H
    refine s_pu (d := some 13) (v := (.pointer (some p14))) rfl rfl rfl (r_nilCheck rfl e15) ?_
    refine s_pu (d := some 14) (v := (.pointer (some (Addr.add p14 6)))) rfl rfl rfl (r_fieldAddr Try.underlying76 Try.sizeOf74 rfl rfl rfl) ?_
    obtain ⟨x16, e17, H⟩ := H
    refine s_rl (d := some 15) (v := (Sl.v x16)) rfl rfl rfl (fun dr => r_load1 Try.isAgg74 rfl e17) ?_
    refine s_pu (d := some 16) (v := (.bool (Option.isNone x16.a))) rfl rfl rfl (r_nilS Try.underlying74 rfl rfl) ?_
    refine s_fin ?_
    show W _ _ _ _ _ _ _ _
    refine W_set ?_
    intro N19 eN19
    have H := H (fun (h2 : Heap) => ∀ b, N19 [] (mkE [(1, (.pointer (some c2))), (2, (.pointer (some c3))), (5, (.pointer x12)), (6, (Sl.v l1)), (7, (.int .i64 ((l1.len : Int)))), (8, (.int .i64 x4))] b) h2) (by
      intro h2 H b
      rw [eN19]
      show W _ _ _ _ _ _ _ _
      refine W_draw [0, 0, 2, 6, 14, 31] (.rd 0 (.pu 1 (.pu 2 (.pu 3 (.rd 4 (.ef 5 [0, 4] .fin .no)))))) (by kernel_rfl) (by kernel_rfl) ?_
      obtain ⟨x20, e21, H⟩ := H
      refine s_rd (d := some 24) (v := x20) rfl rfl rfl (fun dr => r_load1 Try.isAgg77 rfl e21) ?_
      refine s_pu (d := some 25) (v := (.pointer x12)) rfl rfl rfl (r_move rfl) ?_
      obtain ⟨p22, e23, H⟩ := H
      refine s_pu (d := some 26) (v := (.pointer (some p22))) rfl rfl rfl (r_nilCheck rfl e23) ?_
      refine s_pu (d := some 27) (v := (.pointer (some (Addr.add p22 6)))) rfl rfl rfl (r_fieldAddr Try.underlying76 Try.sizeOf74 rfl rfl rfl) ?_
      obtain ⟨x24, e25, H⟩ := H
      refine s_rd (d := some 28) (v := (Sl.v x24)) rfl rfl rfl (fun dr => r_load1 Try.isAgg74 rfl e25) ?_
      refine s_ef (d := some 29) rfl rfl rfl (fun dr => r_callV rfl rfl H) ?_ trivial
      rintro _ h3 ⟨rfl, H⟩
      refine ⟨⟨trivial, trivial, trivial⟩, ?_⟩
      refine s_fin ?_
      show W _ _ _ _ _ _ _ _
      refine W_region (.pu 0 (.pu 1 .fin)) rfl rfl ?_
      refine s_pu (d := some 30) (v := (.int .i64 (w64 (x4 + 1)))) rfl rfl rfl (r_add rfl rfl) ?_
      refine s_pu (d := some 8) (v := (.int .i64 (w64 (x4 + 1)))) rfl rfl rfl (r_move rfl) ?_
      refine s_fin ?_
      exact WL_mk (l := [(1, (.pointer (some c2))), (2, (.pointer (some c3))), (6, (Sl.v l1)), (7, (.int .i64 ((l1.len : Int)))), (8, (.int .i64 (w64 (x4 + 1))))]) H ⟨rfl, rfl, rfl, rfl, rfl, trivial⟩)
    clear eN19
    refine W_if (Option.isNone x16.a) rfl (fun g40 => ?_) (fun g40 => ?_)
    · have H := H.1 g40
      refine W_draw [0, 0, 2, 6, 14, 30, 63, 127] (.rd 0 (.pu 1 (.pu 2 (.pu 3 (.rd 4 (.ef 5 [4] (.ef 6 [0, 4] (.ef 7 [0, 4] .fin .no) .no) .no)))))) (by kernel_rfl) (by kernel_rfl) ?_
      obtain ⟨x27, e28, H⟩ := H
      refine s_rd (d := some 17) (v := (Sl.v x27)) rfl rfl rfl (fun dr => r_load1 Try.isAgg22 rfl e28) ?_
      refine s_pu (d := some 18) (v := (.pointer x12)) rfl rfl rfl (r_move rfl) ?_
      obtain ⟨p29, e30, H⟩ := H
      refine s_pu (d := some 19) (v := (.pointer (some p29))) rfl rfl rfl (r_nilCheck rfl e30) ?_
      refine s_pu (d := some 20) (v := (.pointer (some (Addr.add p29 5)))) rfl rfl rfl (r_fieldAddr Try.underlying76 Try.sizeOf3 rfl rfl rfl) ?_
      obtain ⟨x31, e32, H⟩ := H
      refine s_rd (d := some 21) (v := (.int .i64 x31)) rfl rfl rfl (fun dr => r_load1 Try.isAgg3 rfl e32) ?_
      obtain ⟨p33, e34⟩ : ∃ p : Addr, p = ⟨h1.size, 0, none⟩ := ⟨_, rfl⟩
      obtain ⟨h4, e35⟩ : ∃ hh : Heap, hh = h1.push (.cells #[(.int .i64 x31)] 3) := ⟨_, rfl⟩
      have H := H p33 h4 e34 e35
      obtain ⟨e36, H⟩ := H
      refine s_ef1 (d := some 22) (v := (Sl.v ((⟨some p33, 1, 1⟩ : Sl)))) (h' := h4) rfl rfl rfl (fun dr => (slFTree_22.build (cells := #[(.int .i64 x31)]) (by decide) rfl (by kernel_rfl)).trans (by rw [e34, e35]; rfl)) ⟨trivial, (.inl ⟨rfl, fun dr => r_load1 Try.isAgg22 rfl e36⟩), trivial⟩ ?_ trivial
      refine s_ef (d := some 23) rfl rfl rfl (fun dr => slFTree_22.append rfl rfl H) ?_ trivial
      rintro _ h5 ⟨s37, rfl, H⟩
      refine ⟨⟨trivial, trivial, trivial⟩, ?_⟩
      obtain ⟨e39, H⟩ := H
      obtain ⟨h6, e38⟩ : ∃ hh : Heap, hh = hsets h5 c2 0 [(Sl.v s37)] := ⟨_, rfl⟩
      have H := H h6 e38
      refine s_st (d := none) (h' := h6) rfl rfl rfl (fun dr => (r_store (v := (Sl.v s37)) Try.sizeOf22 rfl rfl rfl (one_all rfl) e39).trans (by rw [e38]; rfl)) ⟨trivial, trivial, trivial⟩ ?_ trivial
      refine s_fin ?_
      exact N_mk (l := [(1, (.pointer (some c2))), (2, (.pointer (some c3))), (5, (.pointer x12)), (6, (Sl.v l1)), (7, (.int .i64 ((l1.len : Int)))), (8, (.int .i64 x4))]) H ⟨rfl, rfl, rfl, rfl, rfl, rfl, trivial⟩
    · have H := H.2 g40
      refine W_skip ?_
      exact N_mk (l := [(1, (.pointer (some c2))), (2, (.pointer (some c3))), (5, (.pointer x12)), (6, (Sl.v l1)), (7, (.int .i64 ((l1.len : Int)))), (8, (.int .i64 x4))]) H ⟨rfl, rfl, rfl, rfl, rfl, rfl, trivial⟩
  · have H := H.2 g41
    refine W_exit (inX_here ?_)
    exact ⟨[], rfl, rfl, H⟩

/-! ### finger_Tree_Ints_2 -/

def finger_Tree_Ints_2_F (r : World) (v1 : Option Addr) (c2 : Addr) (c3 : Addr) (h : Heap) (R : Heap → Prop) : Prop :=
  Br (!(Option.isNone v1)) (
    LdV h c2 fun x4 =>
    Ck v1 fun p6 =>
    LdS h (Addr.add p6 5) fun x8 =>
    CallV Try.prog r x4 [(Sl.v x8)] h fun v24 h1 => v24 = (.tuple #[]) ∧
    LdV h1 c3 fun x10 =>
    Ck v1 fun p12 =>
    LdP h1 (Addr.add p12 7) fun x14 =>
    CallV Try.prog r x10 [(.pointer x14)] h1 fun v23 h2 => v23 = (.tuple #[]) ∧
    LdV h2 c2 fun x16 =>
    Ck v1 fun p18 =>
    LdS h2 (Addr.add p18 6) fun x20 =>
    CallV Try.prog r x16 [(Sl.v x20)] h2 fun v22 h3 => v22 = (.tuple #[]) ∧
    R h3) (
    R h)

set_option maxRecDepth 100000 in
theorem finger_Tree_Ints_2_of {r : World} {v1 : Option Addr} {c2 : Addr} {c3 : Addr} {h : Heap} {R : Heap → Prop} (H : finger_Tree_Ints_2_F r v1 c2 c3 h R) : finger_Tree_Ints_2 r v1 c2 c3 h R := by
  unfold finger_Tree_Ints_2_F at H
  refine calls_of 24 [] Try.func50 rfl rfl rfl rfl rfl ?_
  refine W_seq ?_
  refine W_region (.pu 0 (.pu 1 .fin)) rfl rfl ?_
  refine s_pu (d := some 4) (v := (.pointer v1)) rfl rfl rfl (r_move rfl) ?_
  refine s_pu (d := some 5) (v := (.bool (!(Option.isNone v1)))) rfl rfl rfl (r_notNilP Try.underlying24 rfl rfl) ?_
  refine s_fin ?_
  show W _ _ _ _ _ _ _ _
  refine W_if (!(Option.isNone v1)) rfl (fun g25 => ?_) (fun g25 => ?_)
  · have H := H.1 g25
    refine W_seq ?_
    refine W_draw [0, 0, 2, 6, 14, 31] (.rd 0 (.pu 1 (.pu 2 (.pu 3 (.rd 4 (.ef 5 [0, 4] .fin .no)))))) (by kernel_rfl) (by kernel_rfl) ?_
    obtain ⟨x4, e5, H⟩ := H
    refine s_rd (d := some 6) (v := x4) rfl rfl rfl (fun dr => r_load1 Try.isAgg77 rfl e5) ?_
    refine s_pu (d := some 7) (v := (.pointer v1)) rfl rfl rfl (r_move rfl) ?_
    obtain ⟨p6, e7, H⟩ := H
    refine s_pu (d := some 8) (v := (.pointer (some p6))) rfl rfl rfl (r_nilCheck rfl e7) ?_
    refine s_pu (d := some 9) (v := (.pointer (some (Addr.add p6 5)))) rfl rfl rfl (r_fieldAddr Try.underlying80 Try.sizeOf74 rfl rfl rfl) ?_
    obtain ⟨x8, e9, H⟩ := H
    refine s_rd (d := some 10) (v := (Sl.v x8)) rfl rfl rfl (fun dr => r_load1 Try.isAgg74 rfl e9) ?_
    refine s_ef (d := some 11) rfl rfl rfl (fun dr => r_callV rfl rfl H) ?_ trivial
    rintro _ h1 ⟨rfl, H⟩
    refine ⟨⟨trivial, trivial, trivial⟩, ?_⟩
    refine s_fin ?_
    show W _ _ _ _ _ _ _ _
    refine W_seq ?_
    refine W_draw [0, 0, 2, 6, 14, 31] (.rd 0 (.pu 1 (.pu 2 (.pu 3 (.rd 4 (.ef 5 [0, 4] .fin .no)))))) (by kernel_rfl) (by kernel_rfl) ?_
    obtain ⟨x10, e11, H⟩ := H
    refine s_rd (d := some 12) (v := x10) rfl rfl rfl (fun dr => r_load1 Try.isAgg78 rfl e11) ?_
    refine s_pu (d := some 13) (v := (.pointer v1)) rfl rfl rfl (r_move rfl) ?_
    obtain ⟨p12, e13, H⟩ := H
    refine s_pu (d := some 14) (v := (.pointer (some p12))) rfl rfl rfl (r_nilCheck rfl e13) ?_
    refine s_pu (d := some 15) (v := (.pointer (some (Addr.add p12 7)))) rfl rfl rfl (r_fieldAddr Try.underlying80 Try.sizeOf24 rfl rfl rfl) ?_
    obtain ⟨x14, e15, H⟩ := H
    refine s_rd (d := some 16) (v := (.pointer x14)) rfl rfl rfl (fun dr => r_load1 Try.isAgg24 rfl e15) ?_
    refine s_ef (d := some 17) rfl rfl rfl (fun dr => r_callV rfl rfl H) ?_ trivial
    rintro _ h2 ⟨rfl, H⟩
    refine ⟨⟨trivial, trivial, trivial⟩, ?_⟩
    refine s_fin ?_
    show W _ _ _ _ _ _ _ _
    refine W_draw [0, 0, 2, 6, 14, 31] (.rd 0 (.pu 1 (.pu 2 (.pu 3 (.rd 4 (.ef 5 [0, 4] .fin .no)))))) (by kernel_rfl) (by kernel_rfl) ?_
    obtain ⟨x16, e17, H⟩ := H
    refine s_rd (d := some 18) (v := x16) rfl rfl rfl (fun dr => r_load1 Try.isAgg77 rfl e17) ?_
    refine s_pu (d := some 19) (v := (.pointer v1)) rfl rfl rfl (r_move rfl) ?_
    obtain ⟨p18, e19, H⟩ := H
    refine s_pu (d := some 20) (v := (.pointer (some p18))) rfl rfl rfl (r_nilCheck rfl e19) ?_
    refine s_pu (d := some 21) (v := (.pointer (some (Addr.add p18 6)))) rfl rfl rfl (r_fieldAddr Try.underlying80 Try.sizeOf74 rfl rfl rfl) ?_
    obtain ⟨x20, e21, H⟩ := H
    refine s_rd (d := some 22) (v := (Sl.v x20)) rfl rfl rfl (fun dr => r_load1 Try.isAgg74 rfl e21) ?_
    refine s_ef (d := some 23) rfl rfl rfl (fun dr => r_callV rfl rfl H) ?_ trivial
    rintro _ h3 ⟨rfl, H⟩
    refine ⟨⟨trivial, trivial, trivial⟩, ?_⟩
    refine s_fin ?_
    exact ⟨[], rfl, rfl, H⟩
  · have H := H.2 g25
    refine W_skip ?_
    exact ⟨[], rfl, rfl, H⟩

/-! ### finger_Tree_Digits -/

def finger_Tree_Digits_F (r : World) (t1 : Option Addr) (h : Heap) (R : Sl → Heap → Prop) : Prop :=
  New h (.cells #[(.pointer t1)] 26) fun p2 h1 =>
  LdP h1 (Addr.add p2 0) fun x5 =>
  ∀ X9 : Sl → Option Addr → Heap → Prop, (∀ (out7 : Sl) (v8 : Option Addr) (h2 : Heap),
    (Br (!(Option.isNone v8)) (
      Ck v8 fun p10 =>
      LdS h2 (Addr.add p10 5) fun x12 =>
      Ck v8 fun p14 =>
      LdS h2 (Addr.add p14 6) fun x16 =>
      New h2 (.cells #[(.int .i64 ((x12.len : Int))), (.int .i64 ((x16.len : Int)))] 49) fun p18 h3 =>
      App 49 2 16 (.agg #[(.int .i64 0), (.int .i64 0)]) out7 ((⟨some p18, 1, 1⟩ : Sl)) h3 fun s21 h4 =>
      Ck v8 fun p22 =>
      LdP h4 (Addr.add p22 7) fun x24 =>
      X9 s21 x24 h4) (
      R out7 h2)) →
    X9 out7 v8 h2) →
  X9 Sl.nil x5 h1

set_option maxRecDepth 100000 in
theorem finger_Tree_Digits_of {r : World} {t1 : Option Addr} {h : Heap} {R : Sl → Heap → Prop} (H : finger_Tree_Digits_F r t1 h R) : finger_Tree_Digits r t1 h R := by
  unfold finger_Tree_Digits_F at H
  refine calls_of 28 [.tmp 2] Try.func29 rfl rfl rfl rfl rfl ?_
  refine W_seq ?_
  refine W_region (.ef 0 [] (.pu 1 .fin) .no) rfl rfl ?_
  obtain ⟨p2, e3⟩ : ∃ p : Addr, p = ⟨h.size, 0, none⟩ := ⟨_, rfl⟩
  obtain ⟨h1, e4⟩ : ∃ hh : Heap, hh = h.push (.cells #[(.pointer t1)] 26) := ⟨_, rfl⟩
  have H := H p2 h1 e3 e4
  refine s_ef1 (d := some 1) (v := (.pointer (some p2))) (h' := h1) rfl rfl rfl (fun dr => (r_box (v := (.agg #[(.pointer t1)])) rfl).trans (by rw [e3, e4]; rfl)) trivial ?_ trivial
  refine s_pu (d := some 2) (v := (Sl.v Sl.nil)) rfl rfl rfl (r_assign rfl) ?_
  refine s_fin ?_
  show W _ _ _ _ _ _ _ _
  refine W_seq ?_
  refine W_region (.pu 0 .fin) rfl rfl ?_
  refine s_pu (d := some 3) (v := (Sl.v Sl.nil)) rfl rfl rfl (r_assign rfl) ?_
  refine s_fin ?_
  show W _ _ _ _ _ _ _ _
  refine W_seq ?_
  refine W_seq ?_
  refine W_region (.pu 0 (.rl 1 (.pu 2 .fin))) rfl rfl ?_
  refine s_pu (d := some 5) (v := (.pointer (some (Addr.add p2 0)))) rfl rfl rfl (r_fieldAddr Try.underlying26 Try.sizeOf24 rfl rfl rfl) ?_
  obtain ⟨x5, e6, H⟩ := H
  refine s_rl (d := some 6) (v := (.pointer x5)) rfl rfl rfl (fun dr => r_load1 Try.isAgg24 rfl e6) ?_
  refine s_pu (d := some 4) (v := (.pointer x5)) rfl rfl rfl (r_assign rfl) ?_
  refine s_fin ?_
  show W _ _ _ _ _ _ _ _
  refine W_block ?_
  refine W_loop (WL_mk (l := [(3, (Sl.v Sl.nil)), (4, (.pointer x5))]) ?_ ⟨rfl, rfl, trivial⟩)
  refine H (fun (out7 : Sl) (v8 : Option Addr) (h2 : Heap) => ∀ b, WL _ _ _ _ _ _ (mkE [(3, (Sl.v out7)), (4, (.pointer v8))] b) h2) ?_
  intro out7 v8 h2 H b
  refine WL_round ?_
  refine W_seq ?_
  refine W_seq ?_
  refine W_region (.pu 0 (.pu 1 .fin)) rfl rfl ?_
  refine s_pu (d := some 7) (v := (.pointer v8)) rfl rfl rfl (r_move rfl) ?_
  refine s_pu (d := some 8) (v := (.bool (!(Option.isNone v8)))) rfl rfl rfl (r_notNilP Try.underlying24 rfl rfl) ?_
  refine s_fin ?_
  show W _ _ _ _ _ _ _ _
  refine W_if (!(Option.isNone v8)) rfl (fun g26 => ?_) (fun g26 => ?_)
  · have H := H.1 g26
    refine W_skip ?_
    show W _ _ _ _ _ _ _ _
    refine W_seq ?_
    refine W_block ?_
    refine W_draw [0, 0, 2, 6, 14, 30, 0, 64, 192, 448, 960, 2046, 4094, 8191, 16383] (.pu 0 (.pu 1 (.pu 2 (.pu 3 (.rd 4 (.pu 5 (.pu 6 (.pu 7 (.pu 8 (.rd 9 (.pu 10 (.pu 11 (.ef 12 [4, 9] (.ef 13 [4, 9] (.pu 14 .fin) .no) .no))))))))))))) (by kernel_rfl) (by kernel_rfl) ?_
    refine s_pu (d := some 13) (v := (Sl.v out7)) rfl rfl rfl (r_move rfl) ?_
    refine s_pu (d := some 14) (v := (.pointer v8)) rfl rfl rfl (r_move rfl) ?_
    obtain ⟨p10, e11, H⟩ := H
    refine s_pu (d := some 15) (v := (.pointer (some p10))) rfl rfl rfl (r_nilCheck rfl e11) ?_
    refine s_pu (d := some 16) (v := (.pointer (some (Addr.add p10 5)))) rfl rfl rfl (r_fieldAddr Try.underlying80 Try.sizeOf74 rfl rfl rfl) ?_
    obtain ⟨x12, e13, H⟩ := H
    refine s_rd (d := some 17) (v := (Sl.v x12)) rfl rfl rfl (fun dr => r_load1 Try.isAgg74 rfl e13) ?_
    refine s_pu (d := some 18) (v := (.int .i64 ((x12.len : Int)))) rfl rfl rfl (r_len Try.underlying74 rfl) ?_
    refine s_pu (d := some 19) (v := (.pointer v8)) rfl rfl rfl (r_move rfl) ?_
    obtain ⟨p14, e15, H⟩ := H
    refine s_pu (d := some 20) (v := (.pointer (some p14))) rfl rfl rfl (r_nilCheck rfl e15) ?_
    refine s_pu (d := some 21) (v := (.pointer (some (Addr.add p14 6)))) rfl rfl rfl (r_fieldAddr Try.underlying80 Try.sizeOf74 rfl rfl rfl) ?_
    obtain ⟨x16, e17, H⟩ := H
    refine s_rd (d := some 22) (v := (Sl.v x16)) rfl rfl rfl (fun dr => r_load1 Try.isAgg74 rfl e17) ?_
    refine s_pu (d := some 23) (v := (.int .i64 ((x16.len : Int)))) rfl rfl rfl (r_len Try.underlying74 rfl) ?_
    refine s_pu (d := some 24) (v := (.agg #[(.int .i64 ((x12.len : Int))), (.int .i64 ((x16.len : Int)))])) rfl rfl rfl (fun w => by kernel_rfl) ?_
    obtain ⟨p18, e19⟩ : ∃ p : Addr, p = ⟨h2.size, 0, none⟩ := ⟨_, rfl⟩
    obtain ⟨h3, e20⟩ : ∃ hh : Heap, hh = h2.push (.cells #[(.int .i64 ((x12.len : Int))), (.int .i64 ((x16.len : Int)))] 49) := ⟨_, rfl⟩
    have H := H p18 h3 e19 e20
    refine s_ef1 (d := some 25) (v := (Sl.v ((⟨some p18, 1, 1⟩ : Sl)))) (h' := h3) rfl rfl rfl (fun dr => (slFTree_47.build (cells := #[(.int .i64 ((x12.len : Int))), (.int .i64 ((x16.len : Int)))]) (by decide) rfl (by kernel_rfl)).trans (by rw [e19, e20]; rfl)) ⟨trivial, trivial, trivial⟩ ?_ trivial
    refine s_ef (d := some 26) rfl rfl rfl (fun dr => slFTree_47.append rfl rfl H) ?_ trivial
    rintro _ h4 ⟨s21, rfl, H⟩
    refine ⟨⟨trivial, trivial, trivial⟩, ?_⟩
    refine s_pu (d := some 3) (v := (Sl.v s21)) rfl rfl rfl (r_assign rfl) ?_
    refine s_fin ?_
    show W _ _ _ _ _ _ _ _
    refine W_region (.pu 0 (.pu 1 (.pu 2 (.rl 3 (.pu 4 .fin))))) rfl rfl ?_
    refine s_pu (d := some 9) (v := (.pointer v8)) rfl rfl rfl (r_move rfl) ?_
    obtain ⟨p22, e23, H⟩ := H
    refine s_pu (d := some 10) (v := (.pointer (some p22))) rfl rfl rfl (r_nilCheck rfl e23) ?_
    refine s_pu (d := some 11) (v := (.pointer (some (Addr.add p22 7)))) rfl rfl rfl (r_fieldAddr Try.underlying80 Try.sizeOf24 rfl rfl rfl) ?_
    obtain ⟨x24, e25, H⟩ := H
    refine s_rl (d := some 12) (v := (.pointer x24)) rfl rfl rfl (fun dr => r_load1 Try.isAgg24 rfl e25) ?_
    refine s_pu (d := some 4) (v := (.pointer x24)) rfl rfl rfl (r_assign rfl) ?_
    refine s_fin ?_
    exact WL_mk (l := [(3, (Sl.v s21)), (4, (.pointer x24))]) H ⟨rfl, rfl, trivial⟩
  · have H := H.2 g26
    refine W_exit (inX_here ?_)
    show W _ _ _ _ _ _ _ _
    refine W_seq ?_
    refine W_region (.pu 0 (.pu 1 .fin)) rfl rfl ?_
    refine s_pu (d := some 27) (v := (Sl.v out7)) rfl rfl rfl (r_move rfl) ?_
    refine s_pu (d := some 2) (v := (Sl.v out7)) rfl rfl rfl (r_assign rfl) ?_
    refine s_fin ?_
    show W _ _ _ _ _ _ _ _
    refine W_ret ?_
    exact ⟨[(Sl.v out7)], ⟨_, _, rfl, rfl, rfl⟩, out7, rfl, H⟩

end Go.Proofs.Ytmjljnbjoldeaaa
