/- Typed words of functions, and that they hold: printed by gen.py (an own tool of this claim) off the model's own form of each function. -/
import Derived.Test.YtikccpmhoioaeaaProg
import Derived.Test.YtikccpmhoioaeaaOMan
namespace Go.Proofs.Ytikccpmhoioaeaa
open Go Go.RowKit Go.Tw
set_option linter.unusedVariables false



/-! ### the calls -/

abbrev ord_Of (r : World) (l1 : Sl) (h : Heap) (R : Option Addr → Heap → Prop) : Prop :=
  CallsH Try.prog r 12 [(Sl.v l1)] h fun v h' => ∃ (y2 : Option Addr), v = (.agg #[(.pointer y2)]) ∧ R y2 h'

theorem ord_Of.mono {r : World} {l1 : Sl} {h : Heap} {R R' : Option Addr → Heap → Prop} (H : ord_Of r l1 h R) (hr : ∀ y2 h, R y2 h → R' y2 h) : ord_Of r l1 h R' :=
  CallsH.mono H fun _ _ hx => by
    obtain ⟨y2, hv, hR⟩ := hx
    exact ⟨y2, hv, hr _ _ hR⟩

abbrev ord_Order_Insert (r : World) (o1 : Option Addr) (x2 : Int) (h : Heap) (R : Option Addr → Heap → Prop) : Prop :=
  CallsH Try.prog r 27 [(.agg #[(.pointer o1)]), (.int .i64 x2)] h fun v h' => ∃ (y3 : Option Addr), v = (.agg #[(.pointer y3)]) ∧ R y3 h'

theorem ord_Order_Insert.mono {r : World} {o1 : Option Addr} {x2 : Int} {h : Heap} {R R' : Option Addr → Heap → Prop} (H : ord_Order_Insert r o1 x2 h R) (hr : ∀ y3 h, R y3 h → R' y3 h) : ord_Order_Insert r o1 x2 h R' :=
  CallsH.mono H fun _ _ hx => by
    obtain ⟨y3, hv, hR⟩ := hx
    exact ⟨y3, hv, hr _ _ hR⟩

abbrev ord_Order_Ints (r : World) (o1 : Option Addr) (h : Heap) (R : Sl → Heap → Prop) : Prop :=
  CallsH Try.prog r 25 [(.agg #[(.pointer o1)])] h fun v h' => ∃ (y2 : Sl), v = (Sl.v y2) ∧ R y2 h'

theorem ord_Order_Ints.mono {r : World} {o1 : Option Addr} {h : Heap} {R R' : Sl → Heap → Prop} (H : ord_Order_Ints r o1 h R) (hr : ∀ y2 h, R y2 h → R' y2 h) : ord_Order_Ints r o1 h R' :=
  CallsH.mono H fun _ _ hx => by
    obtain ⟨y2, hv, hR⟩ := hx
    exact ⟨y2, hv, hr _ _ hR⟩

abbrev ord_Order_Drop (r : World) (o1 : Option Addr) (x2 : Int) (h : Heap) (R : Option Addr → Heap → Prop) : Prop :=
  CallsH Try.prog r 28 [(.agg #[(.pointer o1)]), (.int .i64 x2)] h fun v h' => ∃ (y3 : Option Addr), v = (.agg #[(.pointer y3)]) ∧ R y3 h'

theorem ord_Order_Drop.mono {r : World} {o1 : Option Addr} {x2 : Int} {h : Heap} {R R' : Option Addr → Heap → Prop} (H : ord_Order_Drop r o1 x2 h R) (hr : ∀ y3 h, R y3 h → R' y3 h) : ord_Order_Drop r o1 x2 h R' :=
  CallsH.mono H fun _ _ hx => by
    obtain ⟨y3, hv, hR⟩ := hx
    exact ⟨y3, hv, hr _ _ hR⟩

abbrev ord_Order_Count (r : World) (o1 : Option Addr) (x2 : Int) (h : Heap) (R : Int → Heap → Prop) : Prop :=
  CallsH Try.prog r 16 [(.agg #[(.pointer o1)]), (.int .i64 x2)] h fun v h' => ∃ (y3 : Int), v = (.int .i64 y3) ∧ R y3 h'

theorem ord_Order_Count.mono {r : World} {o1 : Option Addr} {x2 : Int} {h : Heap} {R R' : Int → Heap → Prop} (H : ord_Order_Count r o1 x2 h R) (hr : ∀ y3 h, R y3 h → R' y3 h) : ord_Order_Count r o1 x2 h R' :=
  CallsH.mono H fun _ _ hx => by
    obtain ⟨y3, hv, hR⟩ := hx
    exact ⟨y3, hv, hr _ _ hR⟩

abbrev ord_Order_Between (r : World) (o1 : Option Addr) (low2 : Int) (high3 : Int) (h : Heap) (R : Sl → Heap → Prop) : Prop :=
  CallsH Try.prog r 15 [(.agg #[(.pointer o1)]), (.int .i64 low2), (.int .i64 high3)] h fun v h' => ∃ (y4 : Sl), v = (Sl.v y4) ∧ R y4 h'

theorem ord_Order_Between.mono {r : World} {o1 : Option Addr} {low2 : Int} {high3 : Int} {h : Heap} {R R' : Sl → Heap → Prop} (H : ord_Order_Between r o1 low2 high3 h R) (hr : ∀ y4 h, R y4 h → R' y4 h) : ord_Order_Between r o1 low2 high3 h R' :=
  CallsH.mono H fun _ _ hx => by
    obtain ⟨y4, hv, hR⟩ := hx
    exact ⟨y4, hv, hr _ _ hR⟩

abbrev ord_Order_Merge (r : World) (o1 : Option Addr) (p2 : Option Addr) (h : Heap) (R : Option Addr → Heap → Prop) : Prop :=
  CallsH Try.prog r 35 [(.agg #[(.pointer o1)]), (.agg #[(.pointer p2)])] h fun v h' => ∃ (y3 : Option Addr), v = (.agg #[(.pointer y3)]) ∧ R y3 h'

theorem ord_Order_Merge.mono {r : World} {o1 : Option Addr} {p2 : Option Addr} {h : Heap} {R R' : Option Addr → Heap → Prop} (H : ord_Order_Merge r o1 p2 h R) (hr : ∀ y3 h, R y3 h → R' y3 h) : ord_Order_Merge r o1 p2 h R' :=
  CallsH.mono H fun _ _ hx => by
    obtain ⟨y3, hv, hR⟩ := hx
    exact ⟨y3, hv, hr _ _ hR⟩

abbrev ord_Order_from (r : World) (o1 : Option Addr) (x2 : Int) (h : Heap) (R : Int → Heap → Prop) : Prop :=
  CallsH Try.prog r 38 [(.agg #[(.pointer o1)]), (.int .i64 x2)] h fun v h' => ∃ (y3 : Int), v = (.int .i64 y3) ∧ R y3 h'

theorem ord_Order_from.mono {r : World} {o1 : Option Addr} {x2 : Int} {h : Heap} {R R' : Int → Heap → Prop} (H : ord_Order_from r o1 x2 h R) (hr : ∀ y3 h, R y3 h → R' y3 h) : ord_Order_from r o1 x2 h R' :=
  CallsH.mono H fun _ _ hx => by
    obtain ⟨y3, hv, hR⟩ := hx
    exact ⟨y3, hv, hr _ _ hR⟩

abbrev ord_Order_behind (r : World) (o1 : Option Addr) (x2 : Int) (h : Heap) (R : Int → Heap → Prop) : Prop :=
  CallsH Try.prog r 39 [(.agg #[(.pointer o1)]), (.int .i64 x2)] h fun v h' => ∃ (y3 : Int), v = (.int .i64 y3) ∧ R y3 h'

theorem ord_Order_behind.mono {r : World} {o1 : Option Addr} {x2 : Int} {h : Heap} {R R' : Int → Heap → Prop} (H : ord_Order_behind r o1 x2 h R) (hr : ∀ y3 h, R y3 h → R' y3 h) : ord_Order_behind r o1 x2 h R' :=
  CallsH.mono H fun _ _ hx => by
    obtain ⟨y3, hv, hR⟩ := hx
    exact ⟨y3, hv, hr _ _ hR⟩

abbrev ord_Order_from_1 (r : World) (s1 : Bool) (s2 : Int) (c3 : Addr) (h : Heap) (R : Bool → Heap → Prop) : Prop :=
  CallsH Try.prog r 66 [(.agg #[(.bool s1), (.int .i64 s2)]), (.pointer (some c3))] h fun v h' => ∃ (y4 : Bool), v = (.bool y4) ∧ R y4 h'

theorem ord_Order_from_1.mono {r : World} {s1 : Bool} {s2 : Int} {c3 : Addr} {h : Heap} {R R' : Bool → Heap → Prop} (H : ord_Order_from_1 r s1 s2 c3 h R) (hr : ∀ y4 h, R y4 h → R' y4 h) : ord_Order_from_1 r s1 s2 c3 h R' :=
  CallsH.mono H fun _ _ hx => by
    obtain ⟨y4, hv, hR⟩ := hx
    exact ⟨y4, hv, hr _ _ hR⟩

abbrev ord_Order_behind_1 (r : World) (s1 : Bool) (s2 : Int) (c3 : Addr) (h : Heap) (R : Bool → Heap → Prop) : Prop :=
  CallsH Try.prog r 67 [(.agg #[(.bool s1), (.int .i64 s2)]), (.pointer (some c3))] h fun v h' => ∃ (y4 : Bool), v = (.bool y4) ∧ R y4 h'

theorem ord_Order_behind_1.mono {r : World} {s1 : Bool} {s2 : Int} {c3 : Addr} {h : Heap} {R R' : Bool → Heap → Prop} (H : ord_Order_behind_1 r s1 s2 c3 h R) (hr : ∀ y4 h, R y4 h → R' y4 h) : ord_Order_behind_1 r s1 s2 c3 h R' :=
  CallsH.mono H fun _ _ hx => by
    obtain ⟨y4, hv, hR⟩ := hx
    exact ⟨y4, hv, hr _ _ hR⟩

/-! ### ord_Of -/

def ord_Of_F (r : World) (l1 : Sl) (h : Heap) (R : Option Addr → Heap → Prop) : Prop :=
  New h (.cells #[(.pointer none)] 28) fun p2 h1 =>
  New h1 (.cells #[(.pointer none)] 28) fun p5 h2 =>
  ∀ X9 : Int → Heap → Prop, (∀ (x8 : Int) (h3 : Heap),
    (Br (decide (x8 < ((l1.len : Int)))) (
      Ix l1 x8 1 fun q14 =>
      LdI h3 q14 fun x16 =>
      LdP h3 (Addr.add p5 0) fun x18 =>
      ord_Order_Insert r x18 x16 h3 fun y20 h4 =>
      St h4 p5 1 [(.pointer y20)] fun h5 =>
      X9 (w64 (x8 + 1)) h5) (
      LdP h3 (Addr.add p5 0) fun x23 =>
      St h3 p2 1 [(.pointer x23)] fun h6 =>
      LdP h6 (Addr.add p2 0) fun x27 =>
      R x27 h6)) →
    X9 x8 h3) →
  X9 0 h2

set_option maxRecDepth 100000 in
theorem ord_Of_of {r : World} {l1 : Sl} {h : Heap} {R : Option Addr → Heap → Prop} (H : ord_Of_F r l1 h R) : ord_Of r l1 h R := by
  unfold ord_Of_F at H
  refine calls_of 17 [.cell 2 28] Try.func12 rfl rfl rfl rfl rfl ?_
  refine W_seq ?_
  refine W_region (.ef 0 [] .fin .no) rfl rfl ?_
  obtain ⟨p2, e3⟩ : ∃ p : Addr, p = ⟨h.size, 0, none⟩ := ⟨_, rfl⟩
  obtain ⟨h1, e4⟩ : ∃ hh : Heap, hh = h.push (.cells #[(.pointer none)] 28) := ⟨_, rfl⟩
  have H := H p2 h1 e3 e4
  refine s_ef1 (d := some 2) (v := (.pointer (some p2))) (h' := h1) rfl rfl rfl (fun dr => (r_alloc Try.zeroValue28).trans (by rw [e3, e4]; rfl)) trivial ?_ trivial
  refine s_fin ?_
  show W _ _ _ _ _ _ _ _
  refine W_seq ?_
  refine W_region (.ef 0 [] .fin .no) rfl rfl ?_
  obtain ⟨p5, e6⟩ : ∃ p : Addr, p = ⟨h1.size, 0, none⟩ := ⟨_, rfl⟩
  obtain ⟨h2, e7⟩ : ∃ hh : Heap, hh = h1.push (.cells #[(.pointer none)] 28) := ⟨_, rfl⟩
  have H := H p5 h2 e6 e7
  refine s_ef1 (d := some 3) (v := (.pointer (some p5))) (h' := h2) rfl rfl rfl (fun dr => (r_alloc Try.zeroValue28).trans (by rw [e6, e7]; rfl)) trivial ?_ trivial
  refine s_fin ?_
  show W _ _ _ _ _ _ _ _
  refine W_seq ?_
  refine W_seq ?_
  refine W_region (.pu 0 (.pu 1 (.pu 2 .fin))) rfl rfl ?_
  refine s_pu (d := some 6) (v := (Sl.v l1)) rfl rfl rfl (r_move rfl) ?_
  refine s_pu (d := some 7) (v := (.int .i64 ((l1.len : Int)))) rfl rfl rfl (r_len Try.underlying22 rfl) ?_
  refine s_pu (d := some 8) (v := (.int .i64 0)) rfl rfl rfl (r_move rfl) ?_
  refine s_fin ?_
  show W _ _ _ _ _ _ _ _
  refine W_block ?_
  refine W_loop (WL_mk (l := [(2, (.pointer (some p2))), (3, (.pointer (some p5))), (6, (Sl.v l1)), (7, (.int .i64 ((l1.len : Int)))), (8, (.int .i64 0))]) ?_ ⟨rfl, rfl, rfl, rfl, rfl, trivial⟩)
  refine H (fun (x8 : Int) (h3 : Heap) => ∀ b, WL _ _ _ _ _ _ (mkE [(2, (.pointer (some p2))), (3, (.pointer (some p5))), (6, (Sl.v l1)), (7, (.int .i64 ((l1.len : Int)))), (8, (.int .i64 x8))] b) h3) ?_
  intro x8 h3 H b
  refine WL_round ?_
  refine W_seq ?_
  refine W_region (.pu 0 .fin) rfl rfl ?_
  refine s_pu (d := some 9) (v := (.bool (decide (x8 < ((l1.len : Int)))))) rfl rfl rfl (r_lss rfl rfl) ?_
  refine s_fin ?_
  show W _ _ _ _ _ _ _ _
  refine W_seq ?_
  refine W_if (decide (x8 < ((l1.len : Int)))) rfl (fun g29 => ?_) (fun g29 => ?_)
  · have H := H.1 g29
    refine W_skip ?_
    show W _ _ _ _ _ _ _ _
    refine W_seq ?_
    refine W_block ?_
    refine W_seq ?_
    refine W_region (.pu 0 (.rl 1 (.pu 2 .fin))) rfl rfl ?_
    obtain ⟨p10, e11, e12, e13, H⟩ := H
    obtain ⟨q14, e15⟩ : ∃ q : Addr, q = Addr.add p10 (Int.toNat x8 * 1) := ⟨_, rfl⟩
    rw [← e15] at H
    refine s_pu (d := some 10) (v := (.pointer (some q14))) rfl rfl rfl (fun w => (r_indexAddr Try.underlying22 Try.sizeOf3 rfl rfl e11 e12 e13 w).trans (by rw [e15])) ?_
    obtain ⟨x16, e17, H⟩ := H
    refine s_rl (d := some 11) (v := (.int .i64 x16)) rfl rfl rfl (fun dr => r_load1 Try.isAgg3 rfl e17) ?_
    refine s_pu (d := some 5) (v := (.int .i64 x16)) rfl rfl rfl (r_assign rfl) ?_
    refine s_fin ?_
    show W _ _ _ _ _ _ _ _
    refine W_region (.rl 0 (.pu 1 (.ef 2 [] (.ef 3 [] .fin .no) .no))) rfl rfl ?_
    obtain ⟨x18, e19, H⟩ := H
    refine s_rl (d := some 12) (v := (.agg #[(.pointer x18)])) rfl rfl rfl (fun dr => r_loadN Try.isAgg28 Try.sizeOf28 (vs := [(.pointer x18)]) rfl rfl ⟨e19, trivial⟩) ?_
    refine s_pu (d := some 13) (v := (.int .i64 x16)) rfl rfl rfl (r_move rfl) ?_
    refine s_ef (d := some 14) rfl rfl rfl (fun dr => r_call Try.call27 rfl rfl H) ?_ trivial
    rintro _ h4 ⟨y20, rfl, H⟩
    refine ⟨trivial, ?_⟩
    obtain ⟨e22, H⟩ := H
    obtain ⟨h5, e21⟩ : ∃ hh : Heap, hh = hsets h4 p5 0 [(.pointer y20)] := ⟨_, rfl⟩
    have H := H h5 e21
    refine s_st (d := none) (h' := h5) rfl rfl rfl (fun dr => (r_store (v := (.agg #[(.pointer y20)])) Try.sizeOf28 rfl rfl rfl (one_all rfl) e22).trans (by rw [e21]; rfl)) trivial ?_ trivial
    refine s_fin ?_
    show W _ _ _ _ _ _ _ _
    refine W_region (.pu 0 (.pu 1 .fin)) rfl rfl ?_
    refine s_pu (d := some 15) (v := (.int .i64 (w64 (x8 + 1)))) rfl rfl rfl (r_add rfl rfl) ?_
    refine s_pu (d := some 8) (v := (.int .i64 (w64 (x8 + 1)))) rfl rfl rfl (r_move rfl) ?_
    refine s_fin ?_
    exact WL_mk (l := [(2, (.pointer (some p2))), (3, (.pointer (some p5))), (6, (Sl.v l1)), (7, (.int .i64 ((l1.len : Int)))), (8, (.int .i64 (w64 (x8 + 1))))]) H ⟨rfl, rfl, rfl, rfl, rfl, trivial⟩
  · have H := H.2 g29
    refine W_exit (inX_here ?_)
    show W _ _ _ _ _ _ _ _
    refine W_seq ?_
    refine W_region (.rl 0 (.ef 1 [] .fin .no)) rfl rfl ?_
    obtain ⟨x23, e24, H⟩ := H
    refine s_rl (d := some 16) (v := (.agg #[(.pointer x23)])) rfl rfl rfl (fun dr => r_loadN Try.isAgg28 Try.sizeOf28 (vs := [(.pointer x23)]) rfl rfl ⟨e24, trivial⟩) ?_
    obtain ⟨e26, H⟩ := H
    obtain ⟨h6, e25⟩ : ∃ hh : Heap, hh = hsets h3 p2 0 [(.pointer x23)] := ⟨_, rfl⟩
    have H := H h6 e25
    refine s_st (d := none) (h' := h6) rfl rfl rfl (fun dr => (r_store (v := (.agg #[(.pointer x23)])) Try.sizeOf28 rfl rfl rfl (one_all rfl) e26).trans (by rw [e25]; rfl)) trivial ?_ trivial
    refine s_fin ?_
    show W _ _ _ _ _ _ _ _
    refine W_ret ?_
    obtain ⟨x27, e28, H⟩ := H
    exact ⟨[(.agg #[(.pointer x27)])], ⟨_, _, _, rfl, rfl, fun dr => run_loadVarN Try.isAgg28 Try.sizeOf28 (vs := [(.pointer x27)]) rfl ⟨e28, trivial⟩, rfl⟩, x27, rfl, H⟩

/-! ### ord_Order_Insert -/

def ord_Order_Insert_F (r : World) (o1 : Option Addr) (x2 : Int) (h : Heap) (R : Option Addr → Heap → Prop) : Prop :=
  New h (.cells #[(.pointer o1)] 28) fun p3 h1 =>
  New h1 (.cells #[(.pointer none)] 28) fun p6 h2 =>
  LdP h2 (Addr.add (Addr.add p3 0) 0) fun x9 =>
  LdP h2 (Addr.add p3 0) fun x11 =>
  ord_Order_behind r x11 x2 h2 fun y13 h3 =>
  (hcell h3 (Addr.add (Addr.add p3 0) 0) = some (.pointer x9)) ∧
  finger_Many_int_ord_last_ord_lasts_Insert r x9 y13 x2 h3 fun y15 h4 =>
  St h4 p6 1 [(.pointer y15)] fun h5 =>
  LdP h5 (Addr.add p6 0) fun x18 =>
  R x18 h5

set_option maxRecDepth 100000 in
theorem ord_Order_Insert_of {r : World} {o1 : Option Addr} {x2 : Int} {h : Heap} {R : Option Addr → Heap → Prop} (H : ord_Order_Insert_F r o1 x2 h R) : ord_Order_Insert r o1 x2 h R := by
  unfold ord_Order_Insert_F at H
  refine calls_of 13 [.cell 4 28] Try.func27 rfl rfl rfl rfl rfl ?_
  refine W_seq ?_
  refine W_region (.ef 0 [] (.ef 1 [] .fin .no) .no) rfl rfl ?_
  obtain ⟨p3, e4⟩ : ∃ p : Addr, p = ⟨h.size, 0, none⟩ := ⟨_, rfl⟩
  obtain ⟨h1, e5⟩ : ∃ hh : Heap, hh = h.push (.cells #[(.pointer o1)] 28) := ⟨_, rfl⟩
  have H := H p3 h1 e4 e5
  refine s_ef1 (d := some 2) (v := (.pointer (some p3))) (h' := h1) rfl rfl rfl (fun dr => (r_box (v := (.agg #[(.pointer o1)])) rfl).trans (by rw [e4, e5]; rfl)) trivial ?_ trivial
  obtain ⟨p6, e7⟩ : ∃ p : Addr, p = ⟨h1.size, 0, none⟩ := ⟨_, rfl⟩
  obtain ⟨h2, e8⟩ : ∃ hh : Heap, hh = h1.push (.cells #[(.pointer none)] 28) := ⟨_, rfl⟩
  have H := H p6 h2 e7 e8
  refine s_ef1 (d := some 4) (v := (.pointer (some p6))) (h' := h2) rfl rfl rfl (fun dr => (r_alloc Try.zeroValue28).trans (by rw [e7, e8]; rfl)) trivial ?_ trivial
  refine s_fin ?_
  show W _ _ _ _ _ _ _ _
  refine W_seq ?_
  refine W_draw [0, 1, 0, 0, 12, 0, 63, 127, 255] (.pu 0 (.rd 1 (.rd 2 (.pu 3 (.pu 5 (.ef 4 [2] (.ef 6 [1, 2] (.pu 7 (.ef 8 [1, 2] .fin .no)) .no) .no)))))) (by kernel_rfl) (by kernel_rfl) ?_
  refine s_pu (d := some 5) (v := (.pointer (some (Addr.add p3 0)))) rfl rfl rfl (r_fieldAddr Try.underlying28 Try.sizeOf26 rfl rfl rfl) ?_
  obtain ⟨x9, e10, H⟩ := H
  refine s_rd (d := some 6) (v := (.agg #[(.pointer x9)])) rfl rfl rfl (fun dr => r_loadN Try.isAgg26 Try.sizeOf26 (vs := [(.pointer x9)]) rfl rfl ⟨e10, trivial⟩) ?_
  obtain ⟨x11, e12, H⟩ := H
  refine s_rd (d := some 7) (v := (.agg #[(.pointer x11)])) rfl rfl rfl (fun dr => r_loadN Try.isAgg28 Try.sizeOf28 (vs := [(.pointer x11)]) rfl rfl ⟨e12, trivial⟩) ?_
  refine s_pu (d := some 8) (v := (.int .i64 x2)) rfl rfl rfl (r_move rfl) ?_
  refine s_pu (d := some 10) (v := (.int .i64 x2)) rfl rfl rfl (r_move rfl) ?_
  refine s_ef (d := some 9) rfl rfl rfl (fun dr => r_call Try.call39 rfl rfl H) ?_ trivial
  rintro _ h3 ⟨y13, rfl, H⟩
  obtain ⟨e14, H⟩ := H
  refine ⟨⟨trivial, (.inl ⟨rfl, fun dr => r_loadN Try.isAgg26 Try.sizeOf26 (vs := [(.pointer x9)]) rfl rfl ⟨e14, trivial⟩⟩), trivial⟩, ?_⟩
  refine s_ef (d := some 11) rfl rfl rfl (fun dr => r_call Try.call51 rfl rfl H) ?_ trivial
  rintro _ h4 ⟨y15, rfl, H⟩
  refine ⟨⟨trivial, trivial, trivial⟩, ?_⟩
  refine s_pu (d := some 12) (v := (.agg #[(.pointer y15)])) rfl rfl rfl (fun w => by kernel_rfl) ?_
  obtain ⟨e17, H⟩ := H
  obtain ⟨h5, e16⟩ : ∃ hh : Heap, hh = hsets h4 p6 0 [(.pointer y15)] := ⟨_, rfl⟩
  have H := H h5 e16
  refine s_st (d := none) (h' := h5) rfl rfl rfl (fun dr => (r_store (v := (.agg #[(.pointer y15)])) Try.sizeOf28 rfl rfl rfl (one_all rfl) e17).trans (by rw [e16]; rfl)) ⟨trivial, trivial, trivial⟩ ?_ trivial
  refine s_fin ?_
  show W _ _ _ _ _ _ _ _
  refine W_ret ?_
  obtain ⟨x18, e19, H⟩ := H
  exact ⟨[(.agg #[(.pointer x18)])], ⟨_, _, _, rfl, rfl, fun dr => run_loadVarN Try.isAgg28 Try.sizeOf28 (vs := [(.pointer x18)]) rfl ⟨e19, trivial⟩, rfl⟩, x18, rfl, H⟩

/-! ### ord_Order_Ints -/

def ord_Order_Ints_F (r : World) (o1 : Option Addr) (h : Heap) (R : Sl → Heap → Prop) : Prop :=
  New h (.cells #[(.pointer o1)] 28) fun p2 h1 =>
  LdP h1 (Addr.add (Addr.add p2 0) 0) fun x5 =>
  finger_Many_int_ord_last_ord_lasts_All r x5 h1 fun y7 h2 =>
  R y7 h2

set_option maxRecDepth 100000 in
theorem ord_Order_Ints_of {r : World} {o1 : Option Addr} {h : Heap} {R : Sl → Heap → Prop} (H : ord_Order_Ints_F r o1 h R) : ord_Order_Ints r o1 h R := by
  unfold ord_Order_Ints_F at H
  refine calls_of 6 [.tmp 2] Try.func25 rfl rfl rfl rfl rfl ?_
  refine W_seq ?_
  refine W_region (.ef 0 [] (.pu 1 .fin) .no) rfl rfl ?_
  obtain ⟨p2, e3⟩ : ∃ p : Addr, p = ⟨h.size, 0, none⟩ := ⟨_, rfl⟩
  obtain ⟨h1, e4⟩ : ∃ hh : Heap, hh = h.push (.cells #[(.pointer o1)] 28) := ⟨_, rfl⟩
  have H := H p2 h1 e3 e4
  refine s_ef1 (d := some 1) (v := (.pointer (some p2))) (h' := h1) rfl rfl rfl (fun dr => (r_box (v := (.agg #[(.pointer o1)])) rfl).trans (by rw [e3, e4]; rfl)) trivial ?_ trivial
  refine s_pu (d := some 2) (v := (Sl.v Sl.nil)) rfl rfl rfl (r_assign rfl) ?_
  refine s_fin ?_
  show W _ _ _ _ _ _ _ _
  refine W_seq ?_
  refine W_region (.pu 0 (.rl 1 (.ef 2 [] (.pu 3 .fin) .no))) rfl rfl ?_
  refine s_pu (d := some 3) (v := (.pointer (some (Addr.add p2 0)))) rfl rfl rfl (r_fieldAddr Try.underlying28 Try.sizeOf26 rfl rfl rfl) ?_
  obtain ⟨x5, e6, H⟩ := H
  refine s_rl (d := some 4) (v := (.agg #[(.pointer x5)])) rfl rfl rfl (fun dr => r_loadN Try.isAgg26 Try.sizeOf26 (vs := [(.pointer x5)]) rfl rfl ⟨e6, trivial⟩) ?_
  refine s_ef (d := some 5) rfl rfl rfl (fun dr => r_call Try.call41 rfl rfl H) ?_ trivial
  rintro _ h2 ⟨y7, rfl, H⟩
  refine ⟨trivial, ?_⟩
  refine s_pu (d := some 2) (v := (Sl.v y7)) rfl rfl rfl (r_assign rfl) ?_
  refine s_fin ?_
  show W _ _ _ _ _ _ _ _
  refine W_ret ?_
  exact ⟨[(Sl.v y7)], ⟨_, _, rfl, rfl, rfl⟩, y7, rfl, H⟩

/-! ### ord_Order_Drop -/

def ord_Order_Drop_F (r : World) (o1 : Option Addr) (x2 : Int) (h : Heap) (R : Option Addr → Heap → Prop) : Prop :=
  New h (.cells #[(.pointer o1)] 28) fun p3 h1 =>
  New h1 (.cells #[(.pointer none)] 28) fun p6 h2 =>
  LdP h2 (Addr.add (Addr.add p3 0) 0) fun x9 =>
  LdP h2 (Addr.add p3 0) fun x11 =>
  LdP h2 (Addr.add p3 0) fun x13 =>
  ord_Order_from r x11 x2 h2 fun y15 h3 =>
  (hcell h3 (Addr.add p3 0) = some (.pointer x13)) ∧
  (hcell h3 (Addr.add (Addr.add p3 0) 0) = some (.pointer x9)) ∧
  ord_Order_behind r x13 x2 h3 fun y18 h4 =>
  (hcell h4 (Addr.add (Addr.add p3 0) 0) = some (.pointer x9)) ∧
  finger_Many_int_ord_last_ord_lasts_Cut r x9 y15 y18 h4 fun y20 h5 =>
  St h5 p6 1 [(.pointer y20)] fun h6 =>
  LdP h6 (Addr.add p6 0) fun x23 =>
  R x23 h6

set_option maxRecDepth 100000 in
theorem ord_Order_Drop_of {r : World} {o1 : Option Addr} {x2 : Int} {h : Heap} {R : Option Addr → Heap → Prop} (H : ord_Order_Drop_F r o1 x2 h R) : ord_Order_Drop r o1 x2 h R := by
  unfold ord_Order_Drop_F at H
  refine calls_of 15 [.cell 4 28] Try.func28 rfl rfl rfl rfl rfl ?_
  refine W_seq ?_
  refine W_region (.ef 0 [] (.ef 1 [] .fin .no) .no) rfl rfl ?_
  obtain ⟨p3, e4⟩ : ∃ p : Addr, p = ⟨h.size, 0, none⟩ := ⟨_, rfl⟩
  obtain ⟨h1, e5⟩ : ∃ hh : Heap, hh = h.push (.cells #[(.pointer o1)] 28) := ⟨_, rfl⟩
  have H := H p3 h1 e4 e5
  refine s_ef1 (d := some 2) (v := (.pointer (some p3))) (h' := h1) rfl rfl rfl (fun dr => (r_box (v := (.agg #[(.pointer o1)])) rfl).trans (by rw [e4, e5]; rfl)) trivial ?_ trivial
  obtain ⟨p6, e7⟩ : ∃ p : Addr, p = ⟨h1.size, 0, none⟩ := ⟨_, rfl⟩
  obtain ⟨h2, e8⟩ : ∃ hh : Heap, hh = h1.push (.cells #[(.pointer none)] 28) := ⟨_, rfl⟩
  have H := H p6 h2 e7 e8
  refine s_ef1 (d := some 4) (v := (.pointer (some p6))) (h' := h2) rfl rfl rfl (fun dr => (r_alloc Try.zeroValue28).trans (by rw [e7, e8]; rfl)) trivial ?_ trivial
  refine s_fin ?_
  show W _ _ _ _ _ _ _ _
  refine W_seq ?_
  refine W_draw [0, 1, 0, 0, 12, 0, 0, 124, 255, 511, 1023] (.pu 0 (.rd 1 (.rd 2 (.pu 3 (.rd 5 (.pu 6 (.ef 4 [2] (.ef 7 [2, 5] (.ef 8 [1, 2, 5] (.pu 9 (.ef 10 [1, 2, 5] .fin .no)) .no) .no) .no))))))) (by kernel_rfl) (by kernel_rfl) ?_
  refine s_pu (d := some 5) (v := (.pointer (some (Addr.add p3 0)))) rfl rfl rfl (r_fieldAddr Try.underlying28 Try.sizeOf26 rfl rfl rfl) ?_
  obtain ⟨x9, e10, H⟩ := H
  refine s_rd (d := some 6) (v := (.agg #[(.pointer x9)])) rfl rfl rfl (fun dr => r_loadN Try.isAgg26 Try.sizeOf26 (vs := [(.pointer x9)]) rfl rfl ⟨e10, trivial⟩) ?_
  obtain ⟨x11, e12, H⟩ := H
  refine s_rd (d := some 7) (v := (.agg #[(.pointer x11)])) rfl rfl rfl (fun dr => r_loadN Try.isAgg28 Try.sizeOf28 (vs := [(.pointer x11)]) rfl rfl ⟨e12, trivial⟩) ?_
  refine s_pu (d := some 8) (v := (.int .i64 x2)) rfl rfl rfl (r_move rfl) ?_
  obtain ⟨x13, e14, H⟩ := H
  refine s_rd (d := some 10) (v := (.agg #[(.pointer x13)])) rfl rfl rfl (fun dr => r_loadN Try.isAgg28 Try.sizeOf28 (vs := [(.pointer x13)]) rfl rfl ⟨e14, trivial⟩) ?_
  refine s_pu (d := some 11) (v := (.int .i64 x2)) rfl rfl rfl (r_move rfl) ?_
  refine s_ef (d := some 9) rfl rfl rfl (fun dr => r_call Try.call38 rfl rfl H) ?_ trivial
  rintro _ h3 ⟨y15, rfl, H⟩
  obtain ⟨e16, H⟩ := H
  obtain ⟨e17, H⟩ := H
  refine ⟨⟨(.inl ⟨rfl, fun dr => r_loadN Try.isAgg28 Try.sizeOf28 (vs := [(.pointer x13)]) rfl rfl ⟨e16, trivial⟩⟩), trivial, (.inl ⟨rfl, fun dr => r_loadN Try.isAgg26 Try.sizeOf26 (vs := [(.pointer x9)]) rfl rfl ⟨e17, trivial⟩⟩), trivial⟩, ?_⟩
  refine s_ef (d := some 12) rfl rfl rfl (fun dr => r_call Try.call39 rfl rfl H) ?_ trivial
  rintro _ h4 ⟨y18, rfl, H⟩
  obtain ⟨e19, H⟩ := H
  refine ⟨⟨trivial, trivial, (.inl ⟨rfl, fun dr => r_loadN Try.isAgg26 Try.sizeOf26 (vs := [(.pointer x9)]) rfl rfl ⟨e19, trivial⟩⟩), trivial⟩, ?_⟩
  refine s_ef (d := some 13) rfl rfl rfl (fun dr => r_call Try.call52 rfl rfl H) ?_ trivial
  rintro _ h5 ⟨y20, rfl, H⟩
  refine ⟨⟨trivial, trivial, trivial, trivial⟩, ?_⟩
  refine s_pu (d := some 14) (v := (.agg #[(.pointer y20)])) rfl rfl rfl (fun w => by kernel_rfl) ?_
  obtain ⟨e22, H⟩ := H
  obtain ⟨h6, e21⟩ : ∃ hh : Heap, hh = hsets h5 p6 0 [(.pointer y20)] := ⟨_, rfl⟩
  have H := H h6 e21
  refine s_st (d := none) (h' := h6) rfl rfl rfl (fun dr => (r_store (v := (.agg #[(.pointer y20)])) Try.sizeOf28 rfl rfl rfl (one_all rfl) e22).trans (by rw [e21]; rfl)) ⟨trivial, trivial, trivial, trivial⟩ ?_ trivial
  refine s_fin ?_
  show W _ _ _ _ _ _ _ _
  refine W_ret ?_
  obtain ⟨x23, e24, H⟩ := H
  exact ⟨[(.agg #[(.pointer x23)])], ⟨_, _, _, rfl, rfl, fun dr => run_loadVarN Try.isAgg28 Try.sizeOf28 (vs := [(.pointer x23)]) rfl ⟨e24, trivial⟩, rfl⟩, x23, rfl, H⟩

/-! ### ord_Order_Count -/

def ord_Order_Count_F (r : World) (o1 : Option Addr) (x2 : Int) (h : Heap) (R : Int → Heap → Prop) : Prop :=
  New h (.cells #[(.pointer o1)] 28) fun p3 h1 =>
  LdP h1 (Addr.add p3 0) fun x6 =>
  LdP h1 (Addr.add p3 0) fun x8 =>
  ord_Order_behind r x6 x2 h1 fun y10 h2 =>
  (hcell h2 (Addr.add p3 0) = some (.pointer x8)) ∧
  ord_Order_from r x8 x2 h2 fun y12 h3 =>
  R (w64 (y10 - y12)) h3

set_option maxRecDepth 100000 in
theorem ord_Order_Count_of {r : World} {o1 : Option Addr} {x2 : Int} {h : Heap} {R : Int → Heap → Prop} (H : ord_Order_Count_F r o1 x2 h R) : ord_Order_Count r o1 x2 h R := by
  unfold ord_Order_Count_F at H
  refine calls_of 12 [.tmp 4] Try.func16 rfl rfl rfl rfl rfl ?_
  refine W_seq ?_
  refine W_region (.ef 0 [] (.pu 1 .fin) .no) rfl rfl ?_
  obtain ⟨p3, e4⟩ : ∃ p : Addr, p = ⟨h.size, 0, none⟩ := ⟨_, rfl⟩
  obtain ⟨h1, e5⟩ : ∃ hh : Heap, hh = h.push (.cells #[(.pointer o1)] 28) := ⟨_, rfl⟩
  have H := H p3 h1 e4 e5
  refine s_ef1 (d := some 2) (v := (.pointer (some p3))) (h' := h1) rfl rfl rfl (fun dr => (r_box (v := (.agg #[(.pointer o1)])) rfl).trans (by rw [e4, e5]; rfl)) trivial ?_ trivial
  refine s_pu (d := some 4) (v := (.int .i64 0)) rfl rfl rfl (r_assign rfl) ?_
  refine s_fin ?_
  show W _ _ _ _ _ _ _ _
  refine W_seq ?_
  refine W_draw [0, 0, 3, 0, 0, 31, 63, 127] (.rd 0 (.pu 1 (.rd 3 (.pu 4 (.ef 2 [0] (.ef 5 [0, 3] (.pu 6 (.pu 7 .fin)) .no) .no))))) (by kernel_rfl) (by kernel_rfl) ?_
  obtain ⟨x6, e7, H⟩ := H
  refine s_rd (d := some 5) (v := (.agg #[(.pointer x6)])) rfl rfl rfl (fun dr => r_loadN Try.isAgg28 Try.sizeOf28 (vs := [(.pointer x6)]) rfl rfl ⟨e7, trivial⟩) ?_
  refine s_pu (d := some 6) (v := (.int .i64 x2)) rfl rfl rfl (r_move rfl) ?_
  obtain ⟨x8, e9, H⟩ := H
  refine s_rd (d := some 8) (v := (.agg #[(.pointer x8)])) rfl rfl rfl (fun dr => r_loadN Try.isAgg28 Try.sizeOf28 (vs := [(.pointer x8)]) rfl rfl ⟨e9, trivial⟩) ?_
  refine s_pu (d := some 9) (v := (.int .i64 x2)) rfl rfl rfl (r_move rfl) ?_
  refine s_ef (d := some 7) rfl rfl rfl (fun dr => r_call Try.call39 rfl rfl H) ?_ trivial
  rintro _ h2 ⟨y10, rfl, H⟩
  obtain ⟨e11, H⟩ := H
  refine ⟨⟨(.inl ⟨rfl, fun dr => r_loadN Try.isAgg28 Try.sizeOf28 (vs := [(.pointer x8)]) rfl rfl ⟨e11, trivial⟩⟩), trivial, trivial⟩, ?_⟩
  refine s_ef (d := some 10) rfl rfl rfl (fun dr => r_call Try.call38 rfl rfl H) ?_ trivial
  rintro _ h3 ⟨y12, rfl, H⟩
  refine ⟨⟨trivial, trivial, trivial⟩, ?_⟩
  refine s_pu (d := some 11) (v := (.int .i64 (w64 (y10 - y12)))) rfl rfl rfl (r_sub rfl rfl) ?_
  refine s_pu (d := some 4) (v := (.int .i64 (w64 (y10 - y12)))) rfl rfl rfl (r_assign rfl) ?_
  refine s_fin ?_
  show W _ _ _ _ _ _ _ _
  refine W_ret ?_
  exact ⟨[(.int .i64 (w64 (y10 - y12)))], ⟨_, _, rfl, rfl, rfl⟩, (w64 (y10 - y12)), rfl, H⟩

/-! ### ord_Order_Between -/

def ord_Order_Between_F (r : World) (o1 : Option Addr) (low2 : Int) (high3 : Int) (h : Heap) (R : Sl → Heap → Prop) : Prop :=
  New h (.cells #[(.pointer o1)] 28) fun p4 h1 =>
  LdP h1 (Addr.add p4 0) fun x7 =>
  LdP h1 (Addr.add p4 0) fun x9 =>
  ord_Order_from r x7 low2 h1 fun y11 h2 =>
  (hcell h2 (Addr.add p4 0) = some (.pointer x9)) ∧
  ord_Order_behind r x9 high3 h2 fun y13 h3 =>
  Br (decide (y13 ≤ y11)) (
    R Sl.nil h3) (
    LdP h3 (Addr.add (Addr.add p4 0) 0) fun x14 =>
    finger_Many_int_ord_last_ord_lasts_Split r x14 y13 h3 fun y16 y17 h4 =>
    New h4 (.cells #[(.pointer none)] 26) fun p18 h5 =>
    New h5 (.cells #[(.pointer none)] 26) fun p21 h6 =>
    St h6 p18 1 [(.pointer y16)] fun h7 =>
    St h7 p21 1 [(.pointer y17)] fun h8 =>
    LdP h8 (Addr.add p18 0) fun x28 =>
    finger_Many_int_ord_last_ord_lasts_Split r x28 y11 h8 fun y30 y31 h9 =>
    New h9 (.cells #[(.pointer none)] 26) fun p32 h10 =>
    New h10 (.cells #[(.pointer none)] 26) fun p35 h11 =>
    St h11 p32 1 [(.pointer y30)] fun h12 =>
    St h12 p35 1 [(.pointer y31)] fun h13 =>
    LdP h13 (Addr.add p35 0) fun x42 =>
    finger_Many_int_ord_last_ord_lasts_All r x42 h13 fun y44 h14 =>
    R y44 h14)

set_option maxRecDepth 100000 in
theorem ord_Order_Between_of {r : World} {o1 : Option Addr} {low2 : Int} {high3 : Int} {h : Heap} {R : Sl → Heap → Prop} (H : ord_Order_Between_F r o1 low2 high3 h R) : ord_Order_Between r o1 low2 high3 h R := by
  unfold ord_Order_Between_F at H
  refine calls_of 37 [.tmp 6] Try.func15 rfl rfl rfl rfl rfl ?_
  refine W_seq ?_
  refine W_region (.ef 0 [] (.pu 1 .fin) .no) rfl rfl ?_
  obtain ⟨p4, e5⟩ : ∃ p : Addr, p = ⟨h.size, 0, none⟩ := ⟨_, rfl⟩
  obtain ⟨h1, e6⟩ : ∃ hh : Heap, hh = h.push (.cells #[(.pointer o1)] 28) := ⟨_, rfl⟩
  have H := H p4 h1 e5 e6
  refine s_ef1 (d := some 3) (v := (.pointer (some p4))) (h' := h1) rfl rfl rfl (fun dr => (r_box (v := (.agg #[(.pointer o1)])) rfl).trans (by rw [e5, e6]; rfl)) trivial ?_ trivial
  refine s_pu (d := some 6) (v := (Sl.v Sl.nil)) rfl rfl rfl (r_assign rfl) ?_
  refine s_fin ?_
  show W _ _ _ _ _ _ _ _
  refine W_seq ?_
  refine W_draw [0, 0, 3, 0, 0, 31, 63, 127] (.rd 0 (.pu 1 (.rd 3 (.pu 4 (.ef 2 [0] (.ef 5 [0, 3] (.pu 6 (.pu 7 .fin)) .no) .no))))) (by kernel_rfl) (by kernel_rfl) ?_
  obtain ⟨x7, e8, H⟩ := H
  refine s_rd (d := some 13) (v := (.agg #[(.pointer x7)])) rfl rfl rfl (fun dr => r_loadN Try.isAgg28 Try.sizeOf28 (vs := [(.pointer x7)]) rfl rfl ⟨e8, trivial⟩) ?_
  refine s_pu (d := some 14) (v := (.int .i64 low2)) rfl rfl rfl (r_move rfl) ?_
  obtain ⟨x9, e10, H⟩ := H
  refine s_rd (d := some 16) (v := (.agg #[(.pointer x9)])) rfl rfl rfl (fun dr => r_loadN Try.isAgg28 Try.sizeOf28 (vs := [(.pointer x9)]) rfl rfl ⟨e10, trivial⟩) ?_
  refine s_pu (d := some 17) (v := (.int .i64 high3)) rfl rfl rfl (r_move rfl) ?_
  refine s_ef (d := some 15) rfl rfl rfl (fun dr => r_call Try.call38 rfl rfl H) ?_ trivial
  rintro _ h2 ⟨y11, rfl, H⟩
  obtain ⟨e12, H⟩ := H
  refine ⟨⟨(.inl ⟨rfl, fun dr => r_loadN Try.isAgg28 Try.sizeOf28 (vs := [(.pointer x9)]) rfl rfl ⟨e12, trivial⟩⟩), trivial, trivial⟩, ?_⟩
  refine s_ef (d := some 18) rfl rfl rfl (fun dr => r_call Try.call39 rfl rfl H) ?_ trivial
  rintro _ h3 ⟨y13, rfl, H⟩
  refine ⟨⟨trivial, trivial, trivial⟩, ?_⟩
  refine s_pu (d := some 7) (v := (.int .i64 y11)) rfl rfl rfl (r_assign rfl) ?_
  refine s_pu (d := some 8) (v := (.int .i64 y13)) rfl rfl rfl (r_assign rfl) ?_
  refine s_fin ?_
  show W _ _ _ _ _ _ _ _
  refine W_seq ?_
  refine W_seq ?_
  refine W_region (.pu 0 (.pu 1 (.pu 2 .fin))) rfl rfl ?_
  refine s_pu (d := some 19) (v := (.int .i64 y13)) rfl rfl rfl (r_move rfl) ?_
  refine s_pu (d := some 20) (v := (.int .i64 y11)) rfl rfl rfl (r_move rfl) ?_
  refine s_pu (d := some 21) (v := (.bool (decide (y13 ≤ y11)))) rfl rfl rfl (r_leq rfl rfl) ?_
  refine s_fin ?_
  show W _ _ _ _ _ _ _ _
  refine W_if (decide (y13 ≤ y11)) rfl (fun g45 => ?_) (fun g45 => ?_)
  · have H := H.1 g45
    refine W_seq ?_
    refine W_region (.pu 0 .fin) rfl rfl ?_
    refine s_pu (d := some 6) (v := (Sl.v Sl.nil)) rfl rfl rfl (r_assign rfl) ?_
    refine s_fin ?_
    show W _ _ _ _ _ _ _ _
    refine W_ret ?_
    exact ⟨[(Sl.v Sl.nil)], ⟨_, _, rfl, rfl, rfl⟩, Sl.nil, rfl, H⟩
  · have H := H.2 g45
    refine W_skip ?_
    show W _ _ _ _ _ _ _ _
    refine W_seq ?_
    refine W_region (.pu 0 (.rl 1 (.pu 2 (.ef 3 [] (.pu 4 (.pu 5 (.pu 6 (.ef 7 [] (.ef 8 [] (.ef 9 [] (.ef 10 [] .fin .no) .no) .no) .no)))) .no)))) rfl rfl ?_
    refine s_pu (d := some 23) (v := (.pointer (some (Addr.add p4 0)))) rfl rfl rfl (r_fieldAddr Try.underlying28 Try.sizeOf26 rfl rfl rfl) ?_
    obtain ⟨x14, e15, H⟩ := H
    refine s_rl (d := some 24) (v := (.agg #[(.pointer x14)])) rfl rfl rfl (fun dr => r_loadN Try.isAgg26 Try.sizeOf26 (vs := [(.pointer x14)]) rfl rfl ⟨e15, trivial⟩) ?_
    refine s_pu (d := some 25) (v := (.int .i64 y13)) rfl rfl rfl (r_move rfl) ?_
    refine s_ef (d := some 26) rfl rfl rfl (fun dr => r_call Try.call40 rfl rfl H) ?_ trivial
    rintro _ h4 ⟨y16, y17, rfl, H⟩
    refine ⟨trivial, ?_⟩
    refine s_pu (d := some 22) (v := (.tuple #[(.agg #[(.pointer y16)]), (.agg #[(.pointer y17)])])) rfl rfl rfl (r_move rfl) ?_
    refine s_pu (d := some 27) (v := (.agg #[(.pointer y16)])) rfl rfl rfl (r_extract rfl rfl) ?_
    refine s_pu (d := some 28) (v := (.agg #[(.pointer y17)])) rfl rfl rfl (r_extract rfl rfl) ?_
    obtain ⟨p18, e19⟩ : ∃ p : Addr, p = ⟨h4.size, 0, none⟩ := ⟨_, rfl⟩
    obtain ⟨h5, e20⟩ : ∃ hh : Heap, hh = h4.push (.cells #[(.pointer none)] 26) := ⟨_, rfl⟩
    have H := H p18 h5 e19 e20
    refine s_ef1 (d := some 9) (v := (.pointer (some p18))) (h' := h5) rfl rfl rfl (fun dr => (r_alloc Try.zeroValue26).trans (by rw [e19, e20]; rfl)) trivial ?_ trivial
    obtain ⟨p21, e22⟩ : ∃ p : Addr, p = ⟨h5.size, 0, none⟩ := ⟨_, rfl⟩
    obtain ⟨h6, e23⟩ : ∃ hh : Heap, hh = h5.push (.cells #[(.pointer none)] 26) := ⟨_, rfl⟩
    have H := H p21 h6 e22 e23
    refine s_ef1 (d := some 10) (v := (.pointer (some p21))) (h' := h6) rfl rfl rfl (fun dr => (r_alloc Try.zeroValue26).trans (by rw [e22, e23]; rfl)) trivial ?_ trivial
    obtain ⟨e25, H⟩ := H
    obtain ⟨h7, e24⟩ : ∃ hh : Heap, hh = hsets h6 p18 0 [(.pointer y16)] := ⟨_, rfl⟩
    have H := H h7 e24
    refine s_st (d := none) (h' := h7) rfl rfl rfl (fun dr => (r_store (v := (.agg #[(.pointer y16)])) Try.sizeOf26 rfl rfl rfl (one_all rfl) e25).trans (by rw [e24]; rfl)) trivial ?_ trivial
    obtain ⟨e27, H⟩ := H
    obtain ⟨h8, e26⟩ : ∃ hh : Heap, hh = hsets h7 p21 0 [(.pointer y17)] := ⟨_, rfl⟩
    have H := H h8 e26
    refine s_st (d := none) (h' := h8) rfl rfl rfl (fun dr => (r_store (v := (.agg #[(.pointer y17)])) Try.sizeOf26 rfl rfl rfl (one_all rfl) e27).trans (by rw [e26]; rfl)) trivial ?_ trivial
    refine s_fin ?_
    show W _ _ _ _ _ _ _ _
    refine W_seq ?_
    refine W_region (.rl 0 (.pu 1 (.ef 2 [] (.pu 3 (.pu 4 (.pu 5 (.ef 6 [] (.ef 7 [] (.ef 8 [] (.ef 9 [] .fin .no) .no) .no) .no)))) .no))) rfl rfl ?_
    obtain ⟨x28, e29, H⟩ := H
    refine s_rl (d := some 30) (v := (.agg #[(.pointer x28)])) rfl rfl rfl (fun dr => r_loadN Try.isAgg26 Try.sizeOf26 (vs := [(.pointer x28)]) rfl rfl ⟨e29, trivial⟩) ?_
    refine s_pu (d := some 31) (v := (.int .i64 y11)) rfl rfl rfl (r_move rfl) ?_
    refine s_ef (d := some 32) rfl rfl rfl (fun dr => r_call Try.call40 rfl rfl H) ?_ trivial
    rintro _ h9 ⟨y30, y31, rfl, H⟩
    refine ⟨trivial, ?_⟩
    refine s_pu (d := some 29) (v := (.tuple #[(.agg #[(.pointer y30)]), (.agg #[(.pointer y31)])])) rfl rfl rfl (r_move rfl) ?_
    refine s_pu (d := some 33) (v := (.agg #[(.pointer y30)])) rfl rfl rfl (r_extract rfl rfl) ?_
    refine s_pu (d := some 34) (v := (.agg #[(.pointer y31)])) rfl rfl rfl (r_extract rfl rfl) ?_
    obtain ⟨p32, e33⟩ : ∃ p : Addr, p = ⟨h9.size, 0, none⟩ := ⟨_, rfl⟩
    obtain ⟨h10, e34⟩ : ∃ hh : Heap, hh = h9.push (.cells #[(.pointer none)] 26) := ⟨_, rfl⟩
    have H := H p32 h10 e33 e34
    refine s_ef1 (d := some 11) (v := (.pointer (some p32))) (h' := h10) rfl rfl rfl (fun dr => (r_alloc Try.zeroValue26).trans (by rw [e33, e34]; rfl)) trivial ?_ trivial
    obtain ⟨p35, e36⟩ : ∃ p : Addr, p = ⟨h10.size, 0, none⟩ := ⟨_, rfl⟩
    obtain ⟨h11, e37⟩ : ∃ hh : Heap, hh = h10.push (.cells #[(.pointer none)] 26) := ⟨_, rfl⟩
    have H := H p35 h11 e36 e37
    refine s_ef1 (d := some 12) (v := (.pointer (some p35))) (h' := h11) rfl rfl rfl (fun dr => (r_alloc Try.zeroValue26).trans (by rw [e36, e37]; rfl)) trivial ?_ trivial
    obtain ⟨e39, H⟩ := H
    obtain ⟨h12, e38⟩ : ∃ hh : Heap, hh = hsets h11 p32 0 [(.pointer y30)] := ⟨_, rfl⟩
    have H := H h12 e38
    refine s_st (d := none) (h' := h12) rfl rfl rfl (fun dr => (r_store (v := (.agg #[(.pointer y30)])) Try.sizeOf26 rfl rfl rfl (one_all rfl) e39).trans (by rw [e38]; rfl)) trivial ?_ trivial
    obtain ⟨e41, H⟩ := H
    obtain ⟨h13, e40⟩ : ∃ hh : Heap, hh = hsets h12 p35 0 [(.pointer y31)] := ⟨_, rfl⟩
    have H := H h13 e40
    refine s_st (d := none) (h' := h13) rfl rfl rfl (fun dr => (r_store (v := (.agg #[(.pointer y31)])) Try.sizeOf26 rfl rfl rfl (one_all rfl) e41).trans (by rw [e40]; rfl)) trivial ?_ trivial
    refine s_fin ?_
    show W _ _ _ _ _ _ _ _
    refine W_seq ?_
    refine W_region (.rl 0 (.ef 1 [] (.pu 2 .fin) .no)) rfl rfl ?_
    obtain ⟨x42, e43, H⟩ := H
    refine s_rl (d := some 35) (v := (.agg #[(.pointer x42)])) rfl rfl rfl (fun dr => r_loadN Try.isAgg26 Try.sizeOf26 (vs := [(.pointer x42)]) rfl rfl ⟨e43, trivial⟩) ?_
    refine s_ef (d := some 36) rfl rfl rfl (fun dr => r_call Try.call41 rfl rfl H) ?_ trivial
    rintro _ h14 ⟨y44, rfl, H⟩
    refine ⟨trivial, ?_⟩
    refine s_pu (d := some 6) (v := (Sl.v y44)) rfl rfl rfl (r_assign rfl) ?_
    refine s_fin ?_
    show W _ _ _ _ _ _ _ _
    refine W_ret ?_
    exact ⟨[(Sl.v y44)], ⟨_, _, rfl, rfl, rfl⟩, y44, rfl, H⟩

/-! ### ord_Order_Merge -/

def ord_Order_Merge_F (r : World) (o1 : Option Addr) (p2 : Option Addr) (h : Heap) (R : Option Addr → Heap → Prop) : Prop :=
  New h (.cells #[(.pointer o1)] 28) fun p3 h1 =>
  New h1 (.cells #[(.pointer p2)] 28) fun p6 h2 =>
  New h2 (.cells #[(.pointer none)] 28) fun p9 h3 =>
  New h3 (.cells #[(.pointer none)] 28) fun p12 h4 =>
  ∀ X15 : Heap → Prop, (∀ (h5 : Heap),
    (∀ J17 : Bool → Heap → Prop, (∀ (x16 : Bool) (h6 : Heap),
      (Br x16 (
        LdP h6 (Addr.add (Addr.add p6 0) 0) fun x19 =>
        LdP h6 (Addr.add (Addr.add p3 0) 0) fun x21 =>
        finger_Many_int_ord_last_ord_lasts_At r x19 0 h6 fun y23 h7 =>
        (hcell h7 (Addr.add (Addr.add p3 0) 0) = some (.pointer x21)) ∧
        finger_Many_int_ord_last_ord_lasts_At r x21 0 h7 fun y25 h8 =>
        ∀ J26 : Heap → Prop, (∀ (h9 : Heap),
          (∀ J30 : Addr → Addr → Heap → Prop, (∀ (p28 : Addr) (p29 : Addr) (h10 : Heap),
            (LdP h10 (Addr.add (Addr.add p12 0) 0) fun x32 =>
            LdP h10 (Addr.add p28 0) fun x34 =>
            LdP h10 (Addr.add p29 0) fun x36 =>
            finger_Many_int_ord_last_ord_lasts_Join r x32 x34 h10 fun y38 h11 =>
            (hcell h11 (Addr.add p29 0) = some (.pointer x36)) ∧
            St h11 p12 1 [(.pointer y38)] fun h12 =>
            (hcell h12 (Addr.add p29 0) = some (.pointer x36)) ∧
            St h12 p3 1 [(.pointer x36)] fun h13 =>
            X15 h13) →
            J30 p28 p29 h10) →
          LdP h9 (Addr.add (Addr.add p3 0) 0) fun x45 =>
          LdP h9 (Addr.add p3 0) fun x47 =>
          LdP h9 (Addr.add (Addr.add p6 0) 0) fun x49 =>
          (finger_Many_int_ord_last_ord_lasts_At r x49 0 h9 fun y51 h14 =>
          (hcell h14 (Addr.add p3 0) = some (.pointer x47)) ∧
          (hcell h14 (Addr.add (Addr.add p3 0) 0) = some (.pointer x45)) ∧
          (ord_Order_behind r x47 y51 h14 fun y54 h15 =>
          (hcell h15 (Addr.add (Addr.add p3 0) 0) = some (.pointer x45)) ∧
          (finger_Many_int_ord_last_ord_lasts_Split r x45 y54 h15 fun y56 y57 h16 =>
          (New h16 (.cells #[(.pointer none)] 26) fun p58 h17 =>
          (hcell h17 (Addr.add (Addr.add p6 0) 0) = some (.pointer x49)) ∧
          (hcell h17 (Addr.add p3 0) = some (.pointer x47)) ∧
          (hcell h17 (Addr.add (Addr.add p3 0) 0) = some (.pointer x45)) ∧
          New h17 (.cells #[(.pointer none)] 26) fun p64 h18 =>
          (hcell h18 (Addr.add (Addr.add p6 0) 0) = some (.pointer x49)) ∧
          (hcell h18 (Addr.add p3 0) = some (.pointer x47)) ∧
          (hcell h18 (Addr.add (Addr.add p3 0) 0) = some (.pointer x45)) ∧
          St h18 p58 1 [(.pointer y56)] fun h19 =>
          St h19 p64 1 [(.pointer y57)] fun h20 =>
          J30 p58 p64 h20) ∧
          (New h16 (.cells #[(.pointer none)] 26) fun p74 h21 =>
          (hcell h21 (Addr.add (Addr.add p6 0) 0) = some (.pointer x49)) ∧
          (hcell h21 (Addr.add p3 0) = some (.pointer x47)) ∧
          (hcell h21 (Addr.add (Addr.add p3 0) 0) = some (.pointer x45)) ∧
          New h21 (.cells #[(.pointer none)] 26) fun p80 h22 =>
          (hcell h22 (Addr.add (Addr.add p6 0) 0) = some (.pointer x49)) ∧
          (hcell h22 (Addr.add p3 0) = some (.pointer x47)) ∧
          (hcell h22 (Addr.add (Addr.add p3 0) 0) = some (.pointer x45)) ∧
          St h22 p80 1 [(.pointer y56)] fun h23 =>
          St h23 p74 1 [(.pointer y57)] fun h24 =>
          J30 p80 p74 h24)) ∧
          (New h15 (.cells #[(.pointer none)] 26) fun p90 h25 =>
          (hcell h25 (Addr.add (Addr.add p6 0) 0) = some (.pointer x49)) ∧
          (hcell h25 (Addr.add p3 0) = some (.pointer x47)) ∧
          (hcell h25 (Addr.add (Addr.add p3 0) 0) = some (.pointer x45)) ∧
          (finger_Many_int_ord_last_ord_lasts_Split r x45 y54 h25 fun y96 y97 h26 =>
          New h26 (.cells #[(.pointer none)] 26) fun p98 h27 =>
          (hcell h27 (Addr.add (Addr.add p6 0) 0) = some (.pointer x49)) ∧
          (hcell h27 (Addr.add p3 0) = some (.pointer x47)) ∧
          (hcell h27 (Addr.add (Addr.add p3 0) 0) = some (.pointer x45)) ∧
          St h27 p90 1 [(.pointer y96)] fun h28 =>
          St h28 p98 1 [(.pointer y97)] fun h29 =>
          J30 p90 p98 h29) ∧
          (New h25 (.cells #[(.pointer none)] 26) fun p108 h30 =>
          (hcell h30 (Addr.add (Addr.add p6 0) 0) = some (.pointer x49)) ∧
          (hcell h30 (Addr.add p3 0) = some (.pointer x47)) ∧
          (hcell h30 (Addr.add (Addr.add p3 0) 0) = some (.pointer x45)) ∧
          finger_Many_int_ord_last_ord_lasts_Split r x45 y54 h30 fun y114 y115 h31 =>
          St h31 p90 1 [(.pointer y114)] fun h32 =>
          St h32 p108 1 [(.pointer y115)] fun h33 =>
          J30 p90 p108 h33)) ∧
          (New h15 (.cells #[(.pointer none)] 26) fun p120 h34 =>
          (hcell h34 (Addr.add (Addr.add p6 0) 0) = some (.pointer x49)) ∧
          (hcell h34 (Addr.add p3 0) = some (.pointer x47)) ∧
          (hcell h34 (Addr.add (Addr.add p3 0) 0) = some (.pointer x45)) ∧
          (finger_Many_int_ord_last_ord_lasts_Split r x45 y54 h34 fun y126 y127 h35 =>
          New h35 (.cells #[(.pointer none)] 26) fun p128 h36 =>
          (hcell h36 (Addr.add (Addr.add p6 0) 0) = some (.pointer x49)) ∧
          (hcell h36 (Addr.add p3 0) = some (.pointer x47)) ∧
          (hcell h36 (Addr.add (Addr.add p3 0) 0) = some (.pointer x45)) ∧
          St h36 p128 1 [(.pointer y126)] fun h37 =>
          St h37 p120 1 [(.pointer y127)] fun h38 =>
          J30 p128 p120 h38) ∧
          (New h34 (.cells #[(.pointer none)] 26) fun p138 h39 =>
          (hcell h39 (Addr.add (Addr.add p6 0) 0) = some (.pointer x49)) ∧
          (hcell h39 (Addr.add p3 0) = some (.pointer x47)) ∧
          (hcell h39 (Addr.add (Addr.add p3 0) 0) = some (.pointer x45)) ∧
          finger_Many_int_ord_last_ord_lasts_Split r x45 y54 h39 fun y144 y145 h40 =>
          St h40 p138 1 [(.pointer y144)] fun h41 =>
          St h41 p120 1 [(.pointer y145)] fun h42 =>
          J30 p138 p120 h42))) ∧
          (New h14 (.cells #[(.pointer none)] 26) fun p150 h43 =>
          (hcell h43 (Addr.add (Addr.add p6 0) 0) = some (.pointer x49)) ∧
          (hcell h43 (Addr.add p3 0) = some (.pointer x47)) ∧
          (hcell h43 (Addr.add (Addr.add p3 0) 0) = some (.pointer x45)) ∧
          (ord_Order_behind r x47 y51 h43 fun y156 h44 =>
          (hcell h44 (Addr.add (Addr.add p3 0) 0) = some (.pointer x45)) ∧
          (finger_Many_int_ord_last_ord_lasts_Split r x45 y156 h44 fun y158 y159 h45 =>
          New h45 (.cells #[(.pointer none)] 26) fun p160 h46 =>
          (hcell h46 (Addr.add (Addr.add p6 0) 0) = some (.pointer x49)) ∧
          (hcell h46 (Addr.add p3 0) = some (.pointer x47)) ∧
          (hcell h46 (Addr.add (Addr.add p3 0) 0) = some (.pointer x45)) ∧
          St h46 p150 1 [(.pointer y158)] fun h47 =>
          St h47 p160 1 [(.pointer y159)] fun h48 =>
          J30 p150 p160 h48) ∧
          (New h44 (.cells #[(.pointer none)] 26) fun p170 h49 =>
          (hcell h49 (Addr.add (Addr.add p6 0) 0) = some (.pointer x49)) ∧
          (hcell h49 (Addr.add p3 0) = some (.pointer x47)) ∧
          (hcell h49 (Addr.add (Addr.add p3 0) 0) = some (.pointer x45)) ∧
          finger_Many_int_ord_last_ord_lasts_Split r x45 y156 h49 fun y176 y177 h50 =>
          St h50 p150 1 [(.pointer y176)] fun h51 =>
          St h51 p170 1 [(.pointer y177)] fun h52 =>
          J30 p150 p170 h52)) ∧
          (New h43 (.cells #[(.pointer none)] 26) fun p182 h53 =>
          (hcell h53 (Addr.add (Addr.add p6 0) 0) = some (.pointer x49)) ∧
          (hcell h53 (Addr.add p3 0) = some (.pointer x47)) ∧
          (hcell h53 (Addr.add (Addr.add p3 0) 0) = some (.pointer x45)) ∧
          ord_Order_behind r x47 y51 h53 fun y188 h54 =>
          (hcell h54 (Addr.add (Addr.add p3 0) 0) = some (.pointer x45)) ∧
          finger_Many_int_ord_last_ord_lasts_Split r x45 y188 h54 fun y190 y191 h55 =>
          St h55 p150 1 [(.pointer y190)] fun h56 =>
          St h56 p182 1 [(.pointer y191)] fun h57 =>
          J30 p150 p182 h57)) ∧
          (New h14 (.cells #[(.pointer none)] 26) fun p196 h58 =>
          (hcell h58 (Addr.add (Addr.add p6 0) 0) = some (.pointer x49)) ∧
          (hcell h58 (Addr.add p3 0) = some (.pointer x47)) ∧
          (hcell h58 (Addr.add (Addr.add p3 0) 0) = some (.pointer x45)) ∧
          (ord_Order_behind r x47 y51 h58 fun y202 h59 =>
          (hcell h59 (Addr.add (Addr.add p3 0) 0) = some (.pointer x45)) ∧
          (finger_Many_int_ord_last_ord_lasts_Split r x45 y202 h59 fun y204 y205 h60 =>
          New h60 (.cells #[(.pointer none)] 26) fun p206 h61 =>
          (hcell h61 (Addr.add (Addr.add p6 0) 0) = some (.pointer x49)) ∧
          (hcell h61 (Addr.add p3 0) = some (.pointer x47)) ∧
          (hcell h61 (Addr.add (Addr.add p3 0) 0) = some (.pointer x45)) ∧
          St h61 p206 1 [(.pointer y204)] fun h62 =>
          St h62 p196 1 [(.pointer y205)] fun h63 =>
          J30 p206 p196 h63) ∧
          (New h59 (.cells #[(.pointer none)] 26) fun p216 h64 =>
          (hcell h64 (Addr.add (Addr.add p6 0) 0) = some (.pointer x49)) ∧
          (hcell h64 (Addr.add p3 0) = some (.pointer x47)) ∧
          (hcell h64 (Addr.add (Addr.add p3 0) 0) = some (.pointer x45)) ∧
          finger_Many_int_ord_last_ord_lasts_Split r x45 y202 h64 fun y222 y223 h65 =>
          St h65 p216 1 [(.pointer y222)] fun h66 =>
          St h66 p196 1 [(.pointer y223)] fun h67 =>
          J30 p216 p196 h67)) ∧
          (New h58 (.cells #[(.pointer none)] 26) fun p228 h68 =>
          (hcell h68 (Addr.add (Addr.add p6 0) 0) = some (.pointer x49)) ∧
          (hcell h68 (Addr.add p3 0) = some (.pointer x47)) ∧
          (hcell h68 (Addr.add (Addr.add p3 0) 0) = some (.pointer x45)) ∧
          ord_Order_behind r x47 y51 h68 fun y234 h69 =>
          (hcell h69 (Addr.add (Addr.add p3 0) 0) = some (.pointer x45)) ∧
          finger_Many_int_ord_last_ord_lasts_Split r x45 y234 h69 fun y236 y237 h70 =>
          St h70 p228 1 [(.pointer y236)] fun h71 =>
          St h71 p196 1 [(.pointer y237)] fun h72 =>
          J30 p228 p196 h72))) ∧
          (New h9 (.cells #[(.pointer none)] 26) fun p242 h73 =>
          (hcell h73 (Addr.add (Addr.add p6 0) 0) = some (.pointer x49)) ∧
          (hcell h73 (Addr.add p3 0) = some (.pointer x47)) ∧
          (hcell h73 (Addr.add (Addr.add p3 0) 0) = some (.pointer x45)) ∧
          (finger_Many_int_ord_last_ord_lasts_At r x49 0 h73 fun y248 h74 =>
          (hcell h74 (Addr.add p3 0) = some (.pointer x47)) ∧
          (hcell h74 (Addr.add (Addr.add p3 0) 0) = some (.pointer x45)) ∧
          (ord_Order_behind r x47 y248 h74 fun y251 h75 =>
          (hcell h75 (Addr.add (Addr.add p3 0) 0) = some (.pointer x45)) ∧
          (finger_Many_int_ord_last_ord_lasts_Split r x45 y251 h75 fun y253 y254 h76 =>
          New h76 (.cells #[(.pointer none)] 26) fun p255 h77 =>
          (hcell h77 (Addr.add (Addr.add p6 0) 0) = some (.pointer x49)) ∧
          (hcell h77 (Addr.add p3 0) = some (.pointer x47)) ∧
          (hcell h77 (Addr.add (Addr.add p3 0) 0) = some (.pointer x45)) ∧
          St h77 p242 1 [(.pointer y253)] fun h78 =>
          St h78 p255 1 [(.pointer y254)] fun h79 =>
          J30 p242 p255 h79) ∧
          (New h75 (.cells #[(.pointer none)] 26) fun p265 h80 =>
          (hcell h80 (Addr.add (Addr.add p6 0) 0) = some (.pointer x49)) ∧
          (hcell h80 (Addr.add p3 0) = some (.pointer x47)) ∧
          (hcell h80 (Addr.add (Addr.add p3 0) 0) = some (.pointer x45)) ∧
          finger_Many_int_ord_last_ord_lasts_Split r x45 y251 h80 fun y271 y272 h81 =>
          St h81 p242 1 [(.pointer y271)] fun h82 =>
          St h82 p265 1 [(.pointer y272)] fun h83 =>
          J30 p242 p265 h83)) ∧
          (New h74 (.cells #[(.pointer none)] 26) fun p277 h84 =>
          (hcell h84 (Addr.add (Addr.add p6 0) 0) = some (.pointer x49)) ∧
          (hcell h84 (Addr.add p3 0) = some (.pointer x47)) ∧
          (hcell h84 (Addr.add (Addr.add p3 0) 0) = some (.pointer x45)) ∧
          ord_Order_behind r x47 y248 h84 fun y283 h85 =>
          (hcell h85 (Addr.add (Addr.add p3 0) 0) = some (.pointer x45)) ∧
          finger_Many_int_ord_last_ord_lasts_Split r x45 y283 h85 fun y285 y286 h86 =>
          St h86 p242 1 [(.pointer y285)] fun h87 =>
          St h87 p277 1 [(.pointer y286)] fun h88 =>
          J30 p242 p277 h88)) ∧
          (New h73 (.cells #[(.pointer none)] 26) fun p291 h89 =>
          (hcell h89 (Addr.add (Addr.add p6 0) 0) = some (.pointer x49)) ∧
          (hcell h89 (Addr.add p3 0) = some (.pointer x47)) ∧
          (hcell h89 (Addr.add (Addr.add p3 0) 0) = some (.pointer x45)) ∧
          finger_Many_int_ord_last_ord_lasts_At r x49 0 h89 fun y297 h90 =>
          (hcell h90 (Addr.add p3 0) = some (.pointer x47)) ∧
          (hcell h90 (Addr.add (Addr.add p3 0) 0) = some (.pointer x45)) ∧
          ord_Order_behind r x47 y297 h90 fun y300 h91 =>
          (hcell h91 (Addr.add (Addr.add p3 0) 0) = some (.pointer x45)) ∧
          finger_Many_int_ord_last_ord_lasts_Split r x45 y300 h91 fun y302 y303 h92 =>
          St h92 p242 1 [(.pointer y302)] fun h93 =>
          St h93 p291 1 [(.pointer y303)] fun h94 =>
          J30 p242 p291 h94)) ∧
          (New h9 (.cells #[(.pointer none)] 26) fun p308 h95 =>
          (hcell h95 (Addr.add (Addr.add p6 0) 0) = some (.pointer x49)) ∧
          (hcell h95 (Addr.add p3 0) = some (.pointer x47)) ∧
          (hcell h95 (Addr.add (Addr.add p3 0) 0) = some (.pointer x45)) ∧
          (finger_Many_int_ord_last_ord_lasts_At r x49 0 h95 fun y314 h96 =>
          (hcell h96 (Addr.add p3 0) = some (.pointer x47)) ∧
          (hcell h96 (Addr.add (Addr.add p3 0) 0) = some (.pointer x45)) ∧
          (ord_Order_behind r x47 y314 h96 fun y317 h97 =>
          (hcell h97 (Addr.add (Addr.add p3 0) 0) = some (.pointer x45)) ∧
          (finger_Many_int_ord_last_ord_lasts_Split r x45 y317 h97 fun y319 y320 h98 =>
          New h98 (.cells #[(.pointer none)] 26) fun p321 h99 =>
          (hcell h99 (Addr.add (Addr.add p6 0) 0) = some (.pointer x49)) ∧
          (hcell h99 (Addr.add p3 0) = some (.pointer x47)) ∧
          (hcell h99 (Addr.add (Addr.add p3 0) 0) = some (.pointer x45)) ∧
          St h99 p321 1 [(.pointer y319)] fun h100 =>
          St h100 p308 1 [(.pointer y320)] fun h101 =>
          J30 p321 p308 h101) ∧
          (New h97 (.cells #[(.pointer none)] 26) fun p331 h102 =>
          (hcell h102 (Addr.add (Addr.add p6 0) 0) = some (.pointer x49)) ∧
          (hcell h102 (Addr.add p3 0) = some (.pointer x47)) ∧
          (hcell h102 (Addr.add (Addr.add p3 0) 0) = some (.pointer x45)) ∧
          finger_Many_int_ord_last_ord_lasts_Split r x45 y317 h102 fun y337 y338 h103 =>
          St h103 p331 1 [(.pointer y337)] fun h104 =>
          St h104 p308 1 [(.pointer y338)] fun h105 =>
          J30 p331 p308 h105)) ∧
          (New h96 (.cells #[(.pointer none)] 26) fun p343 h106 =>
          (hcell h106 (Addr.add (Addr.add p6 0) 0) = some (.pointer x49)) ∧
          (hcell h106 (Addr.add p3 0) = some (.pointer x47)) ∧
          (hcell h106 (Addr.add (Addr.add p3 0) 0) = some (.pointer x45)) ∧
          ord_Order_behind r x47 y314 h106 fun y349 h107 =>
          (hcell h107 (Addr.add (Addr.add p3 0) 0) = some (.pointer x45)) ∧
          finger_Many_int_ord_last_ord_lasts_Split r x45 y349 h107 fun y351 y352 h108 =>
          St h108 p343 1 [(.pointer y351)] fun h109 =>
          St h109 p308 1 [(.pointer y352)] fun h110 =>
          J30 p343 p308 h110)) ∧
          (New h95 (.cells #[(.pointer none)] 26) fun p357 h111 =>
          (hcell h111 (Addr.add (Addr.add p6 0) 0) = some (.pointer x49)) ∧
          (hcell h111 (Addr.add p3 0) = some (.pointer x47)) ∧
          (hcell h111 (Addr.add (Addr.add p3 0) 0) = some (.pointer x45)) ∧
          finger_Many_int_ord_last_ord_lasts_At r x49 0 h111 fun y363 h112 =>
          (hcell h112 (Addr.add p3 0) = some (.pointer x47)) ∧
          (hcell h112 (Addr.add (Addr.add p3 0) 0) = some (.pointer x45)) ∧
          ord_Order_behind r x47 y363 h112 fun y366 h113 =>
          (hcell h113 (Addr.add (Addr.add p3 0) 0) = some (.pointer x45)) ∧
          finger_Many_int_ord_last_ord_lasts_Split r x45 y366 h113 fun y368 y369 h114 =>
          St h114 p357 1 [(.pointer y368)] fun h115 =>
          St h115 p308 1 [(.pointer y369)] fun h116 =>
          J30 p357 p308 h116))) →
          J26 h9) →
        Br (decide (y23 < y25)) (
          LdP h8 (Addr.add p6 0) fun x374 =>
          LdP h8 (Addr.add p3 0) fun x376 =>
          St h8 p3 1 [(.pointer x374)] fun h117 =>
          St h117 p6 1 [(.pointer x376)] fun h118 =>
          J26 h118) (
          J26 h8)) (
        LdP h6 (Addr.add (Addr.add p12 0) 0) fun x383 =>
        LdP h6 (Addr.add (Addr.add p3 0) 0) fun x385 =>
        LdP h6 (Addr.add (Addr.add p6 0) 0) fun x387 =>
        finger_Many_int_ord_last_ord_lasts_Join r x383 x385 h6 fun y389 h119 =>
        (hcell h119 (Addr.add (Addr.add p6 0) 0) = some (.pointer x387)) ∧
        finger_Many_int_ord_last_ord_lasts_Join r y389 x387 h119 fun y391 h120 =>
        St h120 p9 1 [(.pointer y391)] fun h121 =>
        LdP h121 (Addr.add p9 0) fun x394 =>
        R x394 h121)) →
      J17 x16 h6) →
    LdP h5 (Addr.add (Addr.add p3 0) 0) fun x397 =>
    finger_Many_int_ord_last_ord_lasts_Len r x397 h5 fun y399 h122 =>
    Br (decide (0 < y399)) (
      LdP h122 (Addr.add (Addr.add p6 0) 0) fun x401 =>
      finger_Many_int_ord_last_ord_lasts_Len r x401 h122 fun y403 h123 =>
      J17 (decide (0 < y403)) h123) (
      J17 false h122)) →
    X15 h5) →
  X15 h4

set_option maxRecDepth 100000 in
theorem ord_Order_Merge_of {r : World} {o1 : Option Addr} {p2 : Option Addr} {h : Heap} {R : Option Addr → Heap → Prop} (H : ord_Order_Merge_F r o1 p2 h R) : ord_Order_Merge r o1 p2 h R := by
  unfold ord_Order_Merge_F at H
  refine calls_of 54 [.cell 4 28] Try.func35 rfl rfl rfl rfl rfl ?_
  refine W_seq ?_
  refine W_region (.ef 0 [] (.ef 1 [] (.ef 2 [] .fin .no) .no) .no) rfl rfl ?_
  obtain ⟨p3, e4⟩ : ∃ p : Addr, p = ⟨h.size, 0, none⟩ := ⟨_, rfl⟩
  obtain ⟨h1, e5⟩ : ∃ hh : Heap, hh = h.push (.cells #[(.pointer o1)] 28) := ⟨_, rfl⟩
  have H := H p3 h1 e4 e5
  refine s_ef1 (d := some 2) (v := (.pointer (some p3))) (h' := h1) rfl rfl rfl (fun dr => (r_box (v := (.agg #[(.pointer o1)])) rfl).trans (by rw [e4, e5]; rfl)) trivial ?_ trivial
  obtain ⟨p6, e7⟩ : ∃ p : Addr, p = ⟨h1.size, 0, none⟩ := ⟨_, rfl⟩
  obtain ⟨h2, e8⟩ : ∃ hh : Heap, hh = h1.push (.cells #[(.pointer p2)] 28) := ⟨_, rfl⟩
  have H := H p6 h2 e7 e8
  refine s_ef1 (d := some 3) (v := (.pointer (some p6))) (h' := h2) rfl rfl rfl (fun dr => (r_box (v := (.agg #[(.pointer p2)])) rfl).trans (by rw [e7, e8]; rfl)) trivial ?_ trivial
  obtain ⟨p9, e10⟩ : ∃ p : Addr, p = ⟨h2.size, 0, none⟩ := ⟨_, rfl⟩
  obtain ⟨h3, e11⟩ : ∃ hh : Heap, hh = h2.push (.cells #[(.pointer none)] 28) := ⟨_, rfl⟩
  have H := H p9 h3 e10 e11
  refine s_ef1 (d := some 4) (v := (.pointer (some p9))) (h' := h3) rfl rfl rfl (fun dr => (r_alloc Try.zeroValue28).trans (by rw [e10, e11]; rfl)) trivial ?_ trivial
  refine s_fin ?_
  show W _ _ _ _ _ _ _ _
  refine W_seq ?_
  refine W_region (.ef 0 [] .fin .no) rfl rfl ?_
  obtain ⟨p12, e13⟩ : ∃ p : Addr, p = ⟨h3.size, 0, none⟩ := ⟨_, rfl⟩
  obtain ⟨h4, e14⟩ : ∃ hh : Heap, hh = h3.push (.cells #[(.pointer none)] 28) := ⟨_, rfl⟩
  have H := H p12 h4 e13 e14
  refine s_ef1 (d := some 5) (v := (.pointer (some p12))) (h' := h4) rfl rfl rfl (fun dr => (r_alloc Try.zeroValue28).trans (by rw [e13, e14]; rfl)) trivial ?_ trivial
  refine s_fin ?_
  show W _ _ _ _ _ _ _ _
  refine W_seq ?_
  refine W_block ?_
  refine W_loop (WL_mk (l := [(2, (.pointer (some p3))), (3, (.pointer (some p6))), (4, (.pointer (some p9))), (5, (.pointer (some p12)))]) ?_ ⟨rfl, rfl, rfl, rfl, trivial⟩)
  refine H (fun (h5 : Heap) => ∀ b, WL _ _ _ _ _ _ (mkE [(2, (.pointer (some p3))), (3, (.pointer (some p6))), (4, (.pointer (some p9))), (5, (.pointer (some p12)))] b) h5) ?_
  intro h5 H b
  refine WL_round ?_
  refine W_seq ?_
  refine W_seq ?_
  refine W_set ?_
  intro N18 eN18
  have H := H (fun (x16 : Bool) (h6 : Heap) => ∀ b, N18 [] (mkE [(2, (.pointer (some p3))), (3, (.pointer (some p6))), (4, (.pointer (some p9))), (5, (.pointer (some p12))), (17, (.bool x16))] b) h6) (by
    intro x16 h6 H b
    rw [eN18]
    show W _ _ _ _ _ _ _ _
    refine W_if x16 rfl (fun g396 => ?_) (fun g396 => ?_)
    · have H := H.1 g396
      refine W_skip ?_
      show W _ _ _ _ _ _ _ _
      refine W_block ?_
      refine W_seq ?_
      refine W_seq ?_
      refine W_draw [0, 1, 3, 0, 8, 31, 63] (.pu 0 (.rd 1 (.pu 3 (.rd 4 (.ef 2 [1] (.ef 5 [1, 4] (.pu 6 .fin) .no) .no))))) (by kernel_rfl) (by kernel_rfl) ?_
      refine s_pu (d := some 18) (v := (.pointer (some (Addr.add p6 0)))) rfl rfl rfl (r_fieldAddr Try.underlying28 Try.sizeOf26 rfl rfl rfl) ?_
      obtain ⟨x19, e20, H⟩ := H
      refine s_rd (d := some 19) (v := (.agg #[(.pointer x19)])) rfl rfl rfl (fun dr => r_loadN Try.isAgg26 Try.sizeOf26 (vs := [(.pointer x19)]) rfl rfl ⟨e20, trivial⟩) ?_
      refine s_pu (d := some 21) (v := (.pointer (some (Addr.add p3 0)))) rfl rfl rfl (r_fieldAddr Try.underlying28 Try.sizeOf26 rfl rfl rfl) ?_
      obtain ⟨x21, e22, H⟩ := H
      refine s_rd (d := some 22) (v := (.agg #[(.pointer x21)])) rfl rfl rfl (fun dr => r_loadN Try.isAgg26 Try.sizeOf26 (vs := [(.pointer x21)]) rfl rfl ⟨e22, trivial⟩) ?_
      refine s_ef (d := some 20) rfl rfl rfl (fun dr => r_call Try.call63 rfl rfl H) ?_ trivial
      rintro _ h7 ⟨y23, rfl, H⟩
      obtain ⟨e24, H⟩ := H
      refine ⟨⟨(.inl ⟨rfl, fun dr => r_loadN Try.isAgg26 Try.sizeOf26 (vs := [(.pointer x21)]) rfl rfl ⟨e24, trivial⟩⟩), trivial, trivial⟩, ?_⟩
      refine s_ef (d := some 23) rfl rfl rfl (fun dr => r_call Try.call63 rfl rfl H) ?_ trivial
      rintro _ h8 ⟨y25, rfl, H⟩
      refine ⟨⟨trivial, trivial, trivial⟩, ?_⟩
      refine s_pu (d := some 24) (v := (.bool (decide (y23 < y25)))) rfl rfl rfl (r_lss rfl rfl) ?_
      refine s_fin ?_
      show W _ _ _ _ _ _ _ _
      refine W_set ?_
      intro N27 eN27
      have H := H (fun (h9 : Heap) => ∀ b, N27 [] (mkE [(2, (.pointer (some p3))), (3, (.pointer (some p6))), (4, (.pointer (some p9))), (5, (.pointer (some p12)))] b) h9) (by
        intro h9 H b
        rw [eN27]
        show W _ _ _ _ _ _ _ _
        refine W_seq ?_
        refine W_set ?_
        intro N31 eN31
        have H := H (fun (p28 : Addr) (p29 : Addr) (h10 : Heap) => ∀ b, N31 [] (mkE [(2, (.pointer (some p3))), (3, (.pointer (some p6))), (4, (.pointer (some p9))), (5, (.pointer (some p12))), (6, (.pointer (some p28))), (7, (.pointer (some p29)))] b) h10) (by
          intro p28 p29 h10 H b
          rw [eN31]
          show W _ _ _ _ _ _ _ _
          refine W_draw [0, 1, 0, 7, 15, 0, 32, 31, 255] (.pu 0 (.rd 1 (.rd 2 (.rd 5 (.pu 6 (.ef 3 [1, 2] (.pu 4 (.ef 7 [1, 2] (.ef 8 [1, 2, 5] .fin .no) .no)) .no)))))) (by kernel_rfl) (by kernel_rfl) ?_
          refine s_pu (d := some 38) (v := (.pointer (some (Addr.add p12 0)))) rfl rfl rfl (r_fieldAddr Try.underlying28 Try.sizeOf26 rfl rfl rfl) ?_
          obtain ⟨x32, e33, H⟩ := H
          refine s_rd (d := some 39) (v := (.agg #[(.pointer x32)])) rfl rfl rfl (fun dr => r_loadN Try.isAgg26 Try.sizeOf26 (vs := [(.pointer x32)]) rfl rfl ⟨e33, trivial⟩) ?_
          obtain ⟨x34, e35, H⟩ := H
          refine s_rd (d := some 40) (v := (.agg #[(.pointer x34)])) rfl rfl rfl (fun dr => r_loadN Try.isAgg26 Try.sizeOf26 (vs := [(.pointer x34)]) rfl rfl ⟨e35, trivial⟩) ?_
          obtain ⟨x36, e37, H⟩ := H
          refine s_rd (d := some 43) (v := (.agg #[(.pointer x36)])) rfl rfl rfl (fun dr => r_loadN Try.isAgg26 Try.sizeOf26 (vs := [(.pointer x36)]) rfl rfl ⟨e37, trivial⟩) ?_
          refine s_pu (d := some 44) (v := (.agg #[(.pointer x36)])) rfl rfl rfl (fun w => by kernel_rfl) ?_
          refine s_ef (d := some 41) rfl rfl rfl (fun dr => r_call Try.call64 rfl rfl H) ?_ trivial
          rintro _ h11 ⟨y38, rfl, H⟩
          obtain ⟨e39, H⟩ := H
          refine ⟨⟨(.inl ⟨rfl, fun dr => r_loadN Try.isAgg26 Try.sizeOf26 (vs := [(.pointer x36)]) rfl rfl ⟨e39, trivial⟩⟩), trivial, trivial, trivial⟩, ?_⟩
          refine s_pu (d := some 42) (v := (.agg #[(.pointer y38)])) rfl rfl rfl (fun w => by kernel_rfl) ?_
          obtain ⟨e41, H⟩ := H
          obtain ⟨h12, e40⟩ : ∃ hh : Heap, hh = hsets h11 p12 0 [(.pointer y38)] := ⟨_, rfl⟩
          have H := H h12 e40
          obtain ⟨e42, H⟩ := H
          refine s_st (d := none) (h' := h12) rfl rfl rfl (fun dr => (r_store (v := (.agg #[(.pointer y38)])) Try.sizeOf28 rfl rfl rfl (one_all rfl) e41).trans (by rw [e40]; rfl)) ⟨(.inl ⟨rfl, fun dr => r_loadN Try.isAgg26 Try.sizeOf26 (vs := [(.pointer x36)]) rfl rfl ⟨e42, trivial⟩⟩), trivial, trivial, trivial⟩ ?_ trivial
          obtain ⟨e44, H⟩ := H
          obtain ⟨h13, e43⟩ : ∃ hh : Heap, hh = hsets h12 p3 0 [(.pointer x36)] := ⟨_, rfl⟩
          have H := H h13 e43
          refine s_st (d := none) (h' := h13) rfl rfl rfl (fun dr => (r_store (v := (.agg #[(.pointer x36)])) Try.sizeOf28 rfl rfl rfl (one_all rfl) e44).trans (by rw [e43]; rfl)) ⟨trivial, trivial, trivial, trivial⟩ ?_ trivial
          refine s_fin ?_
          exact WL_mk (l := [(2, (.pointer (some p3))), (3, (.pointer (some p6))), (4, (.pointer (some p9))), (5, (.pointer (some p12)))]) H ⟨rfl, rfl, rfl, rfl, trivial⟩)
        clear eN31
        refine W_draw [0, 1, 0, 0, 8, 24, 60, 127, 255, 511, 511, 0, 0, 7167, 16383] (.pu 0 (.rd 1 (.rd 2 (.pu 3 (.rd 4 (.ef 5 [4] (.ef 6 [2, 4] (.ef 7 [1, 2, 4] (.pu 8 (.pu 9 (.pu 10 (.ef 11 [] (.ef 12 [] (.ef 13 [1, 2, 4] (.ef 14 [1, 2, 4] .fin .no) .no) .no) (.ef 12 [] (.ef 11 [] (.ef 13 [1, 2, 4] (.ef 14 [1, 2, 4] .fin .no) .no) .no) .no))))) (.ef 11 [] (.ef 7 [1, 2, 4] (.pu 8 (.pu 9 (.pu 10 (.ef 12 [] (.ef 13 [1, 2, 4] (.ef 14 [1, 2, 4] .fin .no) .no) .no)))) (.ef 12 [] (.ef 7 [1, 2, 4] (.pu 8 (.pu 9 (.pu 10 (.ef 13 [1, 2, 4] (.ef 14 [1, 2, 4] .fin .no) .no)))) .no) .no)) (.ef 12 [] (.ef 7 [1, 2, 4] (.pu 8 (.pu 9 (.pu 10 (.ef 11 [] (.ef 13 [1, 2, 4] (.ef 14 [1, 2, 4] .fin .no) .no) .no)))) (.ef 11 [] (.ef 7 [1, 2, 4] (.pu 8 (.pu 9 (.pu 10 (.ef 13 [1, 2, 4] (.ef 14 [1, 2, 4] .fin .no) .no)))) .no) .no)) .no))) (.ef 11 [] (.ef 6 [2, 4] (.ef 7 [1, 2, 4] (.pu 8 (.pu 9 (.pu 10 (.ef 12 [] (.ef 13 [1, 2, 4] (.ef 14 [1, 2, 4] .fin .no) .no) .no)))) (.ef 12 [] (.ef 7 [1, 2, 4] (.pu 8 (.pu 9 (.pu 10 (.ef 13 [1, 2, 4] (.ef 14 [1, 2, 4] .fin .no) .no)))) .no) .no)) (.ef 12 [] (.ef 6 [2, 4] (.ef 7 [1, 2, 4] (.pu 8 (.pu 9 (.pu 10 (.ef 13 [1, 2, 4] (.ef 14 [1, 2, 4] .fin .no) .no)))) .no) .no) .no)) (.ef 12 [] (.ef 6 [2, 4] (.ef 7 [1, 2, 4] (.pu 8 (.pu 9 (.pu 10 (.ef 11 [] (.ef 13 [1, 2, 4] (.ef 14 [1, 2, 4] .fin .no) .no) .no)))) (.ef 11 [] (.ef 7 [1, 2, 4] (.pu 8 (.pu 9 (.pu 10 (.ef 13 [1, 2, 4] (.ef 14 [1, 2, 4] .fin .no) .no)))) .no) .no)) (.ef 11 [] (.ef 6 [2, 4] (.ef 7 [1, 2, 4] (.pu 8 (.pu 9 (.pu 10 (.ef 13 [1, 2, 4] (.ef 14 [1, 2, 4] .fin .no) .no)))) .no) .no) .no)) .no))) (.ef 11 [] (.ef 5 [4] (.ef 6 [2, 4] (.ef 7 [1, 2, 4] (.pu 8 (.pu 9 (.pu 10 (.ef 12 [] (.ef 13 [1, 2, 4] (.ef 14 [1, 2, 4] .fin .no) .no) .no)))) (.ef 12 [] (.ef 7 [1, 2, 4] (.pu 8 (.pu 9 (.pu 10 (.ef 13 [1, 2, 4] (.ef 14 [1, 2, 4] .fin .no) .no)))) .no) .no)) (.ef 12 [] (.ef 6 [2, 4] (.ef 7 [1, 2, 4] (.pu 8 (.pu 9 (.pu 10 (.ef 13 [1, 2, 4] (.ef 14 [1, 2, 4] .fin .no) .no)))) .no) .no) .no)) (.ef 12 [] (.ef 5 [4] (.ef 6 [2, 4] (.ef 7 [1, 2, 4] (.pu 8 (.pu 9 (.pu 10 (.ef 13 [1, 2, 4] (.ef 14 [1, 2, 4] .fin .no) .no)))) .no) .no) .no) .no)) (.ef 12 [] (.ef 5 [4] (.ef 6 [2, 4] (.ef 7 [1, 2, 4] (.pu 8 (.pu 9 (.pu 10 (.ef 11 [] (.ef 13 [1, 2, 4] (.ef 14 [1, 2, 4] .fin .no) .no) .no)))) (.ef 11 [] (.ef 7 [1, 2, 4] (.pu 8 (.pu 9 (.pu 10 (.ef 13 [1, 2, 4] (.ef 14 [1, 2, 4] .fin .no) .no)))) .no) .no)) (.ef 11 [] (.ef 6 [2, 4] (.ef 7 [1, 2, 4] (.pu 8 (.pu 9 (.pu 10 (.ef 13 [1, 2, 4] (.ef 14 [1, 2, 4] .fin .no) .no)))) .no) .no) .no)) (.ef 11 [] (.ef 5 [4] (.ef 6 [2, 4] (.ef 7 [1, 2, 4] (.pu 8 (.pu 9 (.pu 10 (.ef 13 [1, 2, 4] (.ef 14 [1, 2, 4] .fin .no) .no)))) .no) .no) .no) .no)) .no)))))))) (by kernel_rfl) (by kernel_rfl) ?_
        refine s_pu (d := some 28) (v := (.pointer (some (Addr.add p3 0)))) rfl rfl rfl (r_fieldAddr Try.underlying28 Try.sizeOf26 rfl rfl rfl) ?_
        obtain ⟨x45, e46, H⟩ := H
        refine s_rd (d := some 29) (v := (.agg #[(.pointer x45)])) rfl rfl rfl (fun dr => r_loadN Try.isAgg26 Try.sizeOf26 (vs := [(.pointer x45)]) rfl rfl ⟨e46, trivial⟩) ?_
        obtain ⟨x47, e48, H⟩ := H
        refine s_rd (d := some 30) (v := (.agg #[(.pointer x47)])) rfl rfl rfl (fun dr => r_loadN Try.isAgg28 Try.sizeOf28 (vs := [(.pointer x47)]) rfl rfl ⟨e48, trivial⟩) ?_
        refine s_pu (d := some 31) (v := (.pointer (some (Addr.add p6 0)))) rfl rfl rfl (r_fieldAddr Try.underlying28 Try.sizeOf26 rfl rfl rfl) ?_
        obtain ⟨x49, e50, H⟩ := H
        refine s_rd (d := some 32) (v := (.agg #[(.pointer x49)])) rfl rfl rfl (fun dr => r_loadN Try.isAgg26 Try.sizeOf26 (vs := [(.pointer x49)]) rfl rfl ⟨e50, trivial⟩) ?_
        refine s_or ?_ ?_
        · have H := H.1
          refine s_ef (d := some 33) rfl rfl rfl (fun dr => r_call Try.call63 rfl rfl H) ?_ trivial
          rintro _ h14 ⟨y51, rfl, H⟩
          obtain ⟨e52, H⟩ := H
          obtain ⟨e53, H⟩ := H
          refine ⟨⟨trivial, (.inl ⟨rfl, fun dr => r_loadN Try.isAgg28 Try.sizeOf28 (vs := [(.pointer x47)]) rfl rfl ⟨e52, trivial⟩⟩), (.inl ⟨rfl, fun dr => r_loadN Try.isAgg26 Try.sizeOf26 (vs := [(.pointer x45)]) rfl rfl ⟨e53, trivial⟩⟩), trivial⟩, ?_⟩
          refine s_or ?_ ?_
          · have H := H.1
            refine s_ef (d := some 34) rfl rfl rfl (fun dr => r_call Try.call39 rfl rfl H) ?_ trivial
            rintro _ h15 ⟨y54, rfl, H⟩
            obtain ⟨e55, H⟩ := H
            refine ⟨⟨trivial, trivial, (.inl ⟨rfl, fun dr => r_loadN Try.isAgg26 Try.sizeOf26 (vs := [(.pointer x45)]) rfl rfl ⟨e55, trivial⟩⟩), trivial⟩, ?_⟩
            refine s_or ?_ ?_
            · have H := H.1
              refine s_ef (d := some 35) rfl rfl rfl (fun dr => r_call Try.call40 rfl rfl H) ?_ trivial
              rintro _ h16 ⟨y56, y57, rfl, H⟩
              refine ⟨⟨trivial, trivial, trivial, trivial⟩, ?_⟩
              refine s_pu (d := some 27) (v := (.tuple #[(.agg #[(.pointer y56)]), (.agg #[(.pointer y57)])])) rfl rfl rfl (r_move rfl) ?_
              refine s_pu (d := some 36) (v := (.agg #[(.pointer y56)])) rfl rfl rfl (r_extract rfl rfl) ?_
              refine s_pu (d := some 37) (v := (.agg #[(.pointer y57)])) rfl rfl rfl (r_extract rfl rfl) ?_
              refine s_or ?_ ?_
              · have H := H.1
                obtain ⟨p58, e59⟩ : ∃ p : Addr, p = ⟨h16.size, 0, none⟩ := ⟨_, rfl⟩
                obtain ⟨h17, e60⟩ : ∃ hh : Heap, hh = h16.push (.cells #[(.pointer none)] 26) := ⟨_, rfl⟩
                have H := H p58 h17 e59 e60
                obtain ⟨e61, H⟩ := H
                obtain ⟨e62, H⟩ := H
                obtain ⟨e63, H⟩ := H
                refine s_ef1 (d := some 6) (v := (.pointer (some p58))) (h' := h17) rfl rfl rfl (fun dr => (r_alloc Try.zeroValue26).trans (by rw [e59, e60]; rfl)) ⟨(.inl ⟨rfl, fun dr => r_loadN Try.isAgg26 Try.sizeOf26 (vs := [(.pointer x49)]) rfl rfl ⟨e61, trivial⟩⟩), (.inl ⟨rfl, fun dr => r_loadN Try.isAgg28 Try.sizeOf28 (vs := [(.pointer x47)]) rfl rfl ⟨e62, trivial⟩⟩), (.inl ⟨rfl, fun dr => r_loadN Try.isAgg26 Try.sizeOf26 (vs := [(.pointer x45)]) rfl rfl ⟨e63, trivial⟩⟩), trivial⟩ ?_ trivial
                obtain ⟨p64, e65⟩ : ∃ p : Addr, p = ⟨h17.size, 0, none⟩ := ⟨_, rfl⟩
                obtain ⟨h18, e66⟩ : ∃ hh : Heap, hh = h17.push (.cells #[(.pointer none)] 26) := ⟨_, rfl⟩
                have H := H p64 h18 e65 e66
                obtain ⟨e67, H⟩ := H
                obtain ⟨e68, H⟩ := H
                obtain ⟨e69, H⟩ := H
                refine s_ef1 (d := some 7) (v := (.pointer (some p64))) (h' := h18) rfl rfl rfl (fun dr => (r_alloc Try.zeroValue26).trans (by rw [e65, e66]; rfl)) ⟨(.inl ⟨rfl, fun dr => r_loadN Try.isAgg26 Try.sizeOf26 (vs := [(.pointer x49)]) rfl rfl ⟨e67, trivial⟩⟩), (.inl ⟨rfl, fun dr => r_loadN Try.isAgg28 Try.sizeOf28 (vs := [(.pointer x47)]) rfl rfl ⟨e68, trivial⟩⟩), (.inl ⟨rfl, fun dr => r_loadN Try.isAgg26 Try.sizeOf26 (vs := [(.pointer x45)]) rfl rfl ⟨e69, trivial⟩⟩), trivial⟩ ?_ trivial
                obtain ⟨e71, H⟩ := H
                obtain ⟨h19, e70⟩ : ∃ hh : Heap, hh = hsets h18 p58 0 [(.pointer y56)] := ⟨_, rfl⟩
                have H := H h19 e70
                refine s_st (d := none) (h' := h19) rfl rfl rfl (fun dr => (r_store (v := (.agg #[(.pointer y56)])) Try.sizeOf26 rfl rfl rfl (one_all rfl) e71).trans (by rw [e70]; rfl)) ⟨trivial, trivial, trivial, trivial⟩ ?_ trivial
                obtain ⟨e73, H⟩ := H
                obtain ⟨h20, e72⟩ : ∃ hh : Heap, hh = hsets h19 p64 0 [(.pointer y57)] := ⟨_, rfl⟩
                have H := H h20 e72
                refine s_st (d := none) (h' := h20) rfl rfl rfl (fun dr => (r_store (v := (.agg #[(.pointer y57)])) Try.sizeOf26 rfl rfl rfl (one_all rfl) e73).trans (by rw [e72]; rfl)) ⟨trivial, trivial, trivial, trivial⟩ ?_ trivial
                refine s_fin ?_
                exact N_mk (l := [(2, (.pointer (some p3))), (3, (.pointer (some p6))), (4, (.pointer (some p9))), (5, (.pointer (some p12))), (6, (.pointer (some p58))), (7, (.pointer (some p64)))]) H ⟨rfl, rfl, rfl, rfl, rfl, rfl, trivial⟩
              · have H := H.2
                obtain ⟨p74, e75⟩ : ∃ p : Addr, p = ⟨h16.size, 0, none⟩ := ⟨_, rfl⟩
                obtain ⟨h21, e76⟩ : ∃ hh : Heap, hh = h16.push (.cells #[(.pointer none)] 26) := ⟨_, rfl⟩
                have H := H p74 h21 e75 e76
                obtain ⟨e77, H⟩ := H
                obtain ⟨e78, H⟩ := H
                obtain ⟨e79, H⟩ := H
                refine s_ef1 (d := some 7) (v := (.pointer (some p74))) (h' := h21) rfl rfl rfl (fun dr => (r_alloc Try.zeroValue26).trans (by rw [e75, e76]; rfl)) ⟨(.inl ⟨rfl, fun dr => r_loadN Try.isAgg26 Try.sizeOf26 (vs := [(.pointer x49)]) rfl rfl ⟨e77, trivial⟩⟩), (.inl ⟨rfl, fun dr => r_loadN Try.isAgg28 Try.sizeOf28 (vs := [(.pointer x47)]) rfl rfl ⟨e78, trivial⟩⟩), (.inl ⟨rfl, fun dr => r_loadN Try.isAgg26 Try.sizeOf26 (vs := [(.pointer x45)]) rfl rfl ⟨e79, trivial⟩⟩), trivial⟩ ?_ trivial
                obtain ⟨p80, e81⟩ : ∃ p : Addr, p = ⟨h21.size, 0, none⟩ := ⟨_, rfl⟩
                obtain ⟨h22, e82⟩ : ∃ hh : Heap, hh = h21.push (.cells #[(.pointer none)] 26) := ⟨_, rfl⟩
                have H := H p80 h22 e81 e82
                obtain ⟨e83, H⟩ := H
                obtain ⟨e84, H⟩ := H
                obtain ⟨e85, H⟩ := H
                refine s_ef1 (d := some 6) (v := (.pointer (some p80))) (h' := h22) rfl rfl rfl (fun dr => (r_alloc Try.zeroValue26).trans (by rw [e81, e82]; rfl)) ⟨(.inl ⟨rfl, fun dr => r_loadN Try.isAgg26 Try.sizeOf26 (vs := [(.pointer x49)]) rfl rfl ⟨e83, trivial⟩⟩), (.inl ⟨rfl, fun dr => r_loadN Try.isAgg28 Try.sizeOf28 (vs := [(.pointer x47)]) rfl rfl ⟨e84, trivial⟩⟩), (.inl ⟨rfl, fun dr => r_loadN Try.isAgg26 Try.sizeOf26 (vs := [(.pointer x45)]) rfl rfl ⟨e85, trivial⟩⟩), trivial⟩ ?_ trivial
                obtain ⟨e87, H⟩ := H
                obtain ⟨h23, e86⟩ : ∃ hh : Heap, hh = hsets h22 p80 0 [(.pointer y56)] := ⟨_, rfl⟩
                have H := H h23 e86
                refine s_st (d := none) (h' := h23) rfl rfl rfl (fun dr => (r_store (v := (.agg #[(.pointer y56)])) Try.sizeOf26 rfl rfl rfl (one_all rfl) e87).trans (by rw [e86]; rfl)) ⟨trivial, trivial, trivial, trivial⟩ ?_ trivial
                obtain ⟨e89, H⟩ := H
                obtain ⟨h24, e88⟩ : ∃ hh : Heap, hh = hsets h23 p74 0 [(.pointer y57)] := ⟨_, rfl⟩
                have H := H h24 e88
                refine s_st (d := none) (h' := h24) rfl rfl rfl (fun dr => (r_store (v := (.agg #[(.pointer y57)])) Try.sizeOf26 rfl rfl rfl (one_all rfl) e89).trans (by rw [e88]; rfl)) ⟨trivial, trivial, trivial, trivial⟩ ?_ trivial
                refine s_fin ?_
                exact N_mk (l := [(2, (.pointer (some p3))), (3, (.pointer (some p6))), (4, (.pointer (some p9))), (5, (.pointer (some p12))), (6, (.pointer (some p80))), (7, (.pointer (some p74)))]) H ⟨rfl, rfl, rfl, rfl, rfl, rfl, trivial⟩
            refine s_or ?_ ?_
            · have H := H.2.1
              obtain ⟨p90, e91⟩ : ∃ p : Addr, p = ⟨h15.size, 0, none⟩ := ⟨_, rfl⟩
              obtain ⟨h25, e92⟩ : ∃ hh : Heap, hh = h15.push (.cells #[(.pointer none)] 26) := ⟨_, rfl⟩
              have H := H p90 h25 e91 e92
              obtain ⟨e93, H⟩ := H
              obtain ⟨e94, H⟩ := H
              obtain ⟨e95, H⟩ := H
              refine s_ef1 (d := some 6) (v := (.pointer (some p90))) (h' := h25) rfl rfl rfl (fun dr => (r_alloc Try.zeroValue26).trans (by rw [e91, e92]; rfl)) ⟨(.inl ⟨rfl, fun dr => r_loadN Try.isAgg26 Try.sizeOf26 (vs := [(.pointer x49)]) rfl rfl ⟨e93, trivial⟩⟩), (.inl ⟨rfl, fun dr => r_loadN Try.isAgg28 Try.sizeOf28 (vs := [(.pointer x47)]) rfl rfl ⟨e94, trivial⟩⟩), (.inl ⟨rfl, fun dr => r_loadN Try.isAgg26 Try.sizeOf26 (vs := [(.pointer x45)]) rfl rfl ⟨e95, trivial⟩⟩), trivial⟩ ?_ trivial
              refine s_or ?_ ?_
              · have H := H.1
                refine s_ef (d := some 35) rfl rfl rfl (fun dr => r_call Try.call40 rfl rfl H) ?_ trivial
                rintro _ h26 ⟨y96, y97, rfl, H⟩
                refine ⟨⟨trivial, trivial, trivial, trivial⟩, ?_⟩
                refine s_pu (d := some 27) (v := (.tuple #[(.agg #[(.pointer y96)]), (.agg #[(.pointer y97)])])) rfl rfl rfl (r_move rfl) ?_
                refine s_pu (d := some 36) (v := (.agg #[(.pointer y96)])) rfl rfl rfl (r_extract rfl rfl) ?_
                refine s_pu (d := some 37) (v := (.agg #[(.pointer y97)])) rfl rfl rfl (r_extract rfl rfl) ?_
                obtain ⟨p98, e99⟩ : ∃ p : Addr, p = ⟨h26.size, 0, none⟩ := ⟨_, rfl⟩
                obtain ⟨h27, e100⟩ : ∃ hh : Heap, hh = h26.push (.cells #[(.pointer none)] 26) := ⟨_, rfl⟩
                have H := H p98 h27 e99 e100
                obtain ⟨e101, H⟩ := H
                obtain ⟨e102, H⟩ := H
                obtain ⟨e103, H⟩ := H
                refine s_ef1 (d := some 7) (v := (.pointer (some p98))) (h' := h27) rfl rfl rfl (fun dr => (r_alloc Try.zeroValue26).trans (by rw [e99, e100]; rfl)) ⟨(.inl ⟨rfl, fun dr => r_loadN Try.isAgg26 Try.sizeOf26 (vs := [(.pointer x49)]) rfl rfl ⟨e101, trivial⟩⟩), (.inl ⟨rfl, fun dr => r_loadN Try.isAgg28 Try.sizeOf28 (vs := [(.pointer x47)]) rfl rfl ⟨e102, trivial⟩⟩), (.inl ⟨rfl, fun dr => r_loadN Try.isAgg26 Try.sizeOf26 (vs := [(.pointer x45)]) rfl rfl ⟨e103, trivial⟩⟩), trivial⟩ ?_ trivial
                obtain ⟨e105, H⟩ := H
                obtain ⟨h28, e104⟩ : ∃ hh : Heap, hh = hsets h27 p90 0 [(.pointer y96)] := ⟨_, rfl⟩
                have H := H h28 e104
                refine s_st (d := none) (h' := h28) rfl rfl rfl (fun dr => (r_store (v := (.agg #[(.pointer y96)])) Try.sizeOf26 rfl rfl rfl (one_all rfl) e105).trans (by rw [e104]; rfl)) ⟨trivial, trivial, trivial, trivial⟩ ?_ trivial
                obtain ⟨e107, H⟩ := H
                obtain ⟨h29, e106⟩ : ∃ hh : Heap, hh = hsets h28 p98 0 [(.pointer y97)] := ⟨_, rfl⟩
                have H := H h29 e106
                refine s_st (d := none) (h' := h29) rfl rfl rfl (fun dr => (r_store (v := (.agg #[(.pointer y97)])) Try.sizeOf26 rfl rfl rfl (one_all rfl) e107).trans (by rw [e106]; rfl)) ⟨trivial, trivial, trivial, trivial⟩ ?_ trivial
                refine s_fin ?_
                exact N_mk (l := [(2, (.pointer (some p3))), (3, (.pointer (some p6))), (4, (.pointer (some p9))), (5, (.pointer (some p12))), (6, (.pointer (some p90))), (7, (.pointer (some p98)))]) H ⟨rfl, rfl, rfl, rfl, rfl, rfl, trivial⟩
              · have H := H.2
                obtain ⟨p108, e109⟩ : ∃ p : Addr, p = ⟨h25.size, 0, none⟩ := ⟨_, rfl⟩
                obtain ⟨h30, e110⟩ : ∃ hh : Heap, hh = h25.push (.cells #[(.pointer none)] 26) := ⟨_, rfl⟩
                have H := H p108 h30 e109 e110
                obtain ⟨e111, H⟩ := H
                obtain ⟨e112, H⟩ := H
                obtain ⟨e113, H⟩ := H
                refine s_ef1 (d := some 7) (v := (.pointer (some p108))) (h' := h30) rfl rfl rfl (fun dr => (r_alloc Try.zeroValue26).trans (by rw [e109, e110]; rfl)) ⟨(.inl ⟨rfl, fun dr => r_loadN Try.isAgg26 Try.sizeOf26 (vs := [(.pointer x49)]) rfl rfl ⟨e111, trivial⟩⟩), (.inl ⟨rfl, fun dr => r_loadN Try.isAgg28 Try.sizeOf28 (vs := [(.pointer x47)]) rfl rfl ⟨e112, trivial⟩⟩), (.inl ⟨rfl, fun dr => r_loadN Try.isAgg26 Try.sizeOf26 (vs := [(.pointer x45)]) rfl rfl ⟨e113, trivial⟩⟩), trivial⟩ ?_ trivial
                refine s_ef (d := some 35) rfl rfl rfl (fun dr => r_call Try.call40 rfl rfl H) ?_ trivial
                rintro _ h31 ⟨y114, y115, rfl, H⟩
                refine ⟨⟨trivial, trivial, trivial, trivial⟩, ?_⟩
                refine s_pu (d := some 27) (v := (.tuple #[(.agg #[(.pointer y114)]), (.agg #[(.pointer y115)])])) rfl rfl rfl (r_move rfl) ?_
                refine s_pu (d := some 36) (v := (.agg #[(.pointer y114)])) rfl rfl rfl (r_extract rfl rfl) ?_
                refine s_pu (d := some 37) (v := (.agg #[(.pointer y115)])) rfl rfl rfl (r_extract rfl rfl) ?_
                obtain ⟨e117, H⟩ := H
                obtain ⟨h32, e116⟩ : ∃ hh : Heap, hh = hsets h31 p90 0 [(.pointer y114)] := ⟨_, rfl⟩
                have H := H h32 e116
                refine s_st (d := none) (h' := h32) rfl rfl rfl (fun dr => (r_store (v := (.agg #[(.pointer y114)])) Try.sizeOf26 rfl rfl rfl (one_all rfl) e117).trans (by rw [e116]; rfl)) ⟨trivial, trivial, trivial, trivial⟩ ?_ trivial
                obtain ⟨e119, H⟩ := H
                obtain ⟨h33, e118⟩ : ∃ hh : Heap, hh = hsets h32 p108 0 [(.pointer y115)] := ⟨_, rfl⟩
                have H := H h33 e118
                refine s_st (d := none) (h' := h33) rfl rfl rfl (fun dr => (r_store (v := (.agg #[(.pointer y115)])) Try.sizeOf26 rfl rfl rfl (one_all rfl) e119).trans (by rw [e118]; rfl)) ⟨trivial, trivial, trivial, trivial⟩ ?_ trivial
                refine s_fin ?_
                exact N_mk (l := [(2, (.pointer (some p3))), (3, (.pointer (some p6))), (4, (.pointer (some p9))), (5, (.pointer (some p12))), (6, (.pointer (some p90))), (7, (.pointer (some p108)))]) H ⟨rfl, rfl, rfl, rfl, rfl, rfl, trivial⟩
            · have H := H.2.2
              obtain ⟨p120, e121⟩ : ∃ p : Addr, p = ⟨h15.size, 0, none⟩ := ⟨_, rfl⟩
              obtain ⟨h34, e122⟩ : ∃ hh : Heap, hh = h15.push (.cells #[(.pointer none)] 26) := ⟨_, rfl⟩
              have H := H p120 h34 e121 e122
              obtain ⟨e123, H⟩ := H
              obtain ⟨e124, H⟩ := H
              obtain ⟨e125, H⟩ := H
              refine s_ef1 (d := some 7) (v := (.pointer (some p120))) (h' := h34) rfl rfl rfl (fun dr => (r_alloc Try.zeroValue26).trans (by rw [e121, e122]; rfl)) ⟨(.inl ⟨rfl, fun dr => r_loadN Try.isAgg26 Try.sizeOf26 (vs := [(.pointer x49)]) rfl rfl ⟨e123, trivial⟩⟩), (.inl ⟨rfl, fun dr => r_loadN Try.isAgg28 Try.sizeOf28 (vs := [(.pointer x47)]) rfl rfl ⟨e124, trivial⟩⟩), (.inl ⟨rfl, fun dr => r_loadN Try.isAgg26 Try.sizeOf26 (vs := [(.pointer x45)]) rfl rfl ⟨e125, trivial⟩⟩), trivial⟩ ?_ trivial
              refine s_or ?_ ?_
              · have H := H.1
                refine s_ef (d := some 35) rfl rfl rfl (fun dr => r_call Try.call40 rfl rfl H) ?_ trivial
                rintro _ h35 ⟨y126, y127, rfl, H⟩
                refine ⟨⟨trivial, trivial, trivial, trivial⟩, ?_⟩
                refine s_pu (d := some 27) (v := (.tuple #[(.agg #[(.pointer y126)]), (.agg #[(.pointer y127)])])) rfl rfl rfl (r_move rfl) ?_
                refine s_pu (d := some 36) (v := (.agg #[(.pointer y126)])) rfl rfl rfl (r_extract rfl rfl) ?_
                refine s_pu (d := some 37) (v := (.agg #[(.pointer y127)])) rfl rfl rfl (r_extract rfl rfl) ?_
                obtain ⟨p128, e129⟩ : ∃ p : Addr, p = ⟨h35.size, 0, none⟩ := ⟨_, rfl⟩
                obtain ⟨h36, e130⟩ : ∃ hh : Heap, hh = h35.push (.cells #[(.pointer none)] 26) := ⟨_, rfl⟩
                have H := H p128 h36 e129 e130
                obtain ⟨e131, H⟩ := H
                obtain ⟨e132, H⟩ := H
                obtain ⟨e133, H⟩ := H
                refine s_ef1 (d := some 6) (v := (.pointer (some p128))) (h' := h36) rfl rfl rfl (fun dr => (r_alloc Try.zeroValue26).trans (by rw [e129, e130]; rfl)) ⟨(.inl ⟨rfl, fun dr => r_loadN Try.isAgg26 Try.sizeOf26 (vs := [(.pointer x49)]) rfl rfl ⟨e131, trivial⟩⟩), (.inl ⟨rfl, fun dr => r_loadN Try.isAgg28 Try.sizeOf28 (vs := [(.pointer x47)]) rfl rfl ⟨e132, trivial⟩⟩), (.inl ⟨rfl, fun dr => r_loadN Try.isAgg26 Try.sizeOf26 (vs := [(.pointer x45)]) rfl rfl ⟨e133, trivial⟩⟩), trivial⟩ ?_ trivial
                obtain ⟨e135, H⟩ := H
                obtain ⟨h37, e134⟩ : ∃ hh : Heap, hh = hsets h36 p128 0 [(.pointer y126)] := ⟨_, rfl⟩
                have H := H h37 e134
                refine s_st (d := none) (h' := h37) rfl rfl rfl (fun dr => (r_store (v := (.agg #[(.pointer y126)])) Try.sizeOf26 rfl rfl rfl (one_all rfl) e135).trans (by rw [e134]; rfl)) ⟨trivial, trivial, trivial, trivial⟩ ?_ trivial
                obtain ⟨e137, H⟩ := H
                obtain ⟨h38, e136⟩ : ∃ hh : Heap, hh = hsets h37 p120 0 [(.pointer y127)] := ⟨_, rfl⟩
                have H := H h38 e136
                refine s_st (d := none) (h' := h38) rfl rfl rfl (fun dr => (r_store (v := (.agg #[(.pointer y127)])) Try.sizeOf26 rfl rfl rfl (one_all rfl) e137).trans (by rw [e136]; rfl)) ⟨trivial, trivial, trivial, trivial⟩ ?_ trivial
                refine s_fin ?_
                exact N_mk (l := [(2, (.pointer (some p3))), (3, (.pointer (some p6))), (4, (.pointer (some p9))), (5, (.pointer (some p12))), (6, (.pointer (some p128))), (7, (.pointer (some p120)))]) H ⟨rfl, rfl, rfl, rfl, rfl, rfl, trivial⟩
              · have H := H.2
                obtain ⟨p138, e139⟩ : ∃ p : Addr, p = ⟨h34.size, 0, none⟩ := ⟨_, rfl⟩
                obtain ⟨h39, e140⟩ : ∃ hh : Heap, hh = h34.push (.cells #[(.pointer none)] 26) := ⟨_, rfl⟩
                have H := H p138 h39 e139 e140
                obtain ⟨e141, H⟩ := H
                obtain ⟨e142, H⟩ := H
                obtain ⟨e143, H⟩ := H
                refine s_ef1 (d := some 6) (v := (.pointer (some p138))) (h' := h39) rfl rfl rfl (fun dr => (r_alloc Try.zeroValue26).trans (by rw [e139, e140]; rfl)) ⟨(.inl ⟨rfl, fun dr => r_loadN Try.isAgg26 Try.sizeOf26 (vs := [(.pointer x49)]) rfl rfl ⟨e141, trivial⟩⟩), (.inl ⟨rfl, fun dr => r_loadN Try.isAgg28 Try.sizeOf28 (vs := [(.pointer x47)]) rfl rfl ⟨e142, trivial⟩⟩), (.inl ⟨rfl, fun dr => r_loadN Try.isAgg26 Try.sizeOf26 (vs := [(.pointer x45)]) rfl rfl ⟨e143, trivial⟩⟩), trivial⟩ ?_ trivial
                refine s_ef (d := some 35) rfl rfl rfl (fun dr => r_call Try.call40 rfl rfl H) ?_ trivial
                rintro _ h40 ⟨y144, y145, rfl, H⟩
                refine ⟨⟨trivial, trivial, trivial, trivial⟩, ?_⟩
                refine s_pu (d := some 27) (v := (.tuple #[(.agg #[(.pointer y144)]), (.agg #[(.pointer y145)])])) rfl rfl rfl (r_move rfl) ?_
                refine s_pu (d := some 36) (v := (.agg #[(.pointer y144)])) rfl rfl rfl (r_extract rfl rfl) ?_
                refine s_pu (d := some 37) (v := (.agg #[(.pointer y145)])) rfl rfl rfl (r_extract rfl rfl) ?_
                obtain ⟨e147, H⟩ := H
                obtain ⟨h41, e146⟩ : ∃ hh : Heap, hh = hsets h40 p138 0 [(.pointer y144)] := ⟨_, rfl⟩
                have H := H h41 e146
                refine s_st (d := none) (h' := h41) rfl rfl rfl (fun dr => (r_store (v := (.agg #[(.pointer y144)])) Try.sizeOf26 rfl rfl rfl (one_all rfl) e147).trans (by rw [e146]; rfl)) ⟨trivial, trivial, trivial, trivial⟩ ?_ trivial
                obtain ⟨e149, H⟩ := H
                obtain ⟨h42, e148⟩ : ∃ hh : Heap, hh = hsets h41 p120 0 [(.pointer y145)] := ⟨_, rfl⟩
                have H := H h42 e148
                refine s_st (d := none) (h' := h42) rfl rfl rfl (fun dr => (r_store (v := (.agg #[(.pointer y145)])) Try.sizeOf26 rfl rfl rfl (one_all rfl) e149).trans (by rw [e148]; rfl)) ⟨trivial, trivial, trivial, trivial⟩ ?_ trivial
                refine s_fin ?_
                exact N_mk (l := [(2, (.pointer (some p3))), (3, (.pointer (some p6))), (4, (.pointer (some p9))), (5, (.pointer (some p12))), (6, (.pointer (some p138))), (7, (.pointer (some p120)))]) H ⟨rfl, rfl, rfl, rfl, rfl, rfl, trivial⟩
          refine s_or ?_ ?_
          · have H := H.2.1
            obtain ⟨p150, e151⟩ : ∃ p : Addr, p = ⟨h14.size, 0, none⟩ := ⟨_, rfl⟩
            obtain ⟨h43, e152⟩ : ∃ hh : Heap, hh = h14.push (.cells #[(.pointer none)] 26) := ⟨_, rfl⟩
            have H := H p150 h43 e151 e152
            obtain ⟨e153, H⟩ := H
            obtain ⟨e154, H⟩ := H
            obtain ⟨e155, H⟩ := H
            refine s_ef1 (d := some 6) (v := (.pointer (some p150))) (h' := h43) rfl rfl rfl (fun dr => (r_alloc Try.zeroValue26).trans (by rw [e151, e152]; rfl)) ⟨(.inl ⟨rfl, fun dr => r_loadN Try.isAgg26 Try.sizeOf26 (vs := [(.pointer x49)]) rfl rfl ⟨e153, trivial⟩⟩), (.inl ⟨rfl, fun dr => r_loadN Try.isAgg28 Try.sizeOf28 (vs := [(.pointer x47)]) rfl rfl ⟨e154, trivial⟩⟩), (.inl ⟨rfl, fun dr => r_loadN Try.isAgg26 Try.sizeOf26 (vs := [(.pointer x45)]) rfl rfl ⟨e155, trivial⟩⟩), trivial⟩ ?_ trivial
            refine s_or ?_ ?_
            · have H := H.1
              refine s_ef (d := some 34) rfl rfl rfl (fun dr => r_call Try.call39 rfl rfl H) ?_ trivial
              rintro _ h44 ⟨y156, rfl, H⟩
              obtain ⟨e157, H⟩ := H
              refine ⟨⟨trivial, trivial, (.inl ⟨rfl, fun dr => r_loadN Try.isAgg26 Try.sizeOf26 (vs := [(.pointer x45)]) rfl rfl ⟨e157, trivial⟩⟩), trivial⟩, ?_⟩
              refine s_or ?_ ?_
              · have H := H.1
                refine s_ef (d := some 35) rfl rfl rfl (fun dr => r_call Try.call40 rfl rfl H) ?_ trivial
                rintro _ h45 ⟨y158, y159, rfl, H⟩
                refine ⟨⟨trivial, trivial, trivial, trivial⟩, ?_⟩
                refine s_pu (d := some 27) (v := (.tuple #[(.agg #[(.pointer y158)]), (.agg #[(.pointer y159)])])) rfl rfl rfl (r_move rfl) ?_
                refine s_pu (d := some 36) (v := (.agg #[(.pointer y158)])) rfl rfl rfl (r_extract rfl rfl) ?_
                refine s_pu (d := some 37) (v := (.agg #[(.pointer y159)])) rfl rfl rfl (r_extract rfl rfl) ?_
                obtain ⟨p160, e161⟩ : ∃ p : Addr, p = ⟨h45.size, 0, none⟩ := ⟨_, rfl⟩
                obtain ⟨h46, e162⟩ : ∃ hh : Heap, hh = h45.push (.cells #[(.pointer none)] 26) := ⟨_, rfl⟩
                have H := H p160 h46 e161 e162
                obtain ⟨e163, H⟩ := H
                obtain ⟨e164, H⟩ := H
                obtain ⟨e165, H⟩ := H
                refine s_ef1 (d := some 7) (v := (.pointer (some p160))) (h' := h46) rfl rfl rfl (fun dr => (r_alloc Try.zeroValue26).trans (by rw [e161, e162]; rfl)) ⟨(.inl ⟨rfl, fun dr => r_loadN Try.isAgg26 Try.sizeOf26 (vs := [(.pointer x49)]) rfl rfl ⟨e163, trivial⟩⟩), (.inl ⟨rfl, fun dr => r_loadN Try.isAgg28 Try.sizeOf28 (vs := [(.pointer x47)]) rfl rfl ⟨e164, trivial⟩⟩), (.inl ⟨rfl, fun dr => r_loadN Try.isAgg26 Try.sizeOf26 (vs := [(.pointer x45)]) rfl rfl ⟨e165, trivial⟩⟩), trivial⟩ ?_ trivial
                obtain ⟨e167, H⟩ := H
                obtain ⟨h47, e166⟩ : ∃ hh : Heap, hh = hsets h46 p150 0 [(.pointer y158)] := ⟨_, rfl⟩
                have H := H h47 e166
                refine s_st (d := none) (h' := h47) rfl rfl rfl (fun dr => (r_store (v := (.agg #[(.pointer y158)])) Try.sizeOf26 rfl rfl rfl (one_all rfl) e167).trans (by rw [e166]; rfl)) ⟨trivial, trivial, trivial, trivial⟩ ?_ trivial
                obtain ⟨e169, H⟩ := H
                obtain ⟨h48, e168⟩ : ∃ hh : Heap, hh = hsets h47 p160 0 [(.pointer y159)] := ⟨_, rfl⟩
                have H := H h48 e168
                refine s_st (d := none) (h' := h48) rfl rfl rfl (fun dr => (r_store (v := (.agg #[(.pointer y159)])) Try.sizeOf26 rfl rfl rfl (one_all rfl) e169).trans (by rw [e168]; rfl)) ⟨trivial, trivial, trivial, trivial⟩ ?_ trivial
                refine s_fin ?_
                exact N_mk (l := [(2, (.pointer (some p3))), (3, (.pointer (some p6))), (4, (.pointer (some p9))), (5, (.pointer (some p12))), (6, (.pointer (some p150))), (7, (.pointer (some p160)))]) H ⟨rfl, rfl, rfl, rfl, rfl, rfl, trivial⟩
              · have H := H.2
                obtain ⟨p170, e171⟩ : ∃ p : Addr, p = ⟨h44.size, 0, none⟩ := ⟨_, rfl⟩
                obtain ⟨h49, e172⟩ : ∃ hh : Heap, hh = h44.push (.cells #[(.pointer none)] 26) := ⟨_, rfl⟩
                have H := H p170 h49 e171 e172
                obtain ⟨e173, H⟩ := H
                obtain ⟨e174, H⟩ := H
                obtain ⟨e175, H⟩ := H
                refine s_ef1 (d := some 7) (v := (.pointer (some p170))) (h' := h49) rfl rfl rfl (fun dr => (r_alloc Try.zeroValue26).trans (by rw [e171, e172]; rfl)) ⟨(.inl ⟨rfl, fun dr => r_loadN Try.isAgg26 Try.sizeOf26 (vs := [(.pointer x49)]) rfl rfl ⟨e173, trivial⟩⟩), (.inl ⟨rfl, fun dr => r_loadN Try.isAgg28 Try.sizeOf28 (vs := [(.pointer x47)]) rfl rfl ⟨e174, trivial⟩⟩), (.inl ⟨rfl, fun dr => r_loadN Try.isAgg26 Try.sizeOf26 (vs := [(.pointer x45)]) rfl rfl ⟨e175, trivial⟩⟩), trivial⟩ ?_ trivial
                refine s_ef (d := some 35) rfl rfl rfl (fun dr => r_call Try.call40 rfl rfl H) ?_ trivial
                rintro _ h50 ⟨y176, y177, rfl, H⟩
                refine ⟨⟨trivial, trivial, trivial, trivial⟩, ?_⟩
                refine s_pu (d := some 27) (v := (.tuple #[(.agg #[(.pointer y176)]), (.agg #[(.pointer y177)])])) rfl rfl rfl (r_move rfl) ?_
                refine s_pu (d := some 36) (v := (.agg #[(.pointer y176)])) rfl rfl rfl (r_extract rfl rfl) ?_
                refine s_pu (d := some 37) (v := (.agg #[(.pointer y177)])) rfl rfl rfl (r_extract rfl rfl) ?_
                obtain ⟨e179, H⟩ := H
                obtain ⟨h51, e178⟩ : ∃ hh : Heap, hh = hsets h50 p150 0 [(.pointer y176)] := ⟨_, rfl⟩
                have H := H h51 e178
                refine s_st (d := none) (h' := h51) rfl rfl rfl (fun dr => (r_store (v := (.agg #[(.pointer y176)])) Try.sizeOf26 rfl rfl rfl (one_all rfl) e179).trans (by rw [e178]; rfl)) ⟨trivial, trivial, trivial, trivial⟩ ?_ trivial
                obtain ⟨e181, H⟩ := H
                obtain ⟨h52, e180⟩ : ∃ hh : Heap, hh = hsets h51 p170 0 [(.pointer y177)] := ⟨_, rfl⟩
                have H := H h52 e180
                refine s_st (d := none) (h' := h52) rfl rfl rfl (fun dr => (r_store (v := (.agg #[(.pointer y177)])) Try.sizeOf26 rfl rfl rfl (one_all rfl) e181).trans (by rw [e180]; rfl)) ⟨trivial, trivial, trivial, trivial⟩ ?_ trivial
                refine s_fin ?_
                exact N_mk (l := [(2, (.pointer (some p3))), (3, (.pointer (some p6))), (4, (.pointer (some p9))), (5, (.pointer (some p12))), (6, (.pointer (some p150))), (7, (.pointer (some p170)))]) H ⟨rfl, rfl, rfl, rfl, rfl, rfl, trivial⟩
            · have H := H.2
              obtain ⟨p182, e183⟩ : ∃ p : Addr, p = ⟨h43.size, 0, none⟩ := ⟨_, rfl⟩
              obtain ⟨h53, e184⟩ : ∃ hh : Heap, hh = h43.push (.cells #[(.pointer none)] 26) := ⟨_, rfl⟩
              have H := H p182 h53 e183 e184
              obtain ⟨e185, H⟩ := H
              obtain ⟨e186, H⟩ := H
              obtain ⟨e187, H⟩ := H
              refine s_ef1 (d := some 7) (v := (.pointer (some p182))) (h' := h53) rfl rfl rfl (fun dr => (r_alloc Try.zeroValue26).trans (by rw [e183, e184]; rfl)) ⟨(.inl ⟨rfl, fun dr => r_loadN Try.isAgg26 Try.sizeOf26 (vs := [(.pointer x49)]) rfl rfl ⟨e185, trivial⟩⟩), (.inl ⟨rfl, fun dr => r_loadN Try.isAgg28 Try.sizeOf28 (vs := [(.pointer x47)]) rfl rfl ⟨e186, trivial⟩⟩), (.inl ⟨rfl, fun dr => r_loadN Try.isAgg26 Try.sizeOf26 (vs := [(.pointer x45)]) rfl rfl ⟨e187, trivial⟩⟩), trivial⟩ ?_ trivial
              refine s_ef (d := some 34) rfl rfl rfl (fun dr => r_call Try.call39 rfl rfl H) ?_ trivial
              rintro _ h54 ⟨y188, rfl, H⟩
              obtain ⟨e189, H⟩ := H
              refine ⟨⟨trivial, trivial, (.inl ⟨rfl, fun dr => r_loadN Try.isAgg26 Try.sizeOf26 (vs := [(.pointer x45)]) rfl rfl ⟨e189, trivial⟩⟩), trivial⟩, ?_⟩
              refine s_ef (d := some 35) rfl rfl rfl (fun dr => r_call Try.call40 rfl rfl H) ?_ trivial
              rintro _ h55 ⟨y190, y191, rfl, H⟩
              refine ⟨⟨trivial, trivial, trivial, trivial⟩, ?_⟩
              refine s_pu (d := some 27) (v := (.tuple #[(.agg #[(.pointer y190)]), (.agg #[(.pointer y191)])])) rfl rfl rfl (r_move rfl) ?_
              refine s_pu (d := some 36) (v := (.agg #[(.pointer y190)])) rfl rfl rfl (r_extract rfl rfl) ?_
              refine s_pu (d := some 37) (v := (.agg #[(.pointer y191)])) rfl rfl rfl (r_extract rfl rfl) ?_
              obtain ⟨e193, H⟩ := H
              obtain ⟨h56, e192⟩ : ∃ hh : Heap, hh = hsets h55 p150 0 [(.pointer y190)] := ⟨_, rfl⟩
              have H := H h56 e192
              refine s_st (d := none) (h' := h56) rfl rfl rfl (fun dr => (r_store (v := (.agg #[(.pointer y190)])) Try.sizeOf26 rfl rfl rfl (one_all rfl) e193).trans (by rw [e192]; rfl)) ⟨trivial, trivial, trivial, trivial⟩ ?_ trivial
              obtain ⟨e195, H⟩ := H
              obtain ⟨h57, e194⟩ : ∃ hh : Heap, hh = hsets h56 p182 0 [(.pointer y191)] := ⟨_, rfl⟩
              have H := H h57 e194
              refine s_st (d := none) (h' := h57) rfl rfl rfl (fun dr => (r_store (v := (.agg #[(.pointer y191)])) Try.sizeOf26 rfl rfl rfl (one_all rfl) e195).trans (by rw [e194]; rfl)) ⟨trivial, trivial, trivial, trivial⟩ ?_ trivial
              refine s_fin ?_
              exact N_mk (l := [(2, (.pointer (some p3))), (3, (.pointer (some p6))), (4, (.pointer (some p9))), (5, (.pointer (some p12))), (6, (.pointer (some p150))), (7, (.pointer (some p182)))]) H ⟨rfl, rfl, rfl, rfl, rfl, rfl, trivial⟩
          · have H := H.2.2
            obtain ⟨p196, e197⟩ : ∃ p : Addr, p = ⟨h14.size, 0, none⟩ := ⟨_, rfl⟩
            obtain ⟨h58, e198⟩ : ∃ hh : Heap, hh = h14.push (.cells #[(.pointer none)] 26) := ⟨_, rfl⟩
            have H := H p196 h58 e197 e198
            obtain ⟨e199, H⟩ := H
            obtain ⟨e200, H⟩ := H
            obtain ⟨e201, H⟩ := H
            refine s_ef1 (d := some 7) (v := (.pointer (some p196))) (h' := h58) rfl rfl rfl (fun dr => (r_alloc Try.zeroValue26).trans (by rw [e197, e198]; rfl)) ⟨(.inl ⟨rfl, fun dr => r_loadN Try.isAgg26 Try.sizeOf26 (vs := [(.pointer x49)]) rfl rfl ⟨e199, trivial⟩⟩), (.inl ⟨rfl, fun dr => r_loadN Try.isAgg28 Try.sizeOf28 (vs := [(.pointer x47)]) rfl rfl ⟨e200, trivial⟩⟩), (.inl ⟨rfl, fun dr => r_loadN Try.isAgg26 Try.sizeOf26 (vs := [(.pointer x45)]) rfl rfl ⟨e201, trivial⟩⟩), trivial⟩ ?_ trivial
            refine s_or ?_ ?_
            · have H := H.1
              refine s_ef (d := some 34) rfl rfl rfl (fun dr => r_call Try.call39 rfl rfl H) ?_ trivial
              rintro _ h59 ⟨y202, rfl, H⟩
              obtain ⟨e203, H⟩ := H
              refine ⟨⟨trivial, trivial, (.inl ⟨rfl, fun dr => r_loadN Try.isAgg26 Try.sizeOf26 (vs := [(.pointer x45)]) rfl rfl ⟨e203, trivial⟩⟩), trivial⟩, ?_⟩
              refine s_or ?_ ?_
              · have H := H.1
                refine s_ef (d := some 35) rfl rfl rfl (fun dr => r_call Try.call40 rfl rfl H) ?_ trivial
                rintro _ h60 ⟨y204, y205, rfl, H⟩
                refine ⟨⟨trivial, trivial, trivial, trivial⟩, ?_⟩
                refine s_pu (d := some 27) (v := (.tuple #[(.agg #[(.pointer y204)]), (.agg #[(.pointer y205)])])) rfl rfl rfl (r_move rfl) ?_
                refine s_pu (d := some 36) (v := (.agg #[(.pointer y204)])) rfl rfl rfl (r_extract rfl rfl) ?_
                refine s_pu (d := some 37) (v := (.agg #[(.pointer y205)])) rfl rfl rfl (r_extract rfl rfl) ?_
                obtain ⟨p206, e207⟩ : ∃ p : Addr, p = ⟨h60.size, 0, none⟩ := ⟨_, rfl⟩
                obtain ⟨h61, e208⟩ : ∃ hh : Heap, hh = h60.push (.cells #[(.pointer none)] 26) := ⟨_, rfl⟩
                have H := H p206 h61 e207 e208
                obtain ⟨e209, H⟩ := H
                obtain ⟨e210, H⟩ := H
                obtain ⟨e211, H⟩ := H
                refine s_ef1 (d := some 6) (v := (.pointer (some p206))) (h' := h61) rfl rfl rfl (fun dr => (r_alloc Try.zeroValue26).trans (by rw [e207, e208]; rfl)) ⟨(.inl ⟨rfl, fun dr => r_loadN Try.isAgg26 Try.sizeOf26 (vs := [(.pointer x49)]) rfl rfl ⟨e209, trivial⟩⟩), (.inl ⟨rfl, fun dr => r_loadN Try.isAgg28 Try.sizeOf28 (vs := [(.pointer x47)]) rfl rfl ⟨e210, trivial⟩⟩), (.inl ⟨rfl, fun dr => r_loadN Try.isAgg26 Try.sizeOf26 (vs := [(.pointer x45)]) rfl rfl ⟨e211, trivial⟩⟩), trivial⟩ ?_ trivial
                obtain ⟨e213, H⟩ := H
                obtain ⟨h62, e212⟩ : ∃ hh : Heap, hh = hsets h61 p206 0 [(.pointer y204)] := ⟨_, rfl⟩
                have H := H h62 e212
                refine s_st (d := none) (h' := h62) rfl rfl rfl (fun dr => (r_store (v := (.agg #[(.pointer y204)])) Try.sizeOf26 rfl rfl rfl (one_all rfl) e213).trans (by rw [e212]; rfl)) ⟨trivial, trivial, trivial, trivial⟩ ?_ trivial
                obtain ⟨e215, H⟩ := H
                obtain ⟨h63, e214⟩ : ∃ hh : Heap, hh = hsets h62 p196 0 [(.pointer y205)] := ⟨_, rfl⟩
                have H := H h63 e214
                refine s_st (d := none) (h' := h63) rfl rfl rfl (fun dr => (r_store (v := (.agg #[(.pointer y205)])) Try.sizeOf26 rfl rfl rfl (one_all rfl) e215).trans (by rw [e214]; rfl)) ⟨trivial, trivial, trivial, trivial⟩ ?_ trivial
                refine s_fin ?_
                exact N_mk (l := [(2, (.pointer (some p3))), (3, (.pointer (some p6))), (4, (.pointer (some p9))), (5, (.pointer (some p12))), (6, (.pointer (some p206))), (7, (.pointer (some p196)))]) H ⟨rfl, rfl, rfl, rfl, rfl, rfl, trivial⟩
              · have H := H.2
                obtain ⟨p216, e217⟩ : ∃ p : Addr, p = ⟨h59.size, 0, none⟩ := ⟨_, rfl⟩
                obtain ⟨h64, e218⟩ : ∃ hh : Heap, hh = h59.push (.cells #[(.pointer none)] 26) := ⟨_, rfl⟩
                have H := H p216 h64 e217 e218
                obtain ⟨e219, H⟩ := H
                obtain ⟨e220, H⟩ := H
                obtain ⟨e221, H⟩ := H
                refine s_ef1 (d := some 6) (v := (.pointer (some p216))) (h' := h64) rfl rfl rfl (fun dr => (r_alloc Try.zeroValue26).trans (by rw [e217, e218]; rfl)) ⟨(.inl ⟨rfl, fun dr => r_loadN Try.isAgg26 Try.sizeOf26 (vs := [(.pointer x49)]) rfl rfl ⟨e219, trivial⟩⟩), (.inl ⟨rfl, fun dr => r_loadN Try.isAgg28 Try.sizeOf28 (vs := [(.pointer x47)]) rfl rfl ⟨e220, trivial⟩⟩), (.inl ⟨rfl, fun dr => r_loadN Try.isAgg26 Try.sizeOf26 (vs := [(.pointer x45)]) rfl rfl ⟨e221, trivial⟩⟩), trivial⟩ ?_ trivial
                refine s_ef (d := some 35) rfl rfl rfl (fun dr => r_call Try.call40 rfl rfl H) ?_ trivial
                rintro _ h65 ⟨y222, y223, rfl, H⟩
                refine ⟨⟨trivial, trivial, trivial, trivial⟩, ?_⟩
                refine s_pu (d := some 27) (v := (.tuple #[(.agg #[(.pointer y222)]), (.agg #[(.pointer y223)])])) rfl rfl rfl (r_move rfl) ?_
                refine s_pu (d := some 36) (v := (.agg #[(.pointer y222)])) rfl rfl rfl (r_extract rfl rfl) ?_
                refine s_pu (d := some 37) (v := (.agg #[(.pointer y223)])) rfl rfl rfl (r_extract rfl rfl) ?_
                obtain ⟨e225, H⟩ := H
                obtain ⟨h66, e224⟩ : ∃ hh : Heap, hh = hsets h65 p216 0 [(.pointer y222)] := ⟨_, rfl⟩
                have H := H h66 e224
                refine s_st (d := none) (h' := h66) rfl rfl rfl (fun dr => (r_store (v := (.agg #[(.pointer y222)])) Try.sizeOf26 rfl rfl rfl (one_all rfl) e225).trans (by rw [e224]; rfl)) ⟨trivial, trivial, trivial, trivial⟩ ?_ trivial
                obtain ⟨e227, H⟩ := H
                obtain ⟨h67, e226⟩ : ∃ hh : Heap, hh = hsets h66 p196 0 [(.pointer y223)] := ⟨_, rfl⟩
                have H := H h67 e226
                refine s_st (d := none) (h' := h67) rfl rfl rfl (fun dr => (r_store (v := (.agg #[(.pointer y223)])) Try.sizeOf26 rfl rfl rfl (one_all rfl) e227).trans (by rw [e226]; rfl)) ⟨trivial, trivial, trivial, trivial⟩ ?_ trivial
                refine s_fin ?_
                exact N_mk (l := [(2, (.pointer (some p3))), (3, (.pointer (some p6))), (4, (.pointer (some p9))), (5, (.pointer (some p12))), (6, (.pointer (some p216))), (7, (.pointer (some p196)))]) H ⟨rfl, rfl, rfl, rfl, rfl, rfl, trivial⟩
            · have H := H.2
              obtain ⟨p228, e229⟩ : ∃ p : Addr, p = ⟨h58.size, 0, none⟩ := ⟨_, rfl⟩
              obtain ⟨h68, e230⟩ : ∃ hh : Heap, hh = h58.push (.cells #[(.pointer none)] 26) := ⟨_, rfl⟩
              have H := H p228 h68 e229 e230
              obtain ⟨e231, H⟩ := H
              obtain ⟨e232, H⟩ := H
              obtain ⟨e233, H⟩ := H
              refine s_ef1 (d := some 6) (v := (.pointer (some p228))) (h' := h68) rfl rfl rfl (fun dr => (r_alloc Try.zeroValue26).trans (by rw [e229, e230]; rfl)) ⟨(.inl ⟨rfl, fun dr => r_loadN Try.isAgg26 Try.sizeOf26 (vs := [(.pointer x49)]) rfl rfl ⟨e231, trivial⟩⟩), (.inl ⟨rfl, fun dr => r_loadN Try.isAgg28 Try.sizeOf28 (vs := [(.pointer x47)]) rfl rfl ⟨e232, trivial⟩⟩), (.inl ⟨rfl, fun dr => r_loadN Try.isAgg26 Try.sizeOf26 (vs := [(.pointer x45)]) rfl rfl ⟨e233, trivial⟩⟩), trivial⟩ ?_ trivial
              refine s_ef (d := some 34) rfl rfl rfl (fun dr => r_call Try.call39 rfl rfl H) ?_ trivial
              rintro _ h69 ⟨y234, rfl, H⟩
              obtain ⟨e235, H⟩ := H
              refine ⟨⟨trivial, trivial, (.inl ⟨rfl, fun dr => r_loadN Try.isAgg26 Try.sizeOf26 (vs := [(.pointer x45)]) rfl rfl ⟨e235, trivial⟩⟩), trivial⟩, ?_⟩
              refine s_ef (d := some 35) rfl rfl rfl (fun dr => r_call Try.call40 rfl rfl H) ?_ trivial
              rintro _ h70 ⟨y236, y237, rfl, H⟩
              refine ⟨⟨trivial, trivial, trivial, trivial⟩, ?_⟩
              refine s_pu (d := some 27) (v := (.tuple #[(.agg #[(.pointer y236)]), (.agg #[(.pointer y237)])])) rfl rfl rfl (r_move rfl) ?_
              refine s_pu (d := some 36) (v := (.agg #[(.pointer y236)])) rfl rfl rfl (r_extract rfl rfl) ?_
              refine s_pu (d := some 37) (v := (.agg #[(.pointer y237)])) rfl rfl rfl (r_extract rfl rfl) ?_
              obtain ⟨e239, H⟩ := H
              obtain ⟨h71, e238⟩ : ∃ hh : Heap, hh = hsets h70 p228 0 [(.pointer y236)] := ⟨_, rfl⟩
              have H := H h71 e238
              refine s_st (d := none) (h' := h71) rfl rfl rfl (fun dr => (r_store (v := (.agg #[(.pointer y236)])) Try.sizeOf26 rfl rfl rfl (one_all rfl) e239).trans (by rw [e238]; rfl)) ⟨trivial, trivial, trivial, trivial⟩ ?_ trivial
              obtain ⟨e241, H⟩ := H
              obtain ⟨h72, e240⟩ : ∃ hh : Heap, hh = hsets h71 p196 0 [(.pointer y237)] := ⟨_, rfl⟩
              have H := H h72 e240
              refine s_st (d := none) (h' := h72) rfl rfl rfl (fun dr => (r_store (v := (.agg #[(.pointer y237)])) Try.sizeOf26 rfl rfl rfl (one_all rfl) e241).trans (by rw [e240]; rfl)) ⟨trivial, trivial, trivial, trivial⟩ ?_ trivial
              refine s_fin ?_
              exact N_mk (l := [(2, (.pointer (some p3))), (3, (.pointer (some p6))), (4, (.pointer (some p9))), (5, (.pointer (some p12))), (6, (.pointer (some p228))), (7, (.pointer (some p196)))]) H ⟨rfl, rfl, rfl, rfl, rfl, rfl, trivial⟩
        refine s_or ?_ ?_
        · have H := H.2.1
          obtain ⟨p242, e243⟩ : ∃ p : Addr, p = ⟨h9.size, 0, none⟩ := ⟨_, rfl⟩
          obtain ⟨h73, e244⟩ : ∃ hh : Heap, hh = h9.push (.cells #[(.pointer none)] 26) := ⟨_, rfl⟩
          have H := H p242 h73 e243 e244
          obtain ⟨e245, H⟩ := H
          obtain ⟨e246, H⟩ := H
          obtain ⟨e247, H⟩ := H
          refine s_ef1 (d := some 6) (v := (.pointer (some p242))) (h' := h73) rfl rfl rfl (fun dr => (r_alloc Try.zeroValue26).trans (by rw [e243, e244]; rfl)) ⟨(.inl ⟨rfl, fun dr => r_loadN Try.isAgg26 Try.sizeOf26 (vs := [(.pointer x49)]) rfl rfl ⟨e245, trivial⟩⟩), (.inl ⟨rfl, fun dr => r_loadN Try.isAgg28 Try.sizeOf28 (vs := [(.pointer x47)]) rfl rfl ⟨e246, trivial⟩⟩), (.inl ⟨rfl, fun dr => r_loadN Try.isAgg26 Try.sizeOf26 (vs := [(.pointer x45)]) rfl rfl ⟨e247, trivial⟩⟩), trivial⟩ ?_ trivial
          refine s_or ?_ ?_
          · have H := H.1
            refine s_ef (d := some 33) rfl rfl rfl (fun dr => r_call Try.call63 rfl rfl H) ?_ trivial
            rintro _ h74 ⟨y248, rfl, H⟩
            obtain ⟨e249, H⟩ := H
            obtain ⟨e250, H⟩ := H
            refine ⟨⟨trivial, (.inl ⟨rfl, fun dr => r_loadN Try.isAgg28 Try.sizeOf28 (vs := [(.pointer x47)]) rfl rfl ⟨e249, trivial⟩⟩), (.inl ⟨rfl, fun dr => r_loadN Try.isAgg26 Try.sizeOf26 (vs := [(.pointer x45)]) rfl rfl ⟨e250, trivial⟩⟩), trivial⟩, ?_⟩
            refine s_or ?_ ?_
            · have H := H.1
              refine s_ef (d := some 34) rfl rfl rfl (fun dr => r_call Try.call39 rfl rfl H) ?_ trivial
              rintro _ h75 ⟨y251, rfl, H⟩
              obtain ⟨e252, H⟩ := H
              refine ⟨⟨trivial, trivial, (.inl ⟨rfl, fun dr => r_loadN Try.isAgg26 Try.sizeOf26 (vs := [(.pointer x45)]) rfl rfl ⟨e252, trivial⟩⟩), trivial⟩, ?_⟩
              refine s_or ?_ ?_
              · have H := H.1
                refine s_ef (d := some 35) rfl rfl rfl (fun dr => r_call Try.call40 rfl rfl H) ?_ trivial
                rintro _ h76 ⟨y253, y254, rfl, H⟩
                refine ⟨⟨trivial, trivial, trivial, trivial⟩, ?_⟩
                refine s_pu (d := some 27) (v := (.tuple #[(.agg #[(.pointer y253)]), (.agg #[(.pointer y254)])])) rfl rfl rfl (r_move rfl) ?_
                refine s_pu (d := some 36) (v := (.agg #[(.pointer y253)])) rfl rfl rfl (r_extract rfl rfl) ?_
                refine s_pu (d := some 37) (v := (.agg #[(.pointer y254)])) rfl rfl rfl (r_extract rfl rfl) ?_
                obtain ⟨p255, e256⟩ : ∃ p : Addr, p = ⟨h76.size, 0, none⟩ := ⟨_, rfl⟩
                obtain ⟨h77, e257⟩ : ∃ hh : Heap, hh = h76.push (.cells #[(.pointer none)] 26) := ⟨_, rfl⟩
                have H := H p255 h77 e256 e257
                obtain ⟨e258, H⟩ := H
                obtain ⟨e259, H⟩ := H
                obtain ⟨e260, H⟩ := H
                refine s_ef1 (d := some 7) (v := (.pointer (some p255))) (h' := h77) rfl rfl rfl (fun dr => (r_alloc Try.zeroValue26).trans (by rw [e256, e257]; rfl)) ⟨(.inl ⟨rfl, fun dr => r_loadN Try.isAgg26 Try.sizeOf26 (vs := [(.pointer x49)]) rfl rfl ⟨e258, trivial⟩⟩), (.inl ⟨rfl, fun dr => r_loadN Try.isAgg28 Try.sizeOf28 (vs := [(.pointer x47)]) rfl rfl ⟨e259, trivial⟩⟩), (.inl ⟨rfl, fun dr => r_loadN Try.isAgg26 Try.sizeOf26 (vs := [(.pointer x45)]) rfl rfl ⟨e260, trivial⟩⟩), trivial⟩ ?_ trivial
                obtain ⟨e262, H⟩ := H
                obtain ⟨h78, e261⟩ : ∃ hh : Heap, hh = hsets h77 p242 0 [(.pointer y253)] := ⟨_, rfl⟩
                have H := H h78 e261
                refine s_st (d := none) (h' := h78) rfl rfl rfl (fun dr => (r_store (v := (.agg #[(.pointer y253)])) Try.sizeOf26 rfl rfl rfl (one_all rfl) e262).trans (by rw [e261]; rfl)) ⟨trivial, trivial, trivial, trivial⟩ ?_ trivial
                obtain ⟨e264, H⟩ := H
                obtain ⟨h79, e263⟩ : ∃ hh : Heap, hh = hsets h78 p255 0 [(.pointer y254)] := ⟨_, rfl⟩
                have H := H h79 e263
                refine s_st (d := none) (h' := h79) rfl rfl rfl (fun dr => (r_store (v := (.agg #[(.pointer y254)])) Try.sizeOf26 rfl rfl rfl (one_all rfl) e264).trans (by rw [e263]; rfl)) ⟨trivial, trivial, trivial, trivial⟩ ?_ trivial
                refine s_fin ?_
                exact N_mk (l := [(2, (.pointer (some p3))), (3, (.pointer (some p6))), (4, (.pointer (some p9))), (5, (.pointer (some p12))), (6, (.pointer (some p242))), (7, (.pointer (some p255)))]) H ⟨rfl, rfl, rfl, rfl, rfl, rfl, trivial⟩
              · have H := H.2
                obtain ⟨p265, e266⟩ : ∃ p : Addr, p = ⟨h75.size, 0, none⟩ := ⟨_, rfl⟩
                obtain ⟨h80, e267⟩ : ∃ hh : Heap, hh = h75.push (.cells #[(.pointer none)] 26) := ⟨_, rfl⟩
                have H := H p265 h80 e266 e267
                obtain ⟨e268, H⟩ := H
                obtain ⟨e269, H⟩ := H
                obtain ⟨e270, H⟩ := H
                refine s_ef1 (d := some 7) (v := (.pointer (some p265))) (h' := h80) rfl rfl rfl (fun dr => (r_alloc Try.zeroValue26).trans (by rw [e266, e267]; rfl)) ⟨(.inl ⟨rfl, fun dr => r_loadN Try.isAgg26 Try.sizeOf26 (vs := [(.pointer x49)]) rfl rfl ⟨e268, trivial⟩⟩), (.inl ⟨rfl, fun dr => r_loadN Try.isAgg28 Try.sizeOf28 (vs := [(.pointer x47)]) rfl rfl ⟨e269, trivial⟩⟩), (.inl ⟨rfl, fun dr => r_loadN Try.isAgg26 Try.sizeOf26 (vs := [(.pointer x45)]) rfl rfl ⟨e270, trivial⟩⟩), trivial⟩ ?_ trivial
                refine s_ef (d := some 35) rfl rfl rfl (fun dr => r_call Try.call40 rfl rfl H) ?_ trivial
                rintro _ h81 ⟨y271, y272, rfl, H⟩
                refine ⟨⟨trivial, trivial, trivial, trivial⟩, ?_⟩
                refine s_pu (d := some 27) (v := (.tuple #[(.agg #[(.pointer y271)]), (.agg #[(.pointer y272)])])) rfl rfl rfl (r_move rfl) ?_
                refine s_pu (d := some 36) (v := (.agg #[(.pointer y271)])) rfl rfl rfl (r_extract rfl rfl) ?_
                refine s_pu (d := some 37) (v := (.agg #[(.pointer y272)])) rfl rfl rfl (r_extract rfl rfl) ?_
                obtain ⟨e274, H⟩ := H
                obtain ⟨h82, e273⟩ : ∃ hh : Heap, hh = hsets h81 p242 0 [(.pointer y271)] := ⟨_, rfl⟩
                have H := H h82 e273
                refine s_st (d := none) (h' := h82) rfl rfl rfl (fun dr => (r_store (v := (.agg #[(.pointer y271)])) Try.sizeOf26 rfl rfl rfl (one_all rfl) e274).trans (by rw [e273]; rfl)) ⟨trivial, trivial, trivial, trivial⟩ ?_ trivial
                obtain ⟨e276, H⟩ := H
                obtain ⟨h83, e275⟩ : ∃ hh : Heap, hh = hsets h82 p265 0 [(.pointer y272)] := ⟨_, rfl⟩
                have H := H h83 e275
                refine s_st (d := none) (h' := h83) rfl rfl rfl (fun dr => (r_store (v := (.agg #[(.pointer y272)])) Try.sizeOf26 rfl rfl rfl (one_all rfl) e276).trans (by rw [e275]; rfl)) ⟨trivial, trivial, trivial, trivial⟩ ?_ trivial
                refine s_fin ?_
                exact N_mk (l := [(2, (.pointer (some p3))), (3, (.pointer (some p6))), (4, (.pointer (some p9))), (5, (.pointer (some p12))), (6, (.pointer (some p242))), (7, (.pointer (some p265)))]) H ⟨rfl, rfl, rfl, rfl, rfl, rfl, trivial⟩
            · have H := H.2
              obtain ⟨p277, e278⟩ : ∃ p : Addr, p = ⟨h74.size, 0, none⟩ := ⟨_, rfl⟩
              obtain ⟨h84, e279⟩ : ∃ hh : Heap, hh = h74.push (.cells #[(.pointer none)] 26) := ⟨_, rfl⟩
              have H := H p277 h84 e278 e279
              obtain ⟨e280, H⟩ := H
              obtain ⟨e281, H⟩ := H
              obtain ⟨e282, H⟩ := H
              refine s_ef1 (d := some 7) (v := (.pointer (some p277))) (h' := h84) rfl rfl rfl (fun dr => (r_alloc Try.zeroValue26).trans (by rw [e278, e279]; rfl)) ⟨(.inl ⟨rfl, fun dr => r_loadN Try.isAgg26 Try.sizeOf26 (vs := [(.pointer x49)]) rfl rfl ⟨e280, trivial⟩⟩), (.inl ⟨rfl, fun dr => r_loadN Try.isAgg28 Try.sizeOf28 (vs := [(.pointer x47)]) rfl rfl ⟨e281, trivial⟩⟩), (.inl ⟨rfl, fun dr => r_loadN Try.isAgg26 Try.sizeOf26 (vs := [(.pointer x45)]) rfl rfl ⟨e282, trivial⟩⟩), trivial⟩ ?_ trivial
              refine s_ef (d := some 34) rfl rfl rfl (fun dr => r_call Try.call39 rfl rfl H) ?_ trivial
              rintro _ h85 ⟨y283, rfl, H⟩
              obtain ⟨e284, H⟩ := H
              refine ⟨⟨trivial, trivial, (.inl ⟨rfl, fun dr => r_loadN Try.isAgg26 Try.sizeOf26 (vs := [(.pointer x45)]) rfl rfl ⟨e284, trivial⟩⟩), trivial⟩, ?_⟩
              refine s_ef (d := some 35) rfl rfl rfl (fun dr => r_call Try.call40 rfl rfl H) ?_ trivial
              rintro _ h86 ⟨y285, y286, rfl, H⟩
              refine ⟨⟨trivial, trivial, trivial, trivial⟩, ?_⟩
              refine s_pu (d := some 27) (v := (.tuple #[(.agg #[(.pointer y285)]), (.agg #[(.pointer y286)])])) rfl rfl rfl (r_move rfl) ?_
              refine s_pu (d := some 36) (v := (.agg #[(.pointer y285)])) rfl rfl rfl (r_extract rfl rfl) ?_
              refine s_pu (d := some 37) (v := (.agg #[(.pointer y286)])) rfl rfl rfl (r_extract rfl rfl) ?_
              obtain ⟨e288, H⟩ := H
              obtain ⟨h87, e287⟩ : ∃ hh : Heap, hh = hsets h86 p242 0 [(.pointer y285)] := ⟨_, rfl⟩
              have H := H h87 e287
              refine s_st (d := none) (h' := h87) rfl rfl rfl (fun dr => (r_store (v := (.agg #[(.pointer y285)])) Try.sizeOf26 rfl rfl rfl (one_all rfl) e288).trans (by rw [e287]; rfl)) ⟨trivial, trivial, trivial, trivial⟩ ?_ trivial
              obtain ⟨e290, H⟩ := H
              obtain ⟨h88, e289⟩ : ∃ hh : Heap, hh = hsets h87 p277 0 [(.pointer y286)] := ⟨_, rfl⟩
              have H := H h88 e289
              refine s_st (d := none) (h' := h88) rfl rfl rfl (fun dr => (r_store (v := (.agg #[(.pointer y286)])) Try.sizeOf26 rfl rfl rfl (one_all rfl) e290).trans (by rw [e289]; rfl)) ⟨trivial, trivial, trivial, trivial⟩ ?_ trivial
              refine s_fin ?_
              exact N_mk (l := [(2, (.pointer (some p3))), (3, (.pointer (some p6))), (4, (.pointer (some p9))), (5, (.pointer (some p12))), (6, (.pointer (some p242))), (7, (.pointer (some p277)))]) H ⟨rfl, rfl, rfl, rfl, rfl, rfl, trivial⟩
          · have H := H.2
            obtain ⟨p291, e292⟩ : ∃ p : Addr, p = ⟨h73.size, 0, none⟩ := ⟨_, rfl⟩
            obtain ⟨h89, e293⟩ : ∃ hh : Heap, hh = h73.push (.cells #[(.pointer none)] 26) := ⟨_, rfl⟩
            have H := H p291 h89 e292 e293
            obtain ⟨e294, H⟩ := H
            obtain ⟨e295, H⟩ := H
            obtain ⟨e296, H⟩ := H
            refine s_ef1 (d := some 7) (v := (.pointer (some p291))) (h' := h89) rfl rfl rfl (fun dr => (r_alloc Try.zeroValue26).trans (by rw [e292, e293]; rfl)) ⟨(.inl ⟨rfl, fun dr => r_loadN Try.isAgg26 Try.sizeOf26 (vs := [(.pointer x49)]) rfl rfl ⟨e294, trivial⟩⟩), (.inl ⟨rfl, fun dr => r_loadN Try.isAgg28 Try.sizeOf28 (vs := [(.pointer x47)]) rfl rfl ⟨e295, trivial⟩⟩), (.inl ⟨rfl, fun dr => r_loadN Try.isAgg26 Try.sizeOf26 (vs := [(.pointer x45)]) rfl rfl ⟨e296, trivial⟩⟩), trivial⟩ ?_ trivial
            refine s_ef (d := some 33) rfl rfl rfl (fun dr => r_call Try.call63 rfl rfl H) ?_ trivial
            rintro _ h90 ⟨y297, rfl, H⟩
            obtain ⟨e298, H⟩ := H
            obtain ⟨e299, H⟩ := H
            refine ⟨⟨trivial, (.inl ⟨rfl, fun dr => r_loadN Try.isAgg28 Try.sizeOf28 (vs := [(.pointer x47)]) rfl rfl ⟨e298, trivial⟩⟩), (.inl ⟨rfl, fun dr => r_loadN Try.isAgg26 Try.sizeOf26 (vs := [(.pointer x45)]) rfl rfl ⟨e299, trivial⟩⟩), trivial⟩, ?_⟩
            refine s_ef (d := some 34) rfl rfl rfl (fun dr => r_call Try.call39 rfl rfl H) ?_ trivial
            rintro _ h91 ⟨y300, rfl, H⟩
            obtain ⟨e301, H⟩ := H
            refine ⟨⟨trivial, trivial, (.inl ⟨rfl, fun dr => r_loadN Try.isAgg26 Try.sizeOf26 (vs := [(.pointer x45)]) rfl rfl ⟨e301, trivial⟩⟩), trivial⟩, ?_⟩
            refine s_ef (d := some 35) rfl rfl rfl (fun dr => r_call Try.call40 rfl rfl H) ?_ trivial
            rintro _ h92 ⟨y302, y303, rfl, H⟩
            refine ⟨⟨trivial, trivial, trivial, trivial⟩, ?_⟩
            refine s_pu (d := some 27) (v := (.tuple #[(.agg #[(.pointer y302)]), (.agg #[(.pointer y303)])])) rfl rfl rfl (r_move rfl) ?_
            refine s_pu (d := some 36) (v := (.agg #[(.pointer y302)])) rfl rfl rfl (r_extract rfl rfl) ?_
            refine s_pu (d := some 37) (v := (.agg #[(.pointer y303)])) rfl rfl rfl (r_extract rfl rfl) ?_
            obtain ⟨e305, H⟩ := H
            obtain ⟨h93, e304⟩ : ∃ hh : Heap, hh = hsets h92 p242 0 [(.pointer y302)] := ⟨_, rfl⟩
            have H := H h93 e304
            refine s_st (d := none) (h' := h93) rfl rfl rfl (fun dr => (r_store (v := (.agg #[(.pointer y302)])) Try.sizeOf26 rfl rfl rfl (one_all rfl) e305).trans (by rw [e304]; rfl)) ⟨trivial, trivial, trivial, trivial⟩ ?_ trivial
            obtain ⟨e307, H⟩ := H
            obtain ⟨h94, e306⟩ : ∃ hh : Heap, hh = hsets h93 p291 0 [(.pointer y303)] := ⟨_, rfl⟩
            have H := H h94 e306
            refine s_st (d := none) (h' := h94) rfl rfl rfl (fun dr => (r_store (v := (.agg #[(.pointer y303)])) Try.sizeOf26 rfl rfl rfl (one_all rfl) e307).trans (by rw [e306]; rfl)) ⟨trivial, trivial, trivial, trivial⟩ ?_ trivial
            refine s_fin ?_
            exact N_mk (l := [(2, (.pointer (some p3))), (3, (.pointer (some p6))), (4, (.pointer (some p9))), (5, (.pointer (some p12))), (6, (.pointer (some p242))), (7, (.pointer (some p291)))]) H ⟨rfl, rfl, rfl, rfl, rfl, rfl, trivial⟩
        · have H := H.2.2
          obtain ⟨p308, e309⟩ : ∃ p : Addr, p = ⟨h9.size, 0, none⟩ := ⟨_, rfl⟩
          obtain ⟨h95, e310⟩ : ∃ hh : Heap, hh = h9.push (.cells #[(.pointer none)] 26) := ⟨_, rfl⟩
          have H := H p308 h95 e309 e310
          obtain ⟨e311, H⟩ := H
          obtain ⟨e312, H⟩ := H
          obtain ⟨e313, H⟩ := H
          refine s_ef1 (d := some 7) (v := (.pointer (some p308))) (h' := h95) rfl rfl rfl (fun dr => (r_alloc Try.zeroValue26).trans (by rw [e309, e310]; rfl)) ⟨(.inl ⟨rfl, fun dr => r_loadN Try.isAgg26 Try.sizeOf26 (vs := [(.pointer x49)]) rfl rfl ⟨e311, trivial⟩⟩), (.inl ⟨rfl, fun dr => r_loadN Try.isAgg28 Try.sizeOf28 (vs := [(.pointer x47)]) rfl rfl ⟨e312, trivial⟩⟩), (.inl ⟨rfl, fun dr => r_loadN Try.isAgg26 Try.sizeOf26 (vs := [(.pointer x45)]) rfl rfl ⟨e313, trivial⟩⟩), trivial⟩ ?_ trivial
          refine s_or ?_ ?_
          · have H := H.1
            refine s_ef (d := some 33) rfl rfl rfl (fun dr => r_call Try.call63 rfl rfl H) ?_ trivial
            rintro _ h96 ⟨y314, rfl, H⟩
            obtain ⟨e315, H⟩ := H
            obtain ⟨e316, H⟩ := H
            refine ⟨⟨trivial, (.inl ⟨rfl, fun dr => r_loadN Try.isAgg28 Try.sizeOf28 (vs := [(.pointer x47)]) rfl rfl ⟨e315, trivial⟩⟩), (.inl ⟨rfl, fun dr => r_loadN Try.isAgg26 Try.sizeOf26 (vs := [(.pointer x45)]) rfl rfl ⟨e316, trivial⟩⟩), trivial⟩, ?_⟩
            refine s_or ?_ ?_
            · have H := H.1
              refine s_ef (d := some 34) rfl rfl rfl (fun dr => r_call Try.call39 rfl rfl H) ?_ trivial
              rintro _ h97 ⟨y317, rfl, H⟩
              obtain ⟨e318, H⟩ := H
              refine ⟨⟨trivial, trivial, (.inl ⟨rfl, fun dr => r_loadN Try.isAgg26 Try.sizeOf26 (vs := [(.pointer x45)]) rfl rfl ⟨e318, trivial⟩⟩), trivial⟩, ?_⟩
              refine s_or ?_ ?_
              · have H := H.1
                refine s_ef (d := some 35) rfl rfl rfl (fun dr => r_call Try.call40 rfl rfl H) ?_ trivial
                rintro _ h98 ⟨y319, y320, rfl, H⟩
                refine ⟨⟨trivial, trivial, trivial, trivial⟩, ?_⟩
                refine s_pu (d := some 27) (v := (.tuple #[(.agg #[(.pointer y319)]), (.agg #[(.pointer y320)])])) rfl rfl rfl (r_move rfl) ?_
                refine s_pu (d := some 36) (v := (.agg #[(.pointer y319)])) rfl rfl rfl (r_extract rfl rfl) ?_
                refine s_pu (d := some 37) (v := (.agg #[(.pointer y320)])) rfl rfl rfl (r_extract rfl rfl) ?_
                obtain ⟨p321, e322⟩ : ∃ p : Addr, p = ⟨h98.size, 0, none⟩ := ⟨_, rfl⟩
                obtain ⟨h99, e323⟩ : ∃ hh : Heap, hh = h98.push (.cells #[(.pointer none)] 26) := ⟨_, rfl⟩
                have H := H p321 h99 e322 e323
                obtain ⟨e324, H⟩ := H
                obtain ⟨e325, H⟩ := H
                obtain ⟨e326, H⟩ := H
                refine s_ef1 (d := some 6) (v := (.pointer (some p321))) (h' := h99) rfl rfl rfl (fun dr => (r_alloc Try.zeroValue26).trans (by rw [e322, e323]; rfl)) ⟨(.inl ⟨rfl, fun dr => r_loadN Try.isAgg26 Try.sizeOf26 (vs := [(.pointer x49)]) rfl rfl ⟨e324, trivial⟩⟩), (.inl ⟨rfl, fun dr => r_loadN Try.isAgg28 Try.sizeOf28 (vs := [(.pointer x47)]) rfl rfl ⟨e325, trivial⟩⟩), (.inl ⟨rfl, fun dr => r_loadN Try.isAgg26 Try.sizeOf26 (vs := [(.pointer x45)]) rfl rfl ⟨e326, trivial⟩⟩), trivial⟩ ?_ trivial
                obtain ⟨e328, H⟩ := H
                obtain ⟨h100, e327⟩ : ∃ hh : Heap, hh = hsets h99 p321 0 [(.pointer y319)] := ⟨_, rfl⟩
                have H := H h100 e327
                refine s_st (d := none) (h' := h100) rfl rfl rfl (fun dr => (r_store (v := (.agg #[(.pointer y319)])) Try.sizeOf26 rfl rfl rfl (one_all rfl) e328).trans (by rw [e327]; rfl)) ⟨trivial, trivial, trivial, trivial⟩ ?_ trivial
                obtain ⟨e330, H⟩ := H
                obtain ⟨h101, e329⟩ : ∃ hh : Heap, hh = hsets h100 p308 0 [(.pointer y320)] := ⟨_, rfl⟩
                have H := H h101 e329
                refine s_st (d := none) (h' := h101) rfl rfl rfl (fun dr => (r_store (v := (.agg #[(.pointer y320)])) Try.sizeOf26 rfl rfl rfl (one_all rfl) e330).trans (by rw [e329]; rfl)) ⟨trivial, trivial, trivial, trivial⟩ ?_ trivial
                refine s_fin ?_
                exact N_mk (l := [(2, (.pointer (some p3))), (3, (.pointer (some p6))), (4, (.pointer (some p9))), (5, (.pointer (some p12))), (6, (.pointer (some p321))), (7, (.pointer (some p308)))]) H ⟨rfl, rfl, rfl, rfl, rfl, rfl, trivial⟩
              · have H := H.2
                obtain ⟨p331, e332⟩ : ∃ p : Addr, p = ⟨h97.size, 0, none⟩ := ⟨_, rfl⟩
                obtain ⟨h102, e333⟩ : ∃ hh : Heap, hh = h97.push (.cells #[(.pointer none)] 26) := ⟨_, rfl⟩
                have H := H p331 h102 e332 e333
                obtain ⟨e334, H⟩ := H
                obtain ⟨e335, H⟩ := H
                obtain ⟨e336, H⟩ := H
                refine s_ef1 (d := some 6) (v := (.pointer (some p331))) (h' := h102) rfl rfl rfl (fun dr => (r_alloc Try.zeroValue26).trans (by rw [e332, e333]; rfl)) ⟨(.inl ⟨rfl, fun dr => r_loadN Try.isAgg26 Try.sizeOf26 (vs := [(.pointer x49)]) rfl rfl ⟨e334, trivial⟩⟩), (.inl ⟨rfl, fun dr => r_loadN Try.isAgg28 Try.sizeOf28 (vs := [(.pointer x47)]) rfl rfl ⟨e335, trivial⟩⟩), (.inl ⟨rfl, fun dr => r_loadN Try.isAgg26 Try.sizeOf26 (vs := [(.pointer x45)]) rfl rfl ⟨e336, trivial⟩⟩), trivial⟩ ?_ trivial
                refine s_ef (d := some 35) rfl rfl rfl (fun dr => r_call Try.call40 rfl rfl H) ?_ trivial
                rintro _ h103 ⟨y337, y338, rfl, H⟩
                refine ⟨⟨trivial, trivial, trivial, trivial⟩, ?_⟩
                refine s_pu (d := some 27) (v := (.tuple #[(.agg #[(.pointer y337)]), (.agg #[(.pointer y338)])])) rfl rfl rfl (r_move rfl) ?_
                refine s_pu (d := some 36) (v := (.agg #[(.pointer y337)])) rfl rfl rfl (r_extract rfl rfl) ?_
                refine s_pu (d := some 37) (v := (.agg #[(.pointer y338)])) rfl rfl rfl (r_extract rfl rfl) ?_
                obtain ⟨e340, H⟩ := H
                obtain ⟨h104, e339⟩ : ∃ hh : Heap, hh = hsets h103 p331 0 [(.pointer y337)] := ⟨_, rfl⟩
                have H := H h104 e339
                refine s_st (d := none) (h' := h104) rfl rfl rfl (fun dr => (r_store (v := (.agg #[(.pointer y337)])) Try.sizeOf26 rfl rfl rfl (one_all rfl) e340).trans (by rw [e339]; rfl)) ⟨trivial, trivial, trivial, trivial⟩ ?_ trivial
                obtain ⟨e342, H⟩ := H
                obtain ⟨h105, e341⟩ : ∃ hh : Heap, hh = hsets h104 p308 0 [(.pointer y338)] := ⟨_, rfl⟩
                have H := H h105 e341
                refine s_st (d := none) (h' := h105) rfl rfl rfl (fun dr => (r_store (v := (.agg #[(.pointer y338)])) Try.sizeOf26 rfl rfl rfl (one_all rfl) e342).trans (by rw [e341]; rfl)) ⟨trivial, trivial, trivial, trivial⟩ ?_ trivial
                refine s_fin ?_
                exact N_mk (l := [(2, (.pointer (some p3))), (3, (.pointer (some p6))), (4, (.pointer (some p9))), (5, (.pointer (some p12))), (6, (.pointer (some p331))), (7, (.pointer (some p308)))]) H ⟨rfl, rfl, rfl, rfl, rfl, rfl, trivial⟩
            · have H := H.2
              obtain ⟨p343, e344⟩ : ∃ p : Addr, p = ⟨h96.size, 0, none⟩ := ⟨_, rfl⟩
              obtain ⟨h106, e345⟩ : ∃ hh : Heap, hh = h96.push (.cells #[(.pointer none)] 26) := ⟨_, rfl⟩
              have H := H p343 h106 e344 e345
              obtain ⟨e346, H⟩ := H
              obtain ⟨e347, H⟩ := H
              obtain ⟨e348, H⟩ := H
              refine s_ef1 (d := some 6) (v := (.pointer (some p343))) (h' := h106) rfl rfl rfl (fun dr => (r_alloc Try.zeroValue26).trans (by rw [e344, e345]; rfl)) ⟨(.inl ⟨rfl, fun dr => r_loadN Try.isAgg26 Try.sizeOf26 (vs := [(.pointer x49)]) rfl rfl ⟨e346, trivial⟩⟩), (.inl ⟨rfl, fun dr => r_loadN Try.isAgg28 Try.sizeOf28 (vs := [(.pointer x47)]) rfl rfl ⟨e347, trivial⟩⟩), (.inl ⟨rfl, fun dr => r_loadN Try.isAgg26 Try.sizeOf26 (vs := [(.pointer x45)]) rfl rfl ⟨e348, trivial⟩⟩), trivial⟩ ?_ trivial
              refine s_ef (d := some 34) rfl rfl rfl (fun dr => r_call Try.call39 rfl rfl H) ?_ trivial
              rintro _ h107 ⟨y349, rfl, H⟩
              obtain ⟨e350, H⟩ := H
              refine ⟨⟨trivial, trivial, (.inl ⟨rfl, fun dr => r_loadN Try.isAgg26 Try.sizeOf26 (vs := [(.pointer x45)]) rfl rfl ⟨e350, trivial⟩⟩), trivial⟩, ?_⟩
              refine s_ef (d := some 35) rfl rfl rfl (fun dr => r_call Try.call40 rfl rfl H) ?_ trivial
              rintro _ h108 ⟨y351, y352, rfl, H⟩
              refine ⟨⟨trivial, trivial, trivial, trivial⟩, ?_⟩
              refine s_pu (d := some 27) (v := (.tuple #[(.agg #[(.pointer y351)]), (.agg #[(.pointer y352)])])) rfl rfl rfl (r_move rfl) ?_
              refine s_pu (d := some 36) (v := (.agg #[(.pointer y351)])) rfl rfl rfl (r_extract rfl rfl) ?_
              refine s_pu (d := some 37) (v := (.agg #[(.pointer y352)])) rfl rfl rfl (r_extract rfl rfl) ?_
              obtain ⟨e354, H⟩ := H
              obtain ⟨h109, e353⟩ : ∃ hh : Heap, hh = hsets h108 p343 0 [(.pointer y351)] := ⟨_, rfl⟩
              have H := H h109 e353
              refine s_st (d := none) (h' := h109) rfl rfl rfl (fun dr => (r_store (v := (.agg #[(.pointer y351)])) Try.sizeOf26 rfl rfl rfl (one_all rfl) e354).trans (by rw [e353]; rfl)) ⟨trivial, trivial, trivial, trivial⟩ ?_ trivial
              obtain ⟨e356, H⟩ := H
              obtain ⟨h110, e355⟩ : ∃ hh : Heap, hh = hsets h109 p308 0 [(.pointer y352)] := ⟨_, rfl⟩
              have H := H h110 e355
              refine s_st (d := none) (h' := h110) rfl rfl rfl (fun dr => (r_store (v := (.agg #[(.pointer y352)])) Try.sizeOf26 rfl rfl rfl (one_all rfl) e356).trans (by rw [e355]; rfl)) ⟨trivial, trivial, trivial, trivial⟩ ?_ trivial
              refine s_fin ?_
              exact N_mk (l := [(2, (.pointer (some p3))), (3, (.pointer (some p6))), (4, (.pointer (some p9))), (5, (.pointer (some p12))), (6, (.pointer (some p343))), (7, (.pointer (some p308)))]) H ⟨rfl, rfl, rfl, rfl, rfl, rfl, trivial⟩
          · have H := H.2
            obtain ⟨p357, e358⟩ : ∃ p : Addr, p = ⟨h95.size, 0, none⟩ := ⟨_, rfl⟩
            obtain ⟨h111, e359⟩ : ∃ hh : Heap, hh = h95.push (.cells #[(.pointer none)] 26) := ⟨_, rfl⟩
            have H := H p357 h111 e358 e359
            obtain ⟨e360, H⟩ := H
            obtain ⟨e361, H⟩ := H
            obtain ⟨e362, H⟩ := H
            refine s_ef1 (d := some 6) (v := (.pointer (some p357))) (h' := h111) rfl rfl rfl (fun dr => (r_alloc Try.zeroValue26).trans (by rw [e358, e359]; rfl)) ⟨(.inl ⟨rfl, fun dr => r_loadN Try.isAgg26 Try.sizeOf26 (vs := [(.pointer x49)]) rfl rfl ⟨e360, trivial⟩⟩), (.inl ⟨rfl, fun dr => r_loadN Try.isAgg28 Try.sizeOf28 (vs := [(.pointer x47)]) rfl rfl ⟨e361, trivial⟩⟩), (.inl ⟨rfl, fun dr => r_loadN Try.isAgg26 Try.sizeOf26 (vs := [(.pointer x45)]) rfl rfl ⟨e362, trivial⟩⟩), trivial⟩ ?_ trivial
            refine s_ef (d := some 33) rfl rfl rfl (fun dr => r_call Try.call63 rfl rfl H) ?_ trivial
            rintro _ h112 ⟨y363, rfl, H⟩
            obtain ⟨e364, H⟩ := H
            obtain ⟨e365, H⟩ := H
            refine ⟨⟨trivial, (.inl ⟨rfl, fun dr => r_loadN Try.isAgg28 Try.sizeOf28 (vs := [(.pointer x47)]) rfl rfl ⟨e364, trivial⟩⟩), (.inl ⟨rfl, fun dr => r_loadN Try.isAgg26 Try.sizeOf26 (vs := [(.pointer x45)]) rfl rfl ⟨e365, trivial⟩⟩), trivial⟩, ?_⟩
            refine s_ef (d := some 34) rfl rfl rfl (fun dr => r_call Try.call39 rfl rfl H) ?_ trivial
            rintro _ h113 ⟨y366, rfl, H⟩
            obtain ⟨e367, H⟩ := H
            refine ⟨⟨trivial, trivial, (.inl ⟨rfl, fun dr => r_loadN Try.isAgg26 Try.sizeOf26 (vs := [(.pointer x45)]) rfl rfl ⟨e367, trivial⟩⟩), trivial⟩, ?_⟩
            refine s_ef (d := some 35) rfl rfl rfl (fun dr => r_call Try.call40 rfl rfl H) ?_ trivial
            rintro _ h114 ⟨y368, y369, rfl, H⟩
            refine ⟨⟨trivial, trivial, trivial, trivial⟩, ?_⟩
            refine s_pu (d := some 27) (v := (.tuple #[(.agg #[(.pointer y368)]), (.agg #[(.pointer y369)])])) rfl rfl rfl (r_move rfl) ?_
            refine s_pu (d := some 36) (v := (.agg #[(.pointer y368)])) rfl rfl rfl (r_extract rfl rfl) ?_
            refine s_pu (d := some 37) (v := (.agg #[(.pointer y369)])) rfl rfl rfl (r_extract rfl rfl) ?_
            obtain ⟨e371, H⟩ := H
            obtain ⟨h115, e370⟩ : ∃ hh : Heap, hh = hsets h114 p357 0 [(.pointer y368)] := ⟨_, rfl⟩
            have H := H h115 e370
            refine s_st (d := none) (h' := h115) rfl rfl rfl (fun dr => (r_store (v := (.agg #[(.pointer y368)])) Try.sizeOf26 rfl rfl rfl (one_all rfl) e371).trans (by rw [e370]; rfl)) ⟨trivial, trivial, trivial, trivial⟩ ?_ trivial
            obtain ⟨e373, H⟩ := H
            obtain ⟨h116, e372⟩ : ∃ hh : Heap, hh = hsets h115 p308 0 [(.pointer y369)] := ⟨_, rfl⟩
            have H := H h116 e372
            refine s_st (d := none) (h' := h116) rfl rfl rfl (fun dr => (r_store (v := (.agg #[(.pointer y369)])) Try.sizeOf26 rfl rfl rfl (one_all rfl) e373).trans (by rw [e372]; rfl)) ⟨trivial, trivial, trivial, trivial⟩ ?_ trivial
            refine s_fin ?_
            exact N_mk (l := [(2, (.pointer (some p3))), (3, (.pointer (some p6))), (4, (.pointer (some p9))), (5, (.pointer (some p12))), (6, (.pointer (some p357))), (7, (.pointer (some p308)))]) H ⟨rfl, rfl, rfl, rfl, rfl, rfl, trivial⟩)
      clear eN27
      refine W_if (decide (y23 < y25)) rfl (fun g382 => ?_) (fun g382 => ?_)
      · have H := H.1 g382
        refine W_region (.rl 0 (.rl 1 (.ef 2 [] (.ef 3 [] .fin .no) .no))) rfl rfl ?_
        obtain ⟨x374, e375, H⟩ := H
        refine s_rl (d := some 25) (v := (.agg #[(.pointer x374)])) rfl rfl rfl (fun dr => r_loadN Try.isAgg28 Try.sizeOf28 (vs := [(.pointer x374)]) rfl rfl ⟨e375, trivial⟩) ?_
        obtain ⟨x376, e377, H⟩ := H
        refine s_rl (d := some 26) (v := (.agg #[(.pointer x376)])) rfl rfl rfl (fun dr => r_loadN Try.isAgg28 Try.sizeOf28 (vs := [(.pointer x376)]) rfl rfl ⟨e377, trivial⟩) ?_
        obtain ⟨e379, H⟩ := H
        obtain ⟨h117, e378⟩ : ∃ hh : Heap, hh = hsets h8 p3 0 [(.pointer x374)] := ⟨_, rfl⟩
        have H := H h117 e378
        refine s_st (d := none) (h' := h117) rfl rfl rfl (fun dr => (r_store (v := (.agg #[(.pointer x374)])) Try.sizeOf28 rfl rfl rfl (one_all rfl) e379).trans (by rw [e378]; rfl)) trivial ?_ trivial
        obtain ⟨e381, H⟩ := H
        obtain ⟨h118, e380⟩ : ∃ hh : Heap, hh = hsets h117 p6 0 [(.pointer x376)] := ⟨_, rfl⟩
        have H := H h118 e380
        refine s_st (d := none) (h' := h118) rfl rfl rfl (fun dr => (r_store (v := (.agg #[(.pointer x376)])) Try.sizeOf28 rfl rfl rfl (one_all rfl) e381).trans (by rw [e380]; rfl)) trivial ?_ trivial
        refine s_fin ?_
        exact N_mk (l := [(2, (.pointer (some p3))), (3, (.pointer (some p6))), (4, (.pointer (some p9))), (5, (.pointer (some p12)))]) H ⟨rfl, rfl, rfl, rfl, trivial⟩
      · have H := H.2 g382
        refine W_skip ?_
        exact N_mk (l := [(2, (.pointer (some p3))), (3, (.pointer (some p6))), (4, (.pointer (some p9))), (5, (.pointer (some p12)))]) H ⟨rfl, rfl, rfl, rfl, trivial⟩
    · have H := H.2 g396
      refine W_exit (inX_here ?_)
      show W _ _ _ _ _ _ _ _
      refine W_seq ?_
      refine W_draw [0, 1, 0, 4, 15, 0, 32, 127, 255, 511] (.pu 0 (.rd 1 (.pu 2 (.rd 3 (.pu 5 (.rd 6 (.ef 4 [1, 3] (.ef 7 [1, 3, 6] (.pu 8 (.ef 9 [1, 3, 6] .fin .no)) .no) .no))))))) (by kernel_rfl) (by kernel_rfl) ?_
      refine s_pu (d := some 45) (v := (.pointer (some (Addr.add p12 0)))) rfl rfl rfl (r_fieldAddr Try.underlying28 Try.sizeOf26 rfl rfl rfl) ?_
      obtain ⟨x383, e384, H⟩ := H
      refine s_rd (d := some 46) (v := (.agg #[(.pointer x383)])) rfl rfl rfl (fun dr => r_loadN Try.isAgg26 Try.sizeOf26 (vs := [(.pointer x383)]) rfl rfl ⟨e384, trivial⟩) ?_
      refine s_pu (d := some 47) (v := (.pointer (some (Addr.add p3 0)))) rfl rfl rfl (r_fieldAddr Try.underlying28 Try.sizeOf26 rfl rfl rfl) ?_
      obtain ⟨x385, e386, H⟩ := H
      refine s_rd (d := some 48) (v := (.agg #[(.pointer x385)])) rfl rfl rfl (fun dr => r_loadN Try.isAgg26 Try.sizeOf26 (vs := [(.pointer x385)]) rfl rfl ⟨e386, trivial⟩) ?_
      refine s_pu (d := some 50) (v := (.pointer (some (Addr.add p6 0)))) rfl rfl rfl (r_fieldAddr Try.underlying28 Try.sizeOf26 rfl rfl rfl) ?_
      obtain ⟨x387, e388, H⟩ := H
      refine s_rd (d := some 51) (v := (.agg #[(.pointer x387)])) rfl rfl rfl (fun dr => r_loadN Try.isAgg26 Try.sizeOf26 (vs := [(.pointer x387)]) rfl rfl ⟨e388, trivial⟩) ?_
      refine s_ef (d := some 49) rfl rfl rfl (fun dr => r_call Try.call64 rfl rfl H) ?_ trivial
      rintro _ h119 ⟨y389, rfl, H⟩
      obtain ⟨e390, H⟩ := H
      refine ⟨⟨(.inl ⟨rfl, fun dr => r_loadN Try.isAgg26 Try.sizeOf26 (vs := [(.pointer x387)]) rfl rfl ⟨e390, trivial⟩⟩), trivial, trivial, trivial⟩, ?_⟩
      refine s_ef (d := some 52) rfl rfl rfl (fun dr => r_call Try.call64 rfl rfl H) ?_ trivial
      rintro _ h120 ⟨y391, rfl, H⟩
      refine ⟨⟨trivial, trivial, trivial, trivial⟩, ?_⟩
      refine s_pu (d := some 53) (v := (.agg #[(.pointer y391)])) rfl rfl rfl (fun w => by kernel_rfl) ?_
      obtain ⟨e393, H⟩ := H
      obtain ⟨h121, e392⟩ : ∃ hh : Heap, hh = hsets h120 p9 0 [(.pointer y391)] := ⟨_, rfl⟩
      have H := H h121 e392
      refine s_st (d := none) (h' := h121) rfl rfl rfl (fun dr => (r_store (v := (.agg #[(.pointer y391)])) Try.sizeOf28 rfl rfl rfl (one_all rfl) e393).trans (by rw [e392]; rfl)) ⟨trivial, trivial, trivial, trivial⟩ ?_ trivial
      refine s_fin ?_
      show W _ _ _ _ _ _ _ _
      refine W_ret ?_
      obtain ⟨x394, e395, H⟩ := H
      exact ⟨[(.agg #[(.pointer x394)])], ⟨_, _, _, rfl, rfl, fun dr => run_loadVarN Try.isAgg28 Try.sizeOf28 (vs := [(.pointer x394)]) rfl ⟨e395, trivial⟩, rfl⟩, x394, rfl, H⟩)
  clear eN18
  refine W_region (.pu 0 (.rl 1 (.ef 2 [] (.pu 3 (.pu 4 (.pu 5 (.rl 6 (.ef 7 [] (.pu 8 (.pu 9 .fin)) .no))))) .no))) rfl rfl ?_
  refine s_pu (d := some 8) (v := (.pointer (some (Addr.add p3 0)))) rfl rfl rfl (r_fieldAddr Try.underlying28 Try.sizeOf26 rfl rfl rfl) ?_
  obtain ⟨x397, e398, H⟩ := H
  refine s_rl (d := some 9) (v := (.agg #[(.pointer x397)])) rfl rfl rfl (fun dr => r_loadN Try.isAgg26 Try.sizeOf26 (vs := [(.pointer x397)]) rfl rfl ⟨e398, trivial⟩) ?_
  refine s_ef (d := some 10) rfl rfl rfl (fun dr => r_call Try.call62 rfl rfl H) ?_ trivial
  rintro _ h122 ⟨y399, rfl, H⟩
  refine ⟨trivial, ?_⟩
  refine s_pu (d := some 11) (v := (.bool (decide (0 < y399)))) rfl rfl rfl (r_gtr rfl rfl) ?_
  refine s_pu (d := some 12) (v := (.bool (decide (0 < y399)))) rfl rfl rfl (r_move rfl) ?_
  rcases Bool.eq_false_or_eq_true (decide (0 < y399)) with g400 | g400
  · have H := H.1 g400
    refine s_pu (d := some 13) (v := (.pointer (some (Addr.add p6 0)))) rfl rfl (wants_yes rfl rfl rfl rfl g400) (r_fieldAddr Try.underlying28 Try.sizeOf26 rfl rfl rfl) ?_
    obtain ⟨x401, e402, H⟩ := H
    refine s_rl (d := some 14) (v := (.agg #[(.pointer x401)])) rfl rfl (wants_yes rfl rfl rfl rfl g400) (fun dr => r_loadN Try.isAgg26 Try.sizeOf26 (vs := [(.pointer x401)]) rfl rfl ⟨e402, trivial⟩) ?_
    refine s_ef (d := some 15) rfl rfl (wants_yes rfl rfl rfl rfl g400) (fun dr => r_call Try.call62 rfl rfl H) ?_ trivial
    rintro _ h123 ⟨y403, rfl, H⟩
    refine ⟨trivial, ?_⟩
    refine s_pu (d := some 16) (v := (.bool (decide (0 < y403)))) rfl rfl (wants_yes rfl rfl rfl rfl g400) (r_gtr rfl rfl) ?_
    refine s_pu (d := some 17) (v := (.bool (decide (0 < y403)))) rfl rfl rfl (r_pick1 rfl g400 rfl) ?_
    refine s_fin ?_
    exact N_mk (l := [(2, (.pointer (some p3))), (3, (.pointer (some p6))), (4, (.pointer (some p9))), (5, (.pointer (some p12))), (17, (.bool (decide (0 < y403))))]) H ⟨rfl, rfl, rfl, rfl, rfl, trivial⟩
  · have H := H.2 g400
    refine s_sk (d := some 13) rfl rfl (wants_no rfl rfl rfl rfl g400) ?_
    refine s_skl (d := some 14) rfl rfl (wants_no rfl rfl rfl rfl g400) ?_
    refine s_skf (d := some 15) rfl rfl (wants_no rfl rfl rfl rfl g400) trivial ?_ trivial
    refine s_sk (d := some 16) rfl rfl (wants_no rfl rfl rfl rfl g400) ?_
    refine s_pu (d := some 17) (v := (.bool false)) rfl rfl rfl (r_pick0 rfl g400 rfl) ?_
    refine s_fin ?_
    exact N_mk (l := [(2, (.pointer (some p3))), (3, (.pointer (some p6))), (4, (.pointer (some p9))), (5, (.pointer (some p12))), (17, (.bool false))]) H ⟨rfl, rfl, rfl, rfl, rfl, trivial⟩

/-! ### ord_Order_from -/

def ord_Order_from_F (r : World) (o1 : Option Addr) (x2 : Int) (h : Heap) (R : Int → Heap → Prop) : Prop :=
  New h (.cells #[(.pointer o1)] 28) fun p3 h1 =>
  New h1 (.cells #[(.int .i64 x2)] 3) fun p6 h2 =>
  LdP h2 (Addr.add (Addr.add p3 0) 0) fun x9 =>
  finger_Many_int_ord_last_ord_lasts_Find r x9 ((.func (.func 66) #[] #[(.pointer (some p6))])) h2 fun y11 h3 =>
  R y11 h3

set_option maxRecDepth 100000 in
theorem ord_Order_from_of {r : World} {o1 : Option Addr} {x2 : Int} {h : Heap} {R : Int → Heap → Prop} (H : ord_Order_from_F r o1 x2 h R) : ord_Order_from r o1 x2 h R := by
  unfold ord_Order_from_F at H
  refine calls_of 9 [.tmp 4] Try.func38 rfl rfl rfl rfl rfl ?_
  refine W_seq ?_
  refine W_region (.ef 0 [] (.ef 1 [] (.pu 2 .fin) .no) .no) rfl rfl ?_
  obtain ⟨p3, e4⟩ : ∃ p : Addr, p = ⟨h.size, 0, none⟩ := ⟨_, rfl⟩
  obtain ⟨h1, e5⟩ : ∃ hh : Heap, hh = h.push (.cells #[(.pointer o1)] 28) := ⟨_, rfl⟩
  have H := H p3 h1 e4 e5
  refine s_ef1 (d := some 2) (v := (.pointer (some p3))) (h' := h1) rfl rfl rfl (fun dr => (r_box (v := (.agg #[(.pointer o1)])) rfl).trans (by rw [e4, e5]; rfl)) trivial ?_ trivial
  obtain ⟨p6, e7⟩ : ∃ p : Addr, p = ⟨h1.size, 0, none⟩ := ⟨_, rfl⟩
  obtain ⟨h2, e8⟩ : ∃ hh : Heap, hh = h1.push (.cells #[(.int .i64 x2)] 3) := ⟨_, rfl⟩
  have H := H p6 h2 e7 e8
  refine s_ef1 (d := some 3) (v := (.pointer (some p6))) (h' := h2) rfl rfl rfl (fun dr => (r_box (v := (.int .i64 x2)) rfl).trans (by rw [e7, e8]; rfl)) trivial ?_ trivial
  refine s_pu (d := some 4) (v := (.int .i64 0)) rfl rfl rfl (r_assign rfl) ?_
  refine s_fin ?_
  show W _ _ _ _ _ _ _ _
  refine W_seq ?_
  refine W_region (.pu 0 (.rl 1 (.pu 2 (.ef 3 [] (.pu 4 .fin) .no)))) rfl rfl ?_
  refine s_pu (d := some 5) (v := (.pointer (some (Addr.add p3 0)))) rfl rfl rfl (r_fieldAddr Try.underlying28 Try.sizeOf26 rfl rfl rfl) ?_
  obtain ⟨x9, e10, H⟩ := H
  refine s_rl (d := some 6) (v := (.agg #[(.pointer x9)])) rfl rfl rfl (fun dr => r_loadN Try.isAgg26 Try.sizeOf26 (vs := [(.pointer x9)]) rfl rfl ⟨e10, trivial⟩) ?_
  refine s_pu (d := some 7) (v := ((.func (.func 66) #[] #[(.pointer (some p6))]))) rfl rfl rfl (r_makeFunc rfl rfl) ?_
  refine s_ef (d := some 8) rfl rfl rfl (fun dr => r_call Try.call65 rfl rfl H) ?_ trivial
  rintro _ h3 ⟨y11, rfl, H⟩
  refine ⟨trivial, ?_⟩
  refine s_pu (d := some 4) (v := (.int .i64 y11)) rfl rfl rfl (r_assign rfl) ?_
  refine s_fin ?_
  show W _ _ _ _ _ _ _ _
  refine W_ret ?_
  exact ⟨[(.int .i64 y11)], ⟨_, _, rfl, rfl, rfl⟩, y11, rfl, H⟩

/-! ### ord_Order_behind -/

def ord_Order_behind_F (r : World) (o1 : Option Addr) (x2 : Int) (h : Heap) (R : Int → Heap → Prop) : Prop :=
  New h (.cells #[(.pointer o1)] 28) fun p3 h1 =>
  New h1 (.cells #[(.int .i64 x2)] 3) fun p6 h2 =>
  LdP h2 (Addr.add (Addr.add p3 0) 0) fun x9 =>
  finger_Many_int_ord_last_ord_lasts_Find r x9 ((.func (.func 67) #[] #[(.pointer (some p6))])) h2 fun y11 h3 =>
  R y11 h3

set_option maxRecDepth 100000 in
theorem ord_Order_behind_of {r : World} {o1 : Option Addr} {x2 : Int} {h : Heap} {R : Int → Heap → Prop} (H : ord_Order_behind_F r o1 x2 h R) : ord_Order_behind r o1 x2 h R := by
  unfold ord_Order_behind_F at H
  refine calls_of 9 [.tmp 4] Try.func39 rfl rfl rfl rfl rfl ?_
  refine W_seq ?_
  refine W_region (.ef 0 [] (.ef 1 [] (.pu 2 .fin) .no) .no) rfl rfl ?_
  obtain ⟨p3, e4⟩ : ∃ p : Addr, p = ⟨h.size, 0, none⟩ := ⟨_, rfl⟩
  obtain ⟨h1, e5⟩ : ∃ hh : Heap, hh = h.push (.cells #[(.pointer o1)] 28) := ⟨_, rfl⟩
  have H := H p3 h1 e4 e5
  refine s_ef1 (d := some 2) (v := (.pointer (some p3))) (h' := h1) rfl rfl rfl (fun dr => (r_box (v := (.agg #[(.pointer o1)])) rfl).trans (by rw [e4, e5]; rfl)) trivial ?_ trivial
  obtain ⟨p6, e7⟩ : ∃ p : Addr, p = ⟨h1.size, 0, none⟩ := ⟨_, rfl⟩
  obtain ⟨h2, e8⟩ : ∃ hh : Heap, hh = h1.push (.cells #[(.int .i64 x2)] 3) := ⟨_, rfl⟩
  have H := H p6 h2 e7 e8
  refine s_ef1 (d := some 3) (v := (.pointer (some p6))) (h' := h2) rfl rfl rfl (fun dr => (r_box (v := (.int .i64 x2)) rfl).trans (by rw [e7, e8]; rfl)) trivial ?_ trivial
  refine s_pu (d := some 4) (v := (.int .i64 0)) rfl rfl rfl (r_assign rfl) ?_
  refine s_fin ?_
  show W _ _ _ _ _ _ _ _
  refine W_seq ?_
  refine W_region (.pu 0 (.rl 1 (.pu 2 (.ef 3 [] (.pu 4 .fin) .no)))) rfl rfl ?_
  refine s_pu (d := some 5) (v := (.pointer (some (Addr.add p3 0)))) rfl rfl rfl (r_fieldAddr Try.underlying28 Try.sizeOf26 rfl rfl rfl) ?_
  obtain ⟨x9, e10, H⟩ := H
  refine s_rl (d := some 6) (v := (.agg #[(.pointer x9)])) rfl rfl rfl (fun dr => r_loadN Try.isAgg26 Try.sizeOf26 (vs := [(.pointer x9)]) rfl rfl ⟨e10, trivial⟩) ?_
  refine s_pu (d := some 7) (v := ((.func (.func 67) #[] #[(.pointer (some p6))]))) rfl rfl rfl (r_makeFunc rfl rfl) ?_
  refine s_ef (d := some 8) rfl rfl rfl (fun dr => r_call Try.call65 rfl rfl H) ?_ trivial
  rintro _ h3 ⟨y11, rfl, H⟩
  refine ⟨trivial, ?_⟩
  refine s_pu (d := some 4) (v := (.int .i64 y11)) rfl rfl rfl (r_assign rfl) ?_
  refine s_fin ?_
  show W _ _ _ _ _ _ _ _
  refine W_ret ?_
  exact ⟨[(.int .i64 y11)], ⟨_, _, rfl, rfl, rfl⟩, y11, rfl, H⟩

/-! ### ord_Order_from_1 -/

def ord_Order_from_1_F (r : World) (s1 : Bool) (s2 : Int) (c3 : Addr) (h : Heap) (R : Bool → Heap → Prop) : Prop :=
  New h (.cells #[(.bool s1), (.int .i64 s2)] 83) fun p4 h1 =>
  ∀ J8 : Bool → Prop, (∀ (x7 : Bool),
    (R x7 h1) →
    J8 x7) →
  LdB h1 (Addr.add p4 0) fun x10 =>
  Br x10 (
    LdI h1 (Addr.add p4 1) fun x13 =>
    LdI h1 c3 fun x15 =>
    J8 (decide (x15 ≤ x13))) (
    J8 false)

set_option maxRecDepth 100000 in
theorem ord_Order_from_1_of {r : World} {s1 : Bool} {s2 : Int} {c3 : Addr} {h : Heap} {R : Bool → Heap → Prop} (H : ord_Order_from_1_F r s1 s2 c3 h R) : ord_Order_from_1 r s1 s2 c3 h R := by
  unfold ord_Order_from_1_F at H
  refine calls_of 12 [.tmp 3] Try.func66 rfl rfl rfl rfl rfl ?_
  refine W_seq ?_
  refine W_region (.ef 0 [] (.pu 1 .fin) .no) rfl rfl ?_
  obtain ⟨p4, e5⟩ : ∃ p : Addr, p = ⟨h.size, 0, none⟩ := ⟨_, rfl⟩
  obtain ⟨h1, e6⟩ : ∃ hh : Heap, hh = h.push (.cells #[(.bool s1), (.int .i64 s2)] 83) := ⟨_, rfl⟩
  have H := H p4 h1 e5 e6
  refine s_ef1 (d := some 2) (v := (.pointer (some p4))) (h' := h1) rfl rfl rfl (fun dr => (r_box (v := (.agg #[(.bool s1), (.int .i64 s2)])) rfl).trans (by rw [e5, e6]; rfl)) trivial ?_ trivial
  refine s_pu (d := some 3) (v := (.bool false)) rfl rfl rfl (r_assign rfl) ?_
  refine s_fin ?_
  show W _ _ _ _ _ _ _ _
  refine W_seq ?_
  refine W_set ?_
  intro N9 eN9
  have H := H (fun (x7 : Bool) => ∀ b, N9 [] (mkE [(3, (.bool x7))] b) h1) (by
    intro x7 H b
    rw [eN9]
    show W _ _ _ _ _ _ _ _
    refine W_ret ?_
    exact ⟨[(.bool x7)], ⟨_, _, rfl, rfl, rfl⟩, x7, rfl, H⟩)
  clear eN9
  refine W_region (.pu 0 (.rl 1 (.pu 2 (.pu 3 (.rl 4 (.rl 5 (.pu 6 (.pu 7 (.pu 8 .fin))))))))) rfl rfl ?_
  refine s_pu (d := some 4) (v := (.pointer (some (Addr.add p4 0)))) rfl rfl rfl (r_fieldAddr Try.underlying83 Try.sizeOf4 rfl rfl rfl) ?_
  obtain ⟨x10, e11, H⟩ := H
  refine s_rl (d := some 5) (v := (.bool x10)) rfl rfl rfl (fun dr => r_load1 Try.isAgg4 rfl e11) ?_
  refine s_pu (d := some 6) (v := (.bool x10)) rfl rfl rfl (r_move rfl) ?_
  rcases Bool.eq_false_or_eq_true x10 with g12 | g12
  · have H := H.1 g12
    refine s_pu (d := some 7) (v := (.pointer (some (Addr.add p4 1)))) rfl rfl (wants_yes rfl rfl rfl rfl g12) (r_fieldAddr Try.underlying83 Try.sizeOf3 rfl rfl rfl) ?_
    obtain ⟨x13, e14, H⟩ := H
    refine s_rl (d := some 8) (v := (.int .i64 x13)) rfl rfl (wants_yes rfl rfl rfl rfl g12) (fun dr => r_load1 Try.isAgg3 rfl e14) ?_
    obtain ⟨x15, e16, H⟩ := H
    refine s_rl (d := some 9) (v := (.int .i64 x15)) rfl rfl (wants_yes rfl rfl rfl rfl g12) (fun dr => r_load1 Try.isAgg3 rfl e16) ?_
    refine s_pu (d := some 10) (v := (.bool (decide (x15 ≤ x13)))) rfl rfl (wants_yes rfl rfl rfl rfl g12) (r_geq rfl rfl) ?_
    refine s_pu (d := some 11) (v := (.bool (decide (x15 ≤ x13)))) rfl rfl rfl (r_pick1 rfl g12 rfl) ?_
    refine s_pu (d := some 3) (v := (.bool (decide (x15 ≤ x13)))) rfl rfl rfl (r_assign rfl) ?_
    refine s_fin ?_
    exact N_mk (l := [(3, (.bool (decide (x15 ≤ x13))))]) H ⟨rfl, trivial⟩
  · have H := H.2 g12
    refine s_sk (d := some 7) rfl rfl (wants_no rfl rfl rfl rfl g12) ?_
    refine s_skl (d := some 8) rfl rfl (wants_no rfl rfl rfl rfl g12) ?_
    refine s_skl (d := some 9) rfl rfl (wants_no rfl rfl rfl rfl g12) ?_
    refine s_sk (d := some 10) rfl rfl (wants_no rfl rfl rfl rfl g12) ?_
    refine s_pu (d := some 11) (v := (.bool false)) rfl rfl rfl (r_pick0 rfl g12 rfl) ?_
    refine s_pu (d := some 3) (v := (.bool false)) rfl rfl rfl (r_assign rfl) ?_
    refine s_fin ?_
    exact N_mk (l := [(3, (.bool false))]) H ⟨rfl, trivial⟩

/-! ### ord_Order_behind_1 -/

def ord_Order_behind_1_F (r : World) (s1 : Bool) (s2 : Int) (c3 : Addr) (h : Heap) (R : Bool → Heap → Prop) : Prop :=
  New h (.cells #[(.bool s1), (.int .i64 s2)] 83) fun p4 h1 =>
  ∀ J8 : Bool → Prop, (∀ (x7 : Bool),
    (R x7 h1) →
    J8 x7) →
  LdB h1 (Addr.add p4 0) fun x10 =>
  Br x10 (
    LdI h1 (Addr.add p4 1) fun x13 =>
    LdI h1 c3 fun x15 =>
    J8 (decide (x15 < x13))) (
    J8 false)

set_option maxRecDepth 100000 in
theorem ord_Order_behind_1_of {r : World} {s1 : Bool} {s2 : Int} {c3 : Addr} {h : Heap} {R : Bool → Heap → Prop} (H : ord_Order_behind_1_F r s1 s2 c3 h R) : ord_Order_behind_1 r s1 s2 c3 h R := by
  unfold ord_Order_behind_1_F at H
  refine calls_of 12 [.tmp 3] Try.func67 rfl rfl rfl rfl rfl ?_
  refine W_seq ?_
  refine W_region (.ef 0 [] (.pu 1 .fin) .no) rfl rfl ?_
  obtain ⟨p4, e5⟩ : ∃ p : Addr, p = ⟨h.size, 0, none⟩ := ⟨_, rfl⟩
  obtain ⟨h1, e6⟩ : ∃ hh : Heap, hh = h.push (.cells #[(.bool s1), (.int .i64 s2)] 83) := ⟨_, rfl⟩
  have H := H p4 h1 e5 e6
  refine s_ef1 (d := some 2) (v := (.pointer (some p4))) (h' := h1) rfl rfl rfl (fun dr => (r_box (v := (.agg #[(.bool s1), (.int .i64 s2)])) rfl).trans (by rw [e5, e6]; rfl)) trivial ?_ trivial
  refine s_pu (d := some 3) (v := (.bool false)) rfl rfl rfl (r_assign rfl) ?_
  refine s_fin ?_
  show W _ _ _ _ _ _ _ _
  refine W_seq ?_
  refine W_set ?_
  intro N9 eN9
  have H := H (fun (x7 : Bool) => ∀ b, N9 [] (mkE [(3, (.bool x7))] b) h1) (by
    intro x7 H b
    rw [eN9]
    show W _ _ _ _ _ _ _ _
    refine W_ret ?_
    exact ⟨[(.bool x7)], ⟨_, _, rfl, rfl, rfl⟩, x7, rfl, H⟩)
  clear eN9
  refine W_region (.pu 0 (.rl 1 (.pu 2 (.pu 3 (.rl 4 (.rl 5 (.pu 6 (.pu 7 (.pu 8 .fin))))))))) rfl rfl ?_
  refine s_pu (d := some 4) (v := (.pointer (some (Addr.add p4 0)))) rfl rfl rfl (r_fieldAddr Try.underlying83 Try.sizeOf4 rfl rfl rfl) ?_
  obtain ⟨x10, e11, H⟩ := H
  refine s_rl (d := some 5) (v := (.bool x10)) rfl rfl rfl (fun dr => r_load1 Try.isAgg4 rfl e11) ?_
  refine s_pu (d := some 6) (v := (.bool x10)) rfl rfl rfl (r_move rfl) ?_
  rcases Bool.eq_false_or_eq_true x10 with g12 | g12
  · have H := H.1 g12
    refine s_pu (d := some 7) (v := (.pointer (some (Addr.add p4 1)))) rfl rfl (wants_yes rfl rfl rfl rfl g12) (r_fieldAddr Try.underlying83 Try.sizeOf3 rfl rfl rfl) ?_
    obtain ⟨x13, e14, H⟩ := H
    refine s_rl (d := some 8) (v := (.int .i64 x13)) rfl rfl (wants_yes rfl rfl rfl rfl g12) (fun dr => r_load1 Try.isAgg3 rfl e14) ?_
    obtain ⟨x15, e16, H⟩ := H
    refine s_rl (d := some 9) (v := (.int .i64 x15)) rfl rfl (wants_yes rfl rfl rfl rfl g12) (fun dr => r_load1 Try.isAgg3 rfl e16) ?_
    refine s_pu (d := some 10) (v := (.bool (decide (x15 < x13)))) rfl rfl (wants_yes rfl rfl rfl rfl g12) (r_gtr rfl rfl) ?_
    refine s_pu (d := some 11) (v := (.bool (decide (x15 < x13)))) rfl rfl rfl (r_pick1 rfl g12 rfl) ?_
    refine s_pu (d := some 3) (v := (.bool (decide (x15 < x13)))) rfl rfl rfl (r_assign rfl) ?_
    refine s_fin ?_
    exact N_mk (l := [(3, (.bool (decide (x15 < x13))))]) H ⟨rfl, trivial⟩
  · have H := H.2 g12
    refine s_sk (d := some 7) rfl rfl (wants_no rfl rfl rfl rfl g12) ?_
    refine s_skl (d := some 8) rfl rfl (wants_no rfl rfl rfl rfl g12) ?_
    refine s_skl (d := some 9) rfl rfl (wants_no rfl rfl rfl rfl g12) ?_
    refine s_sk (d := some 10) rfl rfl (wants_no rfl rfl rfl rfl g12) ?_
    refine s_pu (d := some 11) (v := (.bool false)) rfl rfl rfl (r_pick0 rfl g12 rfl) ?_
    refine s_pu (d := some 3) (v := (.bool false)) rfl rfl rfl (r_assign rfl) ?_
    refine s_fin ?_
    exact N_mk (l := [(3, (.bool false))]) H ⟨rfl, trivial⟩

end Go.Proofs.Ytikccpmhoioaeaa
