/- Typed words of functions, and that they hold: printed by gen.py (an own tool of this claim) off the model's own form of each function. -/
import Derived.Test.YtcafckgflpmfgaaDoorProg
import Derived.Test.YtcafckgflpmfgaaDoorDVOMan
namespace Go.Proofs.YtcafckgflpmfgaaDoor
open Go Go.RowKit Go.Tw
set_option linter.unusedVariables false



/-! ### the calls -/

abbrev ord_Order_Insert (r : World) (o1 : Option Addr) (x2 : Int) (h : Heap) (R : Option Addr → Heap → Prop) : Prop :=
  CallsH Tryd.prog r 101 [(.agg #[(.pointer o1)]), (.int .i64 x2)] h fun v h' => ∃ (y3 : Option Addr), v = (.agg #[(.pointer y3)]) ∧ R y3 h'

theorem ord_Order_Insert.mono {r : World} {o1 : Option Addr} {x2 : Int} {h : Heap} {R R' : Option Addr → Heap → Prop} (H : ord_Order_Insert r o1 x2 h R) (hr : ∀ y3 h, R y3 h → R' y3 h) : ord_Order_Insert r o1 x2 h R' :=
  CallsH.mono H fun _ _ hx => by
    obtain ⟨y3, hv, hR⟩ := hx
    exact ⟨y3, hv, hr _ _ hR⟩

abbrev ord_Order_Between (r : World) (o1 : Option Addr) (low2 : Int) (high3 : Int) (h : Heap) (R : Sl → Heap → Prop) : Prop :=
  CallsH Tryd.prog r 100 [(.agg #[(.pointer o1)]), (.int .i64 low2), (.int .i64 high3)] h fun v h' => ∃ (y4 : Sl), v = (Sl.v y4) ∧ R y4 h'

theorem ord_Order_Between.mono {r : World} {o1 : Option Addr} {low2 : Int} {high3 : Int} {h : Heap} {R R' : Sl → Heap → Prop} (H : ord_Order_Between r o1 low2 high3 h R) (hr : ∀ y4 h, R y4 h → R' y4 h) : ord_Order_Between r o1 low2 high3 h R' :=
  CallsH.mono H fun _ _ hx => by
    obtain ⟨y4, hv, hR⟩ := hx
    exact ⟨y4, hv, hr _ _ hR⟩

abbrev ord_Order_from (r : World) (o1 : Option Addr) (x2 : Int) (h : Heap) (R : Int → Heap → Prop) : Prop :=
  CallsH Tryd.prog r 124 [(.agg #[(.pointer o1)]), (.int .i64 x2)] h fun v h' => ∃ (y3 : Int), v = (.int .i64 y3) ∧ R y3 h'

theorem ord_Order_from.mono {r : World} {o1 : Option Addr} {x2 : Int} {h : Heap} {R R' : Int → Heap → Prop} (H : ord_Order_from r o1 x2 h R) (hr : ∀ y3 h, R y3 h → R' y3 h) : ord_Order_from r o1 x2 h R' :=
  CallsH.mono H fun _ _ hx => by
    obtain ⟨y3, hv, hR⟩ := hx
    exact ⟨y3, hv, hr _ _ hR⟩

abbrev ord_Order_behind (r : World) (o1 : Option Addr) (x2 : Int) (h : Heap) (R : Int → Heap → Prop) : Prop :=
  CallsH Tryd.prog r 125 [(.agg #[(.pointer o1)]), (.int .i64 x2)] h fun v h' => ∃ (y3 : Int), v = (.int .i64 y3) ∧ R y3 h'

theorem ord_Order_behind.mono {r : World} {o1 : Option Addr} {x2 : Int} {h : Heap} {R R' : Int → Heap → Prop} (H : ord_Order_behind r o1 x2 h R) (hr : ∀ y3 h, R y3 h → R' y3 h) : ord_Order_behind r o1 x2 h R' :=
  CallsH.mono H fun _ _ hx => by
    obtain ⟨y3, hv, hR⟩ := hx
    exact ⟨y3, hv, hr _ _ hR⟩

abbrev ord_Order_from_1 (r : World) (s1 : Bool) (s2 : Int) (c3 : Addr) (h : Heap) (R : Bool → Heap → Prop) : Prop :=
  CallsH Tryd.prog r 138 [(.agg #[(.bool s1), (.int .i64 s2)]), (.pointer (some c3))] h fun v h' => ∃ (y4 : Bool), v = (.bool y4) ∧ R y4 h'

theorem ord_Order_from_1.mono {r : World} {s1 : Bool} {s2 : Int} {c3 : Addr} {h : Heap} {R R' : Bool → Heap → Prop} (H : ord_Order_from_1 r s1 s2 c3 h R) (hr : ∀ y4 h, R y4 h → R' y4 h) : ord_Order_from_1 r s1 s2 c3 h R' :=
  CallsH.mono H fun _ _ hx => by
    obtain ⟨y4, hv, hR⟩ := hx
    exact ⟨y4, hv, hr _ _ hR⟩

abbrev ord_Order_behind_1 (r : World) (s1 : Bool) (s2 : Int) (c3 : Addr) (h : Heap) (R : Bool → Heap → Prop) : Prop :=
  CallsH Tryd.prog r 139 [(.agg #[(.bool s1), (.int .i64 s2)]), (.pointer (some c3))] h fun v h' => ∃ (y4 : Bool), v = (.bool y4) ∧ R y4 h'

theorem ord_Order_behind_1.mono {r : World} {s1 : Bool} {s2 : Int} {c3 : Addr} {h : Heap} {R R' : Bool → Heap → Prop} (H : ord_Order_behind_1 r s1 s2 c3 h R) (hr : ∀ y4 h, R y4 h → R' y4 h) : ord_Order_behind_1 r s1 s2 c3 h R' :=
  CallsH.mono H fun _ _ hx => by
    obtain ⟨y4, hv, hR⟩ := hx
    exact ⟨y4, hv, hr _ _ hR⟩

/-! ### ord_Order_Insert -/

def ord_Order_Insert_F (r : World) (o1 : Option Addr) (x2 : Int) (h : Heap) (R : Option Addr → Heap → Prop) : Prop :=
  New h (.cells #[(.pointer o1)] 138) fun p3 h1 =>
  New h1 (.cells #[(.pointer none)] 138) fun p6 h2 =>
  LdP h2 (Addr.add (Addr.add p3 0) 0) fun x9 =>
  LdP h2 (Addr.add p3 0) fun x11 =>
  ord_Order_behind r x11 x2 h2 fun y13 h3 =>
  (hcell h3 (Addr.add (Addr.add p3 0) 0) = some (.pointer x9)) ∧
  finger_Many_int_ord_last_ord_lasts_Insert r x9 y13 x2 h3 fun y15 h4 =>
  St h4 p6 1 [(.pointer y15)] fun h5 =>
  LdP h5 (Addr.add p6 0) fun x18 =>
  R x18 h5

set_option maxRecDepth 100000 in
theorem ord_Order_Insert_of {r : World} {o1 : Option Addr} {x2 : Int} {h : Heap} {R : Option Addr → Heap → Prop} (H : ord_Order_Insert_F r o1 x2 h R) : ord_Order_Insert r o1 x2 h R := by
  unfold ord_Order_Insert_F at H
  refine calls_of 13 [.cell 4 138] Tryd.func101 rfl rfl rfl rfl rfl ?_
  refine W_seq ?_
  refine W_region (.ef 0 [] (.ef 1 [] .fin .no) .no) rfl rfl ?_
  obtain ⟨p3, e4⟩ : ∃ p : Addr, p = ⟨h.size, 0, none⟩ := ⟨_, rfl⟩
  obtain ⟨h1, e5⟩ : ∃ hh : Heap, hh = h.push (.cells #[(.pointer o1)] 138) := ⟨_, rfl⟩
  have H := H p3 h1 e4 e5
  refine s_ef1 (d := some 2) (v := (.pointer (some p3))) (h' := h1) rfl rfl rfl (fun dr => (r_box (v := (.agg #[(.pointer o1)])) rfl).trans (by rw [e4, e5]; rfl)) trivial ?_ trivial
  obtain ⟨p6, e7⟩ : ∃ p : Addr, p = ⟨h1.size, 0, none⟩ := ⟨_, rfl⟩
  obtain ⟨h2, e8⟩ : ∃ hh : Heap, hh = h1.push (.cells #[(.pointer none)] 138) := ⟨_, rfl⟩
  have H := H p6 h2 e7 e8
  refine s_ef1 (d := some 4) (v := (.pointer (some p6))) (h' := h2) rfl rfl rfl (fun dr => (r_alloc Tryd.zeroValue138).trans (by rw [e7, e8]; rfl)) trivial ?_ trivial
  refine s_fin ?_
  show W _ _ _ _ _ _ _ _
  refine W_seq ?_
  refine W_draw [0, 1, 0, 0, 12, 0, 63, 127, 255] (.pu 0 (.rd 1 (.rd 2 (.pu 3 (.pu 5 (.ef 4 [2] (.ef 6 [1, 2] (.pu 7 (.ef 8 [1, 2] .fin .no)) .no) .no)))))) (by kernel_rfl) (by kernel_rfl) ?_
  refine s_pu (d := some 5) (v := (.pointer (some (Addr.add p3 0)))) rfl rfl rfl (r_fieldAddr Tryd.underlying138 Tryd.sizeOf136 rfl rfl rfl) ?_
  obtain ⟨x9, e10, H⟩ := H
  refine s_rd (d := some 6) (v := (.agg #[(.pointer x9)])) rfl rfl rfl (fun dr => r_loadN Tryd.isAgg136 Tryd.sizeOf136 (vs := [(.pointer x9)]) rfl rfl ⟨e10, trivial⟩) ?_
  obtain ⟨x11, e12, H⟩ := H
  refine s_rd (d := some 7) (v := (.agg #[(.pointer x11)])) rfl rfl rfl (fun dr => r_loadN Tryd.isAgg138 Tryd.sizeOf138 (vs := [(.pointer x11)]) rfl rfl ⟨e12, trivial⟩) ?_
  refine s_pu (d := some 8) (v := (.int .i64 x2)) rfl rfl rfl (r_move rfl) ?_
  refine s_pu (d := some 10) (v := (.int .i64 x2)) rfl rfl rfl (r_move rfl) ?_
  refine s_ef (d := some 9) rfl rfl rfl (fun dr => r_call Tryd.call125 rfl rfl H) ?_ trivial
  rintro _ h3 ⟨y13, rfl, H⟩
  obtain ⟨e14, H⟩ := H
  refine ⟨⟨trivial, (.inl ⟨rfl, fun dr => r_loadN Tryd.isAgg136 Tryd.sizeOf136 (vs := [(.pointer x9)]) rfl rfl ⟨e14, trivial⟩⟩), trivial⟩, ?_⟩
  refine s_ef (d := some 11) rfl rfl rfl (fun dr => r_call Tryd.call128 rfl rfl H) ?_ trivial
  rintro _ h4 ⟨y15, rfl, H⟩
  refine ⟨⟨trivial, trivial, trivial⟩, ?_⟩
  refine s_pu (d := some 12) (v := (.agg #[(.pointer y15)])) rfl rfl rfl (fun w => by kernel_rfl) ?_
  obtain ⟨e17, H⟩ := H
  obtain ⟨h5, e16⟩ : ∃ hh : Heap, hh = hsets h4 p6 0 [(.pointer y15)] := ⟨_, rfl⟩
  have H := H h5 e16
  refine s_st (d := none) (h' := h5) rfl rfl rfl (fun dr => (r_store (v := (.agg #[(.pointer y15)])) Tryd.sizeOf138 rfl rfl rfl (one_all rfl) e17).trans (by rw [e16]; rfl)) ⟨trivial, trivial, trivial⟩ ?_ trivial
  refine s_fin ?_
  show W _ _ _ _ _ _ _ _
  refine W_ret ?_
  obtain ⟨x18, e19, H⟩ := H
  exact ⟨[(.agg #[(.pointer x18)])], ⟨_, _, _, rfl, rfl, fun dr => run_loadVarN Tryd.isAgg138 Tryd.sizeOf138 (vs := [(.pointer x18)]) rfl ⟨e19, trivial⟩, rfl⟩, x18, rfl, H⟩

/-! ### ord_Order_Between -/

def ord_Order_Between_F (r : World) (o1 : Option Addr) (low2 : Int) (high3 : Int) (h : Heap) (R : Sl → Heap → Prop) : Prop :=
  New h (.cells #[(.pointer o1)] 138) fun p4 h1 =>
  LdP h1 (Addr.add p4 0) fun x7 =>
  LdP h1 (Addr.add p4 0) fun x9 =>
  ord_Order_from r x7 low2 h1 fun y11 h2 =>
  (hcell h2 (Addr.add p4 0) = some (.pointer x9)) ∧
  ord_Order_behind r x9 high3 h2 fun y13 h3 =>
  Br (decide (y13 ≤ y11)) (
    R Sl.nil h3) (
    LdP h3 (Addr.add (Addr.add p4 0) 0) fun x14 =>
    finger_Many_int_ord_last_ord_lasts_Split r x14 y13 h3 fun y16 y17 h4 =>
    New h4 (.cells #[(.pointer none)] 136) fun p18 h5 =>
    New h5 (.cells #[(.pointer none)] 136) fun p21 h6 =>
    St h6 p18 1 [(.pointer y16)] fun h7 =>
    St h7 p21 1 [(.pointer y17)] fun h8 =>
    LdP h8 (Addr.add p18 0) fun x28 =>
    finger_Many_int_ord_last_ord_lasts_Split r x28 y11 h8 fun y30 y31 h9 =>
    New h9 (.cells #[(.pointer none)] 136) fun p32 h10 =>
    New h10 (.cells #[(.pointer none)] 136) fun p35 h11 =>
    St h11 p32 1 [(.pointer y30)] fun h12 =>
    St h12 p35 1 [(.pointer y31)] fun h13 =>
    LdP h13 (Addr.add p35 0) fun x42 =>
    finger_Many_int_ord_last_ord_lasts_All r x42 h13 fun y44 h14 =>
    R y44 h14)

set_option maxRecDepth 100000 in
theorem ord_Order_Between_of {r : World} {o1 : Option Addr} {low2 : Int} {high3 : Int} {h : Heap} {R : Sl → Heap → Prop} (H : ord_Order_Between_F r o1 low2 high3 h R) : ord_Order_Between r o1 low2 high3 h R := by
  unfold ord_Order_Between_F at H
  refine calls_of 37 [.tmp 6] Tryd.func100 rfl rfl rfl rfl rfl ?_
  refine W_seq ?_
  refine W_region (.ef 0 [] (.pu 1 .fin) .no) rfl rfl ?_
  obtain ⟨p4, e5⟩ : ∃ p : Addr, p = ⟨h.size, 0, none⟩ := ⟨_, rfl⟩
  obtain ⟨h1, e6⟩ : ∃ hh : Heap, hh = h.push (.cells #[(.pointer o1)] 138) := ⟨_, rfl⟩
  have H := H p4 h1 e5 e6
  refine s_ef1 (d := some 3) (v := (.pointer (some p4))) (h' := h1) rfl rfl rfl (fun dr => (r_box (v := (.agg #[(.pointer o1)])) rfl).trans (by rw [e5, e6]; rfl)) trivial ?_ trivial
  refine s_pu (d := some 6) (v := (Sl.v Sl.nil)) rfl rfl rfl (r_assign rfl) ?_
  refine s_fin ?_
  show W _ _ _ _ _ _ _ _
  refine W_seq ?_
  refine W_draw [0, 0, 3, 0, 0, 31, 63, 127] (.rd 0 (.pu 1 (.rd 3 (.pu 4 (.ef 2 [0] (.ef 5 [0, 3] (.pu 6 (.pu 7 .fin)) .no) .no))))) (by kernel_rfl) (by kernel_rfl) ?_
  obtain ⟨x7, e8, H⟩ := H
  refine s_rd (d := some 13) (v := (.agg #[(.pointer x7)])) rfl rfl rfl (fun dr => r_loadN Tryd.isAgg138 Tryd.sizeOf138 (vs := [(.pointer x7)]) rfl rfl ⟨e8, trivial⟩) ?_
  refine s_pu (d := some 14) (v := (.int .i64 low2)) rfl rfl rfl (r_move rfl) ?_
  obtain ⟨x9, e10, H⟩ := H
  refine s_rd (d := some 16) (v := (.agg #[(.pointer x9)])) rfl rfl rfl (fun dr => r_loadN Tryd.isAgg138 Tryd.sizeOf138 (vs := [(.pointer x9)]) rfl rfl ⟨e10, trivial⟩) ?_
  refine s_pu (d := some 17) (v := (.int .i64 high3)) rfl rfl rfl (r_move rfl) ?_
  refine s_ef (d := some 15) rfl rfl rfl (fun dr => r_call Tryd.call124 rfl rfl H) ?_ trivial
  rintro _ h2 ⟨y11, rfl, H⟩
  obtain ⟨e12, H⟩ := H
  refine ⟨⟨(.inl ⟨rfl, fun dr => r_loadN Tryd.isAgg138 Tryd.sizeOf138 (vs := [(.pointer x9)]) rfl rfl ⟨e12, trivial⟩⟩), trivial, trivial⟩, ?_⟩
  refine s_ef (d := some 18) rfl rfl rfl (fun dr => r_call Tryd.call125 rfl rfl H) ?_ trivial
  rintro _ h3 ⟨y13, rfl, H⟩
  refine ⟨⟨trivial, trivial, trivial⟩, ?_⟩
  refine s_pu (d := some 7) (v := (.int .i64 y11)) rfl rfl rfl (r_assign rfl) ?_
  refine s_pu (d := some 8) (v := (.int .i64 y13)) rfl rfl rfl (r_assign rfl) ?_
  refine s_fin ?_
  show W _ _ _ _ _ _ _ _
  refine W_seq ?_
  refine W_seq ?_
  refine W_region (.pu 0 (.pu 1 (.pu 2 .fin))) rfl rfl ?_
  refine s_pu (d := some 19) (v := (.int .i64 y13)) rfl rfl rfl (r_move rfl) ?_
  refine s_pu (d := some 20) (v := (.int .i64 y11)) rfl rfl rfl (r_move rfl) ?_
  refine s_pu (d := some 21) (v := (.bool (decide (y13 ≤ y11)))) rfl rfl rfl (r_leq rfl rfl) ?_
  refine s_fin ?_
  show W _ _ _ _ _ _ _ _
  refine W_if (decide (y13 ≤ y11)) rfl (fun g45 => ?_) (fun g45 => ?_)
  · have H := H.1 g45
    refine W_seq ?_
    refine W_region (.pu 0 .fin) rfl rfl ?_
    refine s_pu (d := some 6) (v := (Sl.v Sl.nil)) rfl rfl rfl (r_assign rfl) ?_
    refine s_fin ?_
    show W _ _ _ _ _ _ _ _
    refine W_ret ?_
    exact ⟨[(Sl.v Sl.nil)], ⟨_, _, rfl, rfl, rfl⟩, Sl.nil, rfl, H⟩
  · have H := H.2 g45
    refine W_skip ?_
    show W _ _ _ _ _ _ _ _
    refine W_seq ?_
    refine W_region (.pu 0 (.rl 1 (.pu 2 (.ef 3 [] (.pu 4 (.pu 5 (.pu 6 (.ef 7 [] (.ef 8 [] (.ef 9 [] (.ef 10 [] .fin .no) .no) .no) .no)))) .no)))) rfl rfl ?_
    refine s_pu (d := some 23) (v := (.pointer (some (Addr.add p4 0)))) rfl rfl rfl (r_fieldAddr Tryd.underlying138 Tryd.sizeOf136 rfl rfl rfl) ?_
    obtain ⟨x14, e15, H⟩ := H
    refine s_rl (d := some 24) (v := (.agg #[(.pointer x14)])) rfl rfl rfl (fun dr => r_loadN Tryd.isAgg136 Tryd.sizeOf136 (vs := [(.pointer x14)]) rfl rfl ⟨e15, trivial⟩) ?_
    refine s_pu (d := some 25) (v := (.int .i64 y13)) rfl rfl rfl (r_move rfl) ?_
    refine s_ef (d := some 26) rfl rfl rfl (fun dr => r_call Tryd.call126 rfl rfl H) ?_ trivial
    rintro _ h4 ⟨y16, y17, rfl, H⟩
    refine ⟨trivial, ?_⟩
    refine s_pu (d := some 22) (v := (.tuple #[(.agg #[(.pointer y16)]), (.agg #[(.pointer y17)])])) rfl rfl rfl (r_move rfl) ?_
    refine s_pu (d := some 27) (v := (.agg #[(.pointer y16)])) rfl rfl rfl (r_extract rfl rfl) ?_
    refine s_pu (d := some 28) (v := (.agg #[(.pointer y17)])) rfl rfl rfl (r_extract rfl rfl) ?_
    obtain ⟨p18, e19⟩ : ∃ p : Addr, p = ⟨h4.size, 0, none⟩ := ⟨_, rfl⟩
    obtain ⟨h5, e20⟩ : ∃ hh : Heap, hh = h4.push (.cells #[(.pointer none)] 136) := ⟨_, rfl⟩
    have H := H p18 h5 e19 e20
    refine s_ef1 (d := some 9) (v := (.pointer (some p18))) (h' := h5) rfl rfl rfl (fun dr => (r_alloc Tryd.zeroValue136).trans (by rw [e19, e20]; rfl)) trivial ?_ trivial
    obtain ⟨p21, e22⟩ : ∃ p : Addr, p = ⟨h5.size, 0, none⟩ := ⟨_, rfl⟩
    obtain ⟨h6, e23⟩ : ∃ hh : Heap, hh = h5.push (.cells #[(.pointer none)] 136) := ⟨_, rfl⟩
    have H := H p21 h6 e22 e23
    refine s_ef1 (d := some 10) (v := (.pointer (some p21))) (h' := h6) rfl rfl rfl (fun dr => (r_alloc Tryd.zeroValue136).trans (by rw [e22, e23]; rfl)) trivial ?_ trivial
    obtain ⟨e25, H⟩ := H
    obtain ⟨h7, e24⟩ : ∃ hh : Heap, hh = hsets h6 p18 0 [(.pointer y16)] := ⟨_, rfl⟩
    have H := H h7 e24
    refine s_st (d := none) (h' := h7) rfl rfl rfl (fun dr => (r_store (v := (.agg #[(.pointer y16)])) Tryd.sizeOf136 rfl rfl rfl (one_all rfl) e25).trans (by rw [e24]; rfl)) trivial ?_ trivial
    obtain ⟨e27, H⟩ := H
    obtain ⟨h8, e26⟩ : ∃ hh : Heap, hh = hsets h7 p21 0 [(.pointer y17)] := ⟨_, rfl⟩
    have H := H h8 e26
    refine s_st (d := none) (h' := h8) rfl rfl rfl (fun dr => (r_store (v := (.agg #[(.pointer y17)])) Tryd.sizeOf136 rfl rfl rfl (one_all rfl) e27).trans (by rw [e26]; rfl)) trivial ?_ trivial
    refine s_fin ?_
    show W _ _ _ _ _ _ _ _
    refine W_seq ?_
    refine W_region (.rl 0 (.pu 1 (.ef 2 [] (.pu 3 (.pu 4 (.pu 5 (.ef 6 [] (.ef 7 [] (.ef 8 [] (.ef 9 [] .fin .no) .no) .no) .no)))) .no))) rfl rfl ?_
    obtain ⟨x28, e29, H⟩ := H
    refine s_rl (d := some 30) (v := (.agg #[(.pointer x28)])) rfl rfl rfl (fun dr => r_loadN Tryd.isAgg136 Tryd.sizeOf136 (vs := [(.pointer x28)]) rfl rfl ⟨e29, trivial⟩) ?_
    refine s_pu (d := some 31) (v := (.int .i64 y11)) rfl rfl rfl (r_move rfl) ?_
    refine s_ef (d := some 32) rfl rfl rfl (fun dr => r_call Tryd.call126 rfl rfl H) ?_ trivial
    rintro _ h9 ⟨y30, y31, rfl, H⟩
    refine ⟨trivial, ?_⟩
    refine s_pu (d := some 29) (v := (.tuple #[(.agg #[(.pointer y30)]), (.agg #[(.pointer y31)])])) rfl rfl rfl (r_move rfl) ?_
    refine s_pu (d := some 33) (v := (.agg #[(.pointer y30)])) rfl rfl rfl (r_extract rfl rfl) ?_
    refine s_pu (d := some 34) (v := (.agg #[(.pointer y31)])) rfl rfl rfl (r_extract rfl rfl) ?_
    obtain ⟨p32, e33⟩ : ∃ p : Addr, p = ⟨h9.size, 0, none⟩ := ⟨_, rfl⟩
    obtain ⟨h10, e34⟩ : ∃ hh : Heap, hh = h9.push (.cells #[(.pointer none)] 136) := ⟨_, rfl⟩
    have H := H p32 h10 e33 e34
    refine s_ef1 (d := some 11) (v := (.pointer (some p32))) (h' := h10) rfl rfl rfl (fun dr => (r_alloc Tryd.zeroValue136).trans (by rw [e33, e34]; rfl)) trivial ?_ trivial
    obtain ⟨p35, e36⟩ : ∃ p : Addr, p = ⟨h10.size, 0, none⟩ := ⟨_, rfl⟩
    obtain ⟨h11, e37⟩ : ∃ hh : Heap, hh = h10.push (.cells #[(.pointer none)] 136) := ⟨_, rfl⟩
    have H := H p35 h11 e36 e37
    refine s_ef1 (d := some 12) (v := (.pointer (some p35))) (h' := h11) rfl rfl rfl (fun dr => (r_alloc Tryd.zeroValue136).trans (by rw [e36, e37]; rfl)) trivial ?_ trivial
    obtain ⟨e39, H⟩ := H
    obtain ⟨h12, e38⟩ : ∃ hh : Heap, hh = hsets h11 p32 0 [(.pointer y30)] := ⟨_, rfl⟩
    have H := H h12 e38
    refine s_st (d := none) (h' := h12) rfl rfl rfl (fun dr => (r_store (v := (.agg #[(.pointer y30)])) Tryd.sizeOf136 rfl rfl rfl (one_all rfl) e39).trans (by rw [e38]; rfl)) trivial ?_ trivial
    obtain ⟨e41, H⟩ := H
    obtain ⟨h13, e40⟩ : ∃ hh : Heap, hh = hsets h12 p35 0 [(.pointer y31)] := ⟨_, rfl⟩
    have H := H h13 e40
    refine s_st (d := none) (h' := h13) rfl rfl rfl (fun dr => (r_store (v := (.agg #[(.pointer y31)])) Tryd.sizeOf136 rfl rfl rfl (one_all rfl) e41).trans (by rw [e40]; rfl)) trivial ?_ trivial
    refine s_fin ?_
    show W _ _ _ _ _ _ _ _
    refine W_seq ?_
    refine W_region (.rl 0 (.ef 1 [] (.pu 2 .fin) .no)) rfl rfl ?_
    obtain ⟨x42, e43, H⟩ := H
    refine s_rl (d := some 35) (v := (.agg #[(.pointer x42)])) rfl rfl rfl (fun dr => r_loadN Tryd.isAgg136 Tryd.sizeOf136 (vs := [(.pointer x42)]) rfl rfl ⟨e43, trivial⟩) ?_
    refine s_ef (d := some 36) rfl rfl rfl (fun dr => r_call Tryd.call127 rfl rfl H) ?_ trivial
    rintro _ h14 ⟨y44, rfl, H⟩
    refine ⟨trivial, ?_⟩
    refine s_pu (d := some 6) (v := (Sl.v y44)) rfl rfl rfl (r_assign rfl) ?_
    refine s_fin ?_
    show W _ _ _ _ _ _ _ _
    refine W_ret ?_
    exact ⟨[(Sl.v y44)], ⟨_, _, rfl, rfl, rfl⟩, y44, rfl, H⟩

/-! ### ord_Order_from -/

def ord_Order_from_F (r : World) (o1 : Option Addr) (x2 : Int) (h : Heap) (R : Int → Heap → Prop) : Prop :=
  New h (.cells #[(.pointer o1)] 138) fun p3 h1 =>
  New h1 (.cells #[(.int .i64 x2)] 3) fun p6 h2 =>
  LdP h2 (Addr.add (Addr.add p3 0) 0) fun x9 =>
  finger_Many_int_ord_last_ord_lasts_Find r x9 ((.func (.func 138) #[] #[(.pointer (some p6))])) h2 fun y11 h3 =>
  R y11 h3

set_option maxRecDepth 100000 in
theorem ord_Order_from_of {r : World} {o1 : Option Addr} {x2 : Int} {h : Heap} {R : Int → Heap → Prop} (H : ord_Order_from_F r o1 x2 h R) : ord_Order_from r o1 x2 h R := by
  unfold ord_Order_from_F at H
  refine calls_of 9 [.tmp 4] Tryd.func124 rfl rfl rfl rfl rfl ?_
  refine W_seq ?_
  refine W_region (.ef 0 [] (.ef 1 [] (.pu 2 .fin) .no) .no) rfl rfl ?_
  obtain ⟨p3, e4⟩ : ∃ p : Addr, p = ⟨h.size, 0, none⟩ := ⟨_, rfl⟩
  obtain ⟨h1, e5⟩ : ∃ hh : Heap, hh = h.push (.cells #[(.pointer o1)] 138) := ⟨_, rfl⟩
  have H := H p3 h1 e4 e5
  refine s_ef1 (d := some 2) (v := (.pointer (some p3))) (h' := h1) rfl rfl rfl (fun dr => (r_box (v := (.agg #[(.pointer o1)])) rfl).trans (by rw [e4, e5]; rfl)) trivial ?_ trivial
  obtain ⟨p6, e7⟩ : ∃ p : Addr, p = ⟨h1.size, 0, none⟩ := ⟨_, rfl⟩
  obtain ⟨h2, e8⟩ : ∃ hh : Heap, hh = h1.push (.cells #[(.int .i64 x2)] 3) := ⟨_, rfl⟩
  have H := H p6 h2 e7 e8
  refine s_ef1 (d := some 3) (v := (.pointer (some p6))) (h' := h2) rfl rfl rfl (fun dr => (r_box (v := (.int .i64 x2)) rfl).trans (by rw [e7, e8]; rfl)) trivial ?_ trivial
  refine s_pu (d := some 4) (v := (.int .i64 0)) rfl rfl rfl (r_assign rfl) ?_
  refine s_fin ?_
  show W _ _ _ _ _ _ _ _
  refine W_seq ?_
  refine W_region (.pu 0 (.rl 1 (.pu 2 (.ef 3 [] (.pu 4 .fin) .no)))) rfl rfl ?_
  refine s_pu (d := some 5) (v := (.pointer (some (Addr.add p3 0)))) rfl rfl rfl (r_fieldAddr Tryd.underlying138 Tryd.sizeOf136 rfl rfl rfl) ?_
  obtain ⟨x9, e10, H⟩ := H
  refine s_rl (d := some 6) (v := (.agg #[(.pointer x9)])) rfl rfl rfl (fun dr => r_loadN Tryd.isAgg136 Tryd.sizeOf136 (vs := [(.pointer x9)]) rfl rfl ⟨e10, trivial⟩) ?_
  refine s_pu (d := some 7) (v := ((.func (.func 138) #[] #[(.pointer (some p6))]))) rfl rfl rfl (r_makeFunc rfl rfl) ?_
  refine s_ef (d := some 8) rfl rfl rfl (fun dr => r_call Tryd.call137 rfl rfl H) ?_ trivial
  rintro _ h3 ⟨y11, rfl, H⟩
  refine ⟨trivial, ?_⟩
  refine s_pu (d := some 4) (v := (.int .i64 y11)) rfl rfl rfl (r_assign rfl) ?_
  refine s_fin ?_
  show W _ _ _ _ _ _ _ _
  refine W_ret ?_
  exact ⟨[(.int .i64 y11)], ⟨_, _, rfl, rfl, rfl⟩, y11, rfl, H⟩

/-! ### ord_Order_behind -/

def ord_Order_behind_F (r : World) (o1 : Option Addr) (x2 : Int) (h : Heap) (R : Int → Heap → Prop) : Prop :=
  New h (.cells #[(.pointer o1)] 138) fun p3 h1 =>
  New h1 (.cells #[(.int .i64 x2)] 3) fun p6 h2 =>
  LdP h2 (Addr.add (Addr.add p3 0) 0) fun x9 =>
  finger_Many_int_ord_last_ord_lasts_Find r x9 ((.func (.func 139) #[] #[(.pointer (some p6))])) h2 fun y11 h3 =>
  R y11 h3

set_option maxRecDepth 100000 in
theorem ord_Order_behind_of {r : World} {o1 : Option Addr} {x2 : Int} {h : Heap} {R : Int → Heap → Prop} (H : ord_Order_behind_F r o1 x2 h R) : ord_Order_behind r o1 x2 h R := by
  unfold ord_Order_behind_F at H
  refine calls_of 9 [.tmp 4] Tryd.func125 rfl rfl rfl rfl rfl ?_
  refine W_seq ?_
  refine W_region (.ef 0 [] (.ef 1 [] (.pu 2 .fin) .no) .no) rfl rfl ?_
  obtain ⟨p3, e4⟩ : ∃ p : Addr, p = ⟨h.size, 0, none⟩ := ⟨_, rfl⟩
  obtain ⟨h1, e5⟩ : ∃ hh : Heap, hh = h.push (.cells #[(.pointer o1)] 138) := ⟨_, rfl⟩
  have H := H p3 h1 e4 e5
  refine s_ef1 (d := some 2) (v := (.pointer (some p3))) (h' := h1) rfl rfl rfl (fun dr => (r_box (v := (.agg #[(.pointer o1)])) rfl).trans (by rw [e4, e5]; rfl)) trivial ?_ trivial
  obtain ⟨p6, e7⟩ : ∃ p : Addr, p = ⟨h1.size, 0, none⟩ := ⟨_, rfl⟩
  obtain ⟨h2, e8⟩ : ∃ hh : Heap, hh = h1.push (.cells #[(.int .i64 x2)] 3) := ⟨_, rfl⟩
  have H := H p6 h2 e7 e8
  refine s_ef1 (d := some 3) (v := (.pointer (some p6))) (h' := h2) rfl rfl rfl (fun dr => (r_box (v := (.int .i64 x2)) rfl).trans (by rw [e7, e8]; rfl)) trivial ?_ trivial
  refine s_pu (d := some 4) (v := (.int .i64 0)) rfl rfl rfl (r_assign rfl) ?_
  refine s_fin ?_
  show W _ _ _ _ _ _ _ _
  refine W_seq ?_
  refine W_region (.pu 0 (.rl 1 (.pu 2 (.ef 3 [] (.pu 4 .fin) .no)))) rfl rfl ?_
  refine s_pu (d := some 5) (v := (.pointer (some (Addr.add p3 0)))) rfl rfl rfl (r_fieldAddr Tryd.underlying138 Tryd.sizeOf136 rfl rfl rfl) ?_
  obtain ⟨x9, e10, H⟩ := H
  refine s_rl (d := some 6) (v := (.agg #[(.pointer x9)])) rfl rfl rfl (fun dr => r_loadN Tryd.isAgg136 Tryd.sizeOf136 (vs := [(.pointer x9)]) rfl rfl ⟨e10, trivial⟩) ?_
  refine s_pu (d := some 7) (v := ((.func (.func 139) #[] #[(.pointer (some p6))]))) rfl rfl rfl (r_makeFunc rfl rfl) ?_
  refine s_ef (d := some 8) rfl rfl rfl (fun dr => r_call Tryd.call137 rfl rfl H) ?_ trivial
  rintro _ h3 ⟨y11, rfl, H⟩
  refine ⟨trivial, ?_⟩
  refine s_pu (d := some 4) (v := (.int .i64 y11)) rfl rfl rfl (r_assign rfl) ?_
  refine s_fin ?_
  show W _ _ _ _ _ _ _ _
  refine W_ret ?_
  exact ⟨[(.int .i64 y11)], ⟨_, _, rfl, rfl, rfl⟩, y11, rfl, H⟩

/-! ### ord_Order_from_1 -/

def ord_Order_from_1_F (r : World) (s1 : Bool) (s2 : Int) (c3 : Addr) (h : Heap) (R : Bool → Heap → Prop) : Prop :=
  New h (.cells #[(.bool s1), (.int .i64 s2)] 173) fun p4 h1 =>
  ∀ J8 : Bool → Prop, (∀ (x7 : Bool),
    (R x7 h1) →
    J8 x7) →
  LdB h1 (Addr.add p4 0) fun x10 =>
  Br x10 (
    LdI h1 (Addr.add p4 1) fun x13 =>
    LdI h1 c3 fun x15 =>
    J8 (decide (x15 ≤ x13))) (
    J8 false)

set_option maxRecDepth 100000 in
theorem ord_Order_from_1_of {r : World} {s1 : Bool} {s2 : Int} {c3 : Addr} {h : Heap} {R : Bool → Heap → Prop} (H : ord_Order_from_1_F r s1 s2 c3 h R) : ord_Order_from_1 r s1 s2 c3 h R := by
  unfold ord_Order_from_1_F at H
  refine calls_of 12 [.tmp 3] Tryd.func138 rfl rfl rfl rfl rfl ?_
  refine W_seq ?_
  refine W_region (.ef 0 [] (.pu 1 .fin) .no) rfl rfl ?_
  obtain ⟨p4, e5⟩ : ∃ p : Addr, p = ⟨h.size, 0, none⟩ := ⟨_, rfl⟩
  obtain ⟨h1, e6⟩ : ∃ hh : Heap, hh = h.push (.cells #[(.bool s1), (.int .i64 s2)] 173) := ⟨_, rfl⟩
  have H := H p4 h1 e5 e6
  refine s_ef1 (d := some 2) (v := (.pointer (some p4))) (h' := h1) rfl rfl rfl (fun dr => (r_box (v := (.agg #[(.bool s1), (.int .i64 s2)])) rfl).trans (by rw [e5, e6]; rfl)) trivial ?_ trivial
  refine s_pu (d := some 3) (v := (.bool false)) rfl rfl rfl (r_assign rfl) ?_
  refine s_fin ?_
  show W _ _ _ _ _ _ _ _
  refine W_seq ?_
  refine W_set ?_
  intro N9 eN9
  have H := H (fun (x7 : Bool) => ∀ b, N9 [] (mkE [(3, (.bool x7))] b) h1) (by
    intro x7 H b
    rw [eN9]
    show W _ _ _ _ _ _ _ _
    refine W_ret ?_
    exact ⟨[(.bool x7)], ⟨_, _, rfl, rfl, rfl⟩, x7, rfl, H⟩)
  clear eN9
  refine W_region (.pu 0 (.rl 1 (.pu 2 (.pu 3 (.rl 4 (.rl 5 (.pu 6 (.pu 7 (.pu 8 .fin))))))))) rfl rfl ?_
  refine s_pu (d := some 4) (v := (.pointer (some (Addr.add p4 0)))) rfl rfl rfl (r_fieldAddr Tryd.underlying173 Tryd.sizeOf4 rfl rfl rfl) ?_
  obtain ⟨x10, e11, H⟩ := H
  refine s_rl (d := some 5) (v := (.bool x10)) rfl rfl rfl (fun dr => r_load1 Tryd.isAgg4 rfl e11) ?_
  refine s_pu (d := some 6) (v := (.bool x10)) rfl rfl rfl (r_move rfl) ?_
  rcases Bool.eq_false_or_eq_true x10 with g12 | g12
  · have H := H.1 g12
    refine s_pu (d := some 7) (v := (.pointer (some (Addr.add p4 1)))) rfl rfl (wants_yes rfl rfl rfl rfl g12) (r_fieldAddr Tryd.underlying173 Tryd.sizeOf3 rfl rfl rfl) ?_
    obtain ⟨x13, e14, H⟩ := H
    refine s_rl (d := some 8) (v := (.int .i64 x13)) rfl rfl (wants_yes rfl rfl rfl rfl g12) (fun dr => r_load1 Tryd.isAgg3 rfl e14) ?_
    obtain ⟨x15, e16, H⟩ := H
    refine s_rl (d := some 9) (v := (.int .i64 x15)) rfl rfl (wants_yes rfl rfl rfl rfl g12) (fun dr => r_load1 Tryd.isAgg3 rfl e16) ?_
    refine s_pu (d := some 10) (v := (.bool (decide (x15 ≤ x13)))) rfl rfl (wants_yes rfl rfl rfl rfl g12) (r_geq rfl rfl) ?_
    refine s_pu (d := some 11) (v := (.bool (decide (x15 ≤ x13)))) rfl rfl rfl (r_pick1 rfl g12 rfl) ?_
    refine s_pu (d := some 3) (v := (.bool (decide (x15 ≤ x13)))) rfl rfl rfl (r_assign rfl) ?_
    refine s_fin ?_
    exact N_mk (l := [(3, (.bool (decide (x15 ≤ x13))))]) H ⟨rfl, trivial⟩
  · have H := H.2 g12
    refine s_sk (d := some 7) rfl rfl (wants_no rfl rfl rfl rfl g12) ?_
    refine s_skl (d := some 8) rfl rfl (wants_no rfl rfl rfl rfl g12) ?_
    refine s_skl (d := some 9) rfl rfl (wants_no rfl rfl rfl rfl g12) ?_
    refine s_sk (d := some 10) rfl rfl (wants_no rfl rfl rfl rfl g12) ?_
    refine s_pu (d := some 11) (v := (.bool false)) rfl rfl rfl (r_pick0 rfl g12 rfl) ?_
    refine s_pu (d := some 3) (v := (.bool false)) rfl rfl rfl (r_assign rfl) ?_
    refine s_fin ?_
    exact N_mk (l := [(3, (.bool false))]) H ⟨rfl, trivial⟩

/-! ### ord_Order_behind_1 -/

def ord_Order_behind_1_F (r : World) (s1 : Bool) (s2 : Int) (c3 : Addr) (h : Heap) (R : Bool → Heap → Prop) : Prop :=
  New h (.cells #[(.bool s1), (.int .i64 s2)] 173) fun p4 h1 =>
  ∀ J8 : Bool → Prop, (∀ (x7 : Bool),
    (R x7 h1) →
    J8 x7) →
  LdB h1 (Addr.add p4 0) fun x10 =>
  Br x10 (
    LdI h1 (Addr.add p4 1) fun x13 =>
    LdI h1 c3 fun x15 =>
    J8 (decide (x15 < x13))) (
    J8 false)

set_option maxRecDepth 100000 in
theorem ord_Order_behind_1_of {r : World} {s1 : Bool} {s2 : Int} {c3 : Addr} {h : Heap} {R : Bool → Heap → Prop} (H : ord_Order_behind_1_F r s1 s2 c3 h R) : ord_Order_behind_1 r s1 s2 c3 h R := by
  unfold ord_Order_behind_1_F at H
  refine calls_of 12 [.tmp 3] Tryd.func139 rfl rfl rfl rfl rfl ?_
  refine W_seq ?_
  refine W_region (.ef 0 [] (.pu 1 .fin) .no) rfl rfl ?_
  obtain ⟨p4, e5⟩ : ∃ p : Addr, p = ⟨h.size, 0, none⟩ := ⟨_, rfl⟩
  obtain ⟨h1, e6⟩ : ∃ hh : Heap, hh = h.push (.cells #[(.bool s1), (.int .i64 s2)] 173) := ⟨_, rfl⟩
  have H := H p4 h1 e5 e6
  refine s_ef1 (d := some 2) (v := (.pointer (some p4))) (h' := h1) rfl rfl rfl (fun dr => (r_box (v := (.agg #[(.bool s1), (.int .i64 s2)])) rfl).trans (by rw [e5, e6]; rfl)) trivial ?_ trivial
  refine s_pu (d := some 3) (v := (.bool false)) rfl rfl rfl (r_assign rfl) ?_
  refine s_fin ?_
  show W _ _ _ _ _ _ _ _
  refine W_seq ?_
  refine W_set ?_
  intro N9 eN9
  have H := H (fun (x7 : Bool) => ∀ b, N9 [] (mkE [(3, (.bool x7))] b) h1) (by
    intro x7 H b
    rw [eN9]
    show W _ _ _ _ _ _ _ _
    refine W_ret ?_
    exact ⟨[(.bool x7)], ⟨_, _, rfl, rfl, rfl⟩, x7, rfl, H⟩)
  clear eN9
  refine W_region (.pu 0 (.rl 1 (.pu 2 (.pu 3 (.rl 4 (.rl 5 (.pu 6 (.pu 7 (.pu 8 .fin))))))))) rfl rfl ?_
  refine s_pu (d := some 4) (v := (.pointer (some (Addr.add p4 0)))) rfl rfl rfl (r_fieldAddr Tryd.underlying173 Tryd.sizeOf4 rfl rfl rfl) ?_
  obtain ⟨x10, e11, H⟩ := H
  refine s_rl (d := some 5) (v := (.bool x10)) rfl rfl rfl (fun dr => r_load1 Tryd.isAgg4 rfl e11) ?_
  refine s_pu (d := some 6) (v := (.bool x10)) rfl rfl rfl (r_move rfl) ?_
  rcases Bool.eq_false_or_eq_true x10 with g12 | g12
  · have H := H.1 g12
    refine s_pu (d := some 7) (v := (.pointer (some (Addr.add p4 1)))) rfl rfl (wants_yes rfl rfl rfl rfl g12) (r_fieldAddr Tryd.underlying173 Tryd.sizeOf3 rfl rfl rfl) ?_
    obtain ⟨x13, e14, H⟩ := H
    refine s_rl (d := some 8) (v := (.int .i64 x13)) rfl rfl (wants_yes rfl rfl rfl rfl g12) (fun dr => r_load1 Tryd.isAgg3 rfl e14) ?_
    obtain ⟨x15, e16, H⟩ := H
    refine s_rl (d := some 9) (v := (.int .i64 x15)) rfl rfl (wants_yes rfl rfl rfl rfl g12) (fun dr => r_load1 Tryd.isAgg3 rfl e16) ?_
    refine s_pu (d := some 10) (v := (.bool (decide (x15 < x13)))) rfl rfl (wants_yes rfl rfl rfl rfl g12) (r_gtr rfl rfl) ?_
    refine s_pu (d := some 11) (v := (.bool (decide (x15 < x13)))) rfl rfl rfl (r_pick1 rfl g12 rfl) ?_
    refine s_pu (d := some 3) (v := (.bool (decide (x15 < x13)))) rfl rfl rfl (r_assign rfl) ?_
    refine s_fin ?_
    exact N_mk (l := [(3, (.bool (decide (x15 < x13))))]) H ⟨rfl, trivial⟩
  · have H := H.2 g12
    refine s_sk (d := some 7) rfl rfl (wants_no rfl rfl rfl rfl g12) ?_
    refine s_skl (d := some 8) rfl rfl (wants_no rfl rfl rfl rfl g12) ?_
    refine s_skl (d := some 9) rfl rfl (wants_no rfl rfl rfl rfl g12) ?_
    refine s_sk (d := some 10) rfl rfl (wants_no rfl rfl rfl rfl g12) ?_
    refine s_pu (d := some 11) (v := (.bool false)) rfl rfl rfl (r_pick0 rfl g12 rfl) ?_
    refine s_pu (d := some 3) (v := (.bool false)) rfl rfl rfl (r_assign rfl) ?_
    refine s_fin ?_
    exact N_mk (l := [(3, (.bool false))]) H ⟨rfl, trivial⟩

end Go.Proofs.YtcafckgflpmfgaaDoor
