/- Typed words of functions, and that they hold: printed by gen.py (an own tool of this claim) off the model's own form of each function. -/
import Derived.Test.YtikccpmhoioaeaaProg
import Derived.Test.YtikccpmhoioaeaaIMan
import Derived.Test.YtikccpmhoioaeaaEqI
namespace Go.Proofs.Ytikccpmhoioaeaa
open Go Go.RowKit Go.Tw
set_option linter.unusedVariables false

theorem slFILaw_58 : SlF Try.prog 58 60 3 24 (.agg #[(.int .i64 0), (.int .i64 0), (.int .i64 0)]) := ⟨Try.underlying58, ⟨Try.t60, by kernel_rfl, rfl, rfl, rfl⟩, rfl, Try.sizeOf60, Try.zeroValue60⟩

/-! ### the calls -/

abbrev ival_Map_Add (r : World) (m1 : Option Addr) (s2 : Int) (s3 : Int) (s4 : Int) (h : Heap) (R : Option Addr → Value → Heap → Prop) : Prop :=
  CallsH Try.prog r 32 [(.agg #[(.pointer m1)]), (.agg #[(.int .i64 s2), (.int .i64 s3), (.int .i64 s4)])] h fun v h' => ∃ (y5 : Option Addr) (y6 : Value), v = (.tuple #[(.agg #[(.pointer y5)]), y6]) ∧ R y5 y6 h'

theorem ival_Map_Add.mono {r : World} {m1 : Option Addr} {s2 : Int} {s3 : Int} {s4 : Int} {h : Heap} {R R' : Option Addr → Value → Heap → Prop} (H : ival_Map_Add r m1 s2 s3 s4 h R) (hr : ∀ y5 y6 h, R y5 y6 h → R' y5 y6 h) : ival_Map_Add r m1 s2 s3 s4 h R' :=
  CallsH.mono H fun _ _ hx => by
    obtain ⟨y5, y6, hv, hR⟩ := hx
    exact ⟨y5, y6, hv, hr _ _ _ hR⟩

abbrev ival_Map_Add_1 (r : World) (vr1 : Bool) (vr2 : Int) (vr3 : Int) (c4 : Addr) (h : Heap) (R : Bool → Heap → Prop) : Prop :=
  CallsH Try.prog r 55 [(.agg #[(.bool vr1), (.int .i64 vr2), (.int .i64 vr3)]), (.pointer (some c4))] h fun v h' => ∃ (y5 : Bool), v = (.bool y5) ∧ R y5 h'

theorem ival_Map_Add_1.mono {r : World} {vr1 : Bool} {vr2 : Int} {vr3 : Int} {c4 : Addr} {h : Heap} {R R' : Bool → Heap → Prop} (H : ival_Map_Add_1 r vr1 vr2 vr3 c4 h R) (hr : ∀ y5 h, R y5 h → R' y5 h) : ival_Map_Add_1 r vr1 vr2 vr3 c4 h R' :=
  CallsH.mono H fun _ _ hx => by
    obtain ⟨y5, hv, hR⟩ := hx
    exact ⟨y5, hv, hr _ _ hR⟩

abbrev ival_Map_All (r : World) (m1 : Option Addr) (x2 : Int) (h : Heap) (R : Sl → Heap → Prop) : Prop :=
  CallsH Try.prog r 33 [(.agg #[(.pointer m1)]), (.int .i64 x2)] h fun v h' => ∃ (y3 : Sl), v = (Sl.v y3) ∧ R y3 h'

theorem ival_Map_All.mono {r : World} {m1 : Option Addr} {x2 : Int} {h : Heap} {R R' : Sl → Heap → Prop} (H : ival_Map_All r m1 x2 h R) (hr : ∀ y3 h, R y3 h → R' y3 h) : ival_Map_All r m1 x2 h R' :=
  CallsH.mono H fun _ _ hx => by
    obtain ⟨y3, hv, hR⟩ := hx
    exact ⟨y3, hv, hr _ _ hR⟩

abbrev ival_Map_Over (r : World) (m1 : Option Addr) (low2 : Int) (high3 : Int) (h : Heap) (R : Sl → Heap → Prop) : Prop :=
  CallsH Try.prog r 34 [(.agg #[(.pointer m1)]), (.int .i64 low2), (.int .i64 high3)] h fun v h' => ∃ (y4 : Sl), v = (Sl.v y4) ∧ R y4 h'

theorem ival_Map_Over.mono {r : World} {m1 : Option Addr} {low2 : Int} {high3 : Int} {h : Heap} {R R' : Sl → Heap → Prop} (H : ival_Map_Over r m1 low2 high3 h R) (hr : ∀ y4 h, R y4 h → R' y4 h) : ival_Map_Over r m1 low2 high3 h R' :=
  CallsH.mono H fun _ _ hx => by
    obtain ⟨y4, hv, hR⟩ := hx
    exact ⟨y4, hv, hr _ _ hR⟩

abbrev ival_Map_Over_1 (r : World) (vr1 : Bool) (vr2 : Int) (vr3 : Int) (c4 : Addr) (h : Heap) (R : Bool → Heap → Prop) : Prop :=
  CallsH Try.prog r 58 [(.agg #[(.bool vr1), (.int .i64 vr2), (.int .i64 vr3)]), (.pointer (some c4))] h fun v h' => ∃ (y5 : Bool), v = (.bool y5) ∧ R y5 h'

theorem ival_Map_Over_1.mono {r : World} {vr1 : Bool} {vr2 : Int} {vr3 : Int} {c4 : Addr} {h : Heap} {R R' : Bool → Heap → Prop} (H : ival_Map_Over_1 r vr1 vr2 vr3 c4 h R) (hr : ∀ y5 h, R y5 h → R' y5 h) : ival_Map_Over_1 r vr1 vr2 vr3 c4 h R' :=
  CallsH.mono H fun _ _ hx => by
    obtain ⟨y5, hv, hR⟩ := hx
    exact ⟨y5, hv, hr _ _ hR⟩

abbrev ival_Map_Over_2 (r : World) (vr1 : Bool) (vr2 : Int) (vr3 : Int) (c4 : Addr) (h : Heap) (R : Bool → Heap → Prop) : Prop :=
  CallsH Try.prog r 60 [(.agg #[(.bool vr1), (.int .i64 vr2), (.int .i64 vr3)]), (.pointer (some c4))] h fun v h' => ∃ (y5 : Bool), v = (.bool y5) ∧ R y5 h'

theorem ival_Map_Over_2.mono {r : World} {vr1 : Bool} {vr2 : Int} {vr3 : Int} {c4 : Addr} {h : Heap} {R R' : Bool → Heap → Prop} (H : ival_Map_Over_2 r vr1 vr2 vr3 c4 h R) (hr : ∀ y5 h, R y5 h → R' y5 h) : ival_Map_Over_2 r vr1 vr2 vr3 c4 h R' :=
  CallsH.mono H fun _ _ hx => by
    obtain ⟨y5, hv, hR⟩ := hx
    exact ⟨y5, hv, hr _ _ hR⟩

abbrev ival_Map_Any (r : World) (m1 : Option Addr) (x2 : Int) (h : Heap) (R : Int → Int → Int → Bool → Heap → Prop) : Prop :=
  CallsH Try.prog r 53 [(.agg #[(.pointer m1)]), (.int .i64 x2)] h fun v h' => ∃ (y3 : Int) (y4 : Int) (y5 : Int) (y6 : Bool), v = (.tuple #[(.agg #[(.int .i64 y3), (.int .i64 y4), (.int .i64 y5)]), (.bool y6)]) ∧ R y3 y4 y5 y6 h'

theorem ival_Map_Any.mono {r : World} {m1 : Option Addr} {x2 : Int} {h : Heap} {R R' : Int → Int → Int → Bool → Heap → Prop} (H : ival_Map_Any r m1 x2 h R) (hr : ∀ y3 y4 y5 y6 h, R y3 y4 y5 y6 h → R' y3 y4 y5 y6 h) : ival_Map_Any r m1 x2 h R' :=
  CallsH.mono H fun _ _ hx => by
    obtain ⟨y3, y4, y5, y6, hv, hR⟩ := hx
    exact ⟨y3, y4, y5, y6, hv, hr _ _ _ _ _ hR⟩

abbrev law3_spanned (r : World)  (h : Heap) (R : Bool → Heap → Prop) : Prop :=
  CallsH Try.prog r 31 [] h fun v h' => ∃ (y1 : Bool), v = (.bool y1) ∧ R y1 h'

theorem law3_spanned.mono {r : World}  {h : Heap} {R R' : Bool → Heap → Prop} (H : law3_spanned r  h R) (hr : ∀ y1 h, R y1 h → R' y1 h) : law3_spanned r  h R' :=
  CallsH.mono H fun _ _ hx => by
    obtain ⟨y1, hv, hR⟩ := hx
    exact ⟨y1, hv, hr _ _ hR⟩

abbrev law3_IvalStabs (r : World) (l1 : Sl) (s2 : Int) (s3 : Int) (s4 : Int) (x5 : Int) (h : Heap) (R : Bool → Heap → Prop) : Prop :=
  CallsH Try.prog r 7 [(Sl.v l1), (.agg #[(.int .i64 s2), (.int .i64 s3), (.int .i64 s4)]), (.int .i64 x5)] h fun v h' => ∃ (y6 : Bool), v = (.bool y6) ∧ R y6 h'

theorem law3_IvalStabs.mono {r : World} {l1 : Sl} {s2 : Int} {s3 : Int} {s4 : Int} {x5 : Int} {h : Heap} {R R' : Bool → Heap → Prop} (H : law3_IvalStabs r l1 s2 s3 s4 x5 h R) (hr : ∀ y6 h, R y6 h → R' y6 h) : law3_IvalStabs r l1 s2 s3 s4 x5 h R' :=
  CallsH.mono H fun _ _ hx => by
    obtain ⟨y6, hv, hR⟩ := hx
    exact ⟨y6, hv, hr _ _ hR⟩

abbrev law3_IvalOver (r : World) (l1 : Sl) (low2 : Int) (high3 : Int) (x4 : Int) (more5 : Int) (h : Heap) (R : Bool → Heap → Prop) : Prop :=
  CallsH Try.prog r 8 [(Sl.v l1), (.int .i64 low2), (.int .i64 high3), (.int .i64 x4), (.int .i64 more5)] h fun v h' => ∃ (y6 : Bool), v = (.bool y6) ∧ R y6 h'

theorem law3_IvalOver.mono {r : World} {l1 : Sl} {low2 : Int} {high3 : Int} {x4 : Int} {more5 : Int} {h : Heap} {R R' : Bool → Heap → Prop} (H : law3_IvalOver r l1 low2 high3 x4 more5 h R) (hr : ∀ y6 h, R y6 h → R' y6 h) : law3_IvalOver r l1 low2 high3 x4 more5 h R' :=
  CallsH.mono H fun _ _ hx => by
    obtain ⟨y6, hv, hR⟩ := hx
    exact ⟨y6, hv, hr _ _ hR⟩

/-! ### ival_Map_Add -/

def ival_Map_Add_F (r : World) (m1 : Option Addr) (s2 : Int) (s3 : Int) (s4 : Int) (h : Heap) (R : Option Addr → Value → Heap → Prop) : Prop :=
  New h (.cells #[(.pointer m1)] 65) fun p5 h1 =>
  New h1 (.cells #[(.int .i64 s2), (.int .i64 s3), (.int .i64 s4)] 60) fun p8 h2 =>
  New h2 (.cells #[(.pointer none)] 65) fun p11 h3 =>
  LdI h3 (Addr.add p8 0) fun x14 =>
  LdI h3 (Addr.add p8 1) fun x16 =>
  Br (decide (x16 < x14)) (
    St h3 p11 1 [(.pointer none)] fun h4 =>
    LdP h4 (Addr.add p11 0) fun x20 =>
    R x20 ((.iface 97 (.int .i64 3))) h4) (
    LdP h3 (Addr.add (Addr.add p5 0) 0) fun x22 =>
    finger_Many_api_Span_ival_reach_ival_reaches_Find r x22 ((.func (.func 55) #[] #[(.pointer (some p8))])) h3 fun y24 h5 =>
    LdP h5 (Addr.add (Addr.add p5 0) 0) fun x25 =>
    LdI h5 (Addr.add p8 0) fun x27 =>
    LdI h5 (Addr.add p8 1) fun x29 =>
    LdI h5 (Addr.add p8 2) fun x31 =>
    finger_Many_api_Span_ival_reach_ival_reaches_Insert r x25 y24 x27 x29 x31 h5 fun y33 h6 =>
    St h6 p11 1 [(.pointer y33)] fun h7 =>
    LdP h7 (Addr.add p11 0) fun x36 =>
    R x36 .nilIface h7)

set_option maxRecDepth 100000 in
theorem ival_Map_Add_of {r : World} {m1 : Option Addr} {s2 : Int} {s3 : Int} {s4 : Int} {h : Heap} {R : Option Addr → Value → Heap → Prop} (H : ival_Map_Add_F r m1 s2 s3 s4 h R) : ival_Map_Add r m1 s2 s3 s4 h R := by
  unfold ival_Map_Add_F at H
  refine calls_of 24 [.cell 4 65, .tmp 5] Try.func32 rfl rfl rfl rfl rfl ?_
  refine W_seq ?_
  refine W_region (.ef 0 [] (.ef 1 [] (.ef 2 [] (.pu 3 .fin) .no) .no) .no) rfl rfl ?_
  obtain ⟨p5, e6⟩ : ∃ p : Addr, p = ⟨h.size, 0, none⟩ := ⟨_, rfl⟩
  obtain ⟨h1, e7⟩ : ∃ hh : Heap, hh = h.push (.cells #[(.pointer m1)] 65) := ⟨_, rfl⟩
  have H := H p5 h1 e6 e7
  refine s_ef1 (d := some 2) (v := (.pointer (some p5))) (h' := h1) rfl rfl rfl (fun dr => (r_box (v := (.agg #[(.pointer m1)])) rfl).trans (by rw [e6, e7]; rfl)) trivial ?_ trivial
  obtain ⟨p8, e9⟩ : ∃ p : Addr, p = ⟨h1.size, 0, none⟩ := ⟨_, rfl⟩
  obtain ⟨h2, e10⟩ : ∃ hh : Heap, hh = h1.push (.cells #[(.int .i64 s2), (.int .i64 s3), (.int .i64 s4)] 60) := ⟨_, rfl⟩
  have H := H p8 h2 e9 e10
  refine s_ef1 (d := some 3) (v := (.pointer (some p8))) (h' := h2) rfl rfl rfl (fun dr => (r_box (v := (.agg #[(.int .i64 s2), (.int .i64 s3), (.int .i64 s4)])) rfl).trans (by rw [e9, e10]; rfl)) trivial ?_ trivial
  obtain ⟨p11, e12⟩ : ∃ p : Addr, p = ⟨h2.size, 0, none⟩ := ⟨_, rfl⟩
  obtain ⟨h3, e13⟩ : ∃ hh : Heap, hh = h2.push (.cells #[(.pointer none)] 65) := ⟨_, rfl⟩
  have H := H p11 h3 e12 e13
  refine s_ef1 (d := some 4) (v := (.pointer (some p11))) (h' := h3) rfl rfl rfl (fun dr => (r_alloc Try.zeroValue65).trans (by rw [e12, e13]; rfl)) trivial ?_ trivial
  refine s_pu (d := some 5) (v := .nilIface) rfl rfl rfl (r_assign rfl) ?_
  refine s_fin ?_
  show W _ _ _ _ _ _ _ _
  refine W_seq ?_
  refine W_seq ?_
  refine W_region (.pu 0 (.rl 1 (.pu 2 (.rl 3 (.pu 4 .fin))))) rfl rfl ?_
  refine s_pu (d := some 7) (v := (.pointer (some (Addr.add p8 0)))) rfl rfl rfl (r_fieldAddr Try.underlying60 Try.sizeOf3 rfl rfl rfl) ?_
  obtain ⟨x14, e15, H⟩ := H
  refine s_rl (d := some 8) (v := (.int .i64 x14)) rfl rfl rfl (fun dr => r_load1 Try.isAgg3 rfl e15) ?_
  refine s_pu (d := some 9) (v := (.pointer (some (Addr.add p8 1)))) rfl rfl rfl (r_fieldAddr Try.underlying60 Try.sizeOf3 rfl rfl rfl) ?_
  obtain ⟨x16, e17, H⟩ := H
  refine s_rl (d := some 10) (v := (.int .i64 x16)) rfl rfl rfl (fun dr => r_load1 Try.isAgg3 rfl e17) ?_
  refine s_pu (d := some 11) (v := (.bool (decide (x16 < x14)))) rfl rfl rfl (r_gtr rfl rfl) ?_
  refine s_fin ?_
  show W _ _ _ _ _ _ _ _
  refine W_if (decide (x16 < x14)) rfl (fun g38 => ?_) (fun g38 => ?_)
  · have H := H.1 g38
    refine W_seq ?_
    refine W_region (.pu 0 (.pu 1 (.ef 2 [] (.pu 3 .fin) .no))) rfl rfl ?_
    refine s_pu (d := some 12) (v := (.agg #[(.pointer none)])) rfl rfl rfl (fun w => by kernel_rfl) ?_
    refine s_pu (d := some 13) (v := ((.iface 97 (.int .i64 3)))) rfl rfl rfl (r_iface Try.underlying97 rfl rfl) ?_
    obtain ⟨e19, H⟩ := H
    obtain ⟨h4, e18⟩ : ∃ hh : Heap, hh = hsets h3 p11 0 [(.pointer none)] := ⟨_, rfl⟩
    have H := H h4 e18
    refine s_st (d := none) (h' := h4) rfl rfl rfl (fun dr => (r_store (v := (.agg #[(.pointer none)])) Try.sizeOf65 rfl rfl rfl (one_all rfl) e19).trans (by rw [e18]; rfl)) trivial ?_ trivial
    refine s_pu (d := some 5) (v := ((.iface 97 (.int .i64 3)))) rfl rfl rfl (r_assign rfl) ?_
    refine s_fin ?_
    show W _ _ _ _ _ _ _ _
    refine W_ret ?_
    obtain ⟨x20, e21, H⟩ := H
    exact ⟨[(.agg #[(.pointer x20)]), ((.iface 97 (.int .i64 3)))], ⟨_, _, _, rfl, rfl, fun dr => run_loadVarN Try.isAgg65 Try.sizeOf65 (vs := [(.pointer x20)]) rfl ⟨e21, trivial⟩, ⟨_, _, rfl, rfl, rfl⟩⟩, x20, ((.iface 97 (.int .i64 3))), rfl, H⟩
  · have H := H.2 g38
    refine W_skip ?_
    show W _ _ _ _ _ _ _ _
    refine W_seq ?_
    refine W_region (.pu 0 (.rl 1 (.pu 2 (.ef 3 [] (.pu 4 .fin) .no)))) rfl rfl ?_
    refine s_pu (d := some 14) (v := (.pointer (some (Addr.add p5 0)))) rfl rfl rfl (r_fieldAddr Try.underlying65 Try.sizeOf63 rfl rfl rfl) ?_
    obtain ⟨x22, e23, H⟩ := H
    refine s_rl (d := some 15) (v := (.agg #[(.pointer x22)])) rfl rfl rfl (fun dr => r_loadN Try.isAgg63 Try.sizeOf63 (vs := [(.pointer x22)]) rfl rfl ⟨e23, trivial⟩) ?_
    refine s_pu (d := some 16) (v := ((.func (.func 55) #[] #[(.pointer (some p8))]))) rfl rfl rfl (r_makeFunc rfl rfl) ?_
    refine s_ef (d := some 17) rfl rfl rfl (fun dr => r_call Try.call54 rfl rfl H) ?_ trivial
    rintro _ h5 ⟨y24, rfl, H⟩
    refine ⟨trivial, ?_⟩
    refine s_pu (d := some 6) (v := (.int .i64 y24)) rfl rfl rfl (r_assign rfl) ?_
    refine s_fin ?_
    show W _ _ _ _ _ _ _ _
    refine W_seq ?_
    refine W_region (.pu 0 (.rl 1 (.pu 2 (.rl 3 (.ef 4 [] (.pu 5 (.ef 6 [] (.pu 7 .fin) .no)) .no))))) rfl rfl ?_
    refine s_pu (d := some 18) (v := (.pointer (some (Addr.add p5 0)))) rfl rfl rfl (r_fieldAddr Try.underlying65 Try.sizeOf63 rfl rfl rfl) ?_
    obtain ⟨x25, e26, H⟩ := H
    refine s_rl (d := some 19) (v := (.agg #[(.pointer x25)])) rfl rfl rfl (fun dr => r_loadN Try.isAgg63 Try.sizeOf63 (vs := [(.pointer x25)]) rfl rfl ⟨e26, trivial⟩) ?_
    refine s_pu (d := some 20) (v := (.int .i64 y24)) rfl rfl rfl (r_move rfl) ?_
    obtain ⟨x27, e28, H⟩ := H
    obtain ⟨x29, e30, H⟩ := H
    obtain ⟨x31, e32, H⟩ := H
    refine s_rl (d := some 21) (v := (.agg #[(.int .i64 x27), (.int .i64 x29), (.int .i64 x31)])) rfl rfl rfl (fun dr => r_loadN Try.isAgg60 Try.sizeOf60 (vs := [(.int .i64 x27), (.int .i64 x29), (.int .i64 x31)]) rfl rfl ⟨e28, e30, e32, trivial⟩) ?_
    refine s_ef (d := some 22) rfl rfl rfl (fun dr => r_call Try.call56 rfl rfl H) ?_ trivial
    rintro _ h6 ⟨y33, rfl, H⟩
    refine ⟨trivial, ?_⟩
    refine s_pu (d := some 23) (v := (.agg #[(.pointer y33)])) rfl rfl rfl (fun w => by kernel_rfl) ?_
    obtain ⟨e35, H⟩ := H
    obtain ⟨h7, e34⟩ : ∃ hh : Heap, hh = hsets h6 p11 0 [(.pointer y33)] := ⟨_, rfl⟩
    have H := H h7 e34
    refine s_st (d := none) (h' := h7) rfl rfl rfl (fun dr => (r_store (v := (.agg #[(.pointer y33)])) Try.sizeOf65 rfl rfl rfl (one_all rfl) e35).trans (by rw [e34]; rfl)) trivial ?_ trivial
    refine s_pu (d := some 5) (v := .nilIface) rfl rfl rfl (r_assign rfl) ?_
    refine s_fin ?_
    show W _ _ _ _ _ _ _ _
    refine W_ret ?_
    obtain ⟨x36, e37, H⟩ := H
    exact ⟨[(.agg #[(.pointer x36)]), .nilIface], ⟨_, _, _, rfl, rfl, fun dr => run_loadVarN Try.isAgg65 Try.sizeOf65 (vs := [(.pointer x36)]) rfl ⟨e37, trivial⟩, ⟨_, _, rfl, rfl, rfl⟩⟩, x36, .nilIface, rfl, H⟩

/-! ### ival_Map_Add_1 -/

def ival_Map_Add_1_F (r : World) (vr1 : Bool) (vr2 : Int) (vr3 : Int) (c4 : Addr) (h : Heap) (R : Bool → Heap → Prop) : Prop :=
  New h (.cells #[(.bool vr1), (.int .i64 vr2), (.int .i64 vr3)] 100) fun p5 h1 =>
  ∀ J9 : Bool → Prop, (∀ (x8 : Bool),
    (R x8 h1) →
    J9 x8) →
  LdB h1 (Addr.add p5 0) fun x11 =>
  Br x11 (
    LdI h1 (Addr.add p5 1) fun x14 =>
    LdI h1 (Addr.add c4 0) fun x16 =>
    J9 (decide (x16 < x14))) (
    J9 false)

set_option maxRecDepth 100000 in
theorem ival_Map_Add_1_of {r : World} {vr1 : Bool} {vr2 : Int} {vr3 : Int} {c4 : Addr} {h : Heap} {R : Bool → Heap → Prop} (H : ival_Map_Add_1_F r vr1 vr2 vr3 c4 h R) : ival_Map_Add_1 r vr1 vr2 vr3 c4 h R := by
  unfold ival_Map_Add_1_F at H
  refine calls_of 13 [.tmp 3] Try.func55 rfl rfl rfl rfl rfl ?_
  refine W_seq ?_
  refine W_region (.ef 0 [] (.pu 1 .fin) .no) rfl rfl ?_
  obtain ⟨p5, e6⟩ : ∃ p : Addr, p = ⟨h.size, 0, none⟩ := ⟨_, rfl⟩
  obtain ⟨h1, e7⟩ : ∃ hh : Heap, hh = h.push (.cells #[(.bool vr1), (.int .i64 vr2), (.int .i64 vr3)] 100) := ⟨_, rfl⟩
  have H := H p5 h1 e6 e7
  refine s_ef1 (d := some 2) (v := (.pointer (some p5))) (h' := h1) rfl rfl rfl (fun dr => (r_box (v := (.agg #[(.bool vr1), (.int .i64 vr2), (.int .i64 vr3)])) rfl).trans (by rw [e6, e7]; rfl)) trivial ?_ trivial
  refine s_pu (d := some 3) (v := (.bool false)) rfl rfl rfl (r_assign rfl) ?_
  refine s_fin ?_
  show W _ _ _ _ _ _ _ _
  refine W_seq ?_
  refine W_set ?_
  intro N10 eN10
  have H := H (fun (x8 : Bool) => ∀ b, N10 [] (mkE [(3, (.bool x8))] b) h1) (by
    intro x8 H b
    rw [eN10]
    show W _ _ _ _ _ _ _ _
    refine W_ret ?_
    exact ⟨[(.bool x8)], ⟨_, _, rfl, rfl, rfl⟩, x8, rfl, H⟩)
  clear eN10
  refine W_region (.pu 0 (.rl 1 (.pu 2 (.pu 3 (.rl 4 (.pu 5 (.rl 6 (.pu 7 (.pu 8 (.pu 9 .fin)))))))))) rfl rfl ?_
  refine s_pu (d := some 4) (v := (.pointer (some (Addr.add p5 0)))) rfl rfl rfl (r_fieldAddr Try.underlying100 Try.sizeOf4 rfl rfl rfl) ?_
  obtain ⟨x11, e12, H⟩ := H
  refine s_rl (d := some 5) (v := (.bool x11)) rfl rfl rfl (fun dr => r_load1 Try.isAgg4 rfl e12) ?_
  refine s_pu (d := some 6) (v := (.bool x11)) rfl rfl rfl (r_move rfl) ?_
  rcases Bool.eq_false_or_eq_true x11 with g13 | g13
  · have H := H.1 g13
    refine s_pu (d := some 7) (v := (.pointer (some (Addr.add p5 1)))) rfl rfl (wants_yes rfl rfl rfl rfl g13) (r_fieldAddr Try.underlying100 Try.sizeOf3 rfl rfl rfl) ?_
    obtain ⟨x14, e15, H⟩ := H
    refine s_rl (d := some 8) (v := (.int .i64 x14)) rfl rfl (wants_yes rfl rfl rfl rfl g13) (fun dr => r_load1 Try.isAgg3 rfl e15) ?_
    refine s_pu (d := some 9) (v := (.pointer (some (Addr.add c4 0)))) rfl rfl (wants_yes rfl rfl rfl rfl g13) (r_fieldAddr Try.underlying60 Try.sizeOf3 rfl rfl rfl) ?_
    obtain ⟨x16, e17, H⟩ := H
    refine s_rl (d := some 10) (v := (.int .i64 x16)) rfl rfl (wants_yes rfl rfl rfl rfl g13) (fun dr => r_load1 Try.isAgg3 rfl e17) ?_
    refine s_pu (d := some 11) (v := (.bool (decide (x16 < x14)))) rfl rfl (wants_yes rfl rfl rfl rfl g13) (r_gtr rfl rfl) ?_
    refine s_pu (d := some 12) (v := (.bool (decide (x16 < x14)))) rfl rfl rfl (r_pick1 rfl g13 rfl) ?_
    refine s_pu (d := some 3) (v := (.bool (decide (x16 < x14)))) rfl rfl rfl (r_assign rfl) ?_
    refine s_fin ?_
    exact N_mk (l := [(3, (.bool (decide (x16 < x14))))]) H ⟨rfl, trivial⟩
  · have H := H.2 g13
    refine s_sk (d := some 7) rfl rfl (wants_no rfl rfl rfl rfl g13) ?_
    refine s_skl (d := some 8) rfl rfl (wants_no rfl rfl rfl rfl g13) ?_
    refine s_sk (d := some 9) rfl rfl (wants_no rfl rfl rfl rfl g13) ?_
    refine s_skl (d := some 10) rfl rfl (wants_no rfl rfl rfl rfl g13) ?_
    refine s_sk (d := some 11) rfl rfl (wants_no rfl rfl rfl rfl g13) ?_
    refine s_pu (d := some 12) (v := (.bool false)) rfl rfl rfl (r_pick0 rfl g13 rfl) ?_
    refine s_pu (d := some 3) (v := (.bool false)) rfl rfl rfl (r_assign rfl) ?_
    refine s_fin ?_
    exact N_mk (l := [(3, (.bool false))]) H ⟨rfl, trivial⟩

/-! ### ival_Map_All -/

def ival_Map_All_F (r : World) (m1 : Option Addr) (x2 : Int) (h : Heap) (R : Sl → Heap → Prop) : Prop :=
  New h (.cells #[(.pointer m1)] 65) fun p3 h1 =>
  LdP h1 (Addr.add p3 0) fun x6 =>
  ival_Map_Over r x6 x2 x2 h1 fun y8 h2 =>
  R y8 h2

set_option maxRecDepth 100000 in
theorem ival_Map_All_of {r : World} {m1 : Option Addr} {x2 : Int} {h : Heap} {R : Sl → Heap → Prop} (H : ival_Map_All_F r m1 x2 h R) : ival_Map_All r m1 x2 h R := by
  unfold ival_Map_All_F at H
  refine calls_of 9 [.tmp 4] Try.func33 rfl rfl rfl rfl rfl ?_
  refine W_seq ?_
  refine W_region (.ef 0 [] (.pu 1 .fin) .no) rfl rfl ?_
  obtain ⟨p3, e4⟩ : ∃ p : Addr, p = ⟨h.size, 0, none⟩ := ⟨_, rfl⟩
  obtain ⟨h1, e5⟩ : ∃ hh : Heap, hh = h.push (.cells #[(.pointer m1)] 65) := ⟨_, rfl⟩
  have H := H p3 h1 e4 e5
  refine s_ef1 (d := some 2) (v := (.pointer (some p3))) (h' := h1) rfl rfl rfl (fun dr => (r_box (v := (.agg #[(.pointer m1)])) rfl).trans (by rw [e4, e5]; rfl)) trivial ?_ trivial
  refine s_pu (d := some 4) (v := (Sl.v Sl.nil)) rfl rfl rfl (r_assign rfl) ?_
  refine s_fin ?_
  show W _ _ _ _ _ _ _ _
  refine W_seq ?_
  refine W_region (.rl 0 (.pu 1 (.pu 2 (.ef 3 [] (.pu 4 .fin) .no)))) rfl rfl ?_
  obtain ⟨x6, e7, H⟩ := H
  refine s_rl (d := some 5) (v := (.agg #[(.pointer x6)])) rfl rfl rfl (fun dr => r_loadN Try.isAgg65 Try.sizeOf65 (vs := [(.pointer x6)]) rfl rfl ⟨e7, trivial⟩) ?_
  refine s_pu (d := some 6) (v := (.int .i64 x2)) rfl rfl rfl (r_move rfl) ?_
  refine s_pu (d := some 7) (v := (.int .i64 x2)) rfl rfl rfl (r_move rfl) ?_
  refine s_ef (d := some 8) rfl rfl rfl (fun dr => r_call Try.call34 rfl rfl H) ?_ trivial
  rintro _ h2 ⟨y8, rfl, H⟩
  refine ⟨trivial, ?_⟩
  refine s_pu (d := some 4) (v := (Sl.v y8)) rfl rfl rfl (r_assign rfl) ?_
  refine s_fin ?_
  show W _ _ _ _ _ _ _ _
  refine W_ret ?_
  exact ⟨[(Sl.v y8)], ⟨_, _, rfl, rfl, rfl⟩, y8, rfl, H⟩

/-! ### ival_Map_Over -/

def ival_Map_Over_F (r : World) (m1 : Option Addr) (low2 : Int) (high3 : Int) (h : Heap) (R : Sl → Heap → Prop) : Prop :=
  New h (.cells #[(.pointer m1)] 65) fun p4 h1 =>
  New h1 (.cells #[(.int .i64 low2)] 3) fun p7 h2 =>
  New h2 (.cells #[(.int .i64 high3)] 3) fun p10 h3 =>
  LdI h3 p7 fun x13 =>
  LdI h3 p10 fun x15 =>
  Br (decide (x15 < x13)) (
    R Sl.nil h3) (
    ∀ J18 : Addr → Heap → Prop, (∀ (p17 : Addr) (h4 : Heap),
      (∀ J21 : Sl → Heap → Prop, (∀ (out20 : Sl) (h5 : Heap),
        (R out20 h5) →
        J21 out20 h5) →
      ∀ X24 : Sl → Heap → Prop, (∀ (out23 : Sl) (h6 : Heap),
        (LdP h6 (Addr.add p17 0) fun x25 =>
        finger_Many_api_Span_ival_reach_ival_reaches_Len r x25 h6 fun y27 h7 =>
        Br (decide (0 < y27)) (
          LdP h7 (Addr.add p17 0) fun x28 =>
          finger_Many_api_Span_ival_reach_ival_reaches_Find r x28 ((.func (.func 60) #[] #[(.pointer (some p7))])) h7 fun y30 h8 =>
          LdP h8 (Addr.add p17 0) fun x31 =>
          finger_Many_api_Span_ival_reach_ival_reaches_Len r x31 h8 fun y33 h9 =>
          Br (decide (y33 ≤ y30)) (
            J21 out23 h9) (
            LdP h9 (Addr.add p17 0) fun x34 =>
            finger_Many_api_Span_ival_reach_ival_reaches_At r x34 y30 h9 fun y36 y37 y38 h10 =>
            New h10 (.cells #[(.int .i64 y36), (.int .i64 y37), (.int .i64 y38)] 60) fun p39 h11 =>
            App 60 3 24 (.agg #[(.int .i64 0), (.int .i64 0), (.int .i64 0)]) out23 ((⟨some p39, 1, 1⟩ : Sl)) h11 fun s42 h12 =>
            LdP h12 (Addr.add p17 0) fun x43 =>
            finger_Many_api_Span_ival_reach_ival_reaches_Split r x43 (w64 (y30 + 1)) h12 fun y45 y46 h13 =>
            St h13 p17 1 [(.pointer y46)] fun h14 =>
            X24 s42 h14)) (
          J21 out23 h7)) →
        X24 out23 h6) →
      X24 Sl.nil h4) →
      J18 p17 h4) →
    LdP h3 (Addr.add (Addr.add p4 0) 0) fun x51 =>
    LdP h3 (Addr.add (Addr.add p4 0) 0) fun x53 =>
    (finger_Many_api_Span_ival_reach_ival_reaches_Find r x53 ((.func (.func 58) #[] #[(.pointer (some p10))])) h3 fun y55 h15 =>
    (hcell h15 (Addr.add (Addr.add p4 0) 0) = some (.pointer x51)) ∧
    (finger_Many_api_Span_ival_reach_ival_reaches_Split r x51 y55 h15 fun y57 y58 h16 =>
    (New h16 (.cells #[(.pointer none)] 63) fun p59 h17 =>
    (hcell h17 (Addr.add (Addr.add p4 0) 0) = some (.pointer x53)) ∧
    (hcell h17 (Addr.add (Addr.add p4 0) 0) = some (.pointer x51)) ∧
    New h17 (.cells #[(.pointer none)] 63) fun p64 h18 =>
    (hcell h18 (Addr.add (Addr.add p4 0) 0) = some (.pointer x53)) ∧
    (hcell h18 (Addr.add (Addr.add p4 0) 0) = some (.pointer x51)) ∧
    St h18 p59 1 [(.pointer y57)] fun h19 =>
    St h19 p64 1 [(.pointer y58)] fun h20 =>
    J18 p59 h20) ∧
    (New h16 (.cells #[(.pointer none)] 63) fun p73 h21 =>
    (hcell h21 (Addr.add (Addr.add p4 0) 0) = some (.pointer x53)) ∧
    (hcell h21 (Addr.add (Addr.add p4 0) 0) = some (.pointer x51)) ∧
    New h21 (.cells #[(.pointer none)] 63) fun p78 h22 =>
    (hcell h22 (Addr.add (Addr.add p4 0) 0) = some (.pointer x53)) ∧
    (hcell h22 (Addr.add (Addr.add p4 0) 0) = some (.pointer x51)) ∧
    St h22 p78 1 [(.pointer y57)] fun h23 =>
    St h23 p73 1 [(.pointer y58)] fun h24 =>
    J18 p78 h24)) ∧
    (New h15 (.cells #[(.pointer none)] 63) fun p87 h25 =>
    (hcell h25 (Addr.add (Addr.add p4 0) 0) = some (.pointer x53)) ∧
    (hcell h25 (Addr.add (Addr.add p4 0) 0) = some (.pointer x51)) ∧
    (finger_Many_api_Span_ival_reach_ival_reaches_Split r x51 y55 h25 fun y92 y93 h26 =>
    New h26 (.cells #[(.pointer none)] 63) fun p94 h27 =>
    (hcell h27 (Addr.add (Addr.add p4 0) 0) = some (.pointer x53)) ∧
    (hcell h27 (Addr.add (Addr.add p4 0) 0) = some (.pointer x51)) ∧
    St h27 p87 1 [(.pointer y92)] fun h28 =>
    St h28 p94 1 [(.pointer y93)] fun h29 =>
    J18 p87 h29) ∧
    (New h25 (.cells #[(.pointer none)] 63) fun p103 h30 =>
    (hcell h30 (Addr.add (Addr.add p4 0) 0) = some (.pointer x53)) ∧
    (hcell h30 (Addr.add (Addr.add p4 0) 0) = some (.pointer x51)) ∧
    finger_Many_api_Span_ival_reach_ival_reaches_Split r x51 y55 h30 fun y108 y109 h31 =>
    St h31 p87 1 [(.pointer y108)] fun h32 =>
    St h32 p103 1 [(.pointer y109)] fun h33 =>
    J18 p87 h33)) ∧
    (New h15 (.cells #[(.pointer none)] 63) fun p114 h34 =>
    (hcell h34 (Addr.add (Addr.add p4 0) 0) = some (.pointer x53)) ∧
    (hcell h34 (Addr.add (Addr.add p4 0) 0) = some (.pointer x51)) ∧
    (finger_Many_api_Span_ival_reach_ival_reaches_Split r x51 y55 h34 fun y119 y120 h35 =>
    New h35 (.cells #[(.pointer none)] 63) fun p121 h36 =>
    (hcell h36 (Addr.add (Addr.add p4 0) 0) = some (.pointer x53)) ∧
    (hcell h36 (Addr.add (Addr.add p4 0) 0) = some (.pointer x51)) ∧
    St h36 p121 1 [(.pointer y119)] fun h37 =>
    St h37 p114 1 [(.pointer y120)] fun h38 =>
    J18 p121 h38) ∧
    (New h34 (.cells #[(.pointer none)] 63) fun p130 h39 =>
    (hcell h39 (Addr.add (Addr.add p4 0) 0) = some (.pointer x53)) ∧
    (hcell h39 (Addr.add (Addr.add p4 0) 0) = some (.pointer x51)) ∧
    finger_Many_api_Span_ival_reach_ival_reaches_Split r x51 y55 h39 fun y135 y136 h40 =>
    St h40 p130 1 [(.pointer y135)] fun h41 =>
    St h41 p114 1 [(.pointer y136)] fun h42 =>
    J18 p130 h42))) ∧
    (New h3 (.cells #[(.pointer none)] 63) fun p141 h43 =>
    (hcell h43 (Addr.add (Addr.add p4 0) 0) = some (.pointer x53)) ∧
    (hcell h43 (Addr.add (Addr.add p4 0) 0) = some (.pointer x51)) ∧
    (finger_Many_api_Span_ival_reach_ival_reaches_Find r x53 ((.func (.func 58) #[] #[(.pointer (some p10))])) h43 fun y146 h44 =>
    (hcell h44 (Addr.add (Addr.add p4 0) 0) = some (.pointer x51)) ∧
    (finger_Many_api_Span_ival_reach_ival_reaches_Split r x51 y146 h44 fun y148 y149 h45 =>
    New h45 (.cells #[(.pointer none)] 63) fun p150 h46 =>
    (hcell h46 (Addr.add (Addr.add p4 0) 0) = some (.pointer x53)) ∧
    (hcell h46 (Addr.add (Addr.add p4 0) 0) = some (.pointer x51)) ∧
    St h46 p141 1 [(.pointer y148)] fun h47 =>
    St h47 p150 1 [(.pointer y149)] fun h48 =>
    J18 p141 h48) ∧
    (New h44 (.cells #[(.pointer none)] 63) fun p159 h49 =>
    (hcell h49 (Addr.add (Addr.add p4 0) 0) = some (.pointer x53)) ∧
    (hcell h49 (Addr.add (Addr.add p4 0) 0) = some (.pointer x51)) ∧
    finger_Many_api_Span_ival_reach_ival_reaches_Split r x51 y146 h49 fun y164 y165 h50 =>
    St h50 p141 1 [(.pointer y164)] fun h51 =>
    St h51 p159 1 [(.pointer y165)] fun h52 =>
    J18 p141 h52)) ∧
    (New h43 (.cells #[(.pointer none)] 63) fun p170 h53 =>
    (hcell h53 (Addr.add (Addr.add p4 0) 0) = some (.pointer x53)) ∧
    (hcell h53 (Addr.add (Addr.add p4 0) 0) = some (.pointer x51)) ∧
    finger_Many_api_Span_ival_reach_ival_reaches_Find r x53 ((.func (.func 58) #[] #[(.pointer (some p10))])) h53 fun y175 h54 =>
    (hcell h54 (Addr.add (Addr.add p4 0) 0) = some (.pointer x51)) ∧
    finger_Many_api_Span_ival_reach_ival_reaches_Split r x51 y175 h54 fun y177 y178 h55 =>
    St h55 p141 1 [(.pointer y177)] fun h56 =>
    St h56 p170 1 [(.pointer y178)] fun h57 =>
    J18 p141 h57)) ∧
    (New h3 (.cells #[(.pointer none)] 63) fun p183 h58 =>
    (hcell h58 (Addr.add (Addr.add p4 0) 0) = some (.pointer x53)) ∧
    (hcell h58 (Addr.add (Addr.add p4 0) 0) = some (.pointer x51)) ∧
    (finger_Many_api_Span_ival_reach_ival_reaches_Find r x53 ((.func (.func 58) #[] #[(.pointer (some p10))])) h58 fun y188 h59 =>
    (hcell h59 (Addr.add (Addr.add p4 0) 0) = some (.pointer x51)) ∧
    (finger_Many_api_Span_ival_reach_ival_reaches_Split r x51 y188 h59 fun y190 y191 h60 =>
    New h60 (.cells #[(.pointer none)] 63) fun p192 h61 =>
    (hcell h61 (Addr.add (Addr.add p4 0) 0) = some (.pointer x53)) ∧
    (hcell h61 (Addr.add (Addr.add p4 0) 0) = some (.pointer x51)) ∧
    St h61 p192 1 [(.pointer y190)] fun h62 =>
    St h62 p183 1 [(.pointer y191)] fun h63 =>
    J18 p192 h63) ∧
    (New h59 (.cells #[(.pointer none)] 63) fun p201 h64 =>
    (hcell h64 (Addr.add (Addr.add p4 0) 0) = some (.pointer x53)) ∧
    (hcell h64 (Addr.add (Addr.add p4 0) 0) = some (.pointer x51)) ∧
    finger_Many_api_Span_ival_reach_ival_reaches_Split r x51 y188 h64 fun y206 y207 h65 =>
    St h65 p201 1 [(.pointer y206)] fun h66 =>
    St h66 p183 1 [(.pointer y207)] fun h67 =>
    J18 p201 h67)) ∧
    (New h58 (.cells #[(.pointer none)] 63) fun p212 h68 =>
    (hcell h68 (Addr.add (Addr.add p4 0) 0) = some (.pointer x53)) ∧
    (hcell h68 (Addr.add (Addr.add p4 0) 0) = some (.pointer x51)) ∧
    finger_Many_api_Span_ival_reach_ival_reaches_Find r x53 ((.func (.func 58) #[] #[(.pointer (some p10))])) h68 fun y217 h69 =>
    (hcell h69 (Addr.add (Addr.add p4 0) 0) = some (.pointer x51)) ∧
    finger_Many_api_Span_ival_reach_ival_reaches_Split r x51 y217 h69 fun y219 y220 h70 =>
    St h70 p212 1 [(.pointer y219)] fun h71 =>
    St h71 p183 1 [(.pointer y220)] fun h72 =>
    J18 p212 h72)))

set_option maxRecDepth 100000 in
theorem ival_Map_Over_of {r : World} {m1 : Option Addr} {low2 : Int} {high3 : Int} {h : Heap} {R : Sl → Heap → Prop} (H : ival_Map_Over_F r m1 low2 high3 h R) : ival_Map_Over r m1 low2 high3 h R := by
  unfold ival_Map_Over_F at H
  refine calls_of 48 [.tmp 6] Try.func34 rfl rfl rfl rfl rfl ?_
  refine W_seq ?_
  refine W_region (.ef 0 [] (.ef 1 [] (.ef 2 [] (.pu 3 .fin) .no) .no) .no) rfl rfl ?_
  obtain ⟨p4, e5⟩ : ∃ p : Addr, p = ⟨h.size, 0, none⟩ := ⟨_, rfl⟩
  obtain ⟨h1, e6⟩ : ∃ hh : Heap, hh = h.push (.cells #[(.pointer m1)] 65) := ⟨_, rfl⟩
  have H := H p4 h1 e5 e6
  refine s_ef1 (d := some 3) (v := (.pointer (some p4))) (h' := h1) rfl rfl rfl (fun dr => (r_box (v := (.agg #[(.pointer m1)])) rfl).trans (by rw [e5, e6]; rfl)) trivial ?_ trivial
  obtain ⟨p7, e8⟩ : ∃ p : Addr, p = ⟨h1.size, 0, none⟩ := ⟨_, rfl⟩
  obtain ⟨h2, e9⟩ : ∃ hh : Heap, hh = h1.push (.cells #[(.int .i64 low2)] 3) := ⟨_, rfl⟩
  have H := H p7 h2 e8 e9
  refine s_ef1 (d := some 4) (v := (.pointer (some p7))) (h' := h2) rfl rfl rfl (fun dr => (r_box (v := (.int .i64 low2)) rfl).trans (by rw [e8, e9]; rfl)) trivial ?_ trivial
  obtain ⟨p10, e11⟩ : ∃ p : Addr, p = ⟨h2.size, 0, none⟩ := ⟨_, rfl⟩
  obtain ⟨h3, e12⟩ : ∃ hh : Heap, hh = h2.push (.cells #[(.int .i64 high3)] 3) := ⟨_, rfl⟩
  have H := H p10 h3 e11 e12
  refine s_ef1 (d := some 5) (v := (.pointer (some p10))) (h' := h3) rfl rfl rfl (fun dr => (r_box (v := (.int .i64 high3)) rfl).trans (by rw [e11, e12]; rfl)) trivial ?_ trivial
  refine s_pu (d := some 6) (v := (Sl.v Sl.nil)) rfl rfl rfl (r_assign rfl) ?_
  refine s_fin ?_
  show W _ _ _ _ _ _ _ _
  refine W_seq ?_
  refine W_seq ?_
  refine W_region (.rl 0 (.rl 1 (.pu 2 .fin))) rfl rfl ?_
  obtain ⟨x13, e14, H⟩ := H
  refine s_rl (d := some 11) (v := (.int .i64 x13)) rfl rfl rfl (fun dr => r_load1 Try.isAgg3 rfl e14) ?_
  obtain ⟨x15, e16, H⟩ := H
  refine s_rl (d := some 12) (v := (.int .i64 x15)) rfl rfl rfl (fun dr => r_load1 Try.isAgg3 rfl e16) ?_
  refine s_pu (d := some 13) (v := (.bool (decide (x15 < x13)))) rfl rfl rfl (r_gtr rfl rfl) ?_
  refine s_fin ?_
  show W _ _ _ _ _ _ _ _
  refine W_if (decide (x15 < x13)) rfl (fun g225 => ?_) (fun g225 => ?_)
  · have H := H.1 g225
    refine W_seq ?_
    refine W_region (.pu 0 .fin) rfl rfl ?_
    refine s_pu (d := some 6) (v := (Sl.v Sl.nil)) rfl rfl rfl (r_assign rfl) ?_
    refine s_fin ?_
    show W _ _ _ _ _ _ _ _
    refine W_ret ?_
    exact ⟨[(Sl.v Sl.nil)], ⟨_, _, rfl, rfl, rfl⟩, Sl.nil, rfl, H⟩
  · have H := H.2 g225
    refine W_skip ?_
    show W _ _ _ _ _ _ _ _
    refine W_seq ?_
    refine W_set ?_
    intro N19 eN19
    have H := H (fun (p17 : Addr) (h4 : Heap) => ∀ b, N19 [] (mkE [(4, (.pointer (some p7))), (7, (.pointer (some p17)))] b) h4) (by
      intro p17 h4 H b
      rw [eN19]
      show W _ _ _ _ _ _ _ _
      refine W_seq ?_
      refine W_region (.pu 0 .fin) rfl rfl ?_
      refine s_pu (d := some 9) (v := (Sl.v Sl.nil)) rfl rfl rfl (r_assign rfl) ?_
      refine s_fin ?_
      show W _ _ _ _ _ _ _ _
      refine W_seq ?_
      refine W_set ?_
      intro N22 eN22
      have H := H (fun (out20 : Sl) (h5 : Heap) => ∀ b, N22 [] (mkE [(9, (Sl.v out20))] b) h5) (by
        intro out20 h5 H b
        rw [eN22]
        show W _ _ _ _ _ _ _ _
        refine W_seq ?_
        refine W_region (.pu 0 (.pu 1 .fin)) rfl rfl ?_
        refine s_pu (d := some 47) (v := (Sl.v out20)) rfl rfl rfl (r_move rfl) ?_
        refine s_pu (d := some 6) (v := (Sl.v out20)) rfl rfl rfl (r_assign rfl) ?_
        refine s_fin ?_
        show W _ _ _ _ _ _ _ _
        refine W_ret ?_
        exact ⟨[(Sl.v out20)], ⟨_, _, rfl, rfl, rfl⟩, out20, rfl, H⟩)
      clear eN22
      refine W_block ?_
      refine W_loop (WL_mk (l := [(4, (.pointer (some p7))), (7, (.pointer (some p17))), (9, (Sl.v Sl.nil))]) ?_ ⟨rfl, rfl, rfl, trivial⟩)
      refine H (fun (out23 : Sl) (h6 : Heap) => ∀ b, WL _ _ _ _ _ _ (mkE [(4, (.pointer (some p7))), (7, (.pointer (some p17))), (9, (Sl.v out23))] b) h6) ?_
      intro out23 h6 H b
      refine WL_round ?_
      refine W_seq ?_
      refine W_seq ?_
      refine W_region (.rl 0 (.ef 1 [] (.pu 2 .fin) .no)) rfl rfl ?_
      obtain ⟨x25, e26, H⟩ := H
      refine s_rl (d := some 24) (v := (.agg #[(.pointer x25)])) rfl rfl rfl (fun dr => r_loadN Try.isAgg63 Try.sizeOf63 (vs := [(.pointer x25)]) rfl rfl ⟨e26, trivial⟩) ?_
      refine s_ef (d := some 25) rfl rfl rfl (fun dr => r_call Try.call59 rfl rfl H) ?_ trivial
      rintro _ h7 ⟨y27, rfl, H⟩
      refine ⟨trivial, ?_⟩
      refine s_pu (d := some 26) (v := (.bool (decide (0 < y27)))) rfl rfl rfl (r_gtr rfl rfl) ?_
      refine s_fin ?_
      show W _ _ _ _ _ _ _ _
      refine W_if (decide (0 < y27)) rfl (fun g50 => ?_) (fun g50 => ?_)
      · have H := H.1 g50
        refine W_skip ?_
        show W _ _ _ _ _ _ _ _
        refine W_block ?_
        refine W_seq ?_
        refine W_region (.rl 0 (.pu 1 (.ef 2 [] (.pu 3 .fin) .no))) rfl rfl ?_
        obtain ⟨x28, e29, H⟩ := H
        refine s_rl (d := some 27) (v := (.agg #[(.pointer x28)])) rfl rfl rfl (fun dr => r_loadN Try.isAgg63 Try.sizeOf63 (vs := [(.pointer x28)]) rfl rfl ⟨e29, trivial⟩) ?_
        refine s_pu (d := some 28) (v := ((.func (.func 60) #[] #[(.pointer (some p7))]))) rfl rfl rfl (r_makeFunc rfl rfl) ?_
        refine s_ef (d := some 29) rfl rfl rfl (fun dr => r_call Try.call54 rfl rfl H) ?_ trivial
        rintro _ h8 ⟨y30, rfl, H⟩
        refine ⟨trivial, ?_⟩
        refine s_pu (d := some 10) (v := (.int .i64 y30)) rfl rfl rfl (r_assign rfl) ?_
        refine s_fin ?_
        show W _ _ _ _ _ _ _ _
        refine W_seq ?_
        refine W_seq ?_
        refine W_region (.pu 0 (.rl 1 (.ef 2 [] (.pu 3 .fin) .no))) rfl rfl ?_
        refine s_pu (d := some 30) (v := (.int .i64 y30)) rfl rfl rfl (r_move rfl) ?_
        obtain ⟨x31, e32, H⟩ := H
        refine s_rl (d := some 31) (v := (.agg #[(.pointer x31)])) rfl rfl rfl (fun dr => r_loadN Try.isAgg63 Try.sizeOf63 (vs := [(.pointer x31)]) rfl rfl ⟨e32, trivial⟩) ?_
        refine s_ef (d := some 32) rfl rfl rfl (fun dr => r_call Try.call59 rfl rfl H) ?_ trivial
        rintro _ h9 ⟨y33, rfl, H⟩
        refine ⟨trivial, ?_⟩
        refine s_pu (d := some 33) (v := (.bool (decide (y33 ≤ y30)))) rfl rfl rfl (r_geq rfl rfl) ?_
        refine s_fin ?_
        show W _ _ _ _ _ _ _ _
        refine W_if (decide (y33 ≤ y30)) rfl (fun g49 => ?_) (fun g49 => ?_)
        · have H := H.1 g49
          refine W_exit (inX_out rfl (inX_here ?_))
          exact N_mk (l := [(9, (Sl.v out23))]) H ⟨rfl, trivial⟩
        · have H := H.2 g49
          refine W_skip ?_
          show W _ _ _ _ _ _ _ _
          refine W_seq ?_
          refine W_region (.pu 0 (.rl 1 (.pu 2 (.ef 3 [] (.ef 4 [] (.ef 5 [] (.pu 6 .fin) .no) .no) .no)))) rfl rfl ?_
          refine s_pu (d := some 34) (v := (Sl.v out23)) rfl rfl rfl (r_move rfl) ?_
          obtain ⟨x34, e35, H⟩ := H
          refine s_rl (d := some 35) (v := (.agg #[(.pointer x34)])) rfl rfl rfl (fun dr => r_loadN Try.isAgg63 Try.sizeOf63 (vs := [(.pointer x34)]) rfl rfl ⟨e35, trivial⟩) ?_
          refine s_pu (d := some 36) (v := (.int .i64 y30)) rfl rfl rfl (r_move rfl) ?_
          refine s_ef (d := some 37) rfl rfl rfl (fun dr => r_call Try.call61 rfl rfl H) ?_ trivial
          rintro _ h10 ⟨y36, y37, y38, rfl, H⟩
          refine ⟨trivial, ?_⟩
          obtain ⟨p39, e40⟩ : ∃ p : Addr, p = ⟨h10.size, 0, none⟩ := ⟨_, rfl⟩
          obtain ⟨h11, e41⟩ : ∃ hh : Heap, hh = h10.push (.cells #[(.int .i64 y36), (.int .i64 y37), (.int .i64 y38)] 60) := ⟨_, rfl⟩
          have H := H p39 h11 e40 e41
          refine s_ef1 (d := some 38) (v := (Sl.v ((⟨some p39, 1, 1⟩ : Sl)))) (h' := h11) rfl rfl rfl (fun dr => (slFILaw_58.build (cells := #[(.int .i64 y36), (.int .i64 y37), (.int .i64 y38)]) (by decide) rfl (by kernel_rfl)).trans (by rw [e40, e41]; rfl)) trivial ?_ trivial
          refine s_ef (d := some 39) rfl rfl rfl (fun dr => slFILaw_58.append rfl rfl H) ?_ trivial
          rintro _ h12 ⟨s42, rfl, H⟩
          refine ⟨trivial, ?_⟩
          refine s_pu (d := some 9) (v := (Sl.v s42)) rfl rfl rfl (r_assign rfl) ?_
          refine s_fin ?_
          show W _ _ _ _ _ _ _ _
          refine W_region (.rl 0 (.pu 1 (.pu 2 (.ef 3 [] (.pu 4 (.pu 5 (.pu 6 (.ef 7 [] .fin .no)))) .no)))) rfl rfl ?_
          obtain ⟨x43, e44, H⟩ := H
          refine s_rl (d := some 41) (v := (.agg #[(.pointer x43)])) rfl rfl rfl (fun dr => r_loadN Try.isAgg63 Try.sizeOf63 (vs := [(.pointer x43)]) rfl rfl ⟨e44, trivial⟩) ?_
          refine s_pu (d := some 42) (v := (.int .i64 y30)) rfl rfl rfl (r_move rfl) ?_
          refine s_pu (d := some 43) (v := (.int .i64 (w64 (y30 + 1)))) rfl rfl rfl (r_add rfl rfl) ?_
          refine s_ef (d := some 44) rfl rfl rfl (fun dr => r_call Try.call57 rfl rfl H) ?_ trivial
          rintro _ h13 ⟨y45, y46, rfl, H⟩
          refine ⟨trivial, ?_⟩
          refine s_pu (d := some 40) (v := (.tuple #[(.agg #[(.pointer y45)]), (.agg #[(.pointer y46)])])) rfl rfl rfl (r_move rfl) ?_
          refine s_pu (d := some 45) (v := (.agg #[(.pointer y45)])) rfl rfl rfl (r_extract rfl rfl) ?_
          refine s_pu (d := some 46) (v := (.agg #[(.pointer y46)])) rfl rfl rfl (r_extract rfl rfl) ?_
          obtain ⟨e48, H⟩ := H
          obtain ⟨h14, e47⟩ : ∃ hh : Heap, hh = hsets h13 p17 0 [(.pointer y46)] := ⟨_, rfl⟩
          have H := H h14 e47
          refine s_st (d := none) (h' := h14) rfl rfl rfl (fun dr => (r_store (v := (.agg #[(.pointer y46)])) Try.sizeOf63 rfl rfl rfl (one_all rfl) e48).trans (by rw [e47]; rfl)) trivial ?_ trivial
          refine s_fin ?_
          exact WL_mk (l := [(4, (.pointer (some p7))), (7, (.pointer (some p17))), (9, (Sl.v s42))]) H ⟨rfl, rfl, rfl, trivial⟩
      · have H := H.2 g50
        refine W_exit (inX_here ?_)
        exact N_mk (l := [(9, (Sl.v out23))]) H ⟨rfl, trivial⟩)
    clear eN19
    refine W_draw [0, 1, 0, 4, 0, 28, 63, 127, 255, 255, 0, 0, 3583, 8191] (.pu 0 (.rd 1 (.pu 2 (.rd 3 (.pu 4 (.ef 5 [3] (.ef 6 [1, 3] (.pu 7 (.pu 8 (.pu 9 (.ef 10 [] (.ef 11 [] (.ef 12 [1, 3] (.ef 13 [1, 3] .fin .no) .no) .no) (.ef 11 [] (.ef 10 [] (.ef 12 [1, 3] (.ef 13 [1, 3] .fin .no) .no) .no) .no))))) (.ef 10 [] (.ef 6 [1, 3] (.pu 7 (.pu 8 (.pu 9 (.ef 11 [] (.ef 12 [1, 3] (.ef 13 [1, 3] .fin .no) .no) .no)))) (.ef 11 [] (.ef 6 [1, 3] (.pu 7 (.pu 8 (.pu 9 (.ef 12 [1, 3] (.ef 13 [1, 3] .fin .no) .no)))) .no) .no)) (.ef 11 [] (.ef 6 [1, 3] (.pu 7 (.pu 8 (.pu 9 (.ef 10 [] (.ef 12 [1, 3] (.ef 13 [1, 3] .fin .no) .no) .no)))) (.ef 10 [] (.ef 6 [1, 3] (.pu 7 (.pu 8 (.pu 9 (.ef 12 [1, 3] (.ef 13 [1, 3] .fin .no) .no)))) .no) .no)) .no))) (.ef 10 [] (.ef 5 [3] (.ef 6 [1, 3] (.pu 7 (.pu 8 (.pu 9 (.ef 11 [] (.ef 12 [1, 3] (.ef 13 [1, 3] .fin .no) .no) .no)))) (.ef 11 [] (.ef 6 [1, 3] (.pu 7 (.pu 8 (.pu 9 (.ef 12 [1, 3] (.ef 13 [1, 3] .fin .no) .no)))) .no) .no)) (.ef 11 [] (.ef 5 [3] (.ef 6 [1, 3] (.pu 7 (.pu 8 (.pu 9 (.ef 12 [1, 3] (.ef 13 [1, 3] .fin .no) .no)))) .no) .no) .no)) (.ef 11 [] (.ef 5 [3] (.ef 6 [1, 3] (.pu 7 (.pu 8 (.pu 9 (.ef 10 [] (.ef 12 [1, 3] (.ef 13 [1, 3] .fin .no) .no) .no)))) (.ef 10 [] (.ef 6 [1, 3] (.pu 7 (.pu 8 (.pu 9 (.ef 12 [1, 3] (.ef 13 [1, 3] .fin .no) .no)))) .no) .no)) (.ef 10 [] (.ef 5 [3] (.ef 6 [1, 3] (.pu 7 (.pu 8 (.pu 9 (.ef 12 [1, 3] (.ef 13 [1, 3] .fin .no) .no)))) .no) .no) .no)) .no)))))))) (by kernel_rfl) (by kernel_rfl) ?_
    refine s_pu (d := some 15) (v := (.pointer (some (Addr.add p4 0)))) rfl rfl rfl (r_fieldAddr Try.underlying65 Try.sizeOf63 rfl rfl rfl) ?_
    obtain ⟨x51, e52, H⟩ := H
    refine s_rd (d := some 16) (v := (.agg #[(.pointer x51)])) rfl rfl rfl (fun dr => r_loadN Try.isAgg63 Try.sizeOf63 (vs := [(.pointer x51)]) rfl rfl ⟨e52, trivial⟩) ?_
    refine s_pu (d := some 17) (v := (.pointer (some (Addr.add p4 0)))) rfl rfl rfl (r_fieldAddr Try.underlying65 Try.sizeOf63 rfl rfl rfl) ?_
    obtain ⟨x53, e54, H⟩ := H
    refine s_rd (d := some 18) (v := (.agg #[(.pointer x53)])) rfl rfl rfl (fun dr => r_loadN Try.isAgg63 Try.sizeOf63 (vs := [(.pointer x53)]) rfl rfl ⟨e54, trivial⟩) ?_
    refine s_pu (d := some 19) (v := ((.func (.func 58) #[] #[(.pointer (some p10))]))) rfl rfl rfl (r_makeFunc rfl rfl) ?_
    refine s_or ?_ ?_
    · have H := H.1
      refine s_ef (d := some 20) rfl rfl rfl (fun dr => r_call Try.call54 rfl rfl H) ?_ trivial
      rintro _ h15 ⟨y55, rfl, H⟩
      obtain ⟨e56, H⟩ := H
      refine ⟨⟨trivial, (.inl ⟨rfl, fun dr => r_loadN Try.isAgg63 Try.sizeOf63 (vs := [(.pointer x51)]) rfl rfl ⟨e56, trivial⟩⟩), trivial⟩, ?_⟩
      refine s_or ?_ ?_
      · have H := H.1
        refine s_ef (d := some 21) rfl rfl rfl (fun dr => r_call Try.call57 rfl rfl H) ?_ trivial
        rintro _ h16 ⟨y57, y58, rfl, H⟩
        refine ⟨⟨trivial, trivial, trivial⟩, ?_⟩
        refine s_pu (d := some 14) (v := (.tuple #[(.agg #[(.pointer y57)]), (.agg #[(.pointer y58)])])) rfl rfl rfl (r_move rfl) ?_
        refine s_pu (d := some 22) (v := (.agg #[(.pointer y57)])) rfl rfl rfl (r_extract rfl rfl) ?_
        refine s_pu (d := some 23) (v := (.agg #[(.pointer y58)])) rfl rfl rfl (r_extract rfl rfl) ?_
        refine s_or ?_ ?_
        · have H := H.1
          obtain ⟨p59, e60⟩ : ∃ p : Addr, p = ⟨h16.size, 0, none⟩ := ⟨_, rfl⟩
          obtain ⟨h17, e61⟩ : ∃ hh : Heap, hh = h16.push (.cells #[(.pointer none)] 63) := ⟨_, rfl⟩
          have H := H p59 h17 e60 e61
          obtain ⟨e62, H⟩ := H
          obtain ⟨e63, H⟩ := H
          refine s_ef1 (d := some 7) (v := (.pointer (some p59))) (h' := h17) rfl rfl rfl (fun dr => (r_alloc Try.zeroValue63).trans (by rw [e60, e61]; rfl)) ⟨(.inl ⟨rfl, fun dr => r_loadN Try.isAgg63 Try.sizeOf63 (vs := [(.pointer x53)]) rfl rfl ⟨e62, trivial⟩⟩), (.inl ⟨rfl, fun dr => r_loadN Try.isAgg63 Try.sizeOf63 (vs := [(.pointer x51)]) rfl rfl ⟨e63, trivial⟩⟩), trivial⟩ ?_ trivial
          obtain ⟨p64, e65⟩ : ∃ p : Addr, p = ⟨h17.size, 0, none⟩ := ⟨_, rfl⟩
          obtain ⟨h18, e66⟩ : ∃ hh : Heap, hh = h17.push (.cells #[(.pointer none)] 63) := ⟨_, rfl⟩
          have H := H p64 h18 e65 e66
          obtain ⟨e67, H⟩ := H
          obtain ⟨e68, H⟩ := H
          refine s_ef1 (d := some 8) (v := (.pointer (some p64))) (h' := h18) rfl rfl rfl (fun dr => (r_alloc Try.zeroValue63).trans (by rw [e65, e66]; rfl)) ⟨(.inl ⟨rfl, fun dr => r_loadN Try.isAgg63 Try.sizeOf63 (vs := [(.pointer x53)]) rfl rfl ⟨e67, trivial⟩⟩), (.inl ⟨rfl, fun dr => r_loadN Try.isAgg63 Try.sizeOf63 (vs := [(.pointer x51)]) rfl rfl ⟨e68, trivial⟩⟩), trivial⟩ ?_ trivial
          obtain ⟨e70, H⟩ := H
          obtain ⟨h19, e69⟩ : ∃ hh : Heap, hh = hsets h18 p59 0 [(.pointer y57)] := ⟨_, rfl⟩
          have H := H h19 e69
          refine s_st (d := none) (h' := h19) rfl rfl rfl (fun dr => (r_store (v := (.agg #[(.pointer y57)])) Try.sizeOf63 rfl rfl rfl (one_all rfl) e70).trans (by rw [e69]; rfl)) ⟨trivial, trivial, trivial⟩ ?_ trivial
          obtain ⟨e72, H⟩ := H
          obtain ⟨h20, e71⟩ : ∃ hh : Heap, hh = hsets h19 p64 0 [(.pointer y58)] := ⟨_, rfl⟩
          have H := H h20 e71
          refine s_st (d := none) (h' := h20) rfl rfl rfl (fun dr => (r_store (v := (.agg #[(.pointer y58)])) Try.sizeOf63 rfl rfl rfl (one_all rfl) e72).trans (by rw [e71]; rfl)) ⟨trivial, trivial, trivial⟩ ?_ trivial
          refine s_fin ?_
          exact N_mk (l := [(4, (.pointer (some p7))), (7, (.pointer (some p59)))]) H ⟨rfl, rfl, trivial⟩
        · have H := H.2
          obtain ⟨p73, e74⟩ : ∃ p : Addr, p = ⟨h16.size, 0, none⟩ := ⟨_, rfl⟩
          obtain ⟨h21, e75⟩ : ∃ hh : Heap, hh = h16.push (.cells #[(.pointer none)] 63) := ⟨_, rfl⟩
          have H := H p73 h21 e74 e75
          obtain ⟨e76, H⟩ := H
          obtain ⟨e77, H⟩ := H
          refine s_ef1 (d := some 8) (v := (.pointer (some p73))) (h' := h21) rfl rfl rfl (fun dr => (r_alloc Try.zeroValue63).trans (by rw [e74, e75]; rfl)) ⟨(.inl ⟨rfl, fun dr => r_loadN Try.isAgg63 Try.sizeOf63 (vs := [(.pointer x53)]) rfl rfl ⟨e76, trivial⟩⟩), (.inl ⟨rfl, fun dr => r_loadN Try.isAgg63 Try.sizeOf63 (vs := [(.pointer x51)]) rfl rfl ⟨e77, trivial⟩⟩), trivial⟩ ?_ trivial
          obtain ⟨p78, e79⟩ : ∃ p : Addr, p = ⟨h21.size, 0, none⟩ := ⟨_, rfl⟩
          obtain ⟨h22, e80⟩ : ∃ hh : Heap, hh = h21.push (.cells #[(.pointer none)] 63) := ⟨_, rfl⟩
          have H := H p78 h22 e79 e80
          obtain ⟨e81, H⟩ := H
          obtain ⟨e82, H⟩ := H
          refine s_ef1 (d := some 7) (v := (.pointer (some p78))) (h' := h22) rfl rfl rfl (fun dr => (r_alloc Try.zeroValue63).trans (by rw [e79, e80]; rfl)) ⟨(.inl ⟨rfl, fun dr => r_loadN Try.isAgg63 Try.sizeOf63 (vs := [(.pointer x53)]) rfl rfl ⟨e81, trivial⟩⟩), (.inl ⟨rfl, fun dr => r_loadN Try.isAgg63 Try.sizeOf63 (vs := [(.pointer x51)]) rfl rfl ⟨e82, trivial⟩⟩), trivial⟩ ?_ trivial
          obtain ⟨e84, H⟩ := H
          obtain ⟨h23, e83⟩ : ∃ hh : Heap, hh = hsets h22 p78 0 [(.pointer y57)] := ⟨_, rfl⟩
          have H := H h23 e83
          refine s_st (d := none) (h' := h23) rfl rfl rfl (fun dr => (r_store (v := (.agg #[(.pointer y57)])) Try.sizeOf63 rfl rfl rfl (one_all rfl) e84).trans (by rw [e83]; rfl)) ⟨trivial, trivial, trivial⟩ ?_ trivial
          obtain ⟨e86, H⟩ := H
          obtain ⟨h24, e85⟩ : ∃ hh : Heap, hh = hsets h23 p73 0 [(.pointer y58)] := ⟨_, rfl⟩
          have H := H h24 e85
          refine s_st (d := none) (h' := h24) rfl rfl rfl (fun dr => (r_store (v := (.agg #[(.pointer y58)])) Try.sizeOf63 rfl rfl rfl (one_all rfl) e86).trans (by rw [e85]; rfl)) ⟨trivial, trivial, trivial⟩ ?_ trivial
          refine s_fin ?_
          exact N_mk (l := [(4, (.pointer (some p7))), (7, (.pointer (some p78)))]) H ⟨rfl, rfl, trivial⟩
      refine s_or ?_ ?_
      · have H := H.2.1
        obtain ⟨p87, e88⟩ : ∃ p : Addr, p = ⟨h15.size, 0, none⟩ := ⟨_, rfl⟩
        obtain ⟨h25, e89⟩ : ∃ hh : Heap, hh = h15.push (.cells #[(.pointer none)] 63) := ⟨_, rfl⟩
        have H := H p87 h25 e88 e89
        obtain ⟨e90, H⟩ := H
        obtain ⟨e91, H⟩ := H
        refine s_ef1 (d := some 7) (v := (.pointer (some p87))) (h' := h25) rfl rfl rfl (fun dr => (r_alloc Try.zeroValue63).trans (by rw [e88, e89]; rfl)) ⟨(.inl ⟨rfl, fun dr => r_loadN Try.isAgg63 Try.sizeOf63 (vs := [(.pointer x53)]) rfl rfl ⟨e90, trivial⟩⟩), (.inl ⟨rfl, fun dr => r_loadN Try.isAgg63 Try.sizeOf63 (vs := [(.pointer x51)]) rfl rfl ⟨e91, trivial⟩⟩), trivial⟩ ?_ trivial
        refine s_or ?_ ?_
        · have H := H.1
          refine s_ef (d := some 21) rfl rfl rfl (fun dr => r_call Try.call57 rfl rfl H) ?_ trivial
          rintro _ h26 ⟨y92, y93, rfl, H⟩
          refine ⟨⟨trivial, trivial, trivial⟩, ?_⟩
          refine s_pu (d := some 14) (v := (.tuple #[(.agg #[(.pointer y92)]), (.agg #[(.pointer y93)])])) rfl rfl rfl (r_move rfl) ?_
          refine s_pu (d := some 22) (v := (.agg #[(.pointer y92)])) rfl rfl rfl (r_extract rfl rfl) ?_
          refine s_pu (d := some 23) (v := (.agg #[(.pointer y93)])) rfl rfl rfl (r_extract rfl rfl) ?_
          obtain ⟨p94, e95⟩ : ∃ p : Addr, p = ⟨h26.size, 0, none⟩ := ⟨_, rfl⟩
          obtain ⟨h27, e96⟩ : ∃ hh : Heap, hh = h26.push (.cells #[(.pointer none)] 63) := ⟨_, rfl⟩
          have H := H p94 h27 e95 e96
          obtain ⟨e97, H⟩ := H
          obtain ⟨e98, H⟩ := H
          refine s_ef1 (d := some 8) (v := (.pointer (some p94))) (h' := h27) rfl rfl rfl (fun dr => (r_alloc Try.zeroValue63).trans (by rw [e95, e96]; rfl)) ⟨(.inl ⟨rfl, fun dr => r_loadN Try.isAgg63 Try.sizeOf63 (vs := [(.pointer x53)]) rfl rfl ⟨e97, trivial⟩⟩), (.inl ⟨rfl, fun dr => r_loadN Try.isAgg63 Try.sizeOf63 (vs := [(.pointer x51)]) rfl rfl ⟨e98, trivial⟩⟩), trivial⟩ ?_ trivial
          obtain ⟨e100, H⟩ := H
          obtain ⟨h28, e99⟩ : ∃ hh : Heap, hh = hsets h27 p87 0 [(.pointer y92)] := ⟨_, rfl⟩
          have H := H h28 e99
          refine s_st (d := none) (h' := h28) rfl rfl rfl (fun dr => (r_store (v := (.agg #[(.pointer y92)])) Try.sizeOf63 rfl rfl rfl (one_all rfl) e100).trans (by rw [e99]; rfl)) ⟨trivial, trivial, trivial⟩ ?_ trivial
          obtain ⟨e102, H⟩ := H
          obtain ⟨h29, e101⟩ : ∃ hh : Heap, hh = hsets h28 p94 0 [(.pointer y93)] := ⟨_, rfl⟩
          have H := H h29 e101
          refine s_st (d := none) (h' := h29) rfl rfl rfl (fun dr => (r_store (v := (.agg #[(.pointer y93)])) Try.sizeOf63 rfl rfl rfl (one_all rfl) e102).trans (by rw [e101]; rfl)) ⟨trivial, trivial, trivial⟩ ?_ trivial
          refine s_fin ?_
          exact N_mk (l := [(4, (.pointer (some p7))), (7, (.pointer (some p87)))]) H ⟨rfl, rfl, trivial⟩
        · have H := H.2
          obtain ⟨p103, e104⟩ : ∃ p : Addr, p = ⟨h25.size, 0, none⟩ := ⟨_, rfl⟩
          obtain ⟨h30, e105⟩ : ∃ hh : Heap, hh = h25.push (.cells #[(.pointer none)] 63) := ⟨_, rfl⟩
          have H := H p103 h30 e104 e105
          obtain ⟨e106, H⟩ := H
          obtain ⟨e107, H⟩ := H
          refine s_ef1 (d := some 8) (v := (.pointer (some p103))) (h' := h30) rfl rfl rfl (fun dr => (r_alloc Try.zeroValue63).trans (by rw [e104, e105]; rfl)) ⟨(.inl ⟨rfl, fun dr => r_loadN Try.isAgg63 Try.sizeOf63 (vs := [(.pointer x53)]) rfl rfl ⟨e106, trivial⟩⟩), (.inl ⟨rfl, fun dr => r_loadN Try.isAgg63 Try.sizeOf63 (vs := [(.pointer x51)]) rfl rfl ⟨e107, trivial⟩⟩), trivial⟩ ?_ trivial
          refine s_ef (d := some 21) rfl rfl rfl (fun dr => r_call Try.call57 rfl rfl H) ?_ trivial
          rintro _ h31 ⟨y108, y109, rfl, H⟩
          refine ⟨⟨trivial, trivial, trivial⟩, ?_⟩
          refine s_pu (d := some 14) (v := (.tuple #[(.agg #[(.pointer y108)]), (.agg #[(.pointer y109)])])) rfl rfl rfl (r_move rfl) ?_
          refine s_pu (d := some 22) (v := (.agg #[(.pointer y108)])) rfl rfl rfl (r_extract rfl rfl) ?_
          refine s_pu (d := some 23) (v := (.agg #[(.pointer y109)])) rfl rfl rfl (r_extract rfl rfl) ?_
          obtain ⟨e111, H⟩ := H
          obtain ⟨h32, e110⟩ : ∃ hh : Heap, hh = hsets h31 p87 0 [(.pointer y108)] := ⟨_, rfl⟩
          have H := H h32 e110
          refine s_st (d := none) (h' := h32) rfl rfl rfl (fun dr => (r_store (v := (.agg #[(.pointer y108)])) Try.sizeOf63 rfl rfl rfl (one_all rfl) e111).trans (by rw [e110]; rfl)) ⟨trivial, trivial, trivial⟩ ?_ trivial
          obtain ⟨e113, H⟩ := H
          obtain ⟨h33, e112⟩ : ∃ hh : Heap, hh = hsets h32 p103 0 [(.pointer y109)] := ⟨_, rfl⟩
          have H := H h33 e112
          refine s_st (d := none) (h' := h33) rfl rfl rfl (fun dr => (r_store (v := (.agg #[(.pointer y109)])) Try.sizeOf63 rfl rfl rfl (one_all rfl) e113).trans (by rw [e112]; rfl)) ⟨trivial, trivial, trivial⟩ ?_ trivial
          refine s_fin ?_
          exact N_mk (l := [(4, (.pointer (some p7))), (7, (.pointer (some p87)))]) H ⟨rfl, rfl, trivial⟩
      · have H := H.2.2
        obtain ⟨p114, e115⟩ : ∃ p : Addr, p = ⟨h15.size, 0, none⟩ := ⟨_, rfl⟩
        obtain ⟨h34, e116⟩ : ∃ hh : Heap, hh = h15.push (.cells #[(.pointer none)] 63) := ⟨_, rfl⟩
        have H := H p114 h34 e115 e116
        obtain ⟨e117, H⟩ := H
        obtain ⟨e118, H⟩ := H
        refine s_ef1 (d := some 8) (v := (.pointer (some p114))) (h' := h34) rfl rfl rfl (fun dr => (r_alloc Try.zeroValue63).trans (by rw [e115, e116]; rfl)) ⟨(.inl ⟨rfl, fun dr => r_loadN Try.isAgg63 Try.sizeOf63 (vs := [(.pointer x53)]) rfl rfl ⟨e117, trivial⟩⟩), (.inl ⟨rfl, fun dr => r_loadN Try.isAgg63 Try.sizeOf63 (vs := [(.pointer x51)]) rfl rfl ⟨e118, trivial⟩⟩), trivial⟩ ?_ trivial
        refine s_or ?_ ?_
        · have H := H.1
          refine s_ef (d := some 21) rfl rfl rfl (fun dr => r_call Try.call57 rfl rfl H) ?_ trivial
          rintro _ h35 ⟨y119, y120, rfl, H⟩
          refine ⟨⟨trivial, trivial, trivial⟩, ?_⟩
          refine s_pu (d := some 14) (v := (.tuple #[(.agg #[(.pointer y119)]), (.agg #[(.pointer y120)])])) rfl rfl rfl (r_move rfl) ?_
          refine s_pu (d := some 22) (v := (.agg #[(.pointer y119)])) rfl rfl rfl (r_extract rfl rfl) ?_
          refine s_pu (d := some 23) (v := (.agg #[(.pointer y120)])) rfl rfl rfl (r_extract rfl rfl) ?_
          obtain ⟨p121, e122⟩ : ∃ p : Addr, p = ⟨h35.size, 0, none⟩ := ⟨_, rfl⟩
          obtain ⟨h36, e123⟩ : ∃ hh : Heap, hh = h35.push (.cells #[(.pointer none)] 63) := ⟨_, rfl⟩
          have H := H p121 h36 e122 e123
          obtain ⟨e124, H⟩ := H
          obtain ⟨e125, H⟩ := H
          refine s_ef1 (d := some 7) (v := (.pointer (some p121))) (h' := h36) rfl rfl rfl (fun dr => (r_alloc Try.zeroValue63).trans (by rw [e122, e123]; rfl)) ⟨(.inl ⟨rfl, fun dr => r_loadN Try.isAgg63 Try.sizeOf63 (vs := [(.pointer x53)]) rfl rfl ⟨e124, trivial⟩⟩), (.inl ⟨rfl, fun dr => r_loadN Try.isAgg63 Try.sizeOf63 (vs := [(.pointer x51)]) rfl rfl ⟨e125, trivial⟩⟩), trivial⟩ ?_ trivial
          obtain ⟨e127, H⟩ := H
          obtain ⟨h37, e126⟩ : ∃ hh : Heap, hh = hsets h36 p121 0 [(.pointer y119)] := ⟨_, rfl⟩
          have H := H h37 e126
          refine s_st (d := none) (h' := h37) rfl rfl rfl (fun dr => (r_store (v := (.agg #[(.pointer y119)])) Try.sizeOf63 rfl rfl rfl (one_all rfl) e127).trans (by rw [e126]; rfl)) ⟨trivial, trivial, trivial⟩ ?_ trivial
          obtain ⟨e129, H⟩ := H
          obtain ⟨h38, e128⟩ : ∃ hh : Heap, hh = hsets h37 p114 0 [(.pointer y120)] := ⟨_, rfl⟩
          have H := H h38 e128
          refine s_st (d := none) (h' := h38) rfl rfl rfl (fun dr => (r_store (v := (.agg #[(.pointer y120)])) Try.sizeOf63 rfl rfl rfl (one_all rfl) e129).trans (by rw [e128]; rfl)) ⟨trivial, trivial, trivial⟩ ?_ trivial
          refine s_fin ?_
          exact N_mk (l := [(4, (.pointer (some p7))), (7, (.pointer (some p121)))]) H ⟨rfl, rfl, trivial⟩
        · have H := H.2
          obtain ⟨p130, e131⟩ : ∃ p : Addr, p = ⟨h34.size, 0, none⟩ := ⟨_, rfl⟩
          obtain ⟨h39, e132⟩ : ∃ hh : Heap, hh = h34.push (.cells #[(.pointer none)] 63) := ⟨_, rfl⟩
          have H := H p130 h39 e131 e132
          obtain ⟨e133, H⟩ := H
          obtain ⟨e134, H⟩ := H
          refine s_ef1 (d := some 7) (v := (.pointer (some p130))) (h' := h39) rfl rfl rfl (fun dr => (r_alloc Try.zeroValue63).trans (by rw [e131, e132]; rfl)) ⟨(.inl ⟨rfl, fun dr => r_loadN Try.isAgg63 Try.sizeOf63 (vs := [(.pointer x53)]) rfl rfl ⟨e133, trivial⟩⟩), (.inl ⟨rfl, fun dr => r_loadN Try.isAgg63 Try.sizeOf63 (vs := [(.pointer x51)]) rfl rfl ⟨e134, trivial⟩⟩), trivial⟩ ?_ trivial
          refine s_ef (d := some 21) rfl rfl rfl (fun dr => r_call Try.call57 rfl rfl H) ?_ trivial
          rintro _ h40 ⟨y135, y136, rfl, H⟩
          refine ⟨⟨trivial, trivial, trivial⟩, ?_⟩
          refine s_pu (d := some 14) (v := (.tuple #[(.agg #[(.pointer y135)]), (.agg #[(.pointer y136)])])) rfl rfl rfl (r_move rfl) ?_
          refine s_pu (d := some 22) (v := (.agg #[(.pointer y135)])) rfl rfl rfl (r_extract rfl rfl) ?_
          refine s_pu (d := some 23) (v := (.agg #[(.pointer y136)])) rfl rfl rfl (r_extract rfl rfl) ?_
          obtain ⟨e138, H⟩ := H
          obtain ⟨h41, e137⟩ : ∃ hh : Heap, hh = hsets h40 p130 0 [(.pointer y135)] := ⟨_, rfl⟩
          have H := H h41 e137
          refine s_st (d := none) (h' := h41) rfl rfl rfl (fun dr => (r_store (v := (.agg #[(.pointer y135)])) Try.sizeOf63 rfl rfl rfl (one_all rfl) e138).trans (by rw [e137]; rfl)) ⟨trivial, trivial, trivial⟩ ?_ trivial
          obtain ⟨e140, H⟩ := H
          obtain ⟨h42, e139⟩ : ∃ hh : Heap, hh = hsets h41 p114 0 [(.pointer y136)] := ⟨_, rfl⟩
          have H := H h42 e139
          refine s_st (d := none) (h' := h42) rfl rfl rfl (fun dr => (r_store (v := (.agg #[(.pointer y136)])) Try.sizeOf63 rfl rfl rfl (one_all rfl) e140).trans (by rw [e139]; rfl)) ⟨trivial, trivial, trivial⟩ ?_ trivial
          refine s_fin ?_
          exact N_mk (l := [(4, (.pointer (some p7))), (7, (.pointer (some p130)))]) H ⟨rfl, rfl, trivial⟩
    refine s_or ?_ ?_
    · have H := H.2.1
      obtain ⟨p141, e142⟩ : ∃ p : Addr, p = ⟨h3.size, 0, none⟩ := ⟨_, rfl⟩
      obtain ⟨h43, e143⟩ : ∃ hh : Heap, hh = h3.push (.cells #[(.pointer none)] 63) := ⟨_, rfl⟩
      have H := H p141 h43 e142 e143
      obtain ⟨e144, H⟩ := H
      obtain ⟨e145, H⟩ := H
      refine s_ef1 (d := some 7) (v := (.pointer (some p141))) (h' := h43) rfl rfl rfl (fun dr => (r_alloc Try.zeroValue63).trans (by rw [e142, e143]; rfl)) ⟨(.inl ⟨rfl, fun dr => r_loadN Try.isAgg63 Try.sizeOf63 (vs := [(.pointer x53)]) rfl rfl ⟨e144, trivial⟩⟩), (.inl ⟨rfl, fun dr => r_loadN Try.isAgg63 Try.sizeOf63 (vs := [(.pointer x51)]) rfl rfl ⟨e145, trivial⟩⟩), trivial⟩ ?_ trivial
      refine s_or ?_ ?_
      · have H := H.1
        refine s_ef (d := some 20) rfl rfl rfl (fun dr => r_call Try.call54 rfl rfl H) ?_ trivial
        rintro _ h44 ⟨y146, rfl, H⟩
        obtain ⟨e147, H⟩ := H
        refine ⟨⟨trivial, (.inl ⟨rfl, fun dr => r_loadN Try.isAgg63 Try.sizeOf63 (vs := [(.pointer x51)]) rfl rfl ⟨e147, trivial⟩⟩), trivial⟩, ?_⟩
        refine s_or ?_ ?_
        · have H := H.1
          refine s_ef (d := some 21) rfl rfl rfl (fun dr => r_call Try.call57 rfl rfl H) ?_ trivial
          rintro _ h45 ⟨y148, y149, rfl, H⟩
          refine ⟨⟨trivial, trivial, trivial⟩, ?_⟩
          refine s_pu (d := some 14) (v := (.tuple #[(.agg #[(.pointer y148)]), (.agg #[(.pointer y149)])])) rfl rfl rfl (r_move rfl) ?_
          refine s_pu (d := some 22) (v := (.agg #[(.pointer y148)])) rfl rfl rfl (r_extract rfl rfl) ?_
          refine s_pu (d := some 23) (v := (.agg #[(.pointer y149)])) rfl rfl rfl (r_extract rfl rfl) ?_
          obtain ⟨p150, e151⟩ : ∃ p : Addr, p = ⟨h45.size, 0, none⟩ := ⟨_, rfl⟩
          obtain ⟨h46, e152⟩ : ∃ hh : Heap, hh = h45.push (.cells #[(.pointer none)] 63) := ⟨_, rfl⟩
          have H := H p150 h46 e151 e152
          obtain ⟨e153, H⟩ := H
          obtain ⟨e154, H⟩ := H
          refine s_ef1 (d := some 8) (v := (.pointer (some p150))) (h' := h46) rfl rfl rfl (fun dr => (r_alloc Try.zeroValue63).trans (by rw [e151, e152]; rfl)) ⟨(.inl ⟨rfl, fun dr => r_loadN Try.isAgg63 Try.sizeOf63 (vs := [(.pointer x53)]) rfl rfl ⟨e153, trivial⟩⟩), (.inl ⟨rfl, fun dr => r_loadN Try.isAgg63 Try.sizeOf63 (vs := [(.pointer x51)]) rfl rfl ⟨e154, trivial⟩⟩), trivial⟩ ?_ trivial
          obtain ⟨e156, H⟩ := H
          obtain ⟨h47, e155⟩ : ∃ hh : Heap, hh = hsets h46 p141 0 [(.pointer y148)] := ⟨_, rfl⟩
          have H := H h47 e155
          refine s_st (d := none) (h' := h47) rfl rfl rfl (fun dr => (r_store (v := (.agg #[(.pointer y148)])) Try.sizeOf63 rfl rfl rfl (one_all rfl) e156).trans (by rw [e155]; rfl)) ⟨trivial, trivial, trivial⟩ ?_ trivial
          obtain ⟨e158, H⟩ := H
          obtain ⟨h48, e157⟩ : ∃ hh : Heap, hh = hsets h47 p150 0 [(.pointer y149)] := ⟨_, rfl⟩
          have H := H h48 e157
          refine s_st (d := none) (h' := h48) rfl rfl rfl (fun dr => (r_store (v := (.agg #[(.pointer y149)])) Try.sizeOf63 rfl rfl rfl (one_all rfl) e158).trans (by rw [e157]; rfl)) ⟨trivial, trivial, trivial⟩ ?_ trivial
          refine s_fin ?_
          exact N_mk (l := [(4, (.pointer (some p7))), (7, (.pointer (some p141)))]) H ⟨rfl, rfl, trivial⟩
        · have H := H.2
          obtain ⟨p159, e160⟩ : ∃ p : Addr, p = ⟨h44.size, 0, none⟩ := ⟨_, rfl⟩
          obtain ⟨h49, e161⟩ : ∃ hh : Heap, hh = h44.push (.cells #[(.pointer none)] 63) := ⟨_, rfl⟩
          have H := H p159 h49 e160 e161
          obtain ⟨e162, H⟩ := H
          obtain ⟨e163, H⟩ := H
          refine s_ef1 (d := some 8) (v := (.pointer (some p159))) (h' := h49) rfl rfl rfl (fun dr => (r_alloc Try.zeroValue63).trans (by rw [e160, e161]; rfl)) ⟨(.inl ⟨rfl, fun dr => r_loadN Try.isAgg63 Try.sizeOf63 (vs := [(.pointer x53)]) rfl rfl ⟨e162, trivial⟩⟩), (.inl ⟨rfl, fun dr => r_loadN Try.isAgg63 Try.sizeOf63 (vs := [(.pointer x51)]) rfl rfl ⟨e163, trivial⟩⟩), trivial⟩ ?_ trivial
          refine s_ef (d := some 21) rfl rfl rfl (fun dr => r_call Try.call57 rfl rfl H) ?_ trivial
          rintro _ h50 ⟨y164, y165, rfl, H⟩
          refine ⟨⟨trivial, trivial, trivial⟩, ?_⟩
          refine s_pu (d := some 14) (v := (.tuple #[(.agg #[(.pointer y164)]), (.agg #[(.pointer y165)])])) rfl rfl rfl (r_move rfl) ?_
          refine s_pu (d := some 22) (v := (.agg #[(.pointer y164)])) rfl rfl rfl (r_extract rfl rfl) ?_
          refine s_pu (d := some 23) (v := (.agg #[(.pointer y165)])) rfl rfl rfl (r_extract rfl rfl) ?_
          obtain ⟨e167, H⟩ := H
          obtain ⟨h51, e166⟩ : ∃ hh : Heap, hh = hsets h50 p141 0 [(.pointer y164)] := ⟨_, rfl⟩
          have H := H h51 e166
          refine s_st (d := none) (h' := h51) rfl rfl rfl (fun dr => (r_store (v := (.agg #[(.pointer y164)])) Try.sizeOf63 rfl rfl rfl (one_all rfl) e167).trans (by rw [e166]; rfl)) ⟨trivial, trivial, trivial⟩ ?_ trivial
          obtain ⟨e169, H⟩ := H
          obtain ⟨h52, e168⟩ : ∃ hh : Heap, hh = hsets h51 p159 0 [(.pointer y165)] := ⟨_, rfl⟩
          have H := H h52 e168
          refine s_st (d := none) (h' := h52) rfl rfl rfl (fun dr => (r_store (v := (.agg #[(.pointer y165)])) Try.sizeOf63 rfl rfl rfl (one_all rfl) e169).trans (by rw [e168]; rfl)) ⟨trivial, trivial, trivial⟩ ?_ trivial
          refine s_fin ?_
          exact N_mk (l := [(4, (.pointer (some p7))), (7, (.pointer (some p141)))]) H ⟨rfl, rfl, trivial⟩
      · have H := H.2
        obtain ⟨p170, e171⟩ : ∃ p : Addr, p = ⟨h43.size, 0, none⟩ := ⟨_, rfl⟩
        obtain ⟨h53, e172⟩ : ∃ hh : Heap, hh = h43.push (.cells #[(.pointer none)] 63) := ⟨_, rfl⟩
        have H := H p170 h53 e171 e172
        obtain ⟨e173, H⟩ := H
        obtain ⟨e174, H⟩ := H
        refine s_ef1 (d := some 8) (v := (.pointer (some p170))) (h' := h53) rfl rfl rfl (fun dr => (r_alloc Try.zeroValue63).trans (by rw [e171, e172]; rfl)) ⟨(.inl ⟨rfl, fun dr => r_loadN Try.isAgg63 Try.sizeOf63 (vs := [(.pointer x53)]) rfl rfl ⟨e173, trivial⟩⟩), (.inl ⟨rfl, fun dr => r_loadN Try.isAgg63 Try.sizeOf63 (vs := [(.pointer x51)]) rfl rfl ⟨e174, trivial⟩⟩), trivial⟩ ?_ trivial
        refine s_ef (d := some 20) rfl rfl rfl (fun dr => r_call Try.call54 rfl rfl H) ?_ trivial
        rintro _ h54 ⟨y175, rfl, H⟩
        obtain ⟨e176, H⟩ := H
        refine ⟨⟨trivial, (.inl ⟨rfl, fun dr => r_loadN Try.isAgg63 Try.sizeOf63 (vs := [(.pointer x51)]) rfl rfl ⟨e176, trivial⟩⟩), trivial⟩, ?_⟩
        refine s_ef (d := some 21) rfl rfl rfl (fun dr => r_call Try.call57 rfl rfl H) ?_ trivial
        rintro _ h55 ⟨y177, y178, rfl, H⟩
        refine ⟨⟨trivial, trivial, trivial⟩, ?_⟩
        refine s_pu (d := some 14) (v := (.tuple #[(.agg #[(.pointer y177)]), (.agg #[(.pointer y178)])])) rfl rfl rfl (r_move rfl) ?_
        refine s_pu (d := some 22) (v := (.agg #[(.pointer y177)])) rfl rfl rfl (r_extract rfl rfl) ?_
        refine s_pu (d := some 23) (v := (.agg #[(.pointer y178)])) rfl rfl rfl (r_extract rfl rfl) ?_
        obtain ⟨e180, H⟩ := H
        obtain ⟨h56, e179⟩ : ∃ hh : Heap, hh = hsets h55 p141 0 [(.pointer y177)] := ⟨_, rfl⟩
        have H := H h56 e179
        refine s_st (d := none) (h' := h56) rfl rfl rfl (fun dr => (r_store (v := (.agg #[(.pointer y177)])) Try.sizeOf63 rfl rfl rfl (one_all rfl) e180).trans (by rw [e179]; rfl)) ⟨trivial, trivial, trivial⟩ ?_ trivial
        obtain ⟨e182, H⟩ := H
        obtain ⟨h57, e181⟩ : ∃ hh : Heap, hh = hsets h56 p170 0 [(.pointer y178)] := ⟨_, rfl⟩
        have H := H h57 e181
        refine s_st (d := none) (h' := h57) rfl rfl rfl (fun dr => (r_store (v := (.agg #[(.pointer y178)])) Try.sizeOf63 rfl rfl rfl (one_all rfl) e182).trans (by rw [e181]; rfl)) ⟨trivial, trivial, trivial⟩ ?_ trivial
        refine s_fin ?_
        exact N_mk (l := [(4, (.pointer (some p7))), (7, (.pointer (some p141)))]) H ⟨rfl, rfl, trivial⟩
    · have H := H.2.2
      obtain ⟨p183, e184⟩ : ∃ p : Addr, p = ⟨h3.size, 0, none⟩ := ⟨_, rfl⟩
      obtain ⟨h58, e185⟩ : ∃ hh : Heap, hh = h3.push (.cells #[(.pointer none)] 63) := ⟨_, rfl⟩
      have H := H p183 h58 e184 e185
      obtain ⟨e186, H⟩ := H
      obtain ⟨e187, H⟩ := H
      refine s_ef1 (d := some 8) (v := (.pointer (some p183))) (h' := h58) rfl rfl rfl (fun dr => (r_alloc Try.zeroValue63).trans (by rw [e184, e185]; rfl)) ⟨(.inl ⟨rfl, fun dr => r_loadN Try.isAgg63 Try.sizeOf63 (vs := [(.pointer x53)]) rfl rfl ⟨e186, trivial⟩⟩), (.inl ⟨rfl, fun dr => r_loadN Try.isAgg63 Try.sizeOf63 (vs := [(.pointer x51)]) rfl rfl ⟨e187, trivial⟩⟩), trivial⟩ ?_ trivial
      refine s_or ?_ ?_
      · have H := H.1
        refine s_ef (d := some 20) rfl rfl rfl (fun dr => r_call Try.call54 rfl rfl H) ?_ trivial
        rintro _ h59 ⟨y188, rfl, H⟩
        obtain ⟨e189, H⟩ := H
        refine ⟨⟨trivial, (.inl ⟨rfl, fun dr => r_loadN Try.isAgg63 Try.sizeOf63 (vs := [(.pointer x51)]) rfl rfl ⟨e189, trivial⟩⟩), trivial⟩, ?_⟩
        refine s_or ?_ ?_
        · have H := H.1
          refine s_ef (d := some 21) rfl rfl rfl (fun dr => r_call Try.call57 rfl rfl H) ?_ trivial
          rintro _ h60 ⟨y190, y191, rfl, H⟩
          refine ⟨⟨trivial, trivial, trivial⟩, ?_⟩
          refine s_pu (d := some 14) (v := (.tuple #[(.agg #[(.pointer y190)]), (.agg #[(.pointer y191)])])) rfl rfl rfl (r_move rfl) ?_
          refine s_pu (d := some 22) (v := (.agg #[(.pointer y190)])) rfl rfl rfl (r_extract rfl rfl) ?_
          refine s_pu (d := some 23) (v := (.agg #[(.pointer y191)])) rfl rfl rfl (r_extract rfl rfl) ?_
          obtain ⟨p192, e193⟩ : ∃ p : Addr, p = ⟨h60.size, 0, none⟩ := ⟨_, rfl⟩
          obtain ⟨h61, e194⟩ : ∃ hh : Heap, hh = h60.push (.cells #[(.pointer none)] 63) := ⟨_, rfl⟩
          have H := H p192 h61 e193 e194
          obtain ⟨e195, H⟩ := H
          obtain ⟨e196, H⟩ := H
          refine s_ef1 (d := some 7) (v := (.pointer (some p192))) (h' := h61) rfl rfl rfl (fun dr => (r_alloc Try.zeroValue63).trans (by rw [e193, e194]; rfl)) ⟨(.inl ⟨rfl, fun dr => r_loadN Try.isAgg63 Try.sizeOf63 (vs := [(.pointer x53)]) rfl rfl ⟨e195, trivial⟩⟩), (.inl ⟨rfl, fun dr => r_loadN Try.isAgg63 Try.sizeOf63 (vs := [(.pointer x51)]) rfl rfl ⟨e196, trivial⟩⟩), trivial⟩ ?_ trivial
          obtain ⟨e198, H⟩ := H
          obtain ⟨h62, e197⟩ : ∃ hh : Heap, hh = hsets h61 p192 0 [(.pointer y190)] := ⟨_, rfl⟩
          have H := H h62 e197
          refine s_st (d := none) (h' := h62) rfl rfl rfl (fun dr => (r_store (v := (.agg #[(.pointer y190)])) Try.sizeOf63 rfl rfl rfl (one_all rfl) e198).trans (by rw [e197]; rfl)) ⟨trivial, trivial, trivial⟩ ?_ trivial
          obtain ⟨e200, H⟩ := H
          obtain ⟨h63, e199⟩ : ∃ hh : Heap, hh = hsets h62 p183 0 [(.pointer y191)] := ⟨_, rfl⟩
          have H := H h63 e199
          refine s_st (d := none) (h' := h63) rfl rfl rfl (fun dr => (r_store (v := (.agg #[(.pointer y191)])) Try.sizeOf63 rfl rfl rfl (one_all rfl) e200).trans (by rw [e199]; rfl)) ⟨trivial, trivial, trivial⟩ ?_ trivial
          refine s_fin ?_
          exact N_mk (l := [(4, (.pointer (some p7))), (7, (.pointer (some p192)))]) H ⟨rfl, rfl, trivial⟩
        · have H := H.2
          obtain ⟨p201, e202⟩ : ∃ p : Addr, p = ⟨h59.size, 0, none⟩ := ⟨_, rfl⟩
          obtain ⟨h64, e203⟩ : ∃ hh : Heap, hh = h59.push (.cells #[(.pointer none)] 63) := ⟨_, rfl⟩
          have H := H p201 h64 e202 e203
          obtain ⟨e204, H⟩ := H
          obtain ⟨e205, H⟩ := H
          refine s_ef1 (d := some 7) (v := (.pointer (some p201))) (h' := h64) rfl rfl rfl (fun dr => (r_alloc Try.zeroValue63).trans (by rw [e202, e203]; rfl)) ⟨(.inl ⟨rfl, fun dr => r_loadN Try.isAgg63 Try.sizeOf63 (vs := [(.pointer x53)]) rfl rfl ⟨e204, trivial⟩⟩), (.inl ⟨rfl, fun dr => r_loadN Try.isAgg63 Try.sizeOf63 (vs := [(.pointer x51)]) rfl rfl ⟨e205, trivial⟩⟩), trivial⟩ ?_ trivial
          refine s_ef (d := some 21) rfl rfl rfl (fun dr => r_call Try.call57 rfl rfl H) ?_ trivial
          rintro _ h65 ⟨y206, y207, rfl, H⟩
          refine ⟨⟨trivial, trivial, trivial⟩, ?_⟩
          refine s_pu (d := some 14) (v := (.tuple #[(.agg #[(.pointer y206)]), (.agg #[(.pointer y207)])])) rfl rfl rfl (r_move rfl) ?_
          refine s_pu (d := some 22) (v := (.agg #[(.pointer y206)])) rfl rfl rfl (r_extract rfl rfl) ?_
          refine s_pu (d := some 23) (v := (.agg #[(.pointer y207)])) rfl rfl rfl (r_extract rfl rfl) ?_
          obtain ⟨e209, H⟩ := H
          obtain ⟨h66, e208⟩ : ∃ hh : Heap, hh = hsets h65 p201 0 [(.pointer y206)] := ⟨_, rfl⟩
          have H := H h66 e208
          refine s_st (d := none) (h' := h66) rfl rfl rfl (fun dr => (r_store (v := (.agg #[(.pointer y206)])) Try.sizeOf63 rfl rfl rfl (one_all rfl) e209).trans (by rw [e208]; rfl)) ⟨trivial, trivial, trivial⟩ ?_ trivial
          obtain ⟨e211, H⟩ := H
          obtain ⟨h67, e210⟩ : ∃ hh : Heap, hh = hsets h66 p183 0 [(.pointer y207)] := ⟨_, rfl⟩
          have H := H h67 e210
          refine s_st (d := none) (h' := h67) rfl rfl rfl (fun dr => (r_store (v := (.agg #[(.pointer y207)])) Try.sizeOf63 rfl rfl rfl (one_all rfl) e211).trans (by rw [e210]; rfl)) ⟨trivial, trivial, trivial⟩ ?_ trivial
          refine s_fin ?_
          exact N_mk (l := [(4, (.pointer (some p7))), (7, (.pointer (some p201)))]) H ⟨rfl, rfl, trivial⟩
      · have H := H.2
        obtain ⟨p212, e213⟩ : ∃ p : Addr, p = ⟨h58.size, 0, none⟩ := ⟨_, rfl⟩
        obtain ⟨h68, e214⟩ : ∃ hh : Heap, hh = h58.push (.cells #[(.pointer none)] 63) := ⟨_, rfl⟩
        have H := H p212 h68 e213 e214
        obtain ⟨e215, H⟩ := H
        obtain ⟨e216, H⟩ := H
        refine s_ef1 (d := some 7) (v := (.pointer (some p212))) (h' := h68) rfl rfl rfl (fun dr => (r_alloc Try.zeroValue63).trans (by rw [e213, e214]; rfl)) ⟨(.inl ⟨rfl, fun dr => r_loadN Try.isAgg63 Try.sizeOf63 (vs := [(.pointer x53)]) rfl rfl ⟨e215, trivial⟩⟩), (.inl ⟨rfl, fun dr => r_loadN Try.isAgg63 Try.sizeOf63 (vs := [(.pointer x51)]) rfl rfl ⟨e216, trivial⟩⟩), trivial⟩ ?_ trivial
        refine s_ef (d := some 20) rfl rfl rfl (fun dr => r_call Try.call54 rfl rfl H) ?_ trivial
        rintro _ h69 ⟨y217, rfl, H⟩
        obtain ⟨e218, H⟩ := H
        refine ⟨⟨trivial, (.inl ⟨rfl, fun dr => r_loadN Try.isAgg63 Try.sizeOf63 (vs := [(.pointer x51)]) rfl rfl ⟨e218, trivial⟩⟩), trivial⟩, ?_⟩
        refine s_ef (d := some 21) rfl rfl rfl (fun dr => r_call Try.call57 rfl rfl H) ?_ trivial
        rintro _ h70 ⟨y219, y220, rfl, H⟩
        refine ⟨⟨trivial, trivial, trivial⟩, ?_⟩
        refine s_pu (d := some 14) (v := (.tuple #[(.agg #[(.pointer y219)]), (.agg #[(.pointer y220)])])) rfl rfl rfl (r_move rfl) ?_
        refine s_pu (d := some 22) (v := (.agg #[(.pointer y219)])) rfl rfl rfl (r_extract rfl rfl) ?_
        refine s_pu (d := some 23) (v := (.agg #[(.pointer y220)])) rfl rfl rfl (r_extract rfl rfl) ?_
        obtain ⟨e222, H⟩ := H
        obtain ⟨h71, e221⟩ : ∃ hh : Heap, hh = hsets h70 p212 0 [(.pointer y219)] := ⟨_, rfl⟩
        have H := H h71 e221
        refine s_st (d := none) (h' := h71) rfl rfl rfl (fun dr => (r_store (v := (.agg #[(.pointer y219)])) Try.sizeOf63 rfl rfl rfl (one_all rfl) e222).trans (by rw [e221]; rfl)) ⟨trivial, trivial, trivial⟩ ?_ trivial
        obtain ⟨e224, H⟩ := H
        obtain ⟨h72, e223⟩ : ∃ hh : Heap, hh = hsets h71 p183 0 [(.pointer y220)] := ⟨_, rfl⟩
        have H := H h72 e223
        refine s_st (d := none) (h' := h72) rfl rfl rfl (fun dr => (r_store (v := (.agg #[(.pointer y220)])) Try.sizeOf63 rfl rfl rfl (one_all rfl) e224).trans (by rw [e223]; rfl)) ⟨trivial, trivial, trivial⟩ ?_ trivial
        refine s_fin ?_
        exact N_mk (l := [(4, (.pointer (some p7))), (7, (.pointer (some p212)))]) H ⟨rfl, rfl, trivial⟩

/-! ### ival_Map_Over_1 -/

def ival_Map_Over_1_F (r : World) (vr1 : Bool) (vr2 : Int) (vr3 : Int) (c4 : Addr) (h : Heap) (R : Bool → Heap → Prop) : Prop :=
  New h (.cells #[(.bool vr1), (.int .i64 vr2), (.int .i64 vr3)] 100) fun p5 h1 =>
  ∀ J9 : Bool → Prop, (∀ (x8 : Bool),
    (R x8 h1) →
    J9 x8) →
  LdB h1 (Addr.add p5 0) fun x11 =>
  Br x11 (
    LdI h1 (Addr.add p5 1) fun x14 =>
    LdI h1 c4 fun x16 =>
    J9 (decide (x16 < x14))) (
    J9 false)

set_option maxRecDepth 100000 in
theorem ival_Map_Over_1_of {r : World} {vr1 : Bool} {vr2 : Int} {vr3 : Int} {c4 : Addr} {h : Heap} {R : Bool → Heap → Prop} (H : ival_Map_Over_1_F r vr1 vr2 vr3 c4 h R) : ival_Map_Over_1 r vr1 vr2 vr3 c4 h R := by
  unfold ival_Map_Over_1_F at H
  refine calls_of 12 [.tmp 3] Try.func58 rfl rfl rfl rfl rfl ?_
  refine W_seq ?_
  refine W_region (.ef 0 [] (.pu 1 .fin) .no) rfl rfl ?_
  obtain ⟨p5, e6⟩ : ∃ p : Addr, p = ⟨h.size, 0, none⟩ := ⟨_, rfl⟩
  obtain ⟨h1, e7⟩ : ∃ hh : Heap, hh = h.push (.cells #[(.bool vr1), (.int .i64 vr2), (.int .i64 vr3)] 100) := ⟨_, rfl⟩
  have H := H p5 h1 e6 e7
  refine s_ef1 (d := some 2) (v := (.pointer (some p5))) (h' := h1) rfl rfl rfl (fun dr => (r_box (v := (.agg #[(.bool vr1), (.int .i64 vr2), (.int .i64 vr3)])) rfl).trans (by rw [e6, e7]; rfl)) trivial ?_ trivial
  refine s_pu (d := some 3) (v := (.bool false)) rfl rfl rfl (r_assign rfl) ?_
  refine s_fin ?_
  show W _ _ _ _ _ _ _ _
  refine W_seq ?_
  refine W_set ?_
  intro N10 eN10
  have H := H (fun (x8 : Bool) => ∀ b, N10 [] (mkE [(3, (.bool x8))] b) h1) (by
    intro x8 H b
    rw [eN10]
    show W _ _ _ _ _ _ _ _
    refine W_ret ?_
    exact ⟨[(.bool x8)], ⟨_, _, rfl, rfl, rfl⟩, x8, rfl, H⟩)
  clear eN10
  refine W_region (.pu 0 (.rl 1 (.pu 2 (.pu 3 (.rl 4 (.rl 5 (.pu 6 (.pu 7 (.pu 8 .fin))))))))) rfl rfl ?_
  refine s_pu (d := some 4) (v := (.pointer (some (Addr.add p5 0)))) rfl rfl rfl (r_fieldAddr Try.underlying100 Try.sizeOf4 rfl rfl rfl) ?_
  obtain ⟨x11, e12, H⟩ := H
  refine s_rl (d := some 5) (v := (.bool x11)) rfl rfl rfl (fun dr => r_load1 Try.isAgg4 rfl e12) ?_
  refine s_pu (d := some 6) (v := (.bool x11)) rfl rfl rfl (r_move rfl) ?_
  rcases Bool.eq_false_or_eq_true x11 with g13 | g13
  · have H := H.1 g13
    refine s_pu (d := some 7) (v := (.pointer (some (Addr.add p5 1)))) rfl rfl (wants_yes rfl rfl rfl rfl g13) (r_fieldAddr Try.underlying100 Try.sizeOf3 rfl rfl rfl) ?_
    obtain ⟨x14, e15, H⟩ := H
    refine s_rl (d := some 8) (v := (.int .i64 x14)) rfl rfl (wants_yes rfl rfl rfl rfl g13) (fun dr => r_load1 Try.isAgg3 rfl e15) ?_
    obtain ⟨x16, e17, H⟩ := H
    refine s_rl (d := some 9) (v := (.int .i64 x16)) rfl rfl (wants_yes rfl rfl rfl rfl g13) (fun dr => r_load1 Try.isAgg3 rfl e17) ?_
    refine s_pu (d := some 10) (v := (.bool (decide (x16 < x14)))) rfl rfl (wants_yes rfl rfl rfl rfl g13) (r_gtr rfl rfl) ?_
    refine s_pu (d := some 11) (v := (.bool (decide (x16 < x14)))) rfl rfl rfl (r_pick1 rfl g13 rfl) ?_
    refine s_pu (d := some 3) (v := (.bool (decide (x16 < x14)))) rfl rfl rfl (r_assign rfl) ?_
    refine s_fin ?_
    exact N_mk (l := [(3, (.bool (decide (x16 < x14))))]) H ⟨rfl, trivial⟩
  · have H := H.2 g13
    refine s_sk (d := some 7) rfl rfl (wants_no rfl rfl rfl rfl g13) ?_
    refine s_skl (d := some 8) rfl rfl (wants_no rfl rfl rfl rfl g13) ?_
    refine s_skl (d := some 9) rfl rfl (wants_no rfl rfl rfl rfl g13) ?_
    refine s_sk (d := some 10) rfl rfl (wants_no rfl rfl rfl rfl g13) ?_
    refine s_pu (d := some 11) (v := (.bool false)) rfl rfl rfl (r_pick0 rfl g13 rfl) ?_
    refine s_pu (d := some 3) (v := (.bool false)) rfl rfl rfl (r_assign rfl) ?_
    refine s_fin ?_
    exact N_mk (l := [(3, (.bool false))]) H ⟨rfl, trivial⟩

/-! ### ival_Map_Over_2 -/

def ival_Map_Over_2_F (r : World) (vr1 : Bool) (vr2 : Int) (vr3 : Int) (c4 : Addr) (h : Heap) (R : Bool → Heap → Prop) : Prop :=
  New h (.cells #[(.bool vr1), (.int .i64 vr2), (.int .i64 vr3)] 100) fun p5 h1 =>
  ∀ J9 : Bool → Prop, (∀ (x8 : Bool),
    (R x8 h1) →
    J9 x8) →
  LdB h1 (Addr.add p5 0) fun x11 =>
  Br x11 (
    LdI h1 (Addr.add p5 2) fun x14 =>
    LdI h1 c4 fun x16 =>
    J9 (decide (x16 ≤ x14))) (
    J9 false)

set_option maxRecDepth 100000 in
theorem ival_Map_Over_2_of {r : World} {vr1 : Bool} {vr2 : Int} {vr3 : Int} {c4 : Addr} {h : Heap} {R : Bool → Heap → Prop} (H : ival_Map_Over_2_F r vr1 vr2 vr3 c4 h R) : ival_Map_Over_2 r vr1 vr2 vr3 c4 h R := by
  unfold ival_Map_Over_2_F at H
  refine calls_of 12 [.tmp 3] Try.func60 rfl rfl rfl rfl rfl ?_
  refine W_seq ?_
  refine W_region (.ef 0 [] (.pu 1 .fin) .no) rfl rfl ?_
  obtain ⟨p5, e6⟩ : ∃ p : Addr, p = ⟨h.size, 0, none⟩ := ⟨_, rfl⟩
  obtain ⟨h1, e7⟩ : ∃ hh : Heap, hh = h.push (.cells #[(.bool vr1), (.int .i64 vr2), (.int .i64 vr3)] 100) := ⟨_, rfl⟩
  have H := H p5 h1 e6 e7
  refine s_ef1 (d := some 2) (v := (.pointer (some p5))) (h' := h1) rfl rfl rfl (fun dr => (r_box (v := (.agg #[(.bool vr1), (.int .i64 vr2), (.int .i64 vr3)])) rfl).trans (by rw [e6, e7]; rfl)) trivial ?_ trivial
  refine s_pu (d := some 3) (v := (.bool false)) rfl rfl rfl (r_assign rfl) ?_
  refine s_fin ?_
  show W _ _ _ _ _ _ _ _
  refine W_seq ?_
  refine W_set ?_
  intro N10 eN10
  have H := H (fun (x8 : Bool) => ∀ b, N10 [] (mkE [(3, (.bool x8))] b) h1) (by
    intro x8 H b
    rw [eN10]
    show W _ _ _ _ _ _ _ _
    refine W_ret ?_
    exact ⟨[(.bool x8)], ⟨_, _, rfl, rfl, rfl⟩, x8, rfl, H⟩)
  clear eN10
  refine W_region (.pu 0 (.rl 1 (.pu 2 (.pu 3 (.rl 4 (.rl 5 (.pu 6 (.pu 7 (.pu 8 .fin))))))))) rfl rfl ?_
  refine s_pu (d := some 4) (v := (.pointer (some (Addr.add p5 0)))) rfl rfl rfl (r_fieldAddr Try.underlying100 Try.sizeOf4 rfl rfl rfl) ?_
  obtain ⟨x11, e12, H⟩ := H
  refine s_rl (d := some 5) (v := (.bool x11)) rfl rfl rfl (fun dr => r_load1 Try.isAgg4 rfl e12) ?_
  refine s_pu (d := some 6) (v := (.bool x11)) rfl rfl rfl (r_move rfl) ?_
  rcases Bool.eq_false_or_eq_true x11 with g13 | g13
  · have H := H.1 g13
    refine s_pu (d := some 7) (v := (.pointer (some (Addr.add p5 2)))) rfl rfl (wants_yes rfl rfl rfl rfl g13) (r_fieldAddr Try.underlying100 Try.sizeOf3 rfl rfl rfl) ?_
    obtain ⟨x14, e15, H⟩ := H
    refine s_rl (d := some 8) (v := (.int .i64 x14)) rfl rfl (wants_yes rfl rfl rfl rfl g13) (fun dr => r_load1 Try.isAgg3 rfl e15) ?_
    obtain ⟨x16, e17, H⟩ := H
    refine s_rl (d := some 9) (v := (.int .i64 x16)) rfl rfl (wants_yes rfl rfl rfl rfl g13) (fun dr => r_load1 Try.isAgg3 rfl e17) ?_
    refine s_pu (d := some 10) (v := (.bool (decide (x16 ≤ x14)))) rfl rfl (wants_yes rfl rfl rfl rfl g13) (r_geq rfl rfl) ?_
    refine s_pu (d := some 11) (v := (.bool (decide (x16 ≤ x14)))) rfl rfl rfl (r_pick1 rfl g13 rfl) ?_
    refine s_pu (d := some 3) (v := (.bool (decide (x16 ≤ x14)))) rfl rfl rfl (r_assign rfl) ?_
    refine s_fin ?_
    exact N_mk (l := [(3, (.bool (decide (x16 ≤ x14))))]) H ⟨rfl, trivial⟩
  · have H := H.2 g13
    refine s_sk (d := some 7) rfl rfl (wants_no rfl rfl rfl rfl g13) ?_
    refine s_skl (d := some 8) rfl rfl (wants_no rfl rfl rfl rfl g13) ?_
    refine s_skl (d := some 9) rfl rfl (wants_no rfl rfl rfl rfl g13) ?_
    refine s_sk (d := some 10) rfl rfl (wants_no rfl rfl rfl rfl g13) ?_
    refine s_pu (d := some 11) (v := (.bool false)) rfl rfl rfl (r_pick0 rfl g13 rfl) ?_
    refine s_pu (d := some 3) (v := (.bool false)) rfl rfl rfl (r_assign rfl) ?_
    refine s_fin ?_
    exact N_mk (l := [(3, (.bool false))]) H ⟨rfl, trivial⟩

/-! ### ival_Map_Any -/

def ival_Map_Any_F (r : World) (m1 : Option Addr) (x2 : Int) (h : Heap) (R : Int → Int → Int → Bool → Heap → Prop) : Prop :=
  New h (.cells #[(.pointer m1)] 65) fun p3 h1 =>
  New h1 (.cells #[(.int .i64 0), (.int .i64 0), (.int .i64 0)] 60) fun p6 h2 =>
  LdP h2 (Addr.add p3 0) fun x9 =>
  ival_Map_Over r x9 x2 x2 h2 fun y11 h3 =>
  Br (decide (((y11.len : Int)) = 0)) (
    St h3 p6 3 [(.int .i64 0), (.int .i64 0), (.int .i64 0)] fun h4 =>
    LdI h4 (Addr.add p6 0) fun x14 =>
    LdI h4 (Addr.add p6 1) fun x16 =>
    LdI h4 (Addr.add p6 2) fun x18 =>
    R x14 x16 x18 false h4) (
    Ix y11 0 3 fun q24 =>
    LdI h3 (Addr.add q24 0) fun x26 =>
    LdI h3 (Addr.add q24 1) fun x28 =>
    LdI h3 (Addr.add q24 2) fun x30 =>
    St h3 p6 3 [(.int .i64 x26), (.int .i64 x28), (.int .i64 x30)] fun h5 =>
    LdI h5 (Addr.add p6 0) fun x34 =>
    LdI h5 (Addr.add p6 1) fun x36 =>
    LdI h5 (Addr.add p6 2) fun x38 =>
    R x34 x36 x38 true h5)

set_option maxRecDepth 100000 in
theorem ival_Map_Any_of {r : World} {m1 : Option Addr} {x2 : Int} {h : Heap} {R : Int → Int → Int → Bool → Heap → Prop} (H : ival_Map_Any_F r m1 x2 h R) : ival_Map_Any r m1 x2 h R := by
  unfold ival_Map_Any_F at H
  refine calls_of 18 [.cell 4 60, .tmp 5] Try.func53 rfl rfl rfl rfl rfl ?_
  refine W_seq ?_
  refine W_region (.ef 0 [] (.ef 1 [] (.pu 2 .fin) .no) .no) rfl rfl ?_
  obtain ⟨p3, e4⟩ : ∃ p : Addr, p = ⟨h.size, 0, none⟩ := ⟨_, rfl⟩
  obtain ⟨h1, e5⟩ : ∃ hh : Heap, hh = h.push (.cells #[(.pointer m1)] 65) := ⟨_, rfl⟩
  have H := H p3 h1 e4 e5
  refine s_ef1 (d := some 2) (v := (.pointer (some p3))) (h' := h1) rfl rfl rfl (fun dr => (r_box (v := (.agg #[(.pointer m1)])) rfl).trans (by rw [e4, e5]; rfl)) trivial ?_ trivial
  obtain ⟨p6, e7⟩ : ∃ p : Addr, p = ⟨h1.size, 0, none⟩ := ⟨_, rfl⟩
  obtain ⟨h2, e8⟩ : ∃ hh : Heap, hh = h1.push (.cells #[(.int .i64 0), (.int .i64 0), (.int .i64 0)] 60) := ⟨_, rfl⟩
  have H := H p6 h2 e7 e8
  refine s_ef1 (d := some 4) (v := (.pointer (some p6))) (h' := h2) rfl rfl rfl (fun dr => (r_alloc Try.zeroValue60).trans (by rw [e7, e8]; rfl)) trivial ?_ trivial
  refine s_pu (d := some 5) (v := (.bool false)) rfl rfl rfl (r_assign rfl) ?_
  refine s_fin ?_
  show W _ _ _ _ _ _ _ _
  refine W_seq ?_
  refine W_region (.rl 0 (.pu 1 (.pu 2 (.ef 3 [] (.pu 4 .fin) .no)))) rfl rfl ?_
  obtain ⟨x9, e10, H⟩ := H
  refine s_rl (d := some 7) (v := (.agg #[(.pointer x9)])) rfl rfl rfl (fun dr => r_loadN Try.isAgg65 Try.sizeOf65 (vs := [(.pointer x9)]) rfl rfl ⟨e10, trivial⟩) ?_
  refine s_pu (d := some 8) (v := (.int .i64 x2)) rfl rfl rfl (r_move rfl) ?_
  refine s_pu (d := some 9) (v := (.int .i64 x2)) rfl rfl rfl (r_move rfl) ?_
  refine s_ef (d := some 10) rfl rfl rfl (fun dr => r_call Try.call34 rfl rfl H) ?_ trivial
  rintro _ h3 ⟨y11, rfl, H⟩
  refine ⟨trivial, ?_⟩
  refine s_pu (d := some 6) (v := (Sl.v y11)) rfl rfl rfl (r_assign rfl) ?_
  refine s_fin ?_
  show W _ _ _ _ _ _ _ _
  refine W_seq ?_
  refine W_seq ?_
  refine W_region (.pu 0 (.pu 1 (.pu 2 .fin))) rfl rfl ?_
  refine s_pu (d := some 11) (v := (Sl.v y11)) rfl rfl rfl (r_move rfl) ?_
  refine s_pu (d := some 12) (v := (.int .i64 ((y11.len : Int)))) rfl rfl rfl (r_len Try.underlying58 rfl) ?_
  refine s_pu (d := some 13) (v := (.bool (decide (((y11.len : Int)) = 0)))) rfl rfl rfl (r_eql rfl rfl) ?_
  refine s_fin ?_
  show W _ _ _ _ _ _ _ _
  refine W_if (decide (((y11.len : Int)) = 0)) rfl (fun g40 => ?_) (fun g40 => ?_)
  · have H := H.1 g40
    refine W_seq ?_
    refine W_region (.pu 0 (.ef 1 [] (.pu 2 .fin) .no)) rfl rfl ?_
    refine s_pu (d := some 14) (v := (.agg #[(.int .i64 0), (.int .i64 0), (.int .i64 0)])) rfl rfl rfl (fun w => by kernel_rfl) ?_
    obtain ⟨e13, H⟩ := H
    obtain ⟨h4, e12⟩ : ∃ hh : Heap, hh = hsets h3 p6 0 [(.int .i64 0), (.int .i64 0), (.int .i64 0)] := ⟨_, rfl⟩
    have H := H h4 e12
    refine s_st (d := none) (h' := h4) rfl rfl rfl (fun dr => (r_store (v := (.agg #[(.int .i64 0), (.int .i64 0), (.int .i64 0)])) Try.sizeOf60 rfl rfl rfl (one_all rfl) e13).trans (by rw [e12]; rfl)) trivial ?_ trivial
    refine s_pu (d := some 5) (v := (.bool false)) rfl rfl rfl (r_assign rfl) ?_
    refine s_fin ?_
    show W _ _ _ _ _ _ _ _
    refine W_ret ?_
    obtain ⟨x14, e15, H⟩ := H
    obtain ⟨x16, e17, H⟩ := H
    obtain ⟨x18, e19, H⟩ := H
    exact ⟨[(.agg #[(.int .i64 x14), (.int .i64 x16), (.int .i64 x18)]), (.bool false)], ⟨_, _, _, rfl, rfl, fun dr => run_loadVarN Try.isAgg60 Try.sizeOf60 (vs := [(.int .i64 x14), (.int .i64 x16), (.int .i64 x18)]) rfl ⟨e15, e17, e19, trivial⟩, ⟨_, _, rfl, rfl, rfl⟩⟩, x14, x16, x18, false, rfl, H⟩
  · have H := H.2 g40
    refine W_skip ?_
    show W _ _ _ _ _ _ _ _
    refine W_seq ?_
    refine W_region (.pu 0 (.pu 1 (.rl 2 (.ef 3 [] (.pu 4 .fin) .no)))) rfl rfl ?_
    refine s_pu (d := some 15) (v := (Sl.v y11)) rfl rfl rfl (r_move rfl) ?_
    obtain ⟨p20, e21, e22, e23, H⟩ := H
    obtain ⟨q24, e25⟩ : ∃ q : Addr, q = Addr.add p20 (Int.toNat 0 * 3) := ⟨_, rfl⟩
    rw [← e25] at H
    refine s_pu (d := some 16) (v := (.pointer (some q24))) rfl rfl rfl (fun w => (r_indexAddr Try.underlying58 Try.sizeOf60 rfl rfl e21 e22 e23 w).trans (by rw [e25])) ?_
    obtain ⟨x26, e27, H⟩ := H
    obtain ⟨x28, e29, H⟩ := H
    obtain ⟨x30, e31, H⟩ := H
    refine s_rl (d := some 17) (v := (.agg #[(.int .i64 x26), (.int .i64 x28), (.int .i64 x30)])) rfl rfl rfl (fun dr => r_loadN Try.isAgg60 Try.sizeOf60 (vs := [(.int .i64 x26), (.int .i64 x28), (.int .i64 x30)]) rfl rfl ⟨e27, e29, e31, trivial⟩) ?_
    obtain ⟨e33, H⟩ := H
    obtain ⟨h5, e32⟩ : ∃ hh : Heap, hh = hsets h3 p6 0 [(.int .i64 x26), (.int .i64 x28), (.int .i64 x30)] := ⟨_, rfl⟩
    have H := H h5 e32
    refine s_st (d := none) (h' := h5) rfl rfl rfl (fun dr => (r_store (v := (.agg #[(.int .i64 x26), (.int .i64 x28), (.int .i64 x30)])) Try.sizeOf60 rfl rfl rfl (one_all rfl) e33).trans (by rw [e32]; rfl)) trivial ?_ trivial
    refine s_pu (d := some 5) (v := (.bool true)) rfl rfl rfl (r_assign rfl) ?_
    refine s_fin ?_
    show W _ _ _ _ _ _ _ _
    refine W_ret ?_
    obtain ⟨x34, e35, H⟩ := H
    obtain ⟨x36, e37, H⟩ := H
    obtain ⟨x38, e39, H⟩ := H
    exact ⟨[(.agg #[(.int .i64 x34), (.int .i64 x36), (.int .i64 x38)]), (.bool true)], ⟨_, _, _, rfl, rfl, fun dr => run_loadVarN Try.isAgg60 Try.sizeOf60 (vs := [(.int .i64 x34), (.int .i64 x36), (.int .i64 x38)]) rfl ⟨e35, e37, e39, trivial⟩, ⟨_, _, rfl, rfl, rfl⟩⟩, x34, x36, x38, true, rfl, H⟩

/-! ### law3_spanned -/

def law3_spanned_F (r : World)  (h : Heap) (R : Bool → Heap → Prop) : Prop :=
  New h (.cells #[(.pointer none)] 65) fun p1 h1 =>
  LdP h1 (Addr.add p1 0) fun x4 =>
  ival_Map_Add r x4 2 4 5 h1 fun y6 y7 h2 =>
  St h2 p1 1 [(.pointer y6)] fun h3 =>
  LdP h3 (Addr.add p1 0) fun x10 =>
  ival_Map_Any r x10 3 h3 fun y12 y13 y14 y15 h4 =>
  New h4 (.cells #[(.int .i64 0), (.int .i64 0), (.int .i64 0)] 60) fun p16 h5 =>
  St h5 p16 3 [(.int .i64 y12), (.int .i64 y13), (.int .i64 y14)] fun h6 =>
  LdP h6 (Addr.add p1 0) fun x21 =>
  ival_Map_Any r x21 5 h6 fun y23 y24 y25 y26 h7 =>
  New h7 (.cells #[(.int .i64 0), (.int .i64 0), (.int .i64 0)] 60) fun p27 h8 =>
  St h8 p27 3 [(.int .i64 y23), (.int .i64 y24), (.int .i64 y25)] fun h9 =>
  ∀ J33 : Bool → Prop, (∀ (x32 : Bool),
    (R x32 h9) →
    J33 x32) →
  (isIface y7 = true) ∧
  Br (isNil y7) (
    Br y15 (
      LdI h9 (Addr.add p16 2) fun x38 =>
      Br (decide (x38 = 5)) (
        J33 (!y26)) (
        J33 false)) (
      J33 false)) (
    J33 false)

set_option maxRecDepth 100000 in
theorem law3_spanned_of {r : World}  {h : Heap} {R : Bool → Heap → Prop} (H : law3_spanned_F r  h R) : law3_spanned r  h R := by
  unfold law3_spanned_F at H
  refine calls_of 37 [.tmp 0] Try.func31 rfl rfl rfl rfl rfl ?_
  refine W_seq ?_
  refine W_region (.pu 0 .fin) rfl rfl ?_
  refine s_pu (d := some 0) (v := (.bool false)) rfl rfl rfl (r_assign rfl) ?_
  refine s_fin ?_
  show W _ _ _ _ _ _ _ _
  refine W_seq ?_
  refine W_region (.ef 0 [] .fin .no) rfl rfl ?_
  obtain ⟨p1, e2⟩ : ∃ p : Addr, p = ⟨h.size, 0, none⟩ := ⟨_, rfl⟩
  obtain ⟨h1, e3⟩ : ∃ hh : Heap, hh = h.push (.cells #[(.pointer none)] 65) := ⟨_, rfl⟩
  have H := H p1 h1 e2 e3
  refine s_ef1 (d := some 1) (v := (.pointer (some p1))) (h' := h1) rfl rfl rfl (fun dr => (r_alloc Try.zeroValue65).trans (by rw [e2, e3]; rfl)) trivial ?_ trivial
  refine s_fin ?_
  show W _ _ _ _ _ _ _ _
  refine W_seq ?_
  refine W_region (.rl 0 (.pu 1 (.ef 2 [] (.pu 3 (.pu 4 (.pu 5 (.ef 6 [] (.pu 7 .fin) .no)))) .no))) rfl rfl ?_
  obtain ⟨x4, e5, H⟩ := H
  refine s_rl (d := some 8) (v := (.agg #[(.pointer x4)])) rfl rfl rfl (fun dr => r_loadN Try.isAgg65 Try.sizeOf65 (vs := [(.pointer x4)]) rfl rfl ⟨e5, trivial⟩) ?_
  refine s_pu (d := some 9) (v := (.agg #[(.int .i64 2), (.int .i64 4), (.int .i64 5)])) rfl rfl rfl (fun w => by kernel_rfl) ?_
  refine s_ef (d := some 10) rfl rfl rfl (fun dr => r_call Try.call32 rfl rfl H) ?_ trivial
  rintro _ h2 ⟨y6, y7, rfl, H⟩
  refine ⟨trivial, ?_⟩
  refine s_pu (d := some 7) (v := (.tuple #[(.agg #[(.pointer y6)]), y7])) rfl rfl rfl (r_move rfl) ?_
  refine s_pu (d := some 11) (v := (.agg #[(.pointer y6)])) rfl rfl rfl (r_extract rfl rfl) ?_
  refine s_pu (d := some 12) (v := y7) rfl rfl rfl (r_extract rfl rfl) ?_
  obtain ⟨e9, H⟩ := H
  obtain ⟨h3, e8⟩ : ∃ hh : Heap, hh = hsets h2 p1 0 [(.pointer y6)] := ⟨_, rfl⟩
  have H := H h3 e8
  refine s_st (d := none) (h' := h3) rfl rfl rfl (fun dr => (r_store (v := (.agg #[(.pointer y6)])) Try.sizeOf65 rfl rfl rfl (one_all rfl) e9).trans (by rw [e8]; rfl)) trivial ?_ trivial
  refine s_pu (d := some 2) (v := y7) rfl rfl rfl (r_assign rfl) ?_
  refine s_fin ?_
  show W _ _ _ _ _ _ _ _
  refine W_seq ?_
  refine W_region (.rl 0 (.ef 1 [] (.pu 2 (.pu 3 (.pu 4 (.ef 5 [] (.ef 6 [] (.pu 7 .fin) .no) .no)))) .no)) rfl rfl ?_
  obtain ⟨x10, e11, H⟩ := H
  refine s_rl (d := some 14) (v := (.agg #[(.pointer x10)])) rfl rfl rfl (fun dr => r_loadN Try.isAgg65 Try.sizeOf65 (vs := [(.pointer x10)]) rfl rfl ⟨e11, trivial⟩) ?_
  refine s_ef (d := some 15) rfl rfl rfl (fun dr => r_call Try.call53 rfl rfl H) ?_ trivial
  rintro _ h4 ⟨y12, y13, y14, y15, rfl, H⟩
  refine ⟨trivial, ?_⟩
  refine s_pu (d := some 13) (v := (.tuple #[(.agg #[(.int .i64 y12), (.int .i64 y13), (.int .i64 y14)]), (.bool y15)])) rfl rfl rfl (r_move rfl) ?_
  refine s_pu (d := some 16) (v := (.agg #[(.int .i64 y12), (.int .i64 y13), (.int .i64 y14)])) rfl rfl rfl (r_extract rfl rfl) ?_
  refine s_pu (d := some 17) (v := (.bool y15)) rfl rfl rfl (r_extract rfl rfl) ?_
  obtain ⟨p16, e17⟩ : ∃ p : Addr, p = ⟨h4.size, 0, none⟩ := ⟨_, rfl⟩
  obtain ⟨h5, e18⟩ : ∃ hh : Heap, hh = h4.push (.cells #[(.int .i64 0), (.int .i64 0), (.int .i64 0)] 60) := ⟨_, rfl⟩
  have H := H p16 h5 e17 e18
  refine s_ef1 (d := some 3) (v := (.pointer (some p16))) (h' := h5) rfl rfl rfl (fun dr => (r_alloc Try.zeroValue60).trans (by rw [e17, e18]; rfl)) trivial ?_ trivial
  obtain ⟨e20, H⟩ := H
  obtain ⟨h6, e19⟩ : ∃ hh : Heap, hh = hsets h5 p16 0 [(.int .i64 y12), (.int .i64 y13), (.int .i64 y14)] := ⟨_, rfl⟩
  have H := H h6 e19
  refine s_st (d := none) (h' := h6) rfl rfl rfl (fun dr => (r_store (v := (.agg #[(.int .i64 y12), (.int .i64 y13), (.int .i64 y14)])) Try.sizeOf60 rfl rfl rfl (one_all rfl) e20).trans (by rw [e19]; rfl)) trivial ?_ trivial
  refine s_pu (d := some 4) (v := (.bool y15)) rfl rfl rfl (r_assign rfl) ?_
  refine s_fin ?_
  show W _ _ _ _ _ _ _ _
  refine W_seq ?_
  refine W_region (.rl 0 (.ef 1 [] (.pu 2 (.pu 3 (.pu 4 (.ef 5 [] (.ef 6 [] (.pu 7 .fin) .no) .no)))) .no)) rfl rfl ?_
  obtain ⟨x21, e22, H⟩ := H
  refine s_rl (d := some 19) (v := (.agg #[(.pointer x21)])) rfl rfl rfl (fun dr => r_loadN Try.isAgg65 Try.sizeOf65 (vs := [(.pointer x21)]) rfl rfl ⟨e22, trivial⟩) ?_
  refine s_ef (d := some 20) rfl rfl rfl (fun dr => r_call Try.call53 rfl rfl H) ?_ trivial
  rintro _ h7 ⟨y23, y24, y25, y26, rfl, H⟩
  refine ⟨trivial, ?_⟩
  refine s_pu (d := some 18) (v := (.tuple #[(.agg #[(.int .i64 y23), (.int .i64 y24), (.int .i64 y25)]), (.bool y26)])) rfl rfl rfl (r_move rfl) ?_
  refine s_pu (d := some 21) (v := (.agg #[(.int .i64 y23), (.int .i64 y24), (.int .i64 y25)])) rfl rfl rfl (r_extract rfl rfl) ?_
  refine s_pu (d := some 22) (v := (.bool y26)) rfl rfl rfl (r_extract rfl rfl) ?_
  obtain ⟨p27, e28⟩ : ∃ p : Addr, p = ⟨h7.size, 0, none⟩ := ⟨_, rfl⟩
  obtain ⟨h8, e29⟩ : ∃ hh : Heap, hh = h7.push (.cells #[(.int .i64 0), (.int .i64 0), (.int .i64 0)] 60) := ⟨_, rfl⟩
  have H := H p27 h8 e28 e29
  refine s_ef1 (d := some 5) (v := (.pointer (some p27))) (h' := h8) rfl rfl rfl (fun dr => (r_alloc Try.zeroValue60).trans (by rw [e28, e29]; rfl)) trivial ?_ trivial
  obtain ⟨e31, H⟩ := H
  obtain ⟨h9, e30⟩ : ∃ hh : Heap, hh = hsets h8 p27 0 [(.int .i64 y23), (.int .i64 y24), (.int .i64 y25)] := ⟨_, rfl⟩
  have H := H h9 e30
  refine s_st (d := none) (h' := h9) rfl rfl rfl (fun dr => (r_store (v := (.agg #[(.int .i64 y23), (.int .i64 y24), (.int .i64 y25)])) Try.sizeOf60 rfl rfl rfl (one_all rfl) e31).trans (by rw [e30]; rfl)) trivial ?_ trivial
  refine s_pu (d := some 6) (v := (.bool y26)) rfl rfl rfl (r_assign rfl) ?_
  refine s_fin ?_
  show W _ _ _ _ _ _ _ _
  refine W_seq ?_
  refine W_set ?_
  intro N34 eN34
  have H := H (fun (x32 : Bool) => ∀ b, N34 [] (mkE [(0, (.bool x32))] b) h9) (by
    intro x32 H b
    rw [eN34]
    show W _ _ _ _ _ _ _ _
    refine W_ret ?_
    exact ⟨[(.bool x32)], ⟨_, _, rfl, rfl, rfl⟩, x32, rfl, H⟩)
  clear eN34
  refine W_region (.pu 0 (.pu 1 (.pu 2 (.pu 3 (.pu 4 (.pu 5 (.pu 6 (.rl 7 (.pu 8 (.pu 9 (.pu 10 (.pu 11 (.pu 12 (.pu 13 (.pu 14 .fin))))))))))))))) rfl rfl ?_
  refine s_pu (d := some 23) (v := y7) rfl rfl rfl (r_move rfl) ?_
  obtain ⟨e35, H⟩ := H
  refine s_pu (d := some 24) (v := (.bool (isNil y7))) rfl rfl rfl (r_nilI Try.underlying67 rfl e35 rfl) ?_
  refine s_pu (d := some 25) (v := (.bool (isNil y7))) rfl rfl rfl (r_move rfl) ?_
  rcases Bool.eq_false_or_eq_true (isNil y7) with g36 | g36
  · have H := H.1 g36
    refine s_pu (d := some 26) (v := (.bool y15)) rfl rfl (wants_yes rfl rfl rfl rfl g36) (r_move rfl) ?_
    refine s_pu (d := some 27) (v := (.bool y15)) rfl rfl rfl (r_pick1 rfl g36 rfl) ?_
    refine s_pu (d := some 28) (v := (.bool y15)) rfl rfl rfl (r_move rfl) ?_
    rcases Bool.eq_false_or_eq_true y15 with g37 | g37
    · have H := H.1 g37
      refine s_pu (d := some 29) (v := (.pointer (some (Addr.add p16 2)))) rfl rfl (wants_yes rfl rfl rfl rfl g37) (r_fieldAddr Try.underlying60 Try.sizeOf3 rfl rfl rfl) ?_
      obtain ⟨x38, e39, H⟩ := H
      refine s_rl (d := some 30) (v := (.int .i64 x38)) rfl rfl (wants_yes rfl rfl rfl rfl g37) (fun dr => r_load1 Try.isAgg3 rfl e39) ?_
      refine s_pu (d := some 31) (v := (.bool (decide (x38 = 5)))) rfl rfl (wants_yes rfl rfl rfl rfl g37) (r_eql rfl rfl) ?_
      refine s_pu (d := some 32) (v := (.bool (decide (x38 = 5)))) rfl rfl rfl (r_pick1 rfl g37 rfl) ?_
      refine s_pu (d := some 33) (v := (.bool (decide (x38 = 5)))) rfl rfl rfl (r_move rfl) ?_
      rcases Bool.eq_false_or_eq_true (decide (x38 = 5)) with g40 | g40
      · have H := H.1 g40
        refine s_pu (d := some 34) (v := (.bool y26)) rfl rfl (wants_yes rfl rfl rfl rfl g40) (r_move rfl) ?_
        refine s_pu (d := some 35) (v := (.bool (!y26))) rfl rfl (wants_yes rfl rfl rfl rfl g40) (r_not rfl) ?_
        refine s_pu (d := some 36) (v := (.bool (!y26))) rfl rfl rfl (r_pick1 rfl g40 rfl) ?_
        refine s_pu (d := some 0) (v := (.bool (!y26))) rfl rfl rfl (r_assign rfl) ?_
        refine s_fin ?_
        exact N_mk (l := [(0, (.bool (!y26)))]) H ⟨rfl, trivial⟩
      · have H := H.2 g40
        refine s_sk (d := some 34) rfl rfl (wants_no rfl rfl rfl rfl g40) ?_
        refine s_sk (d := some 35) rfl rfl (wants_no rfl rfl rfl rfl g40) ?_
        refine s_pu (d := some 36) (v := (.bool false)) rfl rfl rfl (r_pick0 rfl g40 rfl) ?_
        refine s_pu (d := some 0) (v := (.bool false)) rfl rfl rfl (r_assign rfl) ?_
        refine s_fin ?_
        exact N_mk (l := [(0, (.bool false))]) H ⟨rfl, trivial⟩
    · have H := H.2 g37
      refine s_sk (d := some 29) rfl rfl (wants_no rfl rfl rfl rfl g37) ?_
      refine s_skl (d := some 30) rfl rfl (wants_no rfl rfl rfl rfl g37) ?_
      refine s_sk (d := some 31) rfl rfl (wants_no rfl rfl rfl rfl g37) ?_
      refine s_pu (d := some 32) (v := (.bool false)) rfl rfl rfl (r_pick0 rfl g37 rfl) ?_
      refine s_pu (d := some 33) (v := (.bool false)) rfl rfl rfl (r_move rfl) ?_
      refine s_sk (d := some 34) rfl rfl (wants_no rfl rfl rfl rfl rfl) ?_
      refine s_sk (d := some 35) rfl rfl (wants_no rfl rfl rfl rfl rfl) ?_
      refine s_pu (d := some 36) (v := (.bool false)) rfl rfl rfl (r_pick0 rfl rfl rfl) ?_
      refine s_pu (d := some 0) (v := (.bool false)) rfl rfl rfl (r_assign rfl) ?_
      refine s_fin ?_
      exact N_mk (l := [(0, (.bool false))]) H ⟨rfl, trivial⟩
  · have H := H.2 g36
    refine s_sk (d := some 26) rfl rfl (wants_no rfl rfl rfl rfl g36) ?_
    refine s_pu (d := some 27) (v := (.bool false)) rfl rfl rfl (r_pick0 rfl g36 rfl) ?_
    refine s_pu (d := some 28) (v := (.bool false)) rfl rfl rfl (r_move rfl) ?_
    refine s_sk (d := some 29) rfl rfl (wants_no rfl rfl rfl rfl rfl) ?_
    refine s_skl (d := some 30) rfl rfl (wants_no rfl rfl rfl rfl rfl) ?_
    refine s_sk (d := some 31) rfl rfl (wants_no rfl rfl rfl rfl rfl) ?_
    refine s_pu (d := some 32) (v := (.bool false)) rfl rfl rfl (r_pick0 rfl rfl rfl) ?_
    refine s_pu (d := some 33) (v := (.bool false)) rfl rfl rfl (r_move rfl) ?_
    refine s_sk (d := some 34) rfl rfl (wants_no rfl rfl rfl rfl rfl) ?_
    refine s_sk (d := some 35) rfl rfl (wants_no rfl rfl rfl rfl rfl) ?_
    refine s_pu (d := some 36) (v := (.bool false)) rfl rfl rfl (r_pick0 rfl rfl rfl) ?_
    refine s_pu (d := some 0) (v := (.bool false)) rfl rfl rfl (r_assign rfl) ?_
    refine s_fin ?_
    exact N_mk (l := [(0, (.bool false))]) H ⟨rfl, trivial⟩

/-! ### law3_IvalStabs -/

def law3_IvalStabs_F (r : World) (l1 : Sl) (s2 : Int) (s3 : Int) (s4 : Int) (x5 : Int) (h : Heap) (R : Bool → Heap → Prop) : Prop :=
  New h (.cells #[(.int .i64 s2), (.int .i64 s3), (.int .i64 s4)] 60) fun p6 h1 =>
  law3_spanned r h1 fun y9 h2 =>
  Br (!y9) (
    R false h2) (
    New h2 (.cells #[(.pointer none)] 65) fun p10 h3 =>
    ∀ X15 : Int → Int → Heap → Prop, (∀ (n13 : Int) (i14 : Int) (h4 : Heap),
      (Br (decide (i14 < ((l1.len : Int)))) (
        ∀ J17 : Int → Heap → Prop, (∀ (n16 : Int) (h5 : Heap),
          (X15 n16 (w64 (i14 + 1)) h5) →
          J17 n16 h5) →
        ∀ J21 : Addr → Value → Heap → Prop, (∀ (p19 : Addr) (err20 : Value) (h6 : Heap),
          ((isIface err20 = true) ∧
          Br (isNil err20) (
            LdP h6 (Addr.add p19 0) fun x24 =>
            St h6 p10 1 [(.pointer x24)] fun h7 =>
            Ix l1 i14 3 fun q32 =>
            LdI h7 (Addr.add q32 0) fun x34 =>
            LdI h7 (Addr.add q32 1) fun x36 =>
            LdI h7 (Addr.add q32 2) fun x38 =>
            LdI h7 (Addr.add p6 0) fun x40 =>
            LdI h7 (Addr.add p6 1) fun x42 =>
            LdI h7 (Addr.add p6 2) fun x44 =>
            Br (decide (x34 = x40 ∧ x36 = x42 ∧ x38 = x44)) (
              J17 (w64 (n13 + 1)) h7) (
              J17 n13 h7)) (
            J17 n13 h6)) →
          J21 p19 err20 h6) →
        LdP h4 (Addr.add p10 0) fun x48 =>
        Ix l1 i14 3 fun q54 =>
        LdI h4 (Addr.add q54 0) fun x56 =>
        LdI h4 (Addr.add q54 1) fun x58 =>
        LdI h4 (Addr.add q54 2) fun x60 =>
        (ival_Map_Add r x48 x56 x58 x60 h4 fun y62 y63 h8 =>
        New h8 (.cells #[(.pointer none)] 65) fun p64 h9 =>
        (hcell h9 (Addr.add q54 0) = some (.int .i64 x56)) ∧
        (hcell h9 (Addr.add q54 1) = some (.int .i64 x58)) ∧
        (hcell h9 (Addr.add q54 2) = some (.int .i64 x60)) ∧
        (hcell h9 (Addr.add p10 0) = some (.pointer x48)) ∧
        St h9 p64 1 [(.pointer y62)] fun h10 =>
        J21 p64 y63 h10) ∧
        (New h4 (.cells #[(.pointer none)] 65) fun p73 h11 =>
        (hcell h11 (Addr.add q54 0) = some (.int .i64 x56)) ∧
        (hcell h11 (Addr.add q54 1) = some (.int .i64 x58)) ∧
        (hcell h11 (Addr.add q54 2) = some (.int .i64 x60)) ∧
        (hcell h11 (Addr.add p10 0) = some (.pointer x48)) ∧
        ival_Map_Add r x48 x56 x58 x60 h11 fun y80 y81 h12 =>
        St h12 p73 1 [(.pointer y80)] fun h13 =>
        J21 p73 y81 h13)) (
        LdP h4 (Addr.add p10 0) fun x84 =>
        ival_Map_All r x84 x5 h4 fun y86 h14 =>
        ∀ X89 : Int → Int → Prop, (∀ (k87 : Int) (i88 : Int),
          (Br (decide (i88 < ((y86.len : Int)))) (
            ∀ J91 : Int → Prop, (∀ (k90 : Int),
              (X89 k90 (w64 (i88 + 1))) →
              J91 k90) →
            ∀ J94 : Bool → Prop, (∀ (x93 : Bool),
              (Br x93 (
                R false h14) (
                Ix y86 i88 3 fun q100 =>
                LdI h14 (Addr.add q100 0) fun x102 =>
                LdI h14 (Addr.add q100 1) fun x104 =>
                LdI h14 (Addr.add q100 2) fun x106 =>
                LdI h14 (Addr.add p6 0) fun x108 =>
                LdI h14 (Addr.add p6 1) fun x110 =>
                LdI h14 (Addr.add p6 2) fun x112 =>
                Br (decide (x102 = x108 ∧ x104 = x110 ∧ x106 = x112)) (
                  J91 (w64 (k87 + 1))) (
                  J91 k87))) →
              J94 x93) →
            Ix y86 i88 3 fun q120 =>
            LdI h14 (Addr.add q120 0) fun x122 =>
            Br (decide (x5 < x122)) (
              J94 true) (
              Ix y86 i88 3 fun q129 =>
              LdI h14 (Addr.add q129 1) fun x131 =>
              J94 (decide (x131 < x5)))) (
            ∀ J134 : Bool → Prop, (∀ (x133 : Bool),
              (Br x133 (
                R (decide (k87 = n13)) h14) (
                R (decide (k87 = 0)) h14)) →
              J134 x133) →
            LdI h14 (Addr.add p6 0) fun x137 =>
            Br (decide (x137 ≤ x5)) (
              LdI h14 (Addr.add p6 1) fun x140 =>
              J134 (decide (x5 ≤ x140))) (
              J134 false))) →
          X89 k87 i88) →
        X89 0 0)) →
      X15 n13 i14 h4) →
    X15 0 0 h3)

set_option maxRecDepth 100000 in
theorem law3_IvalStabs_of {r : World} {l1 : Sl} {s2 : Int} {s3 : Int} {s4 : Int} {x5 : Int} {h : Heap} {R : Bool → Heap → Prop} (H : law3_IvalStabs_F r l1 s2 s3 s4 x5 h R) : law3_IvalStabs r l1 s2 s3 s4 x5 h R := by
  unfold law3_IvalStabs_F at H
  refine calls_of 93 [.tmp 6] Try.func7 rfl rfl rfl rfl rfl ?_
  refine W_seq ?_
  refine W_region (.ef 0 [] (.pu 1 .fin) .no) rfl rfl ?_
  obtain ⟨p6, e7⟩ : ∃ p : Addr, p = ⟨h.size, 0, none⟩ := ⟨_, rfl⟩
  obtain ⟨h1, e8⟩ : ∃ hh : Heap, hh = h.push (.cells #[(.int .i64 s2), (.int .i64 s3), (.int .i64 s4)] 60) := ⟨_, rfl⟩
  have H := H p6 h1 e7 e8
  refine s_ef1 (d := some 4) (v := (.pointer (some p6))) (h' := h1) rfl rfl rfl (fun dr => (r_box (v := (.agg #[(.int .i64 s2), (.int .i64 s3), (.int .i64 s4)])) rfl).trans (by rw [e7, e8]; rfl)) trivial ?_ trivial
  refine s_pu (d := some 6) (v := (.bool false)) rfl rfl rfl (r_assign rfl) ?_
  refine s_fin ?_
  show W _ _ _ _ _ _ _ _
  refine W_seq ?_
  refine W_region (.ef 0 [] (.pu 1 .fin) .no) rfl rfl ?_
  refine s_ef (d := some 16) rfl rfl rfl (fun dr => r_call Try.call31 rfl rfl H) ?_ trivial
  rintro _ h2 ⟨y9, rfl, H⟩
  refine ⟨trivial, ?_⟩
  refine s_pu (d := some 7) (v := (.bool y9)) rfl rfl rfl (r_assign rfl) ?_
  refine s_fin ?_
  show W _ _ _ _ _ _ _ _
  refine W_seq ?_
  refine W_seq ?_
  refine W_region (.pu 0 (.pu 1 .fin)) rfl rfl ?_
  refine s_pu (d := some 17) (v := (.bool y9)) rfl rfl rfl (r_move rfl) ?_
  refine s_pu (d := some 18) (v := (.bool (!y9))) rfl rfl rfl (r_not rfl) ?_
  refine s_fin ?_
  show W _ _ _ _ _ _ _ _
  refine W_if (!y9) rfl (fun g144 => ?_) (fun g144 => ?_)
  · have H := H.1 g144
    refine W_seq ?_
    refine W_region (.pu 0 .fin) rfl rfl ?_
    refine s_pu (d := some 6) (v := (.bool false)) rfl rfl rfl (r_assign rfl) ?_
    refine s_fin ?_
    show W _ _ _ _ _ _ _ _
    refine W_ret ?_
    exact ⟨[(.bool false)], ⟨_, _, rfl, rfl, rfl⟩, false, rfl, H⟩
  · have H := H.2 g144
    refine W_skip ?_
    show W _ _ _ _ _ _ _ _
    refine W_seq ?_
    refine W_region (.ef 0 [] .fin .no) rfl rfl ?_
    obtain ⟨p10, e11⟩ : ∃ p : Addr, p = ⟨h2.size, 0, none⟩ := ⟨_, rfl⟩
    obtain ⟨h3, e12⟩ : ∃ hh : Heap, hh = h2.push (.cells #[(.pointer none)] 65) := ⟨_, rfl⟩
    have H := H p10 h3 e11 e12
    refine s_ef1 (d := some 8) (v := (.pointer (some p10))) (h' := h3) rfl rfl rfl (fun dr => (r_alloc Try.zeroValue65).trans (by rw [e11, e12]; rfl)) trivial ?_ trivial
    refine s_fin ?_
    show W _ _ _ _ _ _ _ _
    refine W_seq ?_
    refine W_region (.pu 0 .fin) rfl rfl ?_
    refine s_pu (d := some 9) (v := (.int .i64 0)) rfl rfl rfl (r_assign rfl) ?_
    refine s_fin ?_
    show W _ _ _ _ _ _ _ _
    refine W_seq ?_
    refine W_seq ?_
    refine W_region (.pu 0 .fin) rfl rfl ?_
    refine s_pu (d := some 10) (v := (.int .i64 0)) rfl rfl rfl (r_assign rfl) ?_
    refine s_fin ?_
    show W _ _ _ _ _ _ _ _
    refine W_block ?_
    refine W_loop (WL_mk (l := [(0, (Sl.v l1)), (2, (.int .i64 x5)), (4, (.pointer (some p6))), (8, (.pointer (some p10))), (9, (.int .i64 0)), (10, (.int .i64 0))]) ?_ ⟨rfl, rfl, rfl, rfl, rfl, rfl, trivial⟩)
    refine H (fun (n13 : Int) (i14 : Int) (h4 : Heap) => ∀ b, WL _ _ _ _ _ _ (mkE [(0, (Sl.v l1)), (2, (.int .i64 x5)), (4, (.pointer (some p6))), (8, (.pointer (some p10))), (9, (.int .i64 n13)), (10, (.int .i64 i14))] b) h4) ?_
    intro n13 i14 h4 H b
    refine WL_round ?_
    refine W_seq ?_
    refine W_seq ?_
    refine W_region (.pu 0 (.pu 1 (.pu 2 (.pu 3 .fin)))) rfl rfl ?_
    refine s_pu (d := some 19) (v := (.int .i64 i14)) rfl rfl rfl (r_move rfl) ?_
    refine s_pu (d := some 20) (v := (Sl.v l1)) rfl rfl rfl (r_move rfl) ?_
    refine s_pu (d := some 21) (v := (.int .i64 ((l1.len : Int)))) rfl rfl rfl (r_len Try.underlying58 rfl) ?_
    refine s_pu (d := some 22) (v := (.bool (decide (i14 < ((l1.len : Int)))))) rfl rfl rfl (r_lss rfl rfl) ?_
    refine s_fin ?_
    show W _ _ _ _ _ _ _ _
    refine W_if (decide (i14 < ((l1.len : Int)))) rfl (fun g143 => ?_) (fun g143 => ?_)
    · have H := H.1 g143
      refine W_skip ?_
      show W _ _ _ _ _ _ _ _
      refine W_seq ?_
      refine W_set ?_
      intro N18 eN18
      have H := H (fun (n16 : Int) (h5 : Heap) => ∀ b, N18 [] (mkE [(0, (Sl.v l1)), (2, (.int .i64 x5)), (4, (.pointer (some p6))), (8, (.pointer (some p10))), (9, (.int .i64 n16)), (10, (.int .i64 i14))] b) h5) (by
        intro n16 h5 H b
        rw [eN18]
        show W _ _ _ _ _ _ _ _
        refine W_region (.pu 0 (.pu 1 (.pu 2 .fin))) rfl rfl ?_
        refine s_pu (d := some 23) (v := (.int .i64 i14)) rfl rfl rfl (r_move rfl) ?_
        refine s_pu (d := some 24) (v := (.int .i64 (w64 (i14 + 1)))) rfl rfl rfl (r_add rfl rfl) ?_
        refine s_pu (d := some 10) (v := (.int .i64 (w64 (i14 + 1)))) rfl rfl rfl (r_assign rfl) ?_
        refine s_fin ?_
        exact WL_mk (l := [(0, (Sl.v l1)), (2, (.int .i64 x5)), (4, (.pointer (some p6))), (8, (.pointer (some p10))), (9, (.int .i64 n16)), (10, (.int .i64 (w64 (i14 + 1))))]) H ⟨rfl, rfl, rfl, rfl, rfl, rfl, trivial⟩)
      clear eN18
      refine W_block ?_
      refine W_seq ?_
      refine W_set ?_
      intro N22 eN22
      have H := H (fun (p19 : Addr) (err20 : Value) (h6 : Heap) => ∀ b, N22 [] (mkE [(0, (Sl.v l1)), (2, (.int .i64 x5)), (4, (.pointer (some p6))), (8, (.pointer (some p10))), (9, (.int .i64 n13)), (10, (.int .i64 i14)), (11, (.pointer (some p19))), (12, err20)] b) h6) (by
        intro p19 err20 h6 H b
        rw [eN22]
        show W _ _ _ _ _ _ _ _
        refine W_seq ?_
        refine W_region (.pu 0 (.pu 1 .fin)) rfl rfl ?_
        refine s_pu (d := some 34) (v := err20) rfl rfl rfl (r_move rfl) ?_
        obtain ⟨e23, H⟩ := H
        refine s_pu (d := some 35) (v := (.bool (isNil err20))) rfl rfl rfl (r_nilI Try.underlying67 rfl e23 rfl) ?_
        refine s_fin ?_
        show W _ _ _ _ _ _ _ _
        refine W_if (isNil err20) rfl (fun g47 => ?_) (fun g47 => ?_)
        · have H := H.1 g47
          refine W_seq ?_
          refine W_region (.rl 0 (.ef 1 [] .fin .no)) rfl rfl ?_
          obtain ⟨x24, e25, H⟩ := H
          refine s_rl (d := some 36) (v := (.agg #[(.pointer x24)])) rfl rfl rfl (fun dr => r_loadN Try.isAgg65 Try.sizeOf65 (vs := [(.pointer x24)]) rfl rfl ⟨e25, trivial⟩) ?_
          obtain ⟨e27, H⟩ := H
          obtain ⟨h7, e26⟩ : ∃ hh : Heap, hh = hsets h6 p10 0 [(.pointer x24)] := ⟨_, rfl⟩
          have H := H h7 e26
          refine s_st (d := none) (h' := h7) rfl rfl rfl (fun dr => (r_store (v := (.agg #[(.pointer x24)])) Try.sizeOf65 rfl rfl rfl (one_all rfl) e27).trans (by rw [e26]; rfl)) trivial ?_ trivial
          refine s_fin ?_
          show W _ _ _ _ _ _ _ _
          refine W_seq ?_
          refine W_draw [0, 0, 3, 7, 0, 31] (.pu 0 (.pu 1 (.pu 2 (.rd 3 (.rd 4 (.pu 5 .fin)))))) (by kernel_rfl) (by kernel_rfl) ?_
          refine s_pu (d := some 37) (v := (Sl.v l1)) rfl rfl rfl (r_move rfl) ?_
          refine s_pu (d := some 38) (v := (.int .i64 i14)) rfl rfl rfl (r_move rfl) ?_
          obtain ⟨p28, e29, e30, e31, H⟩ := H
          obtain ⟨q32, e33⟩ : ∃ q : Addr, q = Addr.add p28 (Int.toNat i14 * 3) := ⟨_, rfl⟩
          rw [← e33] at H
          refine s_pu (d := some 39) (v := (.pointer (some q32))) rfl rfl rfl (fun w => (r_indexAddr Try.underlying58 Try.sizeOf60 rfl rfl e29 e30 e31 w).trans (by rw [e33])) ?_
          obtain ⟨x34, e35, H⟩ := H
          obtain ⟨x36, e37, H⟩ := H
          obtain ⟨x38, e39, H⟩ := H
          refine s_rd (d := some 40) (v := (.agg #[(.int .i64 x34), (.int .i64 x36), (.int .i64 x38)])) rfl rfl rfl (fun dr => r_loadN Try.isAgg60 Try.sizeOf60 (vs := [(.int .i64 x34), (.int .i64 x36), (.int .i64 x38)]) rfl rfl ⟨e35, e37, e39, trivial⟩) ?_
          obtain ⟨x40, e41, H⟩ := H
          obtain ⟨x42, e43, H⟩ := H
          obtain ⟨x44, e45, H⟩ := H
          refine s_rd (d := some 41) (v := (.agg #[(.int .i64 x40), (.int .i64 x42), (.int .i64 x44)])) rfl rfl rfl (fun dr => r_loadN Try.isAgg60 Try.sizeOf60 (vs := [(.int .i64 x40), (.int .i64 x42), (.int .i64 x44)]) rfl rfl ⟨e41, e43, e45, trivial⟩) ?_
          refine s_pu (d := some 42) (v := (.bool (decide (x34 = x40 ∧ x36 = x42 ∧ x38 = x44)))) rfl rfl rfl (r_eqlAgg_Try60 rfl rfl) ?_
          refine s_fin ?_
          show W _ _ _ _ _ _ _ _
          refine W_if (decide (x34 = x40 ∧ x36 = x42 ∧ x38 = x44)) rfl (fun g46 => ?_) (fun g46 => ?_)
          · have H := H.1 g46
            refine W_region (.pu 0 (.pu 1 (.pu 2 .fin))) rfl rfl ?_
            refine s_pu (d := some 43) (v := (.int .i64 n13)) rfl rfl rfl (r_move rfl) ?_
            refine s_pu (d := some 44) (v := (.int .i64 (w64 (n13 + 1)))) rfl rfl rfl (r_add rfl rfl) ?_
            refine s_pu (d := some 9) (v := (.int .i64 (w64 (n13 + 1)))) rfl rfl rfl (r_assign rfl) ?_
            refine s_fin ?_
            exact N_mk (l := [(0, (Sl.v l1)), (2, (.int .i64 x5)), (4, (.pointer (some p6))), (8, (.pointer (some p10))), (9, (.int .i64 (w64 (n13 + 1)))), (10, (.int .i64 i14))]) H ⟨rfl, rfl, rfl, rfl, rfl, rfl, trivial⟩
          · have H := H.2 g46
            refine W_skip ?_
            exact N_mk (l := [(0, (Sl.v l1)), (2, (.int .i64 x5)), (4, (.pointer (some p6))), (8, (.pointer (some p10))), (9, (.int .i64 n13)), (10, (.int .i64 i14))]) H ⟨rfl, rfl, rfl, rfl, rfl, rfl, trivial⟩
        · have H := H.2 g47
          refine W_skip ?_
          exact N_mk (l := [(0, (Sl.v l1)), (2, (.int .i64 x5)), (4, (.pointer (some p6))), (8, (.pointer (some p10))), (9, (.int .i64 n13)), (10, (.int .i64 i14))]) H ⟨rfl, rfl, rfl, rfl, rfl, rfl, trivial⟩)
      clear eN22
      refine W_draw [0, 0, 0, 6, 14, 31, 63, 127, 127, 0, 767, 2047] (.rd 0 (.pu 1 (.pu 2 (.pu 3 (.rd 4 (.ef 5 [0, 4] (.pu 6 (.pu 7 (.pu 8 (.ef 9 [] (.ef 10 [0, 4] (.pu 11 .fin) .no) .no)))) (.ef 9 [] (.ef 5 [0, 4] (.pu 6 (.pu 7 (.pu 8 (.ef 10 [0, 4] (.pu 11 .fin) .no)))) .no) .no))))))) (by kernel_rfl) (by kernel_rfl) ?_
      obtain ⟨x48, e49, H⟩ := H
      refine s_rd (d := some 26) (v := (.agg #[(.pointer x48)])) rfl rfl rfl (fun dr => r_loadN Try.isAgg65 Try.sizeOf65 (vs := [(.pointer x48)]) rfl rfl ⟨e49, trivial⟩) ?_
      refine s_pu (d := some 27) (v := (Sl.v l1)) rfl rfl rfl (r_move rfl) ?_
      refine s_pu (d := some 28) (v := (.int .i64 i14)) rfl rfl rfl (r_move rfl) ?_
      obtain ⟨p50, e51, e52, e53, H⟩ := H
      obtain ⟨q54, e55⟩ : ∃ q : Addr, q = Addr.add p50 (Int.toNat i14 * 3) := ⟨_, rfl⟩
      rw [← e55] at H
      refine s_pu (d := some 29) (v := (.pointer (some q54))) rfl rfl rfl (fun w => (r_indexAddr Try.underlying58 Try.sizeOf60 rfl rfl e51 e52 e53 w).trans (by rw [e55])) ?_
      obtain ⟨x56, e57, H⟩ := H
      obtain ⟨x58, e59, H⟩ := H
      obtain ⟨x60, e61, H⟩ := H
      refine s_rd (d := some 30) (v := (.agg #[(.int .i64 x56), (.int .i64 x58), (.int .i64 x60)])) rfl rfl rfl (fun dr => r_loadN Try.isAgg60 Try.sizeOf60 (vs := [(.int .i64 x56), (.int .i64 x58), (.int .i64 x60)]) rfl rfl ⟨e57, e59, e61, trivial⟩) ?_
      refine s_or ?_ ?_
      · have H := H.1
        refine s_ef (d := some 31) rfl rfl rfl (fun dr => r_call Try.call32 rfl rfl H) ?_ trivial
        rintro _ h8 ⟨y62, y63, rfl, H⟩
        refine ⟨⟨trivial, trivial, trivial⟩, ?_⟩
        refine s_pu (d := some 25) (v := (.tuple #[(.agg #[(.pointer y62)]), y63])) rfl rfl rfl (r_move rfl) ?_
        refine s_pu (d := some 32) (v := (.agg #[(.pointer y62)])) rfl rfl rfl (r_extract rfl rfl) ?_
        refine s_pu (d := some 33) (v := y63) rfl rfl rfl (r_extract rfl rfl) ?_
        obtain ⟨p64, e65⟩ : ∃ p : Addr, p = ⟨h8.size, 0, none⟩ := ⟨_, rfl⟩
        obtain ⟨h9, e66⟩ : ∃ hh : Heap, hh = h8.push (.cells #[(.pointer none)] 65) := ⟨_, rfl⟩
        have H := H p64 h9 e65 e66
        obtain ⟨e67, H⟩ := H
        obtain ⟨e68, H⟩ := H
        obtain ⟨e69, H⟩ := H
        obtain ⟨e70, H⟩ := H
        refine s_ef1 (d := some 11) (v := (.pointer (some p64))) (h' := h9) rfl rfl rfl (fun dr => (r_alloc Try.zeroValue65).trans (by rw [e65, e66]; rfl)) ⟨(.inl ⟨rfl, fun dr => r_loadN Try.isAgg60 Try.sizeOf60 (vs := [(.int .i64 x56), (.int .i64 x58), (.int .i64 x60)]) rfl rfl ⟨e67, e68, e69, trivial⟩⟩), (.inl ⟨rfl, fun dr => r_loadN Try.isAgg65 Try.sizeOf65 (vs := [(.pointer x48)]) rfl rfl ⟨e70, trivial⟩⟩), trivial⟩ ?_ trivial
        obtain ⟨e72, H⟩ := H
        obtain ⟨h10, e71⟩ : ∃ hh : Heap, hh = hsets h9 p64 0 [(.pointer y62)] := ⟨_, rfl⟩
        have H := H h10 e71
        refine s_st (d := none) (h' := h10) rfl rfl rfl (fun dr => (r_store (v := (.agg #[(.pointer y62)])) Try.sizeOf65 rfl rfl rfl (one_all rfl) e72).trans (by rw [e71]; rfl)) ⟨trivial, trivial, trivial⟩ ?_ trivial
        refine s_pu (d := some 12) (v := y63) rfl rfl rfl (r_assign rfl) ?_
        refine s_fin ?_
        exact N_mk (l := [(0, (Sl.v l1)), (2, (.int .i64 x5)), (4, (.pointer (some p6))), (8, (.pointer (some p10))), (9, (.int .i64 n13)), (10, (.int .i64 i14)), (11, (.pointer (some p64))), (12, y63)]) H ⟨rfl, rfl, rfl, rfl, rfl, rfl, rfl, rfl, trivial⟩
      · have H := H.2
        obtain ⟨p73, e74⟩ : ∃ p : Addr, p = ⟨h4.size, 0, none⟩ := ⟨_, rfl⟩
        obtain ⟨h11, e75⟩ : ∃ hh : Heap, hh = h4.push (.cells #[(.pointer none)] 65) := ⟨_, rfl⟩
        have H := H p73 h11 e74 e75
        obtain ⟨e76, H⟩ := H
        obtain ⟨e77, H⟩ := H
        obtain ⟨e78, H⟩ := H
        obtain ⟨e79, H⟩ := H
        refine s_ef1 (d := some 11) (v := (.pointer (some p73))) (h' := h11) rfl rfl rfl (fun dr => (r_alloc Try.zeroValue65).trans (by rw [e74, e75]; rfl)) ⟨(.inl ⟨rfl, fun dr => r_loadN Try.isAgg60 Try.sizeOf60 (vs := [(.int .i64 x56), (.int .i64 x58), (.int .i64 x60)]) rfl rfl ⟨e76, e77, e78, trivial⟩⟩), (.inl ⟨rfl, fun dr => r_loadN Try.isAgg65 Try.sizeOf65 (vs := [(.pointer x48)]) rfl rfl ⟨e79, trivial⟩⟩), trivial⟩ ?_ trivial
        refine s_ef (d := some 31) rfl rfl rfl (fun dr => r_call Try.call32 rfl rfl H) ?_ trivial
        rintro _ h12 ⟨y80, y81, rfl, H⟩
        refine ⟨⟨trivial, trivial, trivial⟩, ?_⟩
        refine s_pu (d := some 25) (v := (.tuple #[(.agg #[(.pointer y80)]), y81])) rfl rfl rfl (r_move rfl) ?_
        refine s_pu (d := some 32) (v := (.agg #[(.pointer y80)])) rfl rfl rfl (r_extract rfl rfl) ?_
        refine s_pu (d := some 33) (v := y81) rfl rfl rfl (r_extract rfl rfl) ?_
        obtain ⟨e83, H⟩ := H
        obtain ⟨h13, e82⟩ : ∃ hh : Heap, hh = hsets h12 p73 0 [(.pointer y80)] := ⟨_, rfl⟩
        have H := H h13 e82
        refine s_st (d := none) (h' := h13) rfl rfl rfl (fun dr => (r_store (v := (.agg #[(.pointer y80)])) Try.sizeOf65 rfl rfl rfl (one_all rfl) e83).trans (by rw [e82]; rfl)) ⟨trivial, trivial, trivial⟩ ?_ trivial
        refine s_pu (d := some 12) (v := y81) rfl rfl rfl (r_assign rfl) ?_
        refine s_fin ?_
        exact N_mk (l := [(0, (Sl.v l1)), (2, (.int .i64 x5)), (4, (.pointer (some p6))), (8, (.pointer (some p10))), (9, (.int .i64 n13)), (10, (.int .i64 i14)), (11, (.pointer (some p73))), (12, y81)]) H ⟨rfl, rfl, rfl, rfl, rfl, rfl, rfl, rfl, trivial⟩
    · have H := H.2 g143
      refine W_exit (inX_here ?_)
      show W _ _ _ _ _ _ _ _
      refine W_seq ?_
      refine W_region (.pu 0 .fin) rfl rfl ?_
      refine s_pu (d := some 13) (v := (.int .i64 0)) rfl rfl rfl (r_assign rfl) ?_
      refine s_fin ?_
      show W _ _ _ _ _ _ _ _
      refine W_seq ?_
      refine W_region (.rl 0 (.pu 1 (.ef 2 [] (.pu 3 .fin) .no))) rfl rfl ?_
      obtain ⟨x84, e85, H⟩ := H
      refine s_rl (d := some 45) (v := (.agg #[(.pointer x84)])) rfl rfl rfl (fun dr => r_loadN Try.isAgg65 Try.sizeOf65 (vs := [(.pointer x84)]) rfl rfl ⟨e85, trivial⟩) ?_
      refine s_pu (d := some 46) (v := (.int .i64 x5)) rfl rfl rfl (r_move rfl) ?_
      refine s_ef (d := some 47) rfl rfl rfl (fun dr => r_call Try.call33 rfl rfl H) ?_ trivial
      rintro _ h14 ⟨y86, rfl, H⟩
      refine ⟨trivial, ?_⟩
      refine s_pu (d := some 14) (v := (Sl.v y86)) rfl rfl rfl (r_assign rfl) ?_
      refine s_fin ?_
      show W _ _ _ _ _ _ _ _
      refine W_seq ?_
      refine W_seq ?_
      refine W_region (.pu 0 .fin) rfl rfl ?_
      refine s_pu (d := some 15) (v := (.int .i64 0)) rfl rfl rfl (r_assign rfl) ?_
      refine s_fin ?_
      show W _ _ _ _ _ _ _ _
      refine W_block ?_
      refine W_loop (WL_mk (l := [(2, (.int .i64 x5)), (4, (.pointer (some p6))), (9, (.int .i64 n13)), (13, (.int .i64 0)), (14, (Sl.v y86)), (15, (.int .i64 0))]) ?_ ⟨rfl, rfl, rfl, rfl, rfl, rfl, trivial⟩)
      refine H (fun (k87 : Int) (i88 : Int) => ∀ b, WL _ _ _ _ _ _ (mkE [(2, (.int .i64 x5)), (4, (.pointer (some p6))), (9, (.int .i64 n13)), (13, (.int .i64 k87)), (14, (Sl.v y86)), (15, (.int .i64 i88))] b) h14) ?_
      intro k87 i88 H b
      refine WL_round ?_
      refine W_seq ?_
      refine W_seq ?_
      refine W_region (.pu 0 (.pu 1 (.pu 2 (.pu 3 .fin)))) rfl rfl ?_
      refine s_pu (d := some 48) (v := (.int .i64 i88)) rfl rfl rfl (r_move rfl) ?_
      refine s_pu (d := some 49) (v := (Sl.v y86)) rfl rfl rfl (r_move rfl) ?_
      refine s_pu (d := some 50) (v := (.int .i64 ((y86.len : Int)))) rfl rfl rfl (r_len Try.underlying58 rfl) ?_
      refine s_pu (d := some 51) (v := (.bool (decide (i88 < ((y86.len : Int)))))) rfl rfl rfl (r_lss rfl rfl) ?_
      refine s_fin ?_
      show W _ _ _ _ _ _ _ _
      refine W_if (decide (i88 < ((y86.len : Int)))) rfl (fun g142 => ?_) (fun g142 => ?_)
      · have H := H.1 g142
        refine W_skip ?_
        show W _ _ _ _ _ _ _ _
        refine W_seq ?_
        refine W_set ?_
        intro N92 eN92
        have H := H (fun (k90 : Int) => ∀ b, N92 [] (mkE [(2, (.int .i64 x5)), (4, (.pointer (some p6))), (9, (.int .i64 n13)), (13, (.int .i64 k90)), (14, (Sl.v y86)), (15, (.int .i64 i88))] b) h14) (by
          intro k90 H b
          rw [eN92]
          show W _ _ _ _ _ _ _ _
          refine W_region (.pu 0 (.pu 1 (.pu 2 .fin))) rfl rfl ?_
          refine s_pu (d := some 52) (v := (.int .i64 i88)) rfl rfl rfl (r_move rfl) ?_
          refine s_pu (d := some 53) (v := (.int .i64 (w64 (i88 + 1)))) rfl rfl rfl (r_add rfl rfl) ?_
          refine s_pu (d := some 15) (v := (.int .i64 (w64 (i88 + 1)))) rfl rfl rfl (r_assign rfl) ?_
          refine s_fin ?_
          exact WL_mk (l := [(2, (.int .i64 x5)), (4, (.pointer (some p6))), (9, (.int .i64 n13)), (13, (.int .i64 k90)), (14, (Sl.v y86)), (15, (.int .i64 (w64 (i88 + 1))))]) H ⟨rfl, rfl, rfl, rfl, rfl, rfl, trivial⟩)
        clear eN92
        refine W_block ?_
        refine W_seq ?_
        refine W_seq ?_
        refine W_set ?_
        intro N95 eN95
        have H := H (fun (x93 : Bool) => ∀ b, N95 [] (mkE [(2, (.int .i64 x5)), (4, (.pointer (some p6))), (9, (.int .i64 n13)), (13, (.int .i64 k87)), (14, (Sl.v y86)), (15, (.int .i64 i88)), (69, (.bool x93))] b) h14) (by
          intro x93 H b
          rw [eN95]
          show W _ _ _ _ _ _ _ _
          refine W_if x93 rfl (fun g115 => ?_) (fun g115 => ?_)
          · have H := H.1 g115
            refine W_seq ?_
            refine W_region (.pu 0 .fin) rfl rfl ?_
            refine s_pu (d := some 6) (v := (.bool false)) rfl rfl rfl (r_assign rfl) ?_
            refine s_fin ?_
            show W _ _ _ _ _ _ _ _
            refine W_ret ?_
            exact ⟨[(.bool false)], ⟨_, _, rfl, rfl, rfl⟩, false, rfl, H⟩
          · have H := H.2 g115
            refine W_skip ?_
            show W _ _ _ _ _ _ _ _
            refine W_seq ?_
            refine W_draw [0, 0, 3, 7, 0, 31] (.pu 0 (.pu 1 (.pu 2 (.rd 3 (.rd 4 (.pu 5 .fin)))))) (by kernel_rfl) (by kernel_rfl) ?_
            refine s_pu (d := some 70) (v := (Sl.v y86)) rfl rfl rfl (r_move rfl) ?_
            refine s_pu (d := some 71) (v := (.int .i64 i88)) rfl rfl rfl (r_move rfl) ?_
            obtain ⟨p96, e97, e98, e99, H⟩ := H
            obtain ⟨q100, e101⟩ : ∃ q : Addr, q = Addr.add p96 (Int.toNat i88 * 3) := ⟨_, rfl⟩
            rw [← e101] at H
            refine s_pu (d := some 72) (v := (.pointer (some q100))) rfl rfl rfl (fun w => (r_indexAddr Try.underlying58 Try.sizeOf60 rfl rfl e97 e98 e99 w).trans (by rw [e101])) ?_
            obtain ⟨x102, e103, H⟩ := H
            obtain ⟨x104, e105, H⟩ := H
            obtain ⟨x106, e107, H⟩ := H
            refine s_rd (d := some 73) (v := (.agg #[(.int .i64 x102), (.int .i64 x104), (.int .i64 x106)])) rfl rfl rfl (fun dr => r_loadN Try.isAgg60 Try.sizeOf60 (vs := [(.int .i64 x102), (.int .i64 x104), (.int .i64 x106)]) rfl rfl ⟨e103, e105, e107, trivial⟩) ?_
            obtain ⟨x108, e109, H⟩ := H
            obtain ⟨x110, e111, H⟩ := H
            obtain ⟨x112, e113, H⟩ := H
            refine s_rd (d := some 74) (v := (.agg #[(.int .i64 x108), (.int .i64 x110), (.int .i64 x112)])) rfl rfl rfl (fun dr => r_loadN Try.isAgg60 Try.sizeOf60 (vs := [(.int .i64 x108), (.int .i64 x110), (.int .i64 x112)]) rfl rfl ⟨e109, e111, e113, trivial⟩) ?_
            refine s_pu (d := some 75) (v := (.bool (decide (x102 = x108 ∧ x104 = x110 ∧ x106 = x112)))) rfl rfl rfl (r_eqlAgg_Try60 rfl rfl) ?_
            refine s_fin ?_
            show W _ _ _ _ _ _ _ _
            refine W_if (decide (x102 = x108 ∧ x104 = x110 ∧ x106 = x112)) rfl (fun g114 => ?_) (fun g114 => ?_)
            · have H := H.1 g114
              refine W_region (.pu 0 (.pu 1 (.pu 2 .fin))) rfl rfl ?_
              refine s_pu (d := some 76) (v := (.int .i64 k87)) rfl rfl rfl (r_move rfl) ?_
              refine s_pu (d := some 77) (v := (.int .i64 (w64 (k87 + 1)))) rfl rfl rfl (r_add rfl rfl) ?_
              refine s_pu (d := some 13) (v := (.int .i64 (w64 (k87 + 1)))) rfl rfl rfl (r_assign rfl) ?_
              refine s_fin ?_
              exact N_mk (l := [(2, (.int .i64 x5)), (4, (.pointer (some p6))), (9, (.int .i64 n13)), (13, (.int .i64 (w64 (k87 + 1)))), (14, (Sl.v y86)), (15, (.int .i64 i88))]) H ⟨rfl, rfl, rfl, rfl, rfl, rfl, trivial⟩
            · have H := H.2 g114
              refine W_skip ?_
              exact N_mk (l := [(2, (.int .i64 x5)), (4, (.pointer (some p6))), (9, (.int .i64 n13)), (13, (.int .i64 k87)), (14, (Sl.v y86)), (15, (.int .i64 i88))]) H ⟨rfl, rfl, rfl, rfl, rfl, rfl, trivial⟩)
        clear eN95
        refine W_region (.pu 0 (.pu 1 (.pu 2 (.pu 3 (.rl 4 (.pu 5 (.pu 6 (.pu 7 (.pu 8 (.pu 9 (.pu 10 (.pu 11 (.rl 12 (.pu 13 (.pu 14 (.pu 15 .fin)))))))))))))))) rfl rfl ?_
        refine s_pu (d := some 54) (v := (Sl.v y86)) rfl rfl rfl (r_move rfl) ?_
        refine s_pu (d := some 55) (v := (.int .i64 i88)) rfl rfl rfl (r_move rfl) ?_
        obtain ⟨p116, e117, e118, e119, H⟩ := H
        obtain ⟨q120, e121⟩ : ∃ q : Addr, q = Addr.add p116 (Int.toNat i88 * 3) := ⟨_, rfl⟩
        rw [← e121] at H
        refine s_pu (d := some 56) (v := (.pointer (some q120))) rfl rfl rfl (fun w => (r_indexAddr Try.underlying58 Try.sizeOf60 rfl rfl e117 e118 e119 w).trans (by rw [e121])) ?_
        refine s_pu (d := some 57) (v := (.pointer (some (Addr.add q120 0)))) rfl rfl rfl (r_fieldAddr Try.underlying60 Try.sizeOf3 rfl rfl rfl) ?_
        obtain ⟨x122, e123, H⟩ := H
        refine s_rl (d := some 58) (v := (.int .i64 x122)) rfl rfl rfl (fun dr => r_load1 Try.isAgg3 rfl e123) ?_
        refine s_pu (d := some 59) (v := (.int .i64 x5)) rfl rfl rfl (r_move rfl) ?_
        refine s_pu (d := some 60) (v := (.bool (decide (x5 < x122)))) rfl rfl rfl (r_gtr rfl rfl) ?_
        refine s_pu (d := some 61) (v := (.bool (decide (x5 < x122)))) rfl rfl rfl (r_move rfl) ?_
        rcases Bool.eq_false_or_eq_true (decide (x5 < x122)) with g124 | g124
        · have H := H.1 g124
          refine s_sk (d := some 62) rfl rfl (wants_no rfl rfl rfl rfl g124) ?_
          refine s_sk (d := some 63) rfl rfl (wants_no rfl rfl rfl rfl g124) ?_
          refine s_sk (d := some 64) rfl rfl (wants_no rfl rfl rfl rfl g124) ?_
          refine s_sk (d := some 65) rfl rfl (wants_no rfl rfl rfl rfl g124) ?_
          refine s_skl (d := some 66) rfl rfl (wants_no rfl rfl rfl rfl g124) ?_
          refine s_sk (d := some 67) rfl rfl (wants_no rfl rfl rfl rfl g124) ?_
          refine s_sk (d := some 68) rfl rfl (wants_no rfl rfl rfl rfl g124) ?_
          refine s_pu (d := some 69) (v := (.bool true)) rfl rfl rfl (r_pick1 rfl g124 rfl) ?_
          refine s_fin ?_
          exact N_mk (l := [(2, (.int .i64 x5)), (4, (.pointer (some p6))), (9, (.int .i64 n13)), (13, (.int .i64 k87)), (14, (Sl.v y86)), (15, (.int .i64 i88)), (69, (.bool true))]) H ⟨rfl, rfl, rfl, rfl, rfl, rfl, rfl, trivial⟩
        · have H := H.2 g124
          refine s_pu (d := some 62) (v := (Sl.v y86)) rfl rfl (wants_yes rfl rfl rfl rfl g124) (r_move rfl) ?_
          refine s_pu (d := some 63) (v := (.int .i64 i88)) rfl rfl (wants_yes rfl rfl rfl rfl g124) (r_move rfl) ?_
          obtain ⟨p125, e126, e127, e128, H⟩ := H
          obtain ⟨q129, e130⟩ : ∃ q : Addr, q = Addr.add p125 (Int.toNat i88 * 3) := ⟨_, rfl⟩
          rw [← e130] at H
          refine s_pu (d := some 64) (v := (.pointer (some q129))) rfl rfl (wants_yes rfl rfl rfl rfl g124) (fun w => (r_indexAddr Try.underlying58 Try.sizeOf60 rfl rfl e126 e127 e128 w).trans (by rw [e130])) ?_
          refine s_pu (d := some 65) (v := (.pointer (some (Addr.add q129 1)))) rfl rfl (wants_yes rfl rfl rfl rfl g124) (r_fieldAddr Try.underlying60 Try.sizeOf3 rfl rfl rfl) ?_
          obtain ⟨x131, e132, H⟩ := H
          refine s_rl (d := some 66) (v := (.int .i64 x131)) rfl rfl (wants_yes rfl rfl rfl rfl g124) (fun dr => r_load1 Try.isAgg3 rfl e132) ?_
          refine s_pu (d := some 67) (v := (.int .i64 x5)) rfl rfl (wants_yes rfl rfl rfl rfl g124) (r_move rfl) ?_
          refine s_pu (d := some 68) (v := (.bool (decide (x131 < x5)))) rfl rfl (wants_yes rfl rfl rfl rfl g124) (r_lss rfl rfl) ?_
          refine s_pu (d := some 69) (v := (.bool (decide (x131 < x5)))) rfl rfl rfl (r_pick0 rfl g124 rfl) ?_
          refine s_fin ?_
          exact N_mk (l := [(2, (.int .i64 x5)), (4, (.pointer (some p6))), (9, (.int .i64 n13)), (13, (.int .i64 k87)), (14, (Sl.v y86)), (15, (.int .i64 i88)), (69, (.bool (decide (x131 < x5))))]) H ⟨rfl, rfl, rfl, rfl, rfl, rfl, rfl, trivial⟩
      · have H := H.2 g142
        refine W_exit (inX_here ?_)
        show W _ _ _ _ _ _ _ _
        refine W_seq ?_
        refine W_seq ?_
        refine W_set ?_
        intro N135 eN135
        have H := H (fun (x133 : Bool) => ∀ b, N135 [] (mkE [(9, (.int .i64 n13)), (13, (.int .i64 k87)), (87, (.bool x133))] b) h14) (by
          intro x133 H b
          rw [eN135]
          show W _ _ _ _ _ _ _ _
          refine W_if x133 rfl (fun g136 => ?_) (fun g136 => ?_)
          · have H := H.1 g136
            refine W_seq ?_
            refine W_region (.pu 0 (.pu 1 (.pu 2 (.pu 3 .fin)))) rfl rfl ?_
            refine s_pu (d := some 88) (v := (.int .i64 k87)) rfl rfl rfl (r_move rfl) ?_
            refine s_pu (d := some 89) (v := (.int .i64 n13)) rfl rfl rfl (r_move rfl) ?_
            refine s_pu (d := some 90) (v := (.bool (decide (k87 = n13)))) rfl rfl rfl (r_eql rfl rfl) ?_
            refine s_pu (d := some 6) (v := (.bool (decide (k87 = n13)))) rfl rfl rfl (r_assign rfl) ?_
            refine s_fin ?_
            show W _ _ _ _ _ _ _ _
            refine W_ret ?_
            exact ⟨[(.bool (decide (k87 = n13)))], ⟨_, _, rfl, rfl, rfl⟩, (decide (k87 = n13)), rfl, H⟩
          · have H := H.2 g136
            refine W_skip ?_
            show W _ _ _ _ _ _ _ _
            refine W_seq ?_
            refine W_region (.pu 0 (.pu 1 (.pu 2 .fin))) rfl rfl ?_
            refine s_pu (d := some 91) (v := (.int .i64 k87)) rfl rfl rfl (r_move rfl) ?_
            refine s_pu (d := some 92) (v := (.bool (decide (k87 = 0)))) rfl rfl rfl (r_eql rfl rfl) ?_
            refine s_pu (d := some 6) (v := (.bool (decide (k87 = 0)))) rfl rfl rfl (r_assign rfl) ?_
            refine s_fin ?_
            show W _ _ _ _ _ _ _ _
            refine W_ret ?_
            exact ⟨[(.bool (decide (k87 = 0)))], ⟨_, _, rfl, rfl, rfl⟩, (decide (k87 = 0)), rfl, H⟩)
        clear eN135
        refine W_region (.pu 0 (.rl 1 (.pu 2 (.pu 3 (.pu 4 (.pu 5 (.pu 6 (.rl 7 (.pu 8 (.pu 9 .fin)))))))))) rfl rfl ?_
        refine s_pu (d := some 78) (v := (.pointer (some (Addr.add p6 0)))) rfl rfl rfl (r_fieldAddr Try.underlying60 Try.sizeOf3 rfl rfl rfl) ?_
        obtain ⟨x137, e138, H⟩ := H
        refine s_rl (d := some 79) (v := (.int .i64 x137)) rfl rfl rfl (fun dr => r_load1 Try.isAgg3 rfl e138) ?_
        refine s_pu (d := some 80) (v := (.int .i64 x5)) rfl rfl rfl (r_move rfl) ?_
        refine s_pu (d := some 81) (v := (.bool (decide (x137 ≤ x5)))) rfl rfl rfl (r_leq rfl rfl) ?_
        refine s_pu (d := some 82) (v := (.bool (decide (x137 ≤ x5)))) rfl rfl rfl (r_move rfl) ?_
        rcases Bool.eq_false_or_eq_true (decide (x137 ≤ x5)) with g139 | g139
        · have H := H.1 g139
          refine s_pu (d := some 83) (v := (.int .i64 x5)) rfl rfl (wants_yes rfl rfl rfl rfl g139) (r_move rfl) ?_
          refine s_pu (d := some 84) (v := (.pointer (some (Addr.add p6 1)))) rfl rfl (wants_yes rfl rfl rfl rfl g139) (r_fieldAddr Try.underlying60 Try.sizeOf3 rfl rfl rfl) ?_
          obtain ⟨x140, e141, H⟩ := H
          refine s_rl (d := some 85) (v := (.int .i64 x140)) rfl rfl (wants_yes rfl rfl rfl rfl g139) (fun dr => r_load1 Try.isAgg3 rfl e141) ?_
          refine s_pu (d := some 86) (v := (.bool (decide (x5 ≤ x140)))) rfl rfl (wants_yes rfl rfl rfl rfl g139) (r_leq rfl rfl) ?_
          refine s_pu (d := some 87) (v := (.bool (decide (x5 ≤ x140)))) rfl rfl rfl (r_pick1 rfl g139 rfl) ?_
          refine s_fin ?_
          exact N_mk (l := [(9, (.int .i64 n13)), (13, (.int .i64 k87)), (87, (.bool (decide (x5 ≤ x140))))]) H ⟨rfl, rfl, rfl, trivial⟩
        · have H := H.2 g139
          refine s_sk (d := some 83) rfl rfl (wants_no rfl rfl rfl rfl g139) ?_
          refine s_sk (d := some 84) rfl rfl (wants_no rfl rfl rfl rfl g139) ?_
          refine s_skl (d := some 85) rfl rfl (wants_no rfl rfl rfl rfl g139) ?_
          refine s_sk (d := some 86) rfl rfl (wants_no rfl rfl rfl rfl g139) ?_
          refine s_pu (d := some 87) (v := (.bool false)) rfl rfl rfl (r_pick0 rfl g139 rfl) ?_
          refine s_fin ?_
          exact N_mk (l := [(9, (.int .i64 n13)), (13, (.int .i64 k87)), (87, (.bool false))]) H ⟨rfl, rfl, rfl, trivial⟩

/-! ### law3_IvalOver -/

def law3_IvalOver_F (r : World) (l1 : Sl) (low2 : Int) (high3 : Int) (x4 : Int) (more5 : Int) (h : Heap) (R : Bool → Heap → Prop) : Prop :=
  law3_spanned r h fun y6 h1 =>
  Br (!y6) (
    R false h1) (
    New h1 (.cells #[(.pointer none)] 65) fun p7 h2 =>
    ∀ X11 : Int → Heap → Prop, (∀ (i10 : Int) (h3 : Heap),
      (Br (decide (i10 < ((l1.len : Int)))) (
        ∀ J12 : Heap → Prop, (∀ (h4 : Heap),
          (X11 (w64 (i10 + 1)) h4) →
          J12 h4) →
        ∀ J16 : Addr → Value → Heap → Prop, (∀ (p14 : Addr) (err15 : Value) (h5 : Heap),
          ((isIface err15 = true) ∧
          Br (isNil err15) (
            LdP h5 (Addr.add p14 0) fun x19 =>
            St h5 p7 1 [(.pointer x19)] fun h6 =>
            J12 h6) (
            J12 h5)) →
          J16 p14 err15 h5) →
        LdP h3 (Addr.add p7 0) fun x24 =>
        Ix l1 i10 3 fun q30 =>
        LdI h3 (Addr.add q30 0) fun x32 =>
        LdI h3 (Addr.add q30 1) fun x34 =>
        LdI h3 (Addr.add q30 2) fun x36 =>
        (ival_Map_Add r x24 x32 x34 x36 h3 fun y38 y39 h7 =>
        New h7 (.cells #[(.pointer none)] 65) fun p40 h8 =>
        (hcell h8 (Addr.add q30 0) = some (.int .i64 x32)) ∧
        (hcell h8 (Addr.add q30 1) = some (.int .i64 x34)) ∧
        (hcell h8 (Addr.add q30 2) = some (.int .i64 x36)) ∧
        (hcell h8 (Addr.add p7 0) = some (.pointer x24)) ∧
        St h8 p40 1 [(.pointer y38)] fun h9 =>
        J16 p40 y39 h9) ∧
        (New h3 (.cells #[(.pointer none)] 65) fun p49 h10 =>
        (hcell h10 (Addr.add q30 0) = some (.int .i64 x32)) ∧
        (hcell h10 (Addr.add q30 1) = some (.int .i64 x34)) ∧
        (hcell h10 (Addr.add q30 2) = some (.int .i64 x36)) ∧
        (hcell h10 (Addr.add p7 0) = some (.pointer x24)) ∧
        ival_Map_Add r x24 x32 x34 x36 h10 fun y56 y57 h11 =>
        St h11 p49 1 [(.pointer y56)] fun h12 =>
        J16 p49 y57 h12)) (
        LdP h3 (Addr.add p7 0) fun x60 =>
        ival_Map_Over r x60 low2 high3 h3 fun y62 h13 =>
        LdP h13 (Addr.add p7 0) fun x63 =>
        ival_Map_All r x63 x4 h13 fun y65 h14 =>
        Br (((decide (low2 ≤ x4)) && (decide (x4 ≤ high3))) && (decide (((y62.len : Int)) < ((y65.len : Int))))) (
          R false h14) (
          ∀ J73 : Bool → Heap → Prop, (∀ (x72 : Bool) (h15 : Heap),
            (Br x72 (
              R false h15) (
              ∀ x78 : Bool, x78 = ((decide (low2 ≤ high3)) || (decide (((y62.len : Int)) = 0))) →
              R x78 h15)) →
            J73 x72 h15) →
          Br (decide (high3 ≤ more5)) (
            LdP h14 (Addr.add p7 0) fun x83 =>
            ival_Map_Over r x83 low2 more5 h14 fun y85 h16 =>
            J73 (decide (((y85.len : Int)) < ((y62.len : Int)))) h16) (
            J73 false h14)))) →
      X11 i10 h3) →
    X11 0 h2)

set_option maxRecDepth 100000 in
theorem law3_IvalOver_of {r : World} {l1 : Sl} {low2 : Int} {high3 : Int} {x4 : Int} {more5 : Int} {h : Heap} {R : Bool → Heap → Prop} (H : law3_IvalOver_F r l1 low2 high3 x4 more5 h R) : law3_IvalOver r l1 low2 high3 x4 more5 h R := by
  unfold law3_IvalOver_F at H
  refine calls_of 82 [.tmp 10] Try.func8 rfl rfl rfl rfl rfl ?_
  refine W_seq ?_
  refine W_region (.pu 0 .fin) rfl rfl ?_
  refine s_pu (d := some 10) (v := (.bool false)) rfl rfl rfl (r_assign rfl) ?_
  refine s_fin ?_
  show W _ _ _ _ _ _ _ _
  refine W_seq ?_
  refine W_region (.ef 0 [] (.pu 1 .fin) .no) rfl rfl ?_
  refine s_ef (d := some 18) rfl rfl rfl (fun dr => r_call Try.call31 rfl rfl H) ?_ trivial
  rintro _ h1 ⟨y6, rfl, H⟩
  refine ⟨trivial, ?_⟩
  refine s_pu (d := some 11) (v := (.bool y6)) rfl rfl rfl (r_assign rfl) ?_
  refine s_fin ?_
  show W _ _ _ _ _ _ _ _
  refine W_seq ?_
  refine W_seq ?_
  refine W_region (.pu 0 (.pu 1 .fin)) rfl rfl ?_
  refine s_pu (d := some 19) (v := (.bool y6)) rfl rfl rfl (r_move rfl) ?_
  refine s_pu (d := some 20) (v := (.bool (!y6))) rfl rfl rfl (r_not rfl) ?_
  refine s_fin ?_
  show W _ _ _ _ _ _ _ _
  refine W_if (!y6) rfl (fun g90 => ?_) (fun g90 => ?_)
  · have H := H.1 g90
    refine W_seq ?_
    refine W_region (.pu 0 .fin) rfl rfl ?_
    refine s_pu (d := some 10) (v := (.bool false)) rfl rfl rfl (r_assign rfl) ?_
    refine s_fin ?_
    show W _ _ _ _ _ _ _ _
    refine W_ret ?_
    exact ⟨[(.bool false)], ⟨_, _, rfl, rfl, rfl⟩, false, rfl, H⟩
  · have H := H.2 g90
    refine W_skip ?_
    show W _ _ _ _ _ _ _ _
    refine W_seq ?_
    refine W_region (.ef 0 [] .fin .no) rfl rfl ?_
    obtain ⟨p7, e8⟩ : ∃ p : Addr, p = ⟨h1.size, 0, none⟩ := ⟨_, rfl⟩
    obtain ⟨h2, e9⟩ : ∃ hh : Heap, hh = h1.push (.cells #[(.pointer none)] 65) := ⟨_, rfl⟩
    have H := H p7 h2 e8 e9
    refine s_ef1 (d := some 12) (v := (.pointer (some p7))) (h' := h2) rfl rfl rfl (fun dr => (r_alloc Try.zeroValue65).trans (by rw [e8, e9]; rfl)) trivial ?_ trivial
    refine s_fin ?_
    show W _ _ _ _ _ _ _ _
    refine W_seq ?_
    refine W_seq ?_
    refine W_region (.pu 0 .fin) rfl rfl ?_
    refine s_pu (d := some 13) (v := (.int .i64 0)) rfl rfl rfl (r_assign rfl) ?_
    refine s_fin ?_
    show W _ _ _ _ _ _ _ _
    refine W_block ?_
    refine W_loop (WL_mk (l := [(0, (Sl.v l1)), (1, (.int .i64 low2)), (2, (.int .i64 high3)), (3, (.int .i64 x4)), (4, (.int .i64 more5)), (12, (.pointer (some p7))), (13, (.int .i64 0))]) ?_ ⟨rfl, rfl, rfl, rfl, rfl, rfl, rfl, trivial⟩)
    refine H (fun (i10 : Int) (h3 : Heap) => ∀ b, WL _ _ _ _ _ _ (mkE [(0, (Sl.v l1)), (1, (.int .i64 low2)), (2, (.int .i64 high3)), (3, (.int .i64 x4)), (4, (.int .i64 more5)), (12, (.pointer (some p7))), (13, (.int .i64 i10))] b) h3) ?_
    intro i10 h3 H b
    refine WL_round ?_
    refine W_seq ?_
    refine W_seq ?_
    refine W_region (.pu 0 (.pu 1 (.pu 2 (.pu 3 .fin)))) rfl rfl ?_
    refine s_pu (d := some 21) (v := (.int .i64 i10)) rfl rfl rfl (r_move rfl) ?_
    refine s_pu (d := some 22) (v := (Sl.v l1)) rfl rfl rfl (r_move rfl) ?_
    refine s_pu (d := some 23) (v := (.int .i64 ((l1.len : Int)))) rfl rfl rfl (r_len Try.underlying58 rfl) ?_
    refine s_pu (d := some 24) (v := (.bool (decide (i10 < ((l1.len : Int)))))) rfl rfl rfl (r_lss rfl rfl) ?_
    refine s_fin ?_
    show W _ _ _ _ _ _ _ _
    refine W_if (decide (i10 < ((l1.len : Int)))) rfl (fun g89 => ?_) (fun g89 => ?_)
    · have H := H.1 g89
      refine W_skip ?_
      show W _ _ _ _ _ _ _ _
      refine W_seq ?_
      refine W_set ?_
      intro N13 eN13
      have H := H (fun (h4 : Heap) => ∀ b, N13 [] (mkE [(0, (Sl.v l1)), (1, (.int .i64 low2)), (2, (.int .i64 high3)), (3, (.int .i64 x4)), (4, (.int .i64 more5)), (12, (.pointer (some p7))), (13, (.int .i64 i10))] b) h4) (by
        intro h4 H b
        rw [eN13]
        show W _ _ _ _ _ _ _ _
        refine W_region (.pu 0 (.pu 1 (.pu 2 .fin))) rfl rfl ?_
        refine s_pu (d := some 25) (v := (.int .i64 i10)) rfl rfl rfl (r_move rfl) ?_
        refine s_pu (d := some 26) (v := (.int .i64 (w64 (i10 + 1)))) rfl rfl rfl (r_add rfl rfl) ?_
        refine s_pu (d := some 13) (v := (.int .i64 (w64 (i10 + 1)))) rfl rfl rfl (r_assign rfl) ?_
        refine s_fin ?_
        exact WL_mk (l := [(0, (Sl.v l1)), (1, (.int .i64 low2)), (2, (.int .i64 high3)), (3, (.int .i64 x4)), (4, (.int .i64 more5)), (12, (.pointer (some p7))), (13, (.int .i64 (w64 (i10 + 1))))]) H ⟨rfl, rfl, rfl, rfl, rfl, rfl, rfl, trivial⟩)
      clear eN13
      refine W_block ?_
      refine W_seq ?_
      refine W_set ?_
      intro N17 eN17
      have H := H (fun (p14 : Addr) (err15 : Value) (h5 : Heap) => ∀ b, N17 [] (mkE [(0, (Sl.v l1)), (1, (.int .i64 low2)), (2, (.int .i64 high3)), (3, (.int .i64 x4)), (4, (.int .i64 more5)), (12, (.pointer (some p7))), (13, (.int .i64 i10)), (14, (.pointer (some p14))), (15, err15)] b) h5) (by
        intro p14 err15 h5 H b
        rw [eN17]
        show W _ _ _ _ _ _ _ _
        refine W_seq ?_
        refine W_region (.pu 0 (.pu 1 .fin)) rfl rfl ?_
        refine s_pu (d := some 36) (v := err15) rfl rfl rfl (r_move rfl) ?_
        obtain ⟨e18, H⟩ := H
        refine s_pu (d := some 37) (v := (.bool (isNil err15))) rfl rfl rfl (r_nilI Try.underlying67 rfl e18 rfl) ?_
        refine s_fin ?_
        show W _ _ _ _ _ _ _ _
        refine W_if (isNil err15) rfl (fun g23 => ?_) (fun g23 => ?_)
        · have H := H.1 g23
          refine W_region (.rl 0 (.ef 1 [] .fin .no)) rfl rfl ?_
          obtain ⟨x19, e20, H⟩ := H
          refine s_rl (d := some 38) (v := (.agg #[(.pointer x19)])) rfl rfl rfl (fun dr => r_loadN Try.isAgg65 Try.sizeOf65 (vs := [(.pointer x19)]) rfl rfl ⟨e20, trivial⟩) ?_
          obtain ⟨e22, H⟩ := H
          obtain ⟨h6, e21⟩ : ∃ hh : Heap, hh = hsets h5 p7 0 [(.pointer x19)] := ⟨_, rfl⟩
          have H := H h6 e21
          refine s_st (d := none) (h' := h6) rfl rfl rfl (fun dr => (r_store (v := (.agg #[(.pointer x19)])) Try.sizeOf65 rfl rfl rfl (one_all rfl) e22).trans (by rw [e21]; rfl)) trivial ?_ trivial
          refine s_fin ?_
          exact N_mk (l := [(0, (Sl.v l1)), (1, (.int .i64 low2)), (2, (.int .i64 high3)), (3, (.int .i64 x4)), (4, (.int .i64 more5)), (12, (.pointer (some p7))), (13, (.int .i64 i10))]) H ⟨rfl, rfl, rfl, rfl, rfl, rfl, rfl, trivial⟩
        · have H := H.2 g23
          refine W_skip ?_
          exact N_mk (l := [(0, (Sl.v l1)), (1, (.int .i64 low2)), (2, (.int .i64 high3)), (3, (.int .i64 x4)), (4, (.int .i64 more5)), (12, (.pointer (some p7))), (13, (.int .i64 i10))]) H ⟨rfl, rfl, rfl, rfl, rfl, rfl, rfl, trivial⟩)
      clear eN17
      refine W_draw [0, 0, 0, 6, 14, 31, 63, 127, 127, 0, 767, 2047] (.rd 0 (.pu 1 (.pu 2 (.pu 3 (.rd 4 (.ef 5 [0, 4] (.pu 6 (.pu 7 (.pu 8 (.ef 9 [] (.ef 10 [0, 4] (.pu 11 .fin) .no) .no)))) (.ef 9 [] (.ef 5 [0, 4] (.pu 6 (.pu 7 (.pu 8 (.ef 10 [0, 4] (.pu 11 .fin) .no)))) .no) .no))))))) (by kernel_rfl) (by kernel_rfl) ?_
      obtain ⟨x24, e25, H⟩ := H
      refine s_rd (d := some 28) (v := (.agg #[(.pointer x24)])) rfl rfl rfl (fun dr => r_loadN Try.isAgg65 Try.sizeOf65 (vs := [(.pointer x24)]) rfl rfl ⟨e25, trivial⟩) ?_
      refine s_pu (d := some 29) (v := (Sl.v l1)) rfl rfl rfl (r_move rfl) ?_
      refine s_pu (d := some 30) (v := (.int .i64 i10)) rfl rfl rfl (r_move rfl) ?_
      obtain ⟨p26, e27, e28, e29, H⟩ := H
      obtain ⟨q30, e31⟩ : ∃ q : Addr, q = Addr.add p26 (Int.toNat i10 * 3) := ⟨_, rfl⟩
      rw [← e31] at H
      refine s_pu (d := some 31) (v := (.pointer (some q30))) rfl rfl rfl (fun w => (r_indexAddr Try.underlying58 Try.sizeOf60 rfl rfl e27 e28 e29 w).trans (by rw [e31])) ?_
      obtain ⟨x32, e33, H⟩ := H
      obtain ⟨x34, e35, H⟩ := H
      obtain ⟨x36, e37, H⟩ := H
      refine s_rd (d := some 32) (v := (.agg #[(.int .i64 x32), (.int .i64 x34), (.int .i64 x36)])) rfl rfl rfl (fun dr => r_loadN Try.isAgg60 Try.sizeOf60 (vs := [(.int .i64 x32), (.int .i64 x34), (.int .i64 x36)]) rfl rfl ⟨e33, e35, e37, trivial⟩) ?_
      refine s_or ?_ ?_
      · have H := H.1
        refine s_ef (d := some 33) rfl rfl rfl (fun dr => r_call Try.call32 rfl rfl H) ?_ trivial
        rintro _ h7 ⟨y38, y39, rfl, H⟩
        refine ⟨⟨trivial, trivial, trivial⟩, ?_⟩
        refine s_pu (d := some 27) (v := (.tuple #[(.agg #[(.pointer y38)]), y39])) rfl rfl rfl (r_move rfl) ?_
        refine s_pu (d := some 34) (v := (.agg #[(.pointer y38)])) rfl rfl rfl (r_extract rfl rfl) ?_
        refine s_pu (d := some 35) (v := y39) rfl rfl rfl (r_extract rfl rfl) ?_
        obtain ⟨p40, e41⟩ : ∃ p : Addr, p = ⟨h7.size, 0, none⟩ := ⟨_, rfl⟩
        obtain ⟨h8, e42⟩ : ∃ hh : Heap, hh = h7.push (.cells #[(.pointer none)] 65) := ⟨_, rfl⟩
        have H := H p40 h8 e41 e42
        obtain ⟨e43, H⟩ := H
        obtain ⟨e44, H⟩ := H
        obtain ⟨e45, H⟩ := H
        obtain ⟨e46, H⟩ := H
        refine s_ef1 (d := some 14) (v := (.pointer (some p40))) (h' := h8) rfl rfl rfl (fun dr => (r_alloc Try.zeroValue65).trans (by rw [e41, e42]; rfl)) ⟨(.inl ⟨rfl, fun dr => r_loadN Try.isAgg60 Try.sizeOf60 (vs := [(.int .i64 x32), (.int .i64 x34), (.int .i64 x36)]) rfl rfl ⟨e43, e44, e45, trivial⟩⟩), (.inl ⟨rfl, fun dr => r_loadN Try.isAgg65 Try.sizeOf65 (vs := [(.pointer x24)]) rfl rfl ⟨e46, trivial⟩⟩), trivial⟩ ?_ trivial
        obtain ⟨e48, H⟩ := H
        obtain ⟨h9, e47⟩ : ∃ hh : Heap, hh = hsets h8 p40 0 [(.pointer y38)] := ⟨_, rfl⟩
        have H := H h9 e47
        refine s_st (d := none) (h' := h9) rfl rfl rfl (fun dr => (r_store (v := (.agg #[(.pointer y38)])) Try.sizeOf65 rfl rfl rfl (one_all rfl) e48).trans (by rw [e47]; rfl)) ⟨trivial, trivial, trivial⟩ ?_ trivial
        refine s_pu (d := some 15) (v := y39) rfl rfl rfl (r_assign rfl) ?_
        refine s_fin ?_
        exact N_mk (l := [(0, (Sl.v l1)), (1, (.int .i64 low2)), (2, (.int .i64 high3)), (3, (.int .i64 x4)), (4, (.int .i64 more5)), (12, (.pointer (some p7))), (13, (.int .i64 i10)), (14, (.pointer (some p40))), (15, y39)]) H ⟨rfl, rfl, rfl, rfl, rfl, rfl, rfl, rfl, rfl, trivial⟩
      · have H := H.2
        obtain ⟨p49, e50⟩ : ∃ p : Addr, p = ⟨h3.size, 0, none⟩ := ⟨_, rfl⟩
        obtain ⟨h10, e51⟩ : ∃ hh : Heap, hh = h3.push (.cells #[(.pointer none)] 65) := ⟨_, rfl⟩
        have H := H p49 h10 e50 e51
        obtain ⟨e52, H⟩ := H
        obtain ⟨e53, H⟩ := H
        obtain ⟨e54, H⟩ := H
        obtain ⟨e55, H⟩ := H
        refine s_ef1 (d := some 14) (v := (.pointer (some p49))) (h' := h10) rfl rfl rfl (fun dr => (r_alloc Try.zeroValue65).trans (by rw [e50, e51]; rfl)) ⟨(.inl ⟨rfl, fun dr => r_loadN Try.isAgg60 Try.sizeOf60 (vs := [(.int .i64 x32), (.int .i64 x34), (.int .i64 x36)]) rfl rfl ⟨e52, e53, e54, trivial⟩⟩), (.inl ⟨rfl, fun dr => r_loadN Try.isAgg65 Try.sizeOf65 (vs := [(.pointer x24)]) rfl rfl ⟨e55, trivial⟩⟩), trivial⟩ ?_ trivial
        refine s_ef (d := some 33) rfl rfl rfl (fun dr => r_call Try.call32 rfl rfl H) ?_ trivial
        rintro _ h11 ⟨y56, y57, rfl, H⟩
        refine ⟨⟨trivial, trivial, trivial⟩, ?_⟩
        refine s_pu (d := some 27) (v := (.tuple #[(.agg #[(.pointer y56)]), y57])) rfl rfl rfl (r_move rfl) ?_
        refine s_pu (d := some 34) (v := (.agg #[(.pointer y56)])) rfl rfl rfl (r_extract rfl rfl) ?_
        refine s_pu (d := some 35) (v := y57) rfl rfl rfl (r_extract rfl rfl) ?_
        obtain ⟨e59, H⟩ := H
        obtain ⟨h12, e58⟩ : ∃ hh : Heap, hh = hsets h11 p49 0 [(.pointer y56)] := ⟨_, rfl⟩
        have H := H h12 e58
        refine s_st (d := none) (h' := h12) rfl rfl rfl (fun dr => (r_store (v := (.agg #[(.pointer y56)])) Try.sizeOf65 rfl rfl rfl (one_all rfl) e59).trans (by rw [e58]; rfl)) ⟨trivial, trivial, trivial⟩ ?_ trivial
        refine s_pu (d := some 15) (v := y57) rfl rfl rfl (r_assign rfl) ?_
        refine s_fin ?_
        exact N_mk (l := [(0, (Sl.v l1)), (1, (.int .i64 low2)), (2, (.int .i64 high3)), (3, (.int .i64 x4)), (4, (.int .i64 more5)), (12, (.pointer (some p7))), (13, (.int .i64 i10)), (14, (.pointer (some p49))), (15, y57)]) H ⟨rfl, rfl, rfl, rfl, rfl, rfl, rfl, rfl, rfl, trivial⟩
    · have H := H.2 g89
      refine W_exit (inX_here ?_)
      show W _ _ _ _ _ _ _ _
      refine W_seq ?_
      refine W_region (.rl 0 (.pu 1 (.pu 2 (.ef 3 [] (.pu 4 .fin) .no)))) rfl rfl ?_
      obtain ⟨x60, e61, H⟩ := H
      refine s_rl (d := some 39) (v := (.agg #[(.pointer x60)])) rfl rfl rfl (fun dr => r_loadN Try.isAgg65 Try.sizeOf65 (vs := [(.pointer x60)]) rfl rfl ⟨e61, trivial⟩) ?_
      refine s_pu (d := some 40) (v := (.int .i64 low2)) rfl rfl rfl (r_move rfl) ?_
      refine s_pu (d := some 41) (v := (.int .i64 high3)) rfl rfl rfl (r_move rfl) ?_
      refine s_ef (d := some 42) rfl rfl rfl (fun dr => r_call Try.call34 rfl rfl H) ?_ trivial
      rintro _ h13 ⟨y62, rfl, H⟩
      refine ⟨trivial, ?_⟩
      refine s_pu (d := some 16) (v := (Sl.v y62)) rfl rfl rfl (r_assign rfl) ?_
      refine s_fin ?_
      show W _ _ _ _ _ _ _ _
      refine W_seq ?_
      refine W_region (.rl 0 (.pu 1 (.ef 2 [] (.pu 3 .fin) .no))) rfl rfl ?_
      obtain ⟨x63, e64, H⟩ := H
      refine s_rl (d := some 43) (v := (.agg #[(.pointer x63)])) rfl rfl rfl (fun dr => r_loadN Try.isAgg65 Try.sizeOf65 (vs := [(.pointer x63)]) rfl rfl ⟨e64, trivial⟩) ?_
      refine s_pu (d := some 44) (v := (.int .i64 x4)) rfl rfl rfl (r_move rfl) ?_
      refine s_ef (d := some 45) rfl rfl rfl (fun dr => r_call Try.call33 rfl rfl H) ?_ trivial
      rintro _ h14 ⟨y65, rfl, H⟩
      refine ⟨trivial, ?_⟩
      refine s_pu (d := some 17) (v := (Sl.v y65)) rfl rfl rfl (r_assign rfl) ?_
      refine s_fin ?_
      show W _ _ _ _ _ _ _ _
      refine W_seq ?_
      refine W_seq ?_
      refine W_region (.pu 0 (.pu 1 (.pu 2 (.pu 3 (.pu 4 (.pu 5 (.pu 6 (.pu 7 (.pu 8 (.pu 9 (.pu 10 (.pu 11 (.pu 12 (.pu 13 (.pu 14 .fin))))))))))))))) rfl rfl ?_
      refine s_pu (d := some 46) (v := (.int .i64 low2)) rfl rfl rfl (r_move rfl) ?_
      refine s_pu (d := some 47) (v := (.int .i64 x4)) rfl rfl rfl (r_move rfl) ?_
      refine s_pu (d := some 48) (v := (.bool (decide (low2 ≤ x4)))) rfl rfl rfl (r_leq rfl rfl) ?_
      refine s_pu (d := some 49) (v := (.bool (decide (low2 ≤ x4)))) rfl rfl rfl (r_move rfl) ?_
      refine S_meet (l := [(1, (.int .i64 low2)), (2, (.int .i64 high3)), (4, (.int .i64 more5)), (12, (.pointer (some p7))), (16, (Sl.v y62)), (17, (Sl.v y65)), (53, (.bool ((decide (low2 ≤ x4)) && (decide (x4 ≤ high3)))))]) (i := 4) ?_ (fun HJ => ?_)
      · intro b
        show S _ _ _ _ _ _
        refine s_pu (d := some 54) (v := (.bool ((decide (low2 ≤ x4)) && (decide (x4 ≤ high3))))) rfl rfl rfl (r_move rfl) ?_
        refine S_meet (l := [(1, (.int .i64 low2)), (2, (.int .i64 high3)), (4, (.int .i64 more5)), (12, (.pointer (some p7))), (16, (Sl.v y62)), (60, (.bool (((decide (low2 ≤ x4)) && (decide (x4 ≤ high3))) && (decide (((y62.len : Int)) < ((y65.len : Int)))))))]) (i := 6) ?_ (fun HJ => ?_)
        · intro b
          show S _ _ _ _ _ _
          refine s_fin ?_
          show W _ _ _ _ _ _ _ _
          refine W_if (((decide (low2 ≤ x4)) && (decide (x4 ≤ high3))) && (decide (((y62.len : Int)) < ((y65.len : Int))))) rfl (fun g86 => ?_) (fun g86 => ?_)
          · have H := H.1 g86
            refine W_seq ?_
            refine W_region (.pu 0 .fin) rfl rfl ?_
            refine s_pu (d := some 10) (v := (.bool false)) rfl rfl rfl (r_assign rfl) ?_
            refine s_fin ?_
            show W _ _ _ _ _ _ _ _
            refine W_ret ?_
            exact ⟨[(.bool false)], ⟨_, _, rfl, rfl, rfl⟩, false, rfl, H⟩
          · have H := H.2 g86
            refine W_skip ?_
            show W _ _ _ _ _ _ _ _
            refine W_seq ?_
            refine W_seq ?_
            refine W_set ?_
            intro N74 eN74
            have H := H (fun (x72 : Bool) (h15 : Heap) => ∀ b, N74 [] (mkE [(1, (.int .i64 low2)), (2, (.int .i64 high3)), (16, (Sl.v y62)), (73, (.bool x72))] b) h15) (by
              intro x72 h15 H b
              rw [eN74]
              show W _ _ _ _ _ _ _ _
              refine W_if x72 rfl (fun g81 => ?_) (fun g81 => ?_)
              · have H := H.1 g81
                refine W_seq ?_
                refine W_region (.pu 0 .fin) rfl rfl ?_
                refine s_pu (d := some 10) (v := (.bool false)) rfl rfl rfl (r_assign rfl) ?_
                refine s_fin ?_
                show W _ _ _ _ _ _ _ _
                refine W_ret ?_
                exact ⟨[(.bool false)], ⟨_, _, rfl, rfl, rfl⟩, false, rfl, H⟩
              · have H := H.2 g81
                refine W_skip ?_
                show W _ _ _ _ _ _ _ _
                refine W_seq ?_
                refine W_region (.pu 0 (.pu 1 (.pu 2 (.pu 3 (.pu 4 (.pu 5 (.pu 6 (.pu 7 (.pu 8 .fin))))))))) rfl rfl ?_
                refine s_pu (d := some 74) (v := (.int .i64 low2)) rfl rfl rfl (r_move rfl) ?_
                refine s_pu (d := some 75) (v := (.int .i64 high3)) rfl rfl rfl (r_move rfl) ?_
                refine s_pu (d := some 76) (v := (.bool (decide (low2 ≤ high3)))) rfl rfl rfl (r_leq rfl rfl) ?_
                refine s_pu (d := some 77) (v := (.bool (decide (low2 ≤ high3)))) rfl rfl rfl (r_move rfl) ?_
                refine S_meet (l := [(81, (.bool ((decide (low2 ≤ high3)) || (decide (((y62.len : Int)) = 0)))))]) (i := 4) ?_ (fun HJ => ?_)
                · intro b
                  show S _ _ _ _ _ _
                  obtain ⟨x78, e79⟩ : ∃ x : Bool, x = ((decide (low2 ≤ high3)) || (decide (((y62.len : Int)) = 0))) := ⟨_, rfl⟩
                  have H := H x78 e79
                  refine s_pu (d := some 10) (v := (.bool x78)) rfl rfl rfl (r_assign (congrArg Value.bool e79.symm)) ?_
                  refine s_fin ?_
                  show W _ _ _ _ _ _ _ _
                  refine W_ret ?_
                  exact ⟨[(.bool x78)], ⟨_, _, rfl, rfl, rfl⟩, x78, rfl, H⟩
                · rcases Bool.eq_false_or_eq_true (decide (low2 ≤ high3)) with g75 | g75
                  · refine s_sk (d := some 78) rfl rfl (wants_no rfl rfl rfl rfl g75) ?_
                    refine s_sk (d := some 79) rfl rfl (wants_no rfl rfl rfl rfl g75) ?_
                    refine s_sk (d := some 80) rfl rfl (wants_no rfl rfl rfl rfl g75) ?_
                    refine s_pu (d := some 81) (v := (.bool true)) rfl rfl rfl (r_pick1 rfl g75 rfl) ?_
                    exact S_mk (l := [(81, (.bool ((decide (low2 ≤ high3)) || (decide (((y62.len : Int)) = 0)))))]) HJ ⟨(by rw [g75]; rfl), trivial⟩
                  · refine s_pu (d := some 78) (v := (Sl.v y62)) rfl rfl (wants_yes rfl rfl rfl rfl g75) (r_move rfl) ?_
                    refine s_pu (d := some 79) (v := (.int .i64 ((y62.len : Int)))) rfl rfl (wants_yes rfl rfl rfl rfl g75) (r_len Try.underlying58 rfl) ?_
                    refine s_pu (d := some 80) (v := (.bool (decide (((y62.len : Int)) = 0)))) rfl rfl (wants_yes rfl rfl rfl rfl g75) (r_eql rfl rfl) ?_
                    refine s_pu (d := some 81) (v := (.bool (decide (((y62.len : Int)) = 0)))) rfl rfl rfl (r_pick0 rfl g75 rfl) ?_
                    exact S_mk (l := [(81, (.bool ((decide (low2 ≤ high3)) || (decide (((y62.len : Int)) = 0)))))]) HJ ⟨(by rw [g75]; rfl), trivial⟩)
            clear eN74
            refine W_region (.pu 0 (.pu 1 (.pu 2 (.pu 3 (.rl 4 (.pu 5 (.pu 6 (.ef 7 [] (.pu 8 (.pu 9 (.pu 10 (.pu 11 (.pu 12 .fin))))) .no)))))))) rfl rfl ?_
            refine s_pu (d := some 61) (v := (.int .i64 more5)) rfl rfl rfl (r_move rfl) ?_
            refine s_pu (d := some 62) (v := (.int .i64 high3)) rfl rfl rfl (r_move rfl) ?_
            refine s_pu (d := some 63) (v := (.bool (decide (high3 ≤ more5)))) rfl rfl rfl (r_geq rfl rfl) ?_
            refine s_pu (d := some 64) (v := (.bool (decide (high3 ≤ more5)))) rfl rfl rfl (r_move rfl) ?_
            rcases Bool.eq_false_or_eq_true (decide (high3 ≤ more5)) with g82 | g82
            · have H := H.1 g82
              obtain ⟨x83, e84, H⟩ := H
              refine s_rl (d := some 65) (v := (.agg #[(.pointer x83)])) rfl rfl (wants_yes rfl rfl rfl rfl g82) (fun dr => r_loadN Try.isAgg65 Try.sizeOf65 (vs := [(.pointer x83)]) rfl rfl ⟨e84, trivial⟩) ?_
              refine s_pu (d := some 66) (v := (.int .i64 low2)) rfl rfl (wants_yes rfl rfl rfl rfl g82) (r_move rfl) ?_
              refine s_pu (d := some 67) (v := (.int .i64 more5)) rfl rfl (wants_yes rfl rfl rfl rfl g82) (r_move rfl) ?_
              refine s_ef (d := some 68) rfl rfl (wants_yes rfl rfl rfl rfl g82) (fun dr => r_call Try.call34 rfl rfl H) ?_ trivial
              rintro _ h16 ⟨y85, rfl, H⟩
              refine ⟨trivial, ?_⟩
              refine s_pu (d := some 69) (v := (.int .i64 ((y85.len : Int)))) rfl rfl (wants_yes rfl rfl rfl rfl g82) (r_len Try.underlying58 rfl) ?_
              refine s_pu (d := some 70) (v := (Sl.v y62)) rfl rfl (wants_yes rfl rfl rfl rfl g82) (r_move rfl) ?_
              refine s_pu (d := some 71) (v := (.int .i64 ((y62.len : Int)))) rfl rfl (wants_yes rfl rfl rfl rfl g82) (r_len Try.underlying58 rfl) ?_
              refine s_pu (d := some 72) (v := (.bool (decide (((y85.len : Int)) < ((y62.len : Int)))))) rfl rfl (wants_yes rfl rfl rfl rfl g82) (r_lss rfl rfl) ?_
              refine s_pu (d := some 73) (v := (.bool (decide (((y85.len : Int)) < ((y62.len : Int)))))) rfl rfl rfl (r_pick1 rfl g82 rfl) ?_
              refine s_fin ?_
              exact N_mk (l := [(1, (.int .i64 low2)), (2, (.int .i64 high3)), (16, (Sl.v y62)), (73, (.bool (decide (((y85.len : Int)) < ((y62.len : Int))))))]) H ⟨rfl, rfl, rfl, rfl, trivial⟩
            · have H := H.2 g82
              refine s_skl (d := some 65) rfl rfl (wants_no rfl rfl rfl rfl g82) ?_
              refine s_sk (d := some 66) rfl rfl (wants_no rfl rfl rfl rfl g82) ?_
              refine s_sk (d := some 67) rfl rfl (wants_no rfl rfl rfl rfl g82) ?_
              refine s_skf (d := some 68) rfl rfl (wants_no rfl rfl rfl rfl g82) trivial ?_ trivial
              refine s_sk (d := some 69) rfl rfl (wants_no rfl rfl rfl rfl g82) ?_
              refine s_sk (d := some 70) rfl rfl (wants_no rfl rfl rfl rfl g82) ?_
              refine s_sk (d := some 71) rfl rfl (wants_no rfl rfl rfl rfl g82) ?_
              refine s_sk (d := some 72) rfl rfl (wants_no rfl rfl rfl rfl g82) ?_
              refine s_pu (d := some 73) (v := (.bool false)) rfl rfl rfl (r_pick0 rfl g82 rfl) ?_
              refine s_fin ?_
              exact N_mk (l := [(1, (.int .i64 low2)), (2, (.int .i64 high3)), (16, (Sl.v y62)), (73, (.bool false))]) H ⟨rfl, rfl, rfl, rfl, trivial⟩
        · rcases Bool.eq_false_or_eq_true ((decide (low2 ≤ x4)) && (decide (x4 ≤ high3))) with g69 | g69
          · refine s_pu (d := some 55) (v := (Sl.v y65)) rfl rfl (wants_yes rfl rfl rfl rfl g69) (r_move rfl) ?_
            refine s_pu (d := some 56) (v := (.int .i64 ((y65.len : Int)))) rfl rfl (wants_yes rfl rfl rfl rfl g69) (r_len Try.underlying58 rfl) ?_
            refine s_pu (d := some 57) (v := (Sl.v y62)) rfl rfl (wants_yes rfl rfl rfl rfl g69) (r_move rfl) ?_
            refine s_pu (d := some 58) (v := (.int .i64 ((y62.len : Int)))) rfl rfl (wants_yes rfl rfl rfl rfl g69) (r_len Try.underlying58 rfl) ?_
            refine s_pu (d := some 59) (v := (.bool (decide (((y62.len : Int)) < ((y65.len : Int)))))) rfl rfl (wants_yes rfl rfl rfl rfl g69) (r_gtr rfl rfl) ?_
            refine s_pu (d := some 60) (v := (.bool (decide (((y62.len : Int)) < ((y65.len : Int)))))) rfl rfl rfl (r_pick1 rfl g69 rfl) ?_
            exact S_mk (l := [(1, (.int .i64 low2)), (2, (.int .i64 high3)), (4, (.int .i64 more5)), (12, (.pointer (some p7))), (16, (Sl.v y62)), (60, (.bool (((decide (low2 ≤ x4)) && (decide (x4 ≤ high3))) && (decide (((y62.len : Int)) < ((y65.len : Int)))))))]) HJ ⟨rfl, rfl, rfl, rfl, rfl, (by rw [g69]; rfl), trivial⟩
          · refine s_sk (d := some 55) rfl rfl (wants_no rfl rfl rfl rfl g69) ?_
            refine s_sk (d := some 56) rfl rfl (wants_no rfl rfl rfl rfl g69) ?_
            refine s_sk (d := some 57) rfl rfl (wants_no rfl rfl rfl rfl g69) ?_
            refine s_sk (d := some 58) rfl rfl (wants_no rfl rfl rfl rfl g69) ?_
            refine s_sk (d := some 59) rfl rfl (wants_no rfl rfl rfl rfl g69) ?_
            refine s_pu (d := some 60) (v := (.bool false)) rfl rfl rfl (r_pick0 rfl g69 rfl) ?_
            exact S_mk (l := [(1, (.int .i64 low2)), (2, (.int .i64 high3)), (4, (.int .i64 more5)), (12, (.pointer (some p7))), (16, (Sl.v y62)), (60, (.bool (((decide (low2 ≤ x4)) && (decide (x4 ≤ high3))) && (decide (((y62.len : Int)) < ((y65.len : Int)))))))]) HJ ⟨rfl, rfl, rfl, rfl, rfl, (by rw [g69]; rfl), trivial⟩
      · rcases Bool.eq_false_or_eq_true (decide (low2 ≤ x4)) with g66 | g66
        · refine s_pu (d := some 50) (v := (.int .i64 x4)) rfl rfl (wants_yes rfl rfl rfl rfl g66) (r_move rfl) ?_
          refine s_pu (d := some 51) (v := (.int .i64 high3)) rfl rfl (wants_yes rfl rfl rfl rfl g66) (r_move rfl) ?_
          refine s_pu (d := some 52) (v := (.bool (decide (x4 ≤ high3)))) rfl rfl (wants_yes rfl rfl rfl rfl g66) (r_leq rfl rfl) ?_
          refine s_pu (d := some 53) (v := (.bool (decide (x4 ≤ high3)))) rfl rfl rfl (r_pick1 rfl g66 rfl) ?_
          exact S_mk (l := [(1, (.int .i64 low2)), (2, (.int .i64 high3)), (4, (.int .i64 more5)), (12, (.pointer (some p7))), (16, (Sl.v y62)), (17, (Sl.v y65)), (53, (.bool ((decide (low2 ≤ x4)) && (decide (x4 ≤ high3)))))]) HJ ⟨rfl, rfl, rfl, rfl, rfl, rfl, (by rw [g66]; rfl), trivial⟩
        · refine s_sk (d := some 50) rfl rfl (wants_no rfl rfl rfl rfl g66) ?_
          refine s_sk (d := some 51) rfl rfl (wants_no rfl rfl rfl rfl g66) ?_
          refine s_sk (d := some 52) rfl rfl (wants_no rfl rfl rfl rfl g66) ?_
          refine s_pu (d := some 53) (v := (.bool false)) rfl rfl rfl (r_pick0 rfl g66 rfl) ?_
          exact S_mk (l := [(1, (.int .i64 low2)), (2, (.int .i64 high3)), (4, (.int .i64 more5)), (12, (.pointer (some p7))), (16, (Sl.v y62)), (17, (Sl.v y65)), (53, (.bool ((decide (low2 ≤ x4)) && (decide (x4 ≤ high3)))))]) HJ ⟨rfl, rfl, rfl, rfl, rfl, rfl, (by rw [g66]; rfl), trivial⟩

end Go.Proofs.Ytikccpmhoioaeaa
