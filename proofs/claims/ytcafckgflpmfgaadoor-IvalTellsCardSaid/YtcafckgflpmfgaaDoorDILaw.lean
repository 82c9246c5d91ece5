/- Typed words of functions, and that they hold: printed by gen.py (an own tool of this claim) off the model's own form of each function. -/
import Derived.Test.YtcafckgflpmfgaaDoorProg
import Derived.Test.YtcafckgflpmfgaaDoorDIMan
import Derived.Test.YtcafckgflpmfgaaDoorEqS
import Derived.Test.YtcafckgflpmfgaaDoorDBas
import Derived.Test.YtcafckgflpmfgaaDoorDErr
namespace Go.Proofs.YtcafckgflpmfgaaDoor
open Go Go.RowKit Go.Tw
set_option linter.unusedVariables false

theorem slFDILaw_67 : SlF Tryd.prog 67 74 3 24 (.agg #[(.int .i64 0), (.int .i64 0), (.int .i64 0)]) := ⟨Tryd.underlying67, ⟨Tryd.t74, by kernel_rfl, rfl, rfl, rfl⟩, rfl, Tryd.sizeOf74, Tryd.zeroValue74⟩

/-! ### the calls -/

abbrev ival_Map_Add (r : World) (m1 : Option Addr) (s2 : Int) (s3 : Int) (s4 : Int) (h : Heap) (R : Option Addr → Value → Heap → Prop) : Prop :=
  CallsH Tryd.prog r 48 [(.agg #[(.pointer m1)]), (.agg #[(.int .i64 s2), (.int .i64 s3), (.int .i64 s4)])] h fun v h' => ∃ (y5 : Option Addr) (y6 : Value), v = (.tuple #[(.agg #[(.pointer y5)]), y6]) ∧ R y5 y6 h'

theorem ival_Map_Add.mono {r : World} {m1 : Option Addr} {s2 : Int} {s3 : Int} {s4 : Int} {h : Heap} {R R' : Option Addr → Value → Heap → Prop} (H : ival_Map_Add r m1 s2 s3 s4 h R) (hr : ∀ y5 y6 h, R y5 y6 h → R' y5 y6 h) : ival_Map_Add r m1 s2 s3 s4 h R' :=
  CallsH.mono H fun _ _ hx => by
    obtain ⟨y5, y6, hv, hR⟩ := hx
    exact ⟨y5, y6, hv, hr _ _ _ hR⟩

abbrev ival_Map_Add_1 (r : World) (vr1 : Bool) (vr2 : Int) (vr3 : Int) (c4 : Addr) (h : Heap) (R : Bool → Heap → Prop) : Prop :=
  CallsH Tryd.prog r 87 [(.agg #[(.bool vr1), (.int .i64 vr2), (.int .i64 vr3)]), (.pointer (some c4))] h fun v h' => ∃ (y5 : Bool), v = (.bool y5) ∧ R y5 h'

theorem ival_Map_Add_1.mono {r : World} {vr1 : Bool} {vr2 : Int} {vr3 : Int} {c4 : Addr} {h : Heap} {R R' : Bool → Heap → Prop} (H : ival_Map_Add_1 r vr1 vr2 vr3 c4 h R) (hr : ∀ y5 h, R y5 h → R' y5 h) : ival_Map_Add_1 r vr1 vr2 vr3 c4 h R' :=
  CallsH.mono H fun _ _ hx => by
    obtain ⟨y5, hv, hR⟩ := hx
    exact ⟨y5, hv, hr _ _ hR⟩

abbrev ival_Map_All (r : World) (m1 : Option Addr) (x2 : Int) (h : Heap) (R : Sl → Heap → Prop) : Prop :=
  CallsH Tryd.prog r 52 [(.agg #[(.pointer m1)]), (.int .i64 x2)] h fun v h' => ∃ (y3 : Sl), v = (Sl.v y3) ∧ R y3 h'

theorem ival_Map_All.mono {r : World} {m1 : Option Addr} {x2 : Int} {h : Heap} {R R' : Sl → Heap → Prop} (H : ival_Map_All r m1 x2 h R) (hr : ∀ y3 h, R y3 h → R' y3 h) : ival_Map_All r m1 x2 h R' :=
  CallsH.mono H fun _ _ hx => by
    obtain ⟨y3, hv, hR⟩ := hx
    exact ⟨y3, hv, hr _ _ hR⟩

abbrev ival_Map_Over (r : World) (m1 : Option Addr) (low2 : Int) (high3 : Int) (h : Heap) (R : Sl → Heap → Prop) : Prop :=
  CallsH Tryd.prog r 54 [(.agg #[(.pointer m1)]), (.int .i64 low2), (.int .i64 high3)] h fun v h' => ∃ (y4 : Sl), v = (Sl.v y4) ∧ R y4 h'

theorem ival_Map_Over.mono {r : World} {m1 : Option Addr} {low2 : Int} {high3 : Int} {h : Heap} {R R' : Sl → Heap → Prop} (H : ival_Map_Over r m1 low2 high3 h R) (hr : ∀ y4 h, R y4 h → R' y4 h) : ival_Map_Over r m1 low2 high3 h R' :=
  CallsH.mono H fun _ _ hx => by
    obtain ⟨y4, hv, hR⟩ := hx
    exact ⟨y4, hv, hr _ _ hR⟩

abbrev ival_Map_Over_1 (r : World) (vr1 : Bool) (vr2 : Int) (vr3 : Int) (c4 : Addr) (h : Heap) (R : Bool → Heap → Prop) : Prop :=
  CallsH Tryd.prog r 91 [(.agg #[(.bool vr1), (.int .i64 vr2), (.int .i64 vr3)]), (.pointer (some c4))] h fun v h' => ∃ (y5 : Bool), v = (.bool y5) ∧ R y5 h'

theorem ival_Map_Over_1.mono {r : World} {vr1 : Bool} {vr2 : Int} {vr3 : Int} {c4 : Addr} {h : Heap} {R R' : Bool → Heap → Prop} (H : ival_Map_Over_1 r vr1 vr2 vr3 c4 h R) (hr : ∀ y5 h, R y5 h → R' y5 h) : ival_Map_Over_1 r vr1 vr2 vr3 c4 h R' :=
  CallsH.mono H fun _ _ hx => by
    obtain ⟨y5, hv, hR⟩ := hx
    exact ⟨y5, hv, hr _ _ hR⟩

abbrev ival_Map_Over_2 (r : World) (vr1 : Bool) (vr2 : Int) (vr3 : Int) (c4 : Addr) (h : Heap) (R : Bool → Heap → Prop) : Prop :=
  CallsH Tryd.prog r 93 [(.agg #[(.bool vr1), (.int .i64 vr2), (.int .i64 vr3)]), (.pointer (some c4))] h fun v h' => ∃ (y5 : Bool), v = (.bool y5) ∧ R y5 h'

theorem ival_Map_Over_2.mono {r : World} {vr1 : Bool} {vr2 : Int} {vr3 : Int} {c4 : Addr} {h : Heap} {R R' : Bool → Heap → Prop} (H : ival_Map_Over_2 r vr1 vr2 vr3 c4 h R) (hr : ∀ y5 h, R y5 h → R' y5 h) : ival_Map_Over_2 r vr1 vr2 vr3 c4 h R' :=
  CallsH.mono H fun _ _ hx => by
    obtain ⟨y5, hv, hR⟩ := hx
    exact ⟨y5, hv, hr _ _ hR⟩

abbrev ival_Map_Any (r : World) (m1 : Option Addr) (x2 : Int) (h : Heap) (R : Int → Int → Int → Bool → Heap → Prop) : Prop :=
  CallsH Tryd.prog r 55 [(.agg #[(.pointer m1)]), (.int .i64 x2)] h fun v h' => ∃ (y3 : Int) (y4 : Int) (y5 : Int) (y6 : Bool), v = (.tuple #[(.agg #[(.int .i64 y3), (.int .i64 y4), (.int .i64 y5)]), (.bool y6)]) ∧ R y3 y4 y5 y6 h'

theorem ival_Map_Any.mono {r : World} {m1 : Option Addr} {x2 : Int} {h : Heap} {R R' : Int → Int → Int → Bool → Heap → Prop} (H : ival_Map_Any r m1 x2 h R) (hr : ∀ y3 y4 y5 y6 h, R y3 y4 y5 y6 h → R' y3 y4 y5 y6 h) : ival_Map_Any r m1 x2 h R' :=
  CallsH.mono H fun _ _ hx => by
    obtain ⟨y3, y4, y5, y6, hv, hR⟩ := hx
    exact ⟨y3, y4, y5, y6, hv, hr _ _ _ _ _ hR⟩

abbrev ival_Map_Len (r : World) (m1 : Option Addr) (h : Heap) (R : Int → Heap → Prop) : Prop :=
  CallsH Tryd.prog r 56 [(.agg #[(.pointer m1)])] h fun v h' => ∃ (y2 : Int), v = (.int .i64 y2) ∧ R y2 h'

theorem ival_Map_Len.mono {r : World} {m1 : Option Addr} {h : Heap} {R R' : Int → Heap → Prop} (H : ival_Map_Len r m1 h R) (hr : ∀ y2 h, R y2 h → R' y2 h) : ival_Map_Len r m1 h R' :=
  CallsH.mono H fun _ _ hx => by
    obtain ⟨y2, hv, hR⟩ := hx
    exact ⟨y2, hv, hr _ _ hR⟩

abbrev ival_Map_Spans (r : World) (m1 : Option Addr) (h : Heap) (R : Sl → Heap → Prop) : Prop :=
  CallsH Tryd.prog r 51 [(.agg #[(.pointer m1)])] h fun v h' => ∃ (y2 : Sl), v = (Sl.v y2) ∧ R y2 h'

theorem ival_Map_Spans.mono {r : World} {m1 : Option Addr} {h : Heap} {R R' : Sl → Heap → Prop} (H : ival_Map_Spans r m1 h R) (hr : ∀ y2 h, R y2 h → R' y2 h) : ival_Map_Spans r m1 h R' :=
  CallsH.mono H fun _ _ hx => by
    obtain ⟨y2, hv, hR⟩ := hx
    exact ⟨y2, hv, hr _ _ hR⟩

abbrev law3_spanned (r : World)  (h : Heap) (R : Bool → Heap → Prop) : Prop :=
  CallsH Tryd.prog r 47 [] h fun v h' => ∃ (y1 : Bool), v = (.bool y1) ∧ R y1 h'

theorem law3_spanned.mono {r : World}  {h : Heap} {R R' : Bool → Heap → Prop} (H : law3_spanned r  h R) (hr : ∀ y1 h, R y1 h → R' y1 h) : law3_spanned r  h R' :=
  CallsH.mono H fun _ _ hx => by
    obtain ⟨y1, hv, hR⟩ := hx
    exact ⟨y1, hv, hr _ _ hR⟩

abbrev same_Spans (r : World) (a1 : Sl) (vb2 : Sl) (h : Heap) (R : Bool → Heap → Prop) : Prop :=
  CallsH Tryd.prog r 50 [(Sl.v a1), (Sl.v vb2)] h fun v h' => ∃ (y3 : Bool), v = (.bool y3) ∧ R y3 h'

theorem same_Spans.mono {r : World} {a1 : Sl} {vb2 : Sl} {h : Heap} {R R' : Bool → Heap → Prop} (H : same_Spans r a1 vb2 h R) (hr : ∀ y3 h, R y3 h → R' y3 h) : same_Spans r a1 vb2 h R' :=
  CallsH.mono H fun _ _ hx => by
    obtain ⟨y3, hv, hR⟩ := hx
    exact ⟨y3, hv, hr _ _ hR⟩

abbrev ref1_Laid (r : World) (l1 : Sl) (s2 : Int) (s3 : Int) (s4 : Int) (h : Heap) (R : Sl → Heap → Prop) : Prop :=
  CallsH Tryd.prog r 49 [(Sl.v l1), (.agg #[(.int .i64 s2), (.int .i64 s3), (.int .i64 s4)])] h fun v h' => ∃ (y5 : Sl), v = (Sl.v y5) ∧ R y5 h'

theorem ref1_Laid.mono {r : World} {l1 : Sl} {s2 : Int} {s3 : Int} {s4 : Int} {h : Heap} {R R' : Sl → Heap → Prop} (H : ref1_Laid r l1 s2 s3 s4 h R) (hr : ∀ y5 h, R y5 h → R' y5 h) : ref1_Laid r l1 s2 s3 s4 h R' :=
  CallsH.mono H fun _ _ hx => by
    obtain ⟨y5, hv, hR⟩ := hx
    exact ⟨y5, hv, hr _ _ hR⟩

abbrev ref1_Met (r : World) (l1 : Sl) (low2 : Int) (high3 : Int) (h : Heap) (R : Sl → Heap → Prop) : Prop :=
  CallsH Tryd.prog r 53 [(Sl.v l1), (.int .i64 low2), (.int .i64 high3)] h fun v h' => ∃ (y4 : Sl), v = (Sl.v y4) ∧ R y4 h'

theorem ref1_Met.mono {r : World} {l1 : Sl} {low2 : Int} {high3 : Int} {h : Heap} {R R' : Sl → Heap → Prop} (H : ref1_Met r l1 low2 high3 h R) (hr : ∀ y4 h, R y4 h → R' y4 h) : ref1_Met r l1 low2 high3 h R' :=
  CallsH.mono H fun _ _ hx => by
    obtain ⟨y4, hv, hR⟩ := hx
    exact ⟨y4, hv, hr _ _ hR⟩

abbrev law3_IvalTells (r : World) (l1 : Sl) (x2 : Int) (low3 : Int) (high4 : Int) (h : Heap) (R : Bool → Heap → Prop) : Prop :=
  CallsH Tryd.prog r 8 [(Sl.v l1), (.int .i64 x2), (.int .i64 low3), (.int .i64 high4)] h fun v h' => ∃ (y5 : Bool), v = (.bool y5) ∧ R y5 h'

theorem law3_IvalTells.mono {r : World} {l1 : Sl} {x2 : Int} {low3 : Int} {high4 : Int} {h : Heap} {R R' : Bool → Heap → Prop} (H : law3_IvalTells r l1 x2 low3 high4 h R) (hr : ∀ y5 h, R y5 h → R' y5 h) : law3_IvalTells r l1 x2 low3 high4 h R' :=
  CallsH.mono H fun _ _ hx => by
    obtain ⟨y5, hv, hR⟩ := hx
    exact ⟨y5, hv, hr _ _ hR⟩

/-! ### ival_Map_Add -/

def ival_Map_Add_F (r : World) (m1 : Option Addr) (s2 : Int) (s3 : Int) (s4 : Int) (h : Heap) (R : Option Addr → Value → Heap → Prop) : Prop :=
  New h (.cells #[(.pointer m1)] 72) fun p5 h1 =>
  New h1 (.cells #[(.int .i64 s2), (.int .i64 s3), (.int .i64 s4)] 74) fun p8 h2 =>
  New h2 (.cells #[(.pointer none)] 72) fun p11 h3 =>
  LdI h3 (Addr.add p8 0) fun x14 =>
  LdI h3 (Addr.add p8 1) fun x16 =>
  Br (decide (x16 < x14)) (
    St h3 p11 1 [(.pointer none)] fun h4 =>
    LdP h4 (Addr.add p11 0) fun x20 =>
    R x20 ((.iface 29 (.int .i64 3))) h4) (
    LdP h3 (Addr.add (Addr.add p5 0) 0) fun x22 =>
    finger_Many_api_Span_ival_reach_ival_reaches_Find r x22 ((.func (.func 87) #[] #[(.pointer (some p8))])) h3 fun y24 h5 =>
    LdP h5 (Addr.add (Addr.add p5 0) 0) fun x25 =>
    LdI h5 (Addr.add p8 0) fun x27 =>
    LdI h5 (Addr.add p8 1) fun x29 =>
    LdI h5 (Addr.add p8 2) fun x31 =>
    finger_Many_api_Span_ival_reach_ival_reaches_Insert r x25 y24 x27 x29 x31 h5 fun y33 h6 =>
    St h6 p11 1 [(.pointer y33)] fun h7 =>
    LdP h7 (Addr.add p11 0) fun x36 =>
    R x36 .nilIface h7)

set_option maxRecDepth 100000 in
theorem ival_Map_Add_of {r : World} {m1 : Option Addr} {s2 : Int} {s3 : Int} {s4 : Int} {h : Heap} {R : Option Addr → Value → Heap → Prop} (H : ival_Map_Add_F r m1 s2 s3 s4 h R) : ival_Map_Add r m1 s2 s3 s4 h R := by
  unfold ival_Map_Add_F at H
  refine calls_of 24 [.cell 4 72, .tmp 5] Tryd.func48 rfl rfl rfl rfl rfl ?_
  refine W_seq ?_
  refine W_region (.ef 0 [] (.ef 1 [] (.ef 2 [] (.pu 3 .fin) .no) .no) .no) rfl rfl ?_
  obtain ⟨p5, e6⟩ : ∃ p : Addr, p = ⟨h.size, 0, none⟩ := ⟨_, rfl⟩
  obtain ⟨h1, e7⟩ : ∃ hh : Heap, hh = h.push (.cells #[(.pointer m1)] 72) := ⟨_, rfl⟩
  have H := H p5 h1 e6 e7
  refine s_ef1 (d := some 2) (v := (.pointer (some p5))) (h' := h1) rfl rfl rfl (fun dr => (r_box (v := (.agg #[(.pointer m1)])) rfl).trans (by rw [e6, e7]; rfl)) trivial ?_ trivial
  obtain ⟨p8, e9⟩ : ∃ p : Addr, p = ⟨h1.size, 0, none⟩ := ⟨_, rfl⟩
  obtain ⟨h2, e10⟩ : ∃ hh : Heap, hh = h1.push (.cells #[(.int .i64 s2), (.int .i64 s3), (.int .i64 s4)] 74) := ⟨_, rfl⟩
  have H := H p8 h2 e9 e10
  refine s_ef1 (d := some 3) (v := (.pointer (some p8))) (h' := h2) rfl rfl rfl (fun dr => (r_box (v := (.agg #[(.int .i64 s2), (.int .i64 s3), (.int .i64 s4)])) rfl).trans (by rw [e9, e10]; rfl)) trivial ?_ trivial
  obtain ⟨p11, e12⟩ : ∃ p : Addr, p = ⟨h2.size, 0, none⟩ := ⟨_, rfl⟩
  obtain ⟨h3, e13⟩ : ∃ hh : Heap, hh = h2.push (.cells #[(.pointer none)] 72) := ⟨_, rfl⟩
  have H := H p11 h3 e12 e13
  refine s_ef1 (d := some 4) (v := (.pointer (some p11))) (h' := h3) rfl rfl rfl (fun dr => (r_alloc Tryd.zeroValue72).trans (by rw [e12, e13]; rfl)) trivial ?_ trivial
  refine s_pu (d := some 5) (v := .nilIface) rfl rfl rfl (r_assign rfl) ?_
  refine s_fin ?_
  show W _ _ _ _ _ _ _ _
  refine W_seq ?_
  refine W_seq ?_
  refine W_region (.pu 0 (.rl 1 (.pu 2 (.rl 3 (.pu 4 .fin))))) rfl rfl ?_
  refine s_pu (d := some 7) (v := (.pointer (some (Addr.add p8 0)))) rfl rfl rfl (r_fieldAddr Tryd.underlying74 Tryd.sizeOf3 rfl rfl rfl) ?_
  obtain ⟨x14, e15, H⟩ := H
  refine s_rl (d := some 8) (v := (.int .i64 x14)) rfl rfl rfl (fun dr => r_load1 Tryd.isAgg3 rfl e15) ?_
  refine s_pu (d := some 9) (v := (.pointer (some (Addr.add p8 1)))) rfl rfl rfl (r_fieldAddr Tryd.underlying74 Tryd.sizeOf3 rfl rfl rfl) ?_
  obtain ⟨x16, e17, H⟩ := H
  refine s_rl (d := some 10) (v := (.int .i64 x16)) rfl rfl rfl (fun dr => r_load1 Tryd.isAgg3 rfl e17) ?_
  refine s_pu (d := some 11) (v := (.bool (decide (x16 < x14)))) rfl rfl rfl (r_gtr rfl rfl) ?_
  refine s_fin ?_
  show W _ _ _ _ _ _ _ _
  refine W_if (decide (x16 < x14)) rfl (fun g38 => ?_) (fun g38 => ?_)
  · have H := H.1 g38
    refine W_seq ?_
    refine W_region (.pu 0 (.pu 1 (.ef 2 [] (.pu 3 .fin) .no))) rfl rfl ?_
    refine s_pu (d := some 12) (v := (.agg #[(.pointer none)])) rfl rfl rfl (fun w => by kernel_rfl) ?_
    refine s_pu (d := some 13) (v := ((.iface 29 (.int .i64 3)))) rfl rfl rfl (r_iface Tryd.underlying29 rfl rfl) ?_
    obtain ⟨e19, H⟩ := H
    obtain ⟨h4, e18⟩ : ∃ hh : Heap, hh = hsets h3 p11 0 [(.pointer none)] := ⟨_, rfl⟩
    have H := H h4 e18
    refine s_st (d := none) (h' := h4) rfl rfl rfl (fun dr => (r_store (v := (.agg #[(.pointer none)])) Tryd.sizeOf72 rfl rfl rfl (one_all rfl) e19).trans (by rw [e18]; rfl)) trivial ?_ trivial
    refine s_pu (d := some 5) (v := ((.iface 29 (.int .i64 3)))) rfl rfl rfl (r_assign rfl) ?_
    refine s_fin ?_
    show W _ _ _ _ _ _ _ _
    refine W_ret ?_
    obtain ⟨x20, e21, H⟩ := H
    exact ⟨[(.agg #[(.pointer x20)]), ((.iface 29 (.int .i64 3)))], ⟨_, _, _, rfl, rfl, fun dr => run_loadVarN Tryd.isAgg72 Tryd.sizeOf72 (vs := [(.pointer x20)]) rfl ⟨e21, trivial⟩, ⟨_, _, rfl, rfl, rfl⟩⟩, x20, ((.iface 29 (.int .i64 3))), rfl, H⟩
  · have H := H.2 g38
    refine W_skip ?_
    show W _ _ _ _ _ _ _ _
    refine W_seq ?_
    refine W_region (.pu 0 (.rl 1 (.pu 2 (.ef 3 [] (.pu 4 .fin) .no)))) rfl rfl ?_
    refine s_pu (d := some 14) (v := (.pointer (some (Addr.add p5 0)))) rfl rfl rfl (r_fieldAddr Tryd.underlying72 Tryd.sizeOf70 rfl rfl rfl) ?_
    obtain ⟨x22, e23, H⟩ := H
    refine s_rl (d := some 15) (v := (.agg #[(.pointer x22)])) rfl rfl rfl (fun dr => r_loadN Tryd.isAgg70 Tryd.sizeOf70 (vs := [(.pointer x22)]) rfl rfl ⟨e23, trivial⟩) ?_
    refine s_pu (d := some 16) (v := ((.func (.func 87) #[] #[(.pointer (some p8))]))) rfl rfl rfl (r_makeFunc rfl rfl) ?_
    refine s_ef (d := some 17) rfl rfl rfl (fun dr => r_call Tryd.call86 rfl rfl H) ?_ trivial
    rintro _ h5 ⟨y24, rfl, H⟩
    refine ⟨trivial, ?_⟩
    refine s_pu (d := some 6) (v := (.int .i64 y24)) rfl rfl rfl (r_assign rfl) ?_
    refine s_fin ?_
    show W _ _ _ _ _ _ _ _
    refine W_seq ?_
    refine W_region (.pu 0 (.rl 1 (.pu 2 (.rl 3 (.ef 4 [] (.pu 5 (.ef 6 [] (.pu 7 .fin) .no)) .no))))) rfl rfl ?_
    refine s_pu (d := some 18) (v := (.pointer (some (Addr.add p5 0)))) rfl rfl rfl (r_fieldAddr Tryd.underlying72 Tryd.sizeOf70 rfl rfl rfl) ?_
    obtain ⟨x25, e26, H⟩ := H
    refine s_rl (d := some 19) (v := (.agg #[(.pointer x25)])) rfl rfl rfl (fun dr => r_loadN Tryd.isAgg70 Tryd.sizeOf70 (vs := [(.pointer x25)]) rfl rfl ⟨e26, trivial⟩) ?_
    refine s_pu (d := some 20) (v := (.int .i64 y24)) rfl rfl rfl (r_move rfl) ?_
    obtain ⟨x27, e28, H⟩ := H
    obtain ⟨x29, e30, H⟩ := H
    obtain ⟨x31, e32, H⟩ := H
    refine s_rl (d := some 21) (v := (.agg #[(.int .i64 x27), (.int .i64 x29), (.int .i64 x31)])) rfl rfl rfl (fun dr => r_loadN Tryd.isAgg74 Tryd.sizeOf74 (vs := [(.int .i64 x27), (.int .i64 x29), (.int .i64 x31)]) rfl rfl ⟨e28, e30, e32, trivial⟩) ?_
    refine s_ef (d := some 22) rfl rfl rfl (fun dr => r_call Tryd.call88 rfl rfl H) ?_ trivial
    rintro _ h6 ⟨y33, rfl, H⟩
    refine ⟨trivial, ?_⟩
    refine s_pu (d := some 23) (v := (.agg #[(.pointer y33)])) rfl rfl rfl (fun w => by kernel_rfl) ?_
    obtain ⟨e35, H⟩ := H
    obtain ⟨h7, e34⟩ : ∃ hh : Heap, hh = hsets h6 p11 0 [(.pointer y33)] := ⟨_, rfl⟩
    have H := H h7 e34
    refine s_st (d := none) (h' := h7) rfl rfl rfl (fun dr => (r_store (v := (.agg #[(.pointer y33)])) Tryd.sizeOf72 rfl rfl rfl (one_all rfl) e35).trans (by rw [e34]; rfl)) trivial ?_ trivial
    refine s_pu (d := some 5) (v := .nilIface) rfl rfl rfl (r_assign rfl) ?_
    refine s_fin ?_
    show W _ _ _ _ _ _ _ _
    refine W_ret ?_
    obtain ⟨x36, e37, H⟩ := H
    exact ⟨[(.agg #[(.pointer x36)]), .nilIface], ⟨_, _, _, rfl, rfl, fun dr => run_loadVarN Tryd.isAgg72 Tryd.sizeOf72 (vs := [(.pointer x36)]) rfl ⟨e37, trivial⟩, ⟨_, _, rfl, rfl, rfl⟩⟩, x36, .nilIface, rfl, H⟩

/-! ### ival_Map_Add_1 -/

def ival_Map_Add_1_F (r : World) (vr1 : Bool) (vr2 : Int) (vr3 : Int) (c4 : Addr) (h : Heap) (R : Bool → Heap → Prop) : Prop :=
  New h (.cells #[(.bool vr1), (.int .i64 vr2), (.int .i64 vr3)] 124) fun p5 h1 =>
  ∀ J9 : Bool → Prop, (∀ (x8 : Bool),
    (R x8 h1) →
    J9 x8) →
  LdB h1 (Addr.add p5 0) fun x11 =>
  Br x11 (
    LdI h1 (Addr.add p5 1) fun x14 =>
    LdI h1 (Addr.add c4 0) fun x16 =>
    J9 (decide (x16 < x14))) (
    J9 false)

set_option maxRecDepth 100000 in
theorem ival_Map_Add_1_of {r : World} {vr1 : Bool} {vr2 : Int} {vr3 : Int} {c4 : Addr} {h : Heap} {R : Bool → Heap → Prop} (H : ival_Map_Add_1_F r vr1 vr2 vr3 c4 h R) : ival_Map_Add_1 r vr1 vr2 vr3 c4 h R := by
  unfold ival_Map_Add_1_F at H
  refine calls_of 13 [.tmp 3] Tryd.func87 rfl rfl rfl rfl rfl ?_
  refine W_seq ?_
  refine W_region (.ef 0 [] (.pu 1 .fin) .no) rfl rfl ?_
  obtain ⟨p5, e6⟩ : ∃ p : Addr, p = ⟨h.size, 0, none⟩ := ⟨_, rfl⟩
  obtain ⟨h1, e7⟩ : ∃ hh : Heap, hh = h.push (.cells #[(.bool vr1), (.int .i64 vr2), (.int .i64 vr3)] 124) := ⟨_, rfl⟩
  have H := H p5 h1 e6 e7
  refine s_ef1 (d := some 2) (v := (.pointer (some p5))) (h' := h1) rfl rfl rfl (fun dr => (r_box (v := (.agg #[(.bool vr1), (.int .i64 vr2), (.int .i64 vr3)])) rfl).trans (by rw [e6, e7]; rfl)) trivial ?_ trivial
  refine s_pu (d := some 3) (v := (.bool false)) rfl rfl rfl (r_assign rfl) ?_
  refine s_fin ?_
  show W _ _ _ _ _ _ _ _
  refine W_seq ?_
  refine W_set ?_
  intro N10 eN10
  have H := H (fun (x8 : Bool) => ∀ b, N10 [] (mkE [(3, (.bool x8))] b) h1) (by
    intro x8 H b
    rw [eN10]
    show W _ _ _ _ _ _ _ _
    refine W_ret ?_
    exact ⟨[(.bool x8)], ⟨_, _, rfl, rfl, rfl⟩, x8, rfl, H⟩)
  clear eN10
  refine W_region (.pu 0 (.rl 1 (.pu 2 (.pu 3 (.rl 4 (.pu 5 (.rl 6 (.pu 7 (.pu 8 (.pu 9 .fin)))))))))) rfl rfl ?_
  refine s_pu (d := some 4) (v := (.pointer (some (Addr.add p5 0)))) rfl rfl rfl (r_fieldAddr Tryd.underlying124 Tryd.sizeOf4 rfl rfl rfl) ?_
  obtain ⟨x11, e12, H⟩ := H
  refine s_rl (d := some 5) (v := (.bool x11)) rfl rfl rfl (fun dr => r_load1 Tryd.isAgg4 rfl e12) ?_
  refine s_pu (d := some 6) (v := (.bool x11)) rfl rfl rfl (r_move rfl) ?_
  rcases Bool.eq_false_or_eq_true x11 with g13 | g13
  · have H := H.1 g13
    refine s_pu (d := some 7) (v := (.pointer (some (Addr.add p5 1)))) rfl rfl (wants_yes rfl rfl rfl rfl g13) (r_fieldAddr Tryd.underlying124 Tryd.sizeOf3 rfl rfl rfl) ?_
    obtain ⟨x14, e15, H⟩ := H
    refine s_rl (d := some 8) (v := (.int .i64 x14)) rfl rfl (wants_yes rfl rfl rfl rfl g13) (fun dr => r_load1 Tryd.isAgg3 rfl e15) ?_
    refine s_pu (d := some 9) (v := (.pointer (some (Addr.add c4 0)))) rfl rfl (wants_yes rfl rfl rfl rfl g13) (r_fieldAddr Tryd.underlying74 Tryd.sizeOf3 rfl rfl rfl) ?_
    obtain ⟨x16, e17, H⟩ := H
    refine s_rl (d := some 10) (v := (.int .i64 x16)) rfl rfl (wants_yes rfl rfl rfl rfl g13) (fun dr => r_load1 Tryd.isAgg3 rfl e17) ?_
    refine s_pu (d := some 11) (v := (.bool (decide (x16 < x14)))) rfl rfl (wants_yes rfl rfl rfl rfl g13) (r_gtr rfl rfl) ?_
    refine s_pu (d := some 12) (v := (.bool (decide (x16 < x14)))) rfl rfl rfl (r_pick1 rfl g13 rfl) ?_
    refine s_pu (d := some 3) (v := (.bool (decide (x16 < x14)))) rfl rfl rfl (r_assign rfl) ?_
    refine s_fin ?_
    exact N_mk (l := [(3, (.bool (decide (x16 < x14))))]) H ⟨rfl, trivial⟩
  · have H := H.2 g13
    refine s_sk (d := some 7) rfl rfl (wants_no rfl rfl rfl rfl g13) ?_
    refine s_skl (d := some 8) rfl rfl (wants_no rfl rfl rfl rfl g13) ?_
    refine s_sk (d := some 9) rfl rfl (wants_no rfl rfl rfl rfl g13) ?_
    refine s_skl (d := some 10) rfl rfl (wants_no rfl rfl rfl rfl g13) ?_
    refine s_sk (d := some 11) rfl rfl (wants_no rfl rfl rfl rfl g13) ?_
    refine s_pu (d := some 12) (v := (.bool false)) rfl rfl rfl (r_pick0 rfl g13 rfl) ?_
    refine s_pu (d := some 3) (v := (.bool false)) rfl rfl rfl (r_assign rfl) ?_
    refine s_fin ?_
    exact N_mk (l := [(3, (.bool false))]) H ⟨rfl, trivial⟩

/-! ### ival_Map_All -/

def ival_Map_All_F (r : World) (m1 : Option Addr) (x2 : Int) (h : Heap) (R : Sl → Heap → Prop) : Prop :=
  New h (.cells #[(.pointer m1)] 72) fun p3 h1 =>
  LdP h1 (Addr.add p3 0) fun x6 =>
  ival_Map_Over r x6 x2 x2 h1 fun y8 h2 =>
  R y8 h2

set_option maxRecDepth 100000 in
theorem ival_Map_All_of {r : World} {m1 : Option Addr} {x2 : Int} {h : Heap} {R : Sl → Heap → Prop} (H : ival_Map_All_F r m1 x2 h R) : ival_Map_All r m1 x2 h R := by
  unfold ival_Map_All_F at H
  refine calls_of 9 [.tmp 4] Tryd.func52 rfl rfl rfl rfl rfl ?_
  refine W_seq ?_
  refine W_region (.ef 0 [] (.pu 1 .fin) .no) rfl rfl ?_
  obtain ⟨p3, e4⟩ : ∃ p : Addr, p = ⟨h.size, 0, none⟩ := ⟨_, rfl⟩
  obtain ⟨h1, e5⟩ : ∃ hh : Heap, hh = h.push (.cells #[(.pointer m1)] 72) := ⟨_, rfl⟩
  have H := H p3 h1 e4 e5
  refine s_ef1 (d := some 2) (v := (.pointer (some p3))) (h' := h1) rfl rfl rfl (fun dr => (r_box (v := (.agg #[(.pointer m1)])) rfl).trans (by rw [e4, e5]; rfl)) trivial ?_ trivial
  refine s_pu (d := some 4) (v := (Sl.v Sl.nil)) rfl rfl rfl (r_assign rfl) ?_
  refine s_fin ?_
  show W _ _ _ _ _ _ _ _
  refine W_seq ?_
  refine W_region (.rl 0 (.pu 1 (.pu 2 (.ef 3 [] (.pu 4 .fin) .no)))) rfl rfl ?_
  obtain ⟨x6, e7, H⟩ := H
  refine s_rl (d := some 5) (v := (.agg #[(.pointer x6)])) rfl rfl rfl (fun dr => r_loadN Tryd.isAgg72 Tryd.sizeOf72 (vs := [(.pointer x6)]) rfl rfl ⟨e7, trivial⟩) ?_
  refine s_pu (d := some 6) (v := (.int .i64 x2)) rfl rfl rfl (r_move rfl) ?_
  refine s_pu (d := some 7) (v := (.int .i64 x2)) rfl rfl rfl (r_move rfl) ?_
  refine s_ef (d := some 8) rfl rfl rfl (fun dr => r_call Tryd.call54 rfl rfl H) ?_ trivial
  rintro _ h2 ⟨y8, rfl, H⟩
  refine ⟨trivial, ?_⟩
  refine s_pu (d := some 4) (v := (Sl.v y8)) rfl rfl rfl (r_assign rfl) ?_
  refine s_fin ?_
  show W _ _ _ _ _ _ _ _
  refine W_ret ?_
  exact ⟨[(Sl.v y8)], ⟨_, _, rfl, rfl, rfl⟩, y8, rfl, H⟩

/-! ### ival_Map_Over -/

def ival_Map_Over_F (r : World) (m1 : Option Addr) (low2 : Int) (high3 : Int) (h : Heap) (R : Sl → Heap → Prop) : Prop :=
  New h (.cells #[(.pointer m1)] 72) fun p4 h1 =>
  New h1 (.cells #[(.int .i64 low2)] 3) fun p7 h2 =>
  New h2 (.cells #[(.int .i64 high3)] 3) fun p10 h3 =>
  LdI h3 p7 fun x13 =>
  LdI h3 p10 fun x15 =>
  Br (decide (x15 < x13)) (
    R Sl.nil h3) (
    ∀ J18 : Addr → Heap → Prop, (∀ (p17 : Addr) (h4 : Heap),
      (∀ J21 : Sl → Heap → Prop, (∀ (out20 : Sl) (h5 : Heap),
        (R out20 h5) →
        J21 out20 h5) →
      ∀ X24 : Sl → Heap → Prop, (∀ (out23 : Sl) (h6 : Heap),
        (LdP h6 (Addr.add p17 0) fun x25 =>
        finger_Many_api_Span_ival_reach_ival_reaches_Len r x25 h6 fun y27 h7 =>
        Br (decide (0 < y27)) (
          LdP h7 (Addr.add p17 0) fun x28 =>
          finger_Many_api_Span_ival_reach_ival_reaches_Find r x28 ((.func (.func 93) #[] #[(.pointer (some p7))])) h7 fun y30 h8 =>
          LdP h8 (Addr.add p17 0) fun x31 =>
          finger_Many_api_Span_ival_reach_ival_reaches_Len r x31 h8 fun y33 h9 =>
          Br (decide (y33 ≤ y30)) (
            J21 out23 h9) (
            LdP h9 (Addr.add p17 0) fun x34 =>
            finger_Many_api_Span_ival_reach_ival_reaches_At r x34 y30 h9 fun y36 y37 y38 h10 =>
            New h10 (.cells #[(.int .i64 y36), (.int .i64 y37), (.int .i64 y38)] 74) fun p39 h11 =>
            App 74 3 24 (.agg #[(.int .i64 0), (.int .i64 0), (.int .i64 0)]) out23 ((⟨some p39, 1, 1⟩ : Sl)) h11 fun s42 h12 =>
            LdP h12 (Addr.add p17 0) fun x43 =>
            finger_Many_api_Span_ival_reach_ival_reaches_Split r x43 (w64 (y30 + 1)) h12 fun y45 y46 h13 =>
            St h13 p17 1 [(.pointer y46)] fun h14 =>
            X24 s42 h14)) (
          J21 out23 h7)) →
        X24 out23 h6) →
      X24 Sl.nil h4) →
      J18 p17 h4) →
    LdP h3 (Addr.add (Addr.add p4 0) 0) fun x51 =>
    LdP h3 (Addr.add (Addr.add p4 0) 0) fun x53 =>
    (finger_Many_api_Span_ival_reach_ival_reaches_Find r x53 ((.func (.func 91) #[] #[(.pointer (some p10))])) h3 fun y55 h15 =>
    (hcell h15 (Addr.add (Addr.add p4 0) 0) = some (.pointer x51)) ∧
    (finger_Many_api_Span_ival_reach_ival_reaches_Split r x51 y55 h15 fun y57 y58 h16 =>
    (New h16 (.cells #[(.pointer none)] 70) fun p59 h17 =>
    (hcell h17 (Addr.add (Addr.add p4 0) 0) = some (.pointer x53)) ∧
    (hcell h17 (Addr.add (Addr.add p4 0) 0) = some (.pointer x51)) ∧
    New h17 (.cells #[(.pointer none)] 70) fun p64 h18 =>
    (hcell h18 (Addr.add (Addr.add p4 0) 0) = some (.pointer x53)) ∧
    (hcell h18 (Addr.add (Addr.add p4 0) 0) = some (.pointer x51)) ∧
    St h18 p59 1 [(.pointer y57)] fun h19 =>
    St h19 p64 1 [(.pointer y58)] fun h20 =>
    J18 p59 h20) ∧
    (New h16 (.cells #[(.pointer none)] 70) fun p73 h21 =>
    (hcell h21 (Addr.add (Addr.add p4 0) 0) = some (.pointer x53)) ∧
    (hcell h21 (Addr.add (Addr.add p4 0) 0) = some (.pointer x51)) ∧
    New h21 (.cells #[(.pointer none)] 70) fun p78 h22 =>
    (hcell h22 (Addr.add (Addr.add p4 0) 0) = some (.pointer x53)) ∧
    (hcell h22 (Addr.add (Addr.add p4 0) 0) = some (.pointer x51)) ∧
    St h22 p78 1 [(.pointer y57)] fun h23 =>
    St h23 p73 1 [(.pointer y58)] fun h24 =>
    J18 p78 h24)) ∧
    (New h15 (.cells #[(.pointer none)] 70) fun p87 h25 =>
    (hcell h25 (Addr.add (Addr.add p4 0) 0) = some (.pointer x53)) ∧
    (hcell h25 (Addr.add (Addr.add p4 0) 0) = some (.pointer x51)) ∧
    (finger_Many_api_Span_ival_reach_ival_reaches_Split r x51 y55 h25 fun y92 y93 h26 =>
    New h26 (.cells #[(.pointer none)] 70) fun p94 h27 =>
    (hcell h27 (Addr.add (Addr.add p4 0) 0) = some (.pointer x53)) ∧
    (hcell h27 (Addr.add (Addr.add p4 0) 0) = some (.pointer x51)) ∧
    St h27 p87 1 [(.pointer y92)] fun h28 =>
    St h28 p94 1 [(.pointer y93)] fun h29 =>
    J18 p87 h29) ∧
    (New h25 (.cells #[(.pointer none)] 70) fun p103 h30 =>
    (hcell h30 (Addr.add (Addr.add p4 0) 0) = some (.pointer x53)) ∧
    (hcell h30 (Addr.add (Addr.add p4 0) 0) = some (.pointer x51)) ∧
    finger_Many_api_Span_ival_reach_ival_reaches_Split r x51 y55 h30 fun y108 y109 h31 =>
    St h31 p87 1 [(.pointer y108)] fun h32 =>
    St h32 p103 1 [(.pointer y109)] fun h33 =>
    J18 p87 h33)) ∧
    (New h15 (.cells #[(.pointer none)] 70) fun p114 h34 =>
    (hcell h34 (Addr.add (Addr.add p4 0) 0) = some (.pointer x53)) ∧
    (hcell h34 (Addr.add (Addr.add p4 0) 0) = some (.pointer x51)) ∧
    (finger_Many_api_Span_ival_reach_ival_reaches_Split r x51 y55 h34 fun y119 y120 h35 =>
    New h35 (.cells #[(.pointer none)] 70) fun p121 h36 =>
    (hcell h36 (Addr.add (Addr.add p4 0) 0) = some (.pointer x53)) ∧
    (hcell h36 (Addr.add (Addr.add p4 0) 0) = some (.pointer x51)) ∧
    St h36 p121 1 [(.pointer y119)] fun h37 =>
    St h37 p114 1 [(.pointer y120)] fun h38 =>
    J18 p121 h38) ∧
    (New h34 (.cells #[(.pointer none)] 70) fun p130 h39 =>
    (hcell h39 (Addr.add (Addr.add p4 0) 0) = some (.pointer x53)) ∧
    (hcell h39 (Addr.add (Addr.add p4 0) 0) = some (.pointer x51)) ∧
    finger_Many_api_Span_ival_reach_ival_reaches_Split r x51 y55 h39 fun y135 y136 h40 =>
    St h40 p130 1 [(.pointer y135)] fun h41 =>
    St h41 p114 1 [(.pointer y136)] fun h42 =>
    J18 p130 h42))) ∧
    (New h3 (.cells #[(.pointer none)] 70) fun p141 h43 =>
    (hcell h43 (Addr.add (Addr.add p4 0) 0) = some (.pointer x53)) ∧
    (hcell h43 (Addr.add (Addr.add p4 0) 0) = some (.pointer x51)) ∧
    (finger_Many_api_Span_ival_reach_ival_reaches_Find r x53 ((.func (.func 91) #[] #[(.pointer (some p10))])) h43 fun y146 h44 =>
    (hcell h44 (Addr.add (Addr.add p4 0) 0) = some (.pointer x51)) ∧
    (finger_Many_api_Span_ival_reach_ival_reaches_Split r x51 y146 h44 fun y148 y149 h45 =>
    New h45 (.cells #[(.pointer none)] 70) fun p150 h46 =>
    (hcell h46 (Addr.add (Addr.add p4 0) 0) = some (.pointer x53)) ∧
    (hcell h46 (Addr.add (Addr.add p4 0) 0) = some (.pointer x51)) ∧
    St h46 p141 1 [(.pointer y148)] fun h47 =>
    St h47 p150 1 [(.pointer y149)] fun h48 =>
    J18 p141 h48) ∧
    (New h44 (.cells #[(.pointer none)] 70) fun p159 h49 =>
    (hcell h49 (Addr.add (Addr.add p4 0) 0) = some (.pointer x53)) ∧
    (hcell h49 (Addr.add (Addr.add p4 0) 0) = some (.pointer x51)) ∧
    finger_Many_api_Span_ival_reach_ival_reaches_Split r x51 y146 h49 fun y164 y165 h50 =>
    St h50 p141 1 [(.pointer y164)] fun h51 =>
    St h51 p159 1 [(.pointer y165)] fun h52 =>
    J18 p141 h52)) ∧
    (New h43 (.cells #[(.pointer none)] 70) fun p170 h53 =>
    (hcell h53 (Addr.add (Addr.add p4 0) 0) = some (.pointer x53)) ∧
    (hcell h53 (Addr.add (Addr.add p4 0) 0) = some (.pointer x51)) ∧
    finger_Many_api_Span_ival_reach_ival_reaches_Find r x53 ((.func (.func 91) #[] #[(.pointer (some p10))])) h53 fun y175 h54 =>
    (hcell h54 (Addr.add (Addr.add p4 0) 0) = some (.pointer x51)) ∧
    finger_Many_api_Span_ival_reach_ival_reaches_Split r x51 y175 h54 fun y177 y178 h55 =>
    St h55 p141 1 [(.pointer y177)] fun h56 =>
    St h56 p170 1 [(.pointer y178)] fun h57 =>
    J18 p141 h57)) ∧
    (New h3 (.cells #[(.pointer none)] 70) fun p183 h58 =>
    (hcell h58 (Addr.add (Addr.add p4 0) 0) = some (.pointer x53)) ∧
    (hcell h58 (Addr.add (Addr.add p4 0) 0) = some (.pointer x51)) ∧
    (finger_Many_api_Span_ival_reach_ival_reaches_Find r x53 ((.func (.func 91) #[] #[(.pointer (some p10))])) h58 fun y188 h59 =>
    (hcell h59 (Addr.add (Addr.add p4 0) 0) = some (.pointer x51)) ∧
    (finger_Many_api_Span_ival_reach_ival_reaches_Split r x51 y188 h59 fun y190 y191 h60 =>
    New h60 (.cells #[(.pointer none)] 70) fun p192 h61 =>
    (hcell h61 (Addr.add (Addr.add p4 0) 0) = some (.pointer x53)) ∧
    (hcell h61 (Addr.add (Addr.add p4 0) 0) = some (.pointer x51)) ∧
    St h61 p192 1 [(.pointer y190)] fun h62 =>
    St h62 p183 1 [(.pointer y191)] fun h63 =>
    J18 p192 h63) ∧
    (New h59 (.cells #[(.pointer none)] 70) fun p201 h64 =>
    (hcell h64 (Addr.add (Addr.add p4 0) 0) = some (.pointer x53)) ∧
    (hcell h64 (Addr.add (Addr.add p4 0) 0) = some (.pointer x51)) ∧
    finger_Many_api_Span_ival_reach_ival_reaches_Split r x51 y188 h64 fun y206 y207 h65 =>
    St h65 p201 1 [(.pointer y206)] fun h66 =>
    St h66 p183 1 [(.pointer y207)] fun h67 =>
    J18 p201 h67)) ∧
    (New h58 (.cells #[(.pointer none)] 70) fun p212 h68 =>
    (hcell h68 (Addr.add (Addr.add p4 0) 0) = some (.pointer x53)) ∧
    (hcell h68 (Addr.add (Addr.add p4 0) 0) = some (.pointer x51)) ∧
    finger_Many_api_Span_ival_reach_ival_reaches_Find r x53 ((.func (.func 91) #[] #[(.pointer (some p10))])) h68 fun y217 h69 =>
    (hcell h69 (Addr.add (Addr.add p4 0) 0) = some (.pointer x51)) ∧
    finger_Many_api_Span_ival_reach_ival_reaches_Split r x51 y217 h69 fun y219 y220 h70 =>
    St h70 p212 1 [(.pointer y219)] fun h71 =>
    St h71 p183 1 [(.pointer y220)] fun h72 =>
    J18 p212 h72)))

set_option maxRecDepth 100000 in
theorem ival_Map_Over_of {r : World} {m1 : Option Addr} {low2 : Int} {high3 : Int} {h : Heap} {R : Sl → Heap → Prop} (H : ival_Map_Over_F r m1 low2 high3 h R) : ival_Map_Over r m1 low2 high3 h R := by
  unfold ival_Map_Over_F at H
  refine calls_of 48 [.tmp 6] Tryd.func54 rfl rfl rfl rfl rfl ?_
  refine W_seq ?_
  refine W_region (.ef 0 [] (.ef 1 [] (.ef 2 [] (.pu 3 .fin) .no) .no) .no) rfl rfl ?_
  obtain ⟨p4, e5⟩ : ∃ p : Addr, p = ⟨h.size, 0, none⟩ := ⟨_, rfl⟩
  obtain ⟨h1, e6⟩ : ∃ hh : Heap, hh = h.push (.cells #[(.pointer m1)] 72) := ⟨_, rfl⟩
  have H := H p4 h1 e5 e6
  refine s_ef1 (d := some 3) (v := (.pointer (some p4))) (h' := h1) rfl rfl rfl (fun dr => (r_box (v := (.agg #[(.pointer m1)])) rfl).trans (by rw [e5, e6]; rfl)) trivial ?_ trivial
  obtain ⟨p7, e8⟩ : ∃ p : Addr, p = ⟨h1.size, 0, none⟩ := ⟨_, rfl⟩
  obtain ⟨h2, e9⟩ : ∃ hh : Heap, hh = h1.push (.cells #[(.int .i64 low2)] 3) := ⟨_, rfl⟩
  have H := H p7 h2 e8 e9
  refine s_ef1 (d := some 4) (v := (.pointer (some p7))) (h' := h2) rfl rfl rfl (fun dr => (r_box (v := (.int .i64 low2)) rfl).trans (by rw [e8, e9]; rfl)) trivial ?_ trivial
  obtain ⟨p10, e11⟩ : ∃ p : Addr, p = ⟨h2.size, 0, none⟩ := ⟨_, rfl⟩
  obtain ⟨h3, e12⟩ : ∃ hh : Heap, hh = h2.push (.cells #[(.int .i64 high3)] 3) := ⟨_, rfl⟩
  have H := H p10 h3 e11 e12
  refine s_ef1 (d := some 5) (v := (.pointer (some p10))) (h' := h3) rfl rfl rfl (fun dr => (r_box (v := (.int .i64 high3)) rfl).trans (by rw [e11, e12]; rfl)) trivial ?_ trivial
  refine s_pu (d := some 6) (v := (Sl.v Sl.nil)) rfl rfl rfl (r_assign rfl) ?_
  refine s_fin ?_
  show W _ _ _ _ _ _ _ _
  refine W_seq ?_
  refine W_seq ?_
  refine W_region (.rl 0 (.rl 1 (.pu 2 .fin))) rfl rfl ?_
  obtain ⟨x13, e14, H⟩ := H
  refine s_rl (d := some 11) (v := (.int .i64 x13)) rfl rfl rfl (fun dr => r_load1 Tryd.isAgg3 rfl e14) ?_
  obtain ⟨x15, e16, H⟩ := H
  refine s_rl (d := some 12) (v := (.int .i64 x15)) rfl rfl rfl (fun dr => r_load1 Tryd.isAgg3 rfl e16) ?_
  refine s_pu (d := some 13) (v := (.bool (decide (x15 < x13)))) rfl rfl rfl (r_gtr rfl rfl) ?_
  refine s_fin ?_
  show W _ _ _ _ _ _ _ _
  refine W_if (decide (x15 < x13)) rfl (fun g225 => ?_) (fun g225 => ?_)
  · have H := H.1 g225
    refine W_seq ?_
    refine W_region (.pu 0 .fin) rfl rfl ?_
    refine s_pu (d := some 6) (v := (Sl.v Sl.nil)) rfl rfl rfl (r_assign rfl) ?_
    refine s_fin ?_
    show W _ _ _ _ _ _ _ _
    refine W_ret ?_
    exact ⟨[(Sl.v Sl.nil)], ⟨_, _, rfl, rfl, rfl⟩, Sl.nil, rfl, H⟩
  · have H := H.2 g225
    refine W_skip ?_
    show W _ _ _ _ _ _ _ _
    refine W_seq ?_
    refine W_set ?_
    intro N19 eN19
    have H := H (fun (p17 : Addr) (h4 : Heap) => ∀ b, N19 [] (mkE [(4, (.pointer (some p7))), (7, (.pointer (some p17)))] b) h4) (by
      intro p17 h4 H b
      rw [eN19]
      show W _ _ _ _ _ _ _ _
      refine W_seq ?_
      refine W_region (.pu 0 .fin) rfl rfl ?_
      refine s_pu (d := some 9) (v := (Sl.v Sl.nil)) rfl rfl rfl (r_assign rfl) ?_
      refine s_fin ?_
      show W _ _ _ _ _ _ _ _
      refine W_seq ?_
      refine W_set ?_
      intro N22 eN22
      have H := H (fun (out20 : Sl) (h5 : Heap) => ∀ b, N22 [] (mkE [(9, (Sl.v out20))] b) h5) (by
        intro out20 h5 H b
        rw [eN22]
        show W _ _ _ _ _ _ _ _
        refine W_seq ?_
        refine W_region (.pu 0 (.pu 1 .fin)) rfl rfl ?_
        refine s_pu (d := some 47) (v := (Sl.v out20)) rfl rfl rfl (r_move rfl) ?_
        refine s_pu (d := some 6) (v := (Sl.v out20)) rfl rfl rfl (r_assign rfl) ?_
        refine s_fin ?_
        show W _ _ _ _ _ _ _ _
        refine W_ret ?_
        exact ⟨[(Sl.v out20)], ⟨_, _, rfl, rfl, rfl⟩, out20, rfl, H⟩)
      clear eN22
      refine W_block ?_
      refine W_loop (WL_mk (l := [(4, (.pointer (some p7))), (7, (.pointer (some p17))), (9, (Sl.v Sl.nil))]) ?_ ⟨rfl, rfl, rfl, trivial⟩)
      refine H (fun (out23 : Sl) (h6 : Heap) => ∀ b, WL _ _ _ _ _ _ (mkE [(4, (.pointer (some p7))), (7, (.pointer (some p17))), (9, (Sl.v out23))] b) h6) ?_
      intro out23 h6 H b
      refine WL_round ?_
      refine W_seq ?_
      refine W_seq ?_
      refine W_region (.rl 0 (.ef 1 [] (.pu 2 .fin) .no)) rfl rfl ?_
      obtain ⟨x25, e26, H⟩ := H
      refine s_rl (d := some 24) (v := (.agg #[(.pointer x25)])) rfl rfl rfl (fun dr => r_loadN Tryd.isAgg70 Tryd.sizeOf70 (vs := [(.pointer x25)]) rfl rfl ⟨e26, trivial⟩) ?_
      refine s_ef (d := some 25) rfl rfl rfl (fun dr => r_call Tryd.call92 rfl rfl H) ?_ trivial
      rintro _ h7 ⟨y27, rfl, H⟩
      refine ⟨trivial, ?_⟩
      refine s_pu (d := some 26) (v := (.bool (decide (0 < y27)))) rfl rfl rfl (r_gtr rfl rfl) ?_
      refine s_fin ?_
      show W _ _ _ _ _ _ _ _
      refine W_if (decide (0 < y27)) rfl (fun g50 => ?_) (fun g50 => ?_)
      · have H := H.1 g50
        refine W_skip ?_
        show W _ _ _ _ _ _ _ _
        refine W_block ?_
        refine W_seq ?_
        refine W_region (.rl 0 (.pu 1 (.ef 2 [] (.pu 3 .fin) .no))) rfl rfl ?_
        obtain ⟨x28, e29, H⟩ := H
        refine s_rl (d := some 27) (v := (.agg #[(.pointer x28)])) rfl rfl rfl (fun dr => r_loadN Tryd.isAgg70 Tryd.sizeOf70 (vs := [(.pointer x28)]) rfl rfl ⟨e29, trivial⟩) ?_
        refine s_pu (d := some 28) (v := ((.func (.func 93) #[] #[(.pointer (some p7))]))) rfl rfl rfl (r_makeFunc rfl rfl) ?_
        refine s_ef (d := some 29) rfl rfl rfl (fun dr => r_call Tryd.call86 rfl rfl H) ?_ trivial
        rintro _ h8 ⟨y30, rfl, H⟩
        refine ⟨trivial, ?_⟩
        refine s_pu (d := some 10) (v := (.int .i64 y30)) rfl rfl rfl (r_assign rfl) ?_
        refine s_fin ?_
        show W _ _ _ _ _ _ _ _
        refine W_seq ?_
        refine W_seq ?_
        refine W_region (.pu 0 (.rl 1 (.ef 2 [] (.pu 3 .fin) .no))) rfl rfl ?_
        refine s_pu (d := some 30) (v := (.int .i64 y30)) rfl rfl rfl (r_move rfl) ?_
        obtain ⟨x31, e32, H⟩ := H
        refine s_rl (d := some 31) (v := (.agg #[(.pointer x31)])) rfl rfl rfl (fun dr => r_loadN Tryd.isAgg70 Tryd.sizeOf70 (vs := [(.pointer x31)]) rfl rfl ⟨e32, trivial⟩) ?_
        refine s_ef (d := some 32) rfl rfl rfl (fun dr => r_call Tryd.call92 rfl rfl H) ?_ trivial
        rintro _ h9 ⟨y33, rfl, H⟩
        refine ⟨trivial, ?_⟩
        refine s_pu (d := some 33) (v := (.bool (decide (y33 ≤ y30)))) rfl rfl rfl (r_geq rfl rfl) ?_
        refine s_fin ?_
        show W _ _ _ _ _ _ _ _
        refine W_if (decide (y33 ≤ y30)) rfl (fun g49 => ?_) (fun g49 => ?_)
        · have H := H.1 g49
          refine W_exit (inX_out rfl (inX_here ?_))
          exact N_mk (l := [(9, (Sl.v out23))]) H ⟨rfl, trivial⟩
        · have H := H.2 g49
          refine W_skip ?_
          show W _ _ _ _ _ _ _ _
          refine W_seq ?_
          refine W_region (.pu 0 (.rl 1 (.pu 2 (.ef 3 [] (.ef 4 [] (.ef 5 [] (.pu 6 .fin) .no) .no) .no)))) rfl rfl ?_
          refine s_pu (d := some 34) (v := (Sl.v out23)) rfl rfl rfl (r_move rfl) ?_
          obtain ⟨x34, e35, H⟩ := H
          refine s_rl (d := some 35) (v := (.agg #[(.pointer x34)])) rfl rfl rfl (fun dr => r_loadN Tryd.isAgg70 Tryd.sizeOf70 (vs := [(.pointer x34)]) rfl rfl ⟨e35, trivial⟩) ?_
          refine s_pu (d := some 36) (v := (.int .i64 y30)) rfl rfl rfl (r_move rfl) ?_
          refine s_ef (d := some 37) rfl rfl rfl (fun dr => r_call Tryd.call94 rfl rfl H) ?_ trivial
          rintro _ h10 ⟨y36, y37, y38, rfl, H⟩
          refine ⟨trivial, ?_⟩
          obtain ⟨p39, e40⟩ : ∃ p : Addr, p = ⟨h10.size, 0, none⟩ := ⟨_, rfl⟩
          obtain ⟨h11, e41⟩ : ∃ hh : Heap, hh = h10.push (.cells #[(.int .i64 y36), (.int .i64 y37), (.int .i64 y38)] 74) := ⟨_, rfl⟩
          have H := H p39 h11 e40 e41
          refine s_ef1 (d := some 38) (v := (Sl.v ((⟨some p39, 1, 1⟩ : Sl)))) (h' := h11) rfl rfl rfl (fun dr => (slFDILaw_67.build (cells := #[(.int .i64 y36), (.int .i64 y37), (.int .i64 y38)]) (by decide) rfl (by kernel_rfl)).trans (by rw [e40, e41]; rfl)) trivial ?_ trivial
          refine s_ef (d := some 39) rfl rfl rfl (fun dr => slFDILaw_67.append rfl rfl H) ?_ trivial
          rintro _ h12 ⟨s42, rfl, H⟩
          refine ⟨trivial, ?_⟩
          refine s_pu (d := some 9) (v := (Sl.v s42)) rfl rfl rfl (r_assign rfl) ?_
          refine s_fin ?_
          show W _ _ _ _ _ _ _ _
          refine W_region (.rl 0 (.pu 1 (.pu 2 (.ef 3 [] (.pu 4 (.pu 5 (.pu 6 (.ef 7 [] .fin .no)))) .no)))) rfl rfl ?_
          obtain ⟨x43, e44, H⟩ := H
          refine s_rl (d := some 41) (v := (.agg #[(.pointer x43)])) rfl rfl rfl (fun dr => r_loadN Tryd.isAgg70 Tryd.sizeOf70 (vs := [(.pointer x43)]) rfl rfl ⟨e44, trivial⟩) ?_
          refine s_pu (d := some 42) (v := (.int .i64 y30)) rfl rfl rfl (r_move rfl) ?_
          refine s_pu (d := some 43) (v := (.int .i64 (w64 (y30 + 1)))) rfl rfl rfl (r_add rfl rfl) ?_
          refine s_ef (d := some 44) rfl rfl rfl (fun dr => r_call Tryd.call90 rfl rfl H) ?_ trivial
          rintro _ h13 ⟨y45, y46, rfl, H⟩
          refine ⟨trivial, ?_⟩
          refine s_pu (d := some 40) (v := (.tuple #[(.agg #[(.pointer y45)]), (.agg #[(.pointer y46)])])) rfl rfl rfl (r_move rfl) ?_
          refine s_pu (d := some 45) (v := (.agg #[(.pointer y45)])) rfl rfl rfl (r_extract rfl rfl) ?_
          refine s_pu (d := some 46) (v := (.agg #[(.pointer y46)])) rfl rfl rfl (r_extract rfl rfl) ?_
          obtain ⟨e48, H⟩ := H
          obtain ⟨h14, e47⟩ : ∃ hh : Heap, hh = hsets h13 p17 0 [(.pointer y46)] := ⟨_, rfl⟩
          have H := H h14 e47
          refine s_st (d := none) (h' := h14) rfl rfl rfl (fun dr => (r_store (v := (.agg #[(.pointer y46)])) Tryd.sizeOf70 rfl rfl rfl (one_all rfl) e48).trans (by rw [e47]; rfl)) trivial ?_ trivial
          refine s_fin ?_
          exact WL_mk (l := [(4, (.pointer (some p7))), (7, (.pointer (some p17))), (9, (Sl.v s42))]) H ⟨rfl, rfl, rfl, trivial⟩
      · have H := H.2 g50
        refine W_exit (inX_here ?_)
        exact N_mk (l := [(9, (Sl.v out23))]) H ⟨rfl, trivial⟩)
    clear eN19
    refine W_draw [0, 1, 0, 4, 0, 28, 63, 127, 255, 255, 0, 0, 3583, 8191] (.pu 0 (.rd 1 (.pu 2 (.rd 3 (.pu 4 (.ef 5 [3] (.ef 6 [1, 3] (.pu 7 (.pu 8 (.pu 9 (.ef 10 [] (.ef 11 [] (.ef 12 [1, 3] (.ef 13 [1, 3] .fin .no) .no) .no) (.ef 11 [] (.ef 10 [] (.ef 12 [1, 3] (.ef 13 [1, 3] .fin .no) .no) .no) .no))))) (.ef 10 [] (.ef 6 [1, 3] (.pu 7 (.pu 8 (.pu 9 (.ef 11 [] (.ef 12 [1, 3] (.ef 13 [1, 3] .fin .no) .no) .no)))) (.ef 11 [] (.ef 6 [1, 3] (.pu 7 (.pu 8 (.pu 9 (.ef 12 [1, 3] (.ef 13 [1, 3] .fin .no) .no)))) .no) .no)) (.ef 11 [] (.ef 6 [1, 3] (.pu 7 (.pu 8 (.pu 9 (.ef 10 [] (.ef 12 [1, 3] (.ef 13 [1, 3] .fin .no) .no) .no)))) (.ef 10 [] (.ef 6 [1, 3] (.pu 7 (.pu 8 (.pu 9 (.ef 12 [1, 3] (.ef 13 [1, 3] .fin .no) .no)))) .no) .no)) .no))) (.ef 10 [] (.ef 5 [3] (.ef 6 [1, 3] (.pu 7 (.pu 8 (.pu 9 (.ef 11 [] (.ef 12 [1, 3] (.ef 13 [1, 3] .fin .no) .no) .no)))) (.ef 11 [] (.ef 6 [1, 3] (.pu 7 (.pu 8 (.pu 9 (.ef 12 [1, 3] (.ef 13 [1, 3] .fin .no) .no)))) .no) .no)) (.ef 11 [] (.ef 5 [3] (.ef 6 [1, 3] (.pu 7 (.pu 8 (.pu 9 (.ef 12 [1, 3] (.ef 13 [1, 3] .fin .no) .no)))) .no) .no) .no)) (.ef 11 [] (.ef 5 [3] (.ef 6 [1, 3] (.pu 7 (.pu 8 (.pu 9 (.ef 10 [] (.ef 12 [1, 3] (.ef 13 [1, 3] .fin .no) .no) .no)))) (.ef 10 [] (.ef 6 [1, 3] (.pu 7 (.pu 8 (.pu 9 (.ef 12 [1, 3] (.ef 13 [1, 3] .fin .no) .no)))) .no) .no)) (.ef 10 [] (.ef 5 [3] (.ef 6 [1, 3] (.pu 7 (.pu 8 (.pu 9 (.ef 12 [1, 3] (.ef 13 [1, 3] .fin .no) .no)))) .no) .no) .no)) .no)))))))) (by kernel_rfl) (by kernel_rfl) ?_
    refine s_pu (d := some 15) (v := (.pointer (some (Addr.add p4 0)))) rfl rfl rfl (r_fieldAddr Tryd.underlying72 Tryd.sizeOf70 rfl rfl rfl) ?_
    obtain ⟨x51, e52, H⟩ := H
    refine s_rd (d := some 16) (v := (.agg #[(.pointer x51)])) rfl rfl rfl (fun dr => r_loadN Tryd.isAgg70 Tryd.sizeOf70 (vs := [(.pointer x51)]) rfl rfl ⟨e52, trivial⟩) ?_
    refine s_pu (d := some 17) (v := (.pointer (some (Addr.add p4 0)))) rfl rfl rfl (r_fieldAddr Tryd.underlying72 Tryd.sizeOf70 rfl rfl rfl) ?_
    obtain ⟨x53, e54, H⟩ := H
    refine s_rd (d := some 18) (v := (.agg #[(.pointer x53)])) rfl rfl rfl (fun dr => r_loadN Tryd.isAgg70 Tryd.sizeOf70 (vs := [(.pointer x53)]) rfl rfl ⟨e54, trivial⟩) ?_
    refine s_pu (d := some 19) (v := ((.func (.func 91) #[] #[(.pointer (some p10))]))) rfl rfl rfl (r_makeFunc rfl rfl) ?_
    refine s_or ?_ ?_
    · have H := H.1
      refine s_ef (d := some 20) rfl rfl rfl (fun dr => r_call Tryd.call86 rfl rfl H) ?_ trivial
      rintro _ h15 ⟨y55, rfl, H⟩
      obtain ⟨e56, H⟩ := H
      refine ⟨⟨trivial, (.inl ⟨rfl, fun dr => r_loadN Tryd.isAgg70 Tryd.sizeOf70 (vs := [(.pointer x51)]) rfl rfl ⟨e56, trivial⟩⟩), trivial⟩, ?_⟩
      refine s_or ?_ ?_
      · have H := H.1
        refine s_ef (d := some 21) rfl rfl rfl (fun dr => r_call Tryd.call90 rfl rfl H) ?_ trivial
        rintro _ h16 ⟨y57, y58, rfl, H⟩
        refine ⟨⟨trivial, trivial, trivial⟩, ?_⟩
        refine s_pu (d := some 14) (v := (.tuple #[(.agg #[(.pointer y57)]), (.agg #[(.pointer y58)])])) rfl rfl rfl (r_move rfl) ?_
        refine s_pu (d := some 22) (v := (.agg #[(.pointer y57)])) rfl rfl rfl (r_extract rfl rfl) ?_
        refine s_pu (d := some 23) (v := (.agg #[(.pointer y58)])) rfl rfl rfl (r_extract rfl rfl) ?_
        refine s_or ?_ ?_
        · have H := H.1
          obtain ⟨p59, e60⟩ : ∃ p : Addr, p = ⟨h16.size, 0, none⟩ := ⟨_, rfl⟩
          obtain ⟨h17, e61⟩ : ∃ hh : Heap, hh = h16.push (.cells #[(.pointer none)] 70) := ⟨_, rfl⟩
          have H := H p59 h17 e60 e61
          obtain ⟨e62, H⟩ := H
          obtain ⟨e63, H⟩ := H
          refine s_ef1 (d := some 7) (v := (.pointer (some p59))) (h' := h17) rfl rfl rfl (fun dr => (r_alloc Tryd.zeroValue70).trans (by rw [e60, e61]; rfl)) ⟨(.inl ⟨rfl, fun dr => r_loadN Tryd.isAgg70 Tryd.sizeOf70 (vs := [(.pointer x53)]) rfl rfl ⟨e62, trivial⟩⟩), (.inl ⟨rfl, fun dr => r_loadN Tryd.isAgg70 Tryd.sizeOf70 (vs := [(.pointer x51)]) rfl rfl ⟨e63, trivial⟩⟩), trivial⟩ ?_ trivial
          obtain ⟨p64, e65⟩ : ∃ p : Addr, p = ⟨h17.size, 0, none⟩ := ⟨_, rfl⟩
          obtain ⟨h18, e66⟩ : ∃ hh : Heap, hh = h17.push (.cells #[(.pointer none)] 70) := ⟨_, rfl⟩
          have H := H p64 h18 e65 e66
          obtain ⟨e67, H⟩ := H
          obtain ⟨e68, H⟩ := H
          refine s_ef1 (d := some 8) (v := (.pointer (some p64))) (h' := h18) rfl rfl rfl (fun dr => (r_alloc Tryd.zeroValue70).trans (by rw [e65, e66]; rfl)) ⟨(.inl ⟨rfl, fun dr => r_loadN Tryd.isAgg70 Tryd.sizeOf70 (vs := [(.pointer x53)]) rfl rfl ⟨e67, trivial⟩⟩), (.inl ⟨rfl, fun dr => r_loadN Tryd.isAgg70 Tryd.sizeOf70 (vs := [(.pointer x51)]) rfl rfl ⟨e68, trivial⟩⟩), trivial⟩ ?_ trivial
          obtain ⟨e70, H⟩ := H
          obtain ⟨h19, e69⟩ : ∃ hh : Heap, hh = hsets h18 p59 0 [(.pointer y57)] := ⟨_, rfl⟩
          have H := H h19 e69
          refine s_st (d := none) (h' := h19) rfl rfl rfl (fun dr => (r_store (v := (.agg #[(.pointer y57)])) Tryd.sizeOf70 rfl rfl rfl (one_all rfl) e70).trans (by rw [e69]; rfl)) ⟨trivial, trivial, trivial⟩ ?_ trivial
          obtain ⟨e72, H⟩ := H
          obtain ⟨h20, e71⟩ : ∃ hh : Heap, hh = hsets h19 p64 0 [(.pointer y58)] := ⟨_, rfl⟩
          have H := H h20 e71
          refine s_st (d := none) (h' := h20) rfl rfl rfl (fun dr => (r_store (v := (.agg #[(.pointer y58)])) Tryd.sizeOf70 rfl rfl rfl (one_all rfl) e72).trans (by rw [e71]; rfl)) ⟨trivial, trivial, trivial⟩ ?_ trivial
          refine s_fin ?_
          exact N_mk (l := [(4, (.pointer (some p7))), (7, (.pointer (some p59)))]) H ⟨rfl, rfl, trivial⟩
        · have H := H.2
          obtain ⟨p73, e74⟩ : ∃ p : Addr, p = ⟨h16.size, 0, none⟩ := ⟨_, rfl⟩
          obtain ⟨h21, e75⟩ : ∃ hh : Heap, hh = h16.push (.cells #[(.pointer none)] 70) := ⟨_, rfl⟩
          have H := H p73 h21 e74 e75
          obtain ⟨e76, H⟩ := H
          obtain ⟨e77, H⟩ := H
          refine s_ef1 (d := some 8) (v := (.pointer (some p73))) (h' := h21) rfl rfl rfl (fun dr => (r_alloc Tryd.zeroValue70).trans (by rw [e74, e75]; rfl)) ⟨(.inl ⟨rfl, fun dr => r_loadN Tryd.isAgg70 Tryd.sizeOf70 (vs := [(.pointer x53)]) rfl rfl ⟨e76, trivial⟩⟩), (.inl ⟨rfl, fun dr => r_loadN Tryd.isAgg70 Tryd.sizeOf70 (vs := [(.pointer x51)]) rfl rfl ⟨e77, trivial⟩⟩), trivial⟩ ?_ trivial
          obtain ⟨p78, e79⟩ : ∃ p : Addr, p = ⟨h21.size, 0, none⟩ := ⟨_, rfl⟩
          obtain ⟨h22, e80⟩ : ∃ hh : Heap, hh = h21.push (.cells #[(.pointer none)] 70) := ⟨_, rfl⟩
          have H := H p78 h22 e79 e80
          obtain ⟨e81, H⟩ := H
          obtain ⟨e82, H⟩ := H
          refine s_ef1 (d := some 7) (v := (.pointer (some p78))) (h' := h22) rfl rfl rfl (fun dr => (r_alloc Tryd.zeroValue70).trans (by rw [e79, e80]; rfl)) ⟨(.inl ⟨rfl, fun dr => r_loadN Tryd.isAgg70 Tryd.sizeOf70 (vs := [(.pointer x53)]) rfl rfl ⟨e81, trivial⟩⟩), (.inl ⟨rfl, fun dr => r_loadN Tryd.isAgg70 Tryd.sizeOf70 (vs := [(.pointer x51)]) rfl rfl ⟨e82, trivial⟩⟩), trivial⟩ ?_ trivial
          obtain ⟨e84, H⟩ := H
          obtain ⟨h23, e83⟩ : ∃ hh : Heap, hh = hsets h22 p78 0 [(.pointer y57)] := ⟨_, rfl⟩
          have H := H h23 e83
          refine s_st (d := none) (h' := h23) rfl rfl rfl (fun dr => (r_store (v := (.agg #[(.pointer y57)])) Tryd.sizeOf70 rfl rfl rfl (one_all rfl) e84).trans (by rw [e83]; rfl)) ⟨trivial, trivial, trivial⟩ ?_ trivial
          obtain ⟨e86, H⟩ := H
          obtain ⟨h24, e85⟩ : ∃ hh : Heap, hh = hsets h23 p73 0 [(.pointer y58)] := ⟨_, rfl⟩
          have H := H h24 e85
          refine s_st (d := none) (h' := h24) rfl rfl rfl (fun dr => (r_store (v := (.agg #[(.pointer y58)])) Tryd.sizeOf70 rfl rfl rfl (one_all rfl) e86).trans (by rw [e85]; rfl)) ⟨trivial, trivial, trivial⟩ ?_ trivial
          refine s_fin ?_
          exact N_mk (l := [(4, (.pointer (some p7))), (7, (.pointer (some p78)))]) H ⟨rfl, rfl, trivial⟩
      refine s_or ?_ ?_
      · have H := H.2.1
        obtain ⟨p87, e88⟩ : ∃ p : Addr, p = ⟨h15.size, 0, none⟩ := ⟨_, rfl⟩
        obtain ⟨h25, e89⟩ : ∃ hh : Heap, hh = h15.push (.cells #[(.pointer none)] 70) := ⟨_, rfl⟩
        have H := H p87 h25 e88 e89
        obtain ⟨e90, H⟩ := H
        obtain ⟨e91, H⟩ := H
        refine s_ef1 (d := some 7) (v := (.pointer (some p87))) (h' := h25) rfl rfl rfl (fun dr => (r_alloc Tryd.zeroValue70).trans (by rw [e88, e89]; rfl)) ⟨(.inl ⟨rfl, fun dr => r_loadN Tryd.isAgg70 Tryd.sizeOf70 (vs := [(.pointer x53)]) rfl rfl ⟨e90, trivial⟩⟩), (.inl ⟨rfl, fun dr => r_loadN Tryd.isAgg70 Tryd.sizeOf70 (vs := [(.pointer x51)]) rfl rfl ⟨e91, trivial⟩⟩), trivial⟩ ?_ trivial
        refine s_or ?_ ?_
        · have H := H.1
          refine s_ef (d := some 21) rfl rfl rfl (fun dr => r_call Tryd.call90 rfl rfl H) ?_ trivial
          rintro _ h26 ⟨y92, y93, rfl, H⟩
          refine ⟨⟨trivial, trivial, trivial⟩, ?_⟩
          refine s_pu (d := some 14) (v := (.tuple #[(.agg #[(.pointer y92)]), (.agg #[(.pointer y93)])])) rfl rfl rfl (r_move rfl) ?_
          refine s_pu (d := some 22) (v := (.agg #[(.pointer y92)])) rfl rfl rfl (r_extract rfl rfl) ?_
          refine s_pu (d := some 23) (v := (.agg #[(.pointer y93)])) rfl rfl rfl (r_extract rfl rfl) ?_
          obtain ⟨p94, e95⟩ : ∃ p : Addr, p = ⟨h26.size, 0, none⟩ := ⟨_, rfl⟩
          obtain ⟨h27, e96⟩ : ∃ hh : Heap, hh = h26.push (.cells #[(.pointer none)] 70) := ⟨_, rfl⟩
          have H := H p94 h27 e95 e96
          obtain ⟨e97, H⟩ := H
          obtain ⟨e98, H⟩ := H
          refine s_ef1 (d := some 8) (v := (.pointer (some p94))) (h' := h27) rfl rfl rfl (fun dr => (r_alloc Tryd.zeroValue70).trans (by rw [e95, e96]; rfl)) ⟨(.inl ⟨rfl, fun dr => r_loadN Tryd.isAgg70 Tryd.sizeOf70 (vs := [(.pointer x53)]) rfl rfl ⟨e97, trivial⟩⟩), (.inl ⟨rfl, fun dr => r_loadN Tryd.isAgg70 Tryd.sizeOf70 (vs := [(.pointer x51)]) rfl rfl ⟨e98, trivial⟩⟩), trivial⟩ ?_ trivial
          obtain ⟨e100, H⟩ := H
          obtain ⟨h28, e99⟩ : ∃ hh : Heap, hh = hsets h27 p87 0 [(.pointer y92)] := ⟨_, rfl⟩
          have H := H h28 e99
          refine s_st (d := none) (h' := h28) rfl rfl rfl (fun dr => (r_store (v := (.agg #[(.pointer y92)])) Tryd.sizeOf70 rfl rfl rfl (one_all rfl) e100).trans (by rw [e99]; rfl)) ⟨trivial, trivial, trivial⟩ ?_ trivial
          obtain ⟨e102, H⟩ := H
          obtain ⟨h29, e101⟩ : ∃ hh : Heap, hh = hsets h28 p94 0 [(.pointer y93)] := ⟨_, rfl⟩
          have H := H h29 e101
          refine s_st (d := none) (h' := h29) rfl rfl rfl (fun dr => (r_store (v := (.agg #[(.pointer y93)])) Tryd.sizeOf70 rfl rfl rfl (one_all rfl) e102).trans (by rw [e101]; rfl)) ⟨trivial, trivial, trivial⟩ ?_ trivial
          refine s_fin ?_
          exact N_mk (l := [(4, (.pointer (some p7))), (7, (.pointer (some p87)))]) H ⟨rfl, rfl, trivial⟩
        · have H := H.2
          obtain ⟨p103, e104⟩ : ∃ p : Addr, p = ⟨h25.size, 0, none⟩ := ⟨_, rfl⟩
          obtain ⟨h30, e105⟩ : ∃ hh : Heap, hh = h25.push (.cells #[(.pointer none)] 70) := ⟨_, rfl⟩
          have H := H p103 h30 e104 e105
          obtain ⟨e106, H⟩ := H
          obtain ⟨e107, H⟩ := H
          refine s_ef1 (d := some 8) (v := (.pointer (some p103))) (h' := h30) rfl rfl rfl (fun dr => (r_alloc Tryd.zeroValue70).trans (by rw [e104, e105]; rfl)) ⟨(.inl ⟨rfl, fun dr => r_loadN Tryd.isAgg70 Tryd.sizeOf70 (vs := [(.pointer x53)]) rfl rfl ⟨e106, trivial⟩⟩), (.inl ⟨rfl, fun dr => r_loadN Tryd.isAgg70 Tryd.sizeOf70 (vs := [(.pointer x51)]) rfl rfl ⟨e107, trivial⟩⟩), trivial⟩ ?_ trivial
          refine s_ef (d := some 21) rfl rfl rfl (fun dr => r_call Tryd.call90 rfl rfl H) ?_ trivial
          rintro _ h31 ⟨y108, y109, rfl, H⟩
          refine ⟨⟨trivial, trivial, trivial⟩, ?_⟩
          refine s_pu (d := some 14) (v := (.tuple #[(.agg #[(.pointer y108)]), (.agg #[(.pointer y109)])])) rfl rfl rfl (r_move rfl) ?_
          refine s_pu (d := some 22) (v := (.agg #[(.pointer y108)])) rfl rfl rfl (r_extract rfl rfl) ?_
          refine s_pu (d := some 23) (v := (.agg #[(.pointer y109)])) rfl rfl rfl (r_extract rfl rfl) ?_
          obtain ⟨e111, H⟩ := H
          obtain ⟨h32, e110⟩ : ∃ hh : Heap, hh = hsets h31 p87 0 [(.pointer y108)] := ⟨_, rfl⟩
          have H := H h32 e110
          refine s_st (d := none) (h' := h32) rfl rfl rfl (fun dr => (r_store (v := (.agg #[(.pointer y108)])) Tryd.sizeOf70 rfl rfl rfl (one_all rfl) e111).trans (by rw [e110]; rfl)) ⟨trivial, trivial, trivial⟩ ?_ trivial
          obtain ⟨e113, H⟩ := H
          obtain ⟨h33, e112⟩ : ∃ hh : Heap, hh = hsets h32 p103 0 [(.pointer y109)] := ⟨_, rfl⟩
          have H := H h33 e112
          refine s_st (d := none) (h' := h33) rfl rfl rfl (fun dr => (r_store (v := (.agg #[(.pointer y109)])) Tryd.sizeOf70 rfl rfl rfl (one_all rfl) e113).trans (by rw [e112]; rfl)) ⟨trivial, trivial, trivial⟩ ?_ trivial
          refine s_fin ?_
          exact N_mk (l := [(4, (.pointer (some p7))), (7, (.pointer (some p87)))]) H ⟨rfl, rfl, trivial⟩
      · have H := H.2.2
        obtain ⟨p114, e115⟩ : ∃ p : Addr, p = ⟨h15.size, 0, none⟩ := ⟨_, rfl⟩
        obtain ⟨h34, e116⟩ : ∃ hh : Heap, hh = h15.push (.cells #[(.pointer none)] 70) := ⟨_, rfl⟩
        have H := H p114 h34 e115 e116
        obtain ⟨e117, H⟩ := H
        obtain ⟨e118, H⟩ := H
        refine s_ef1 (d := some 8) (v := (.pointer (some p114))) (h' := h34) rfl rfl rfl (fun dr => (r_alloc Tryd.zeroValue70).trans (by rw [e115, e116]; rfl)) ⟨(.inl ⟨rfl, fun dr => r_loadN Tryd.isAgg70 Tryd.sizeOf70 (vs := [(.pointer x53)]) rfl rfl ⟨e117, trivial⟩⟩), (.inl ⟨rfl, fun dr => r_loadN Tryd.isAgg70 Tryd.sizeOf70 (vs := [(.pointer x51)]) rfl rfl ⟨e118, trivial⟩⟩), trivial⟩ ?_ trivial
        refine s_or ?_ ?_
        · have H := H.1
          refine s_ef (d := some 21) rfl rfl rfl (fun dr => r_call Tryd.call90 rfl rfl H) ?_ trivial
          rintro _ h35 ⟨y119, y120, rfl, H⟩
          refine ⟨⟨trivial, trivial, trivial⟩, ?_⟩
          refine s_pu (d := some 14) (v := (.tuple #[(.agg #[(.pointer y119)]), (.agg #[(.pointer y120)])])) rfl rfl rfl (r_move rfl) ?_
          refine s_pu (d := some 22) (v := (.agg #[(.pointer y119)])) rfl rfl rfl (r_extract rfl rfl) ?_
          refine s_pu (d := some 23) (v := (.agg #[(.pointer y120)])) rfl rfl rfl (r_extract rfl rfl) ?_
          obtain ⟨p121, e122⟩ : ∃ p : Addr, p = ⟨h35.size, 0, none⟩ := ⟨_, rfl⟩
          obtain ⟨h36, e123⟩ : ∃ hh : Heap, hh = h35.push (.cells #[(.pointer none)] 70) := ⟨_, rfl⟩
          have H := H p121 h36 e122 e123
          obtain ⟨e124, H⟩ := H
          obtain ⟨e125, H⟩ := H
          refine s_ef1 (d := some 7) (v := (.pointer (some p121))) (h' := h36) rfl rfl rfl (fun dr => (r_alloc Tryd.zeroValue70).trans (by rw [e122, e123]; rfl)) ⟨(.inl ⟨rfl, fun dr => r_loadN Tryd.isAgg70 Tryd.sizeOf70 (vs := [(.pointer x53)]) rfl rfl ⟨e124, trivial⟩⟩), (.inl ⟨rfl, fun dr => r_loadN Tryd.isAgg70 Tryd.sizeOf70 (vs := [(.pointer x51)]) rfl rfl ⟨e125, trivial⟩⟩), trivial⟩ ?_ trivial
          obtain ⟨e127, H⟩ := H
          obtain ⟨h37, e126⟩ : ∃ hh : Heap, hh = hsets h36 p121 0 [(.pointer y119)] := ⟨_, rfl⟩
          have H := H h37 e126
          refine s_st (d := none) (h' := h37) rfl rfl rfl (fun dr => (r_store (v := (.agg #[(.pointer y119)])) Tryd.sizeOf70 rfl rfl rfl (one_all rfl) e127).trans (by rw [e126]; rfl)) ⟨trivial, trivial, trivial⟩ ?_ trivial
          obtain ⟨e129, H⟩ := H
          obtain ⟨h38, e128⟩ : ∃ hh : Heap, hh = hsets h37 p114 0 [(.pointer y120)] := ⟨_, rfl⟩
          have H := H h38 e128
          refine s_st (d := none) (h' := h38) rfl rfl rfl (fun dr => (r_store (v := (.agg #[(.pointer y120)])) Tryd.sizeOf70 rfl rfl rfl (one_all rfl) e129).trans (by rw [e128]; rfl)) ⟨trivial, trivial, trivial⟩ ?_ trivial
          refine s_fin ?_
          exact N_mk (l := [(4, (.pointer (some p7))), (7, (.pointer (some p121)))]) H ⟨rfl, rfl, trivial⟩
        · have H := H.2
          obtain ⟨p130, e131⟩ : ∃ p : Addr, p = ⟨h34.size, 0, none⟩ := ⟨_, rfl⟩
          obtain ⟨h39, e132⟩ : ∃ hh : Heap, hh = h34.push (.cells #[(.pointer none)] 70) := ⟨_, rfl⟩
          have H := H p130 h39 e131 e132
          obtain ⟨e133, H⟩ := H
          obtain ⟨e134, H⟩ := H
          refine s_ef1 (d := some 7) (v := (.pointer (some p130))) (h' := h39) rfl rfl rfl (fun dr => (r_alloc Tryd.zeroValue70).trans (by rw [e131, e132]; rfl)) ⟨(.inl ⟨rfl, fun dr => r_loadN Tryd.isAgg70 Tryd.sizeOf70 (vs := [(.pointer x53)]) rfl rfl ⟨e133, trivial⟩⟩), (.inl ⟨rfl, fun dr => r_loadN Tryd.isAgg70 Tryd.sizeOf70 (vs := [(.pointer x51)]) rfl rfl ⟨e134, trivial⟩⟩), trivial⟩ ?_ trivial
          refine s_ef (d := some 21) rfl rfl rfl (fun dr => r_call Tryd.call90 rfl rfl H) ?_ trivial
          rintro _ h40 ⟨y135, y136, rfl, H⟩
          refine ⟨⟨trivial, trivial, trivial⟩, ?_⟩
          refine s_pu (d := some 14) (v := (.tuple #[(.agg #[(.pointer y135)]), (.agg #[(.pointer y136)])])) rfl rfl rfl (r_move rfl) ?_
          refine s_pu (d := some 22) (v := (.agg #[(.pointer y135)])) rfl rfl rfl (r_extract rfl rfl) ?_
          refine s_pu (d := some 23) (v := (.agg #[(.pointer y136)])) rfl rfl rfl (r_extract rfl rfl) ?_
          obtain ⟨e138, H⟩ := H
          obtain ⟨h41, e137⟩ : ∃ hh : Heap, hh = hsets h40 p130 0 [(.pointer y135)] := ⟨_, rfl⟩
          have H := H h41 e137
          refine s_st (d := none) (h' := h41) rfl rfl rfl (fun dr => (r_store (v := (.agg #[(.pointer y135)])) Tryd.sizeOf70 rfl rfl rfl (one_all rfl) e138).trans (by rw [e137]; rfl)) ⟨trivial, trivial, trivial⟩ ?_ trivial
          obtain ⟨e140, H⟩ := H
          obtain ⟨h42, e139⟩ : ∃ hh : Heap, hh = hsets h41 p114 0 [(.pointer y136)] := ⟨_, rfl⟩
          have H := H h42 e139
          refine s_st (d := none) (h' := h42) rfl rfl rfl (fun dr => (r_store (v := (.agg #[(.pointer y136)])) Tryd.sizeOf70 rfl rfl rfl (one_all rfl) e140).trans (by rw [e139]; rfl)) ⟨trivial, trivial, trivial⟩ ?_ trivial
          refine s_fin ?_
          exact N_mk (l := [(4, (.pointer (some p7))), (7, (.pointer (some p130)))]) H ⟨rfl, rfl, trivial⟩
    refine s_or ?_ ?_
    · have H := H.2.1
      obtain ⟨p141, e142⟩ : ∃ p : Addr, p = ⟨h3.size, 0, none⟩ := ⟨_, rfl⟩
      obtain ⟨h43, e143⟩ : ∃ hh : Heap, hh = h3.push (.cells #[(.pointer none)] 70) := ⟨_, rfl⟩
      have H := H p141 h43 e142 e143
      obtain ⟨e144, H⟩ := H
      obtain ⟨e145, H⟩ := H
      refine s_ef1 (d := some 7) (v := (.pointer (some p141))) (h' := h43) rfl rfl rfl (fun dr => (r_alloc Tryd.zeroValue70).trans (by rw [e142, e143]; rfl)) ⟨(.inl ⟨rfl, fun dr => r_loadN Tryd.isAgg70 Tryd.sizeOf70 (vs := [(.pointer x53)]) rfl rfl ⟨e144, trivial⟩⟩), (.inl ⟨rfl, fun dr => r_loadN Tryd.isAgg70 Tryd.sizeOf70 (vs := [(.pointer x51)]) rfl rfl ⟨e145, trivial⟩⟩), trivial⟩ ?_ trivial
      refine s_or ?_ ?_
      · have H := H.1
        refine s_ef (d := some 20) rfl rfl rfl (fun dr => r_call Tryd.call86 rfl rfl H) ?_ trivial
        rintro _ h44 ⟨y146, rfl, H⟩
        obtain ⟨e147, H⟩ := H
        refine ⟨⟨trivial, (.inl ⟨rfl, fun dr => r_loadN Tryd.isAgg70 Tryd.sizeOf70 (vs := [(.pointer x51)]) rfl rfl ⟨e147, trivial⟩⟩), trivial⟩, ?_⟩
        refine s_or ?_ ?_
        · have H := H.1
          refine s_ef (d := some 21) rfl rfl rfl (fun dr => r_call Tryd.call90 rfl rfl H) ?_ trivial
          rintro _ h45 ⟨y148, y149, rfl, H⟩
          refine ⟨⟨trivial, trivial, trivial⟩, ?_⟩
          refine s_pu (d := some 14) (v := (.tuple #[(.agg #[(.pointer y148)]), (.agg #[(.pointer y149)])])) rfl rfl rfl (r_move rfl) ?_
          refine s_pu (d := some 22) (v := (.agg #[(.pointer y148)])) rfl rfl rfl (r_extract rfl rfl) ?_
          refine s_pu (d := some 23) (v := (.agg #[(.pointer y149)])) rfl rfl rfl (r_extract rfl rfl) ?_
          obtain ⟨p150, e151⟩ : ∃ p : Addr, p = ⟨h45.size, 0, none⟩ := ⟨_, rfl⟩
          obtain ⟨h46, e152⟩ : ∃ hh : Heap, hh = h45.push (.cells #[(.pointer none)] 70) := ⟨_, rfl⟩
          have H := H p150 h46 e151 e152
          obtain ⟨e153, H⟩ := H
          obtain ⟨e154, H⟩ := H
          refine s_ef1 (d := some 8) (v := (.pointer (some p150))) (h' := h46) rfl rfl rfl (fun dr => (r_alloc Tryd.zeroValue70).trans (by rw [e151, e152]; rfl)) ⟨(.inl ⟨rfl, fun dr => r_loadN Tryd.isAgg70 Tryd.sizeOf70 (vs := [(.pointer x53)]) rfl rfl ⟨e153, trivial⟩⟩), (.inl ⟨rfl, fun dr => r_loadN Tryd.isAgg70 Tryd.sizeOf70 (vs := [(.pointer x51)]) rfl rfl ⟨e154, trivial⟩⟩), trivial⟩ ?_ trivial
          obtain ⟨e156, H⟩ := H
          obtain ⟨h47, e155⟩ : ∃ hh : Heap, hh = hsets h46 p141 0 [(.pointer y148)] := ⟨_, rfl⟩
          have H := H h47 e155
          refine s_st (d := none) (h' := h47) rfl rfl rfl (fun dr => (r_store (v := (.agg #[(.pointer y148)])) Tryd.sizeOf70 rfl rfl rfl (one_all rfl) e156).trans (by rw [e155]; rfl)) ⟨trivial, trivial, trivial⟩ ?_ trivial
          obtain ⟨e158, H⟩ := H
          obtain ⟨h48, e157⟩ : ∃ hh : Heap, hh = hsets h47 p150 0 [(.pointer y149)] := ⟨_, rfl⟩
          have H := H h48 e157
          refine s_st (d := none) (h' := h48) rfl rfl rfl (fun dr => (r_store (v := (.agg #[(.pointer y149)])) Tryd.sizeOf70 rfl rfl rfl (one_all rfl) e158).trans (by rw [e157]; rfl)) ⟨trivial, trivial, trivial⟩ ?_ trivial
          refine s_fin ?_
          exact N_mk (l := [(4, (.pointer (some p7))), (7, (.pointer (some p141)))]) H ⟨rfl, rfl, trivial⟩
        · have H := H.2
          obtain ⟨p159, e160⟩ : ∃ p : Addr, p = ⟨h44.size, 0, none⟩ := ⟨_, rfl⟩
          obtain ⟨h49, e161⟩ : ∃ hh : Heap, hh = h44.push (.cells #[(.pointer none)] 70) := ⟨_, rfl⟩
          have H := H p159 h49 e160 e161
          obtain ⟨e162, H⟩ := H
          obtain ⟨e163, H⟩ := H
          refine s_ef1 (d := some 8) (v := (.pointer (some p159))) (h' := h49) rfl rfl rfl (fun dr => (r_alloc Tryd.zeroValue70).trans (by rw [e160, e161]; rfl)) ⟨(.inl ⟨rfl, fun dr => r_loadN Tryd.isAgg70 Tryd.sizeOf70 (vs := [(.pointer x53)]) rfl rfl ⟨e162, trivial⟩⟩), (.inl ⟨rfl, fun dr => r_loadN Tryd.isAgg70 Tryd.sizeOf70 (vs := [(.pointer x51)]) rfl rfl ⟨e163, trivial⟩⟩), trivial⟩ ?_ trivial
          refine s_ef (d := some 21) rfl rfl rfl (fun dr => r_call Tryd.call90 rfl rfl H) ?_ trivial
          rintro _ h50 ⟨y164, y165, rfl, H⟩
          refine ⟨⟨trivial, trivial, trivial⟩, ?_⟩
          refine s_pu (d := some 14) (v := (.tuple #[(.agg #[(.pointer y164)]), (.agg #[(.pointer y165)])])) rfl rfl rfl (r_move rfl) ?_
          refine s_pu (d := some 22) (v := (.agg #[(.pointer y164)])) rfl rfl rfl (r_extract rfl rfl) ?_
          refine s_pu (d := some 23) (v := (.agg #[(.pointer y165)])) rfl rfl rfl (r_extract rfl rfl) ?_
          obtain ⟨e167, H⟩ := H
          obtain ⟨h51, e166⟩ : ∃ hh : Heap, hh = hsets h50 p141 0 [(.pointer y164)] := ⟨_, rfl⟩
          have H := H h51 e166
          refine s_st (d := none) (h' := h51) rfl rfl rfl (fun dr => (r_store (v := (.agg #[(.pointer y164)])) Tryd.sizeOf70 rfl rfl rfl (one_all rfl) e167).trans (by rw [e166]; rfl)) ⟨trivial, trivial, trivial⟩ ?_ trivial
          obtain ⟨e169, H⟩ := H
          obtain ⟨h52, e168⟩ : ∃ hh : Heap, hh = hsets h51 p159 0 [(.pointer y165)] := ⟨_, rfl⟩
          have H := H h52 e168
          refine s_st (d := none) (h' := h52) rfl rfl rfl (fun dr => (r_store (v := (.agg #[(.pointer y165)])) Tryd.sizeOf70 rfl rfl rfl (one_all rfl) e169).trans (by rw [e168]; rfl)) ⟨trivial, trivial, trivial⟩ ?_ trivial
          refine s_fin ?_
          exact N_mk (l := [(4, (.pointer (some p7))), (7, (.pointer (some p141)))]) H ⟨rfl, rfl, trivial⟩
      · have H := H.2
        obtain ⟨p170, e171⟩ : ∃ p : Addr, p = ⟨h43.size, 0, none⟩ := ⟨_, rfl⟩
        obtain ⟨h53, e172⟩ : ∃ hh : Heap, hh = h43.push (.cells #[(.pointer none)] 70) := ⟨_, rfl⟩
        have H := H p170 h53 e171 e172
        obtain ⟨e173, H⟩ := H
        obtain ⟨e174, H⟩ := H
        refine s_ef1 (d := some 8) (v := (.pointer (some p170))) (h' := h53) rfl rfl rfl (fun dr => (r_alloc Tryd.zeroValue70).trans (by rw [e171, e172]; rfl)) ⟨(.inl ⟨rfl, fun dr => r_loadN Tryd.isAgg70 Tryd.sizeOf70 (vs := [(.pointer x53)]) rfl rfl ⟨e173, trivial⟩⟩), (.inl ⟨rfl, fun dr => r_loadN Tryd.isAgg70 Tryd.sizeOf70 (vs := [(.pointer x51)]) rfl rfl ⟨e174, trivial⟩⟩), trivial⟩ ?_ trivial
        refine s_ef (d := some 20) rfl rfl rfl (fun dr => r_call Tryd.call86 rfl rfl H) ?_ trivial
        rintro _ h54 ⟨y175, rfl, H⟩
        obtain ⟨e176, H⟩ := H
        refine ⟨⟨trivial, (.inl ⟨rfl, fun dr => r_loadN Tryd.isAgg70 Tryd.sizeOf70 (vs := [(.pointer x51)]) rfl rfl ⟨e176, trivial⟩⟩), trivial⟩, ?_⟩
        refine s_ef (d := some 21) rfl rfl rfl (fun dr => r_call Tryd.call90 rfl rfl H) ?_ trivial
        rintro _ h55 ⟨y177, y178, rfl, H⟩
        refine ⟨⟨trivial, trivial, trivial⟩, ?_⟩
        refine s_pu (d := some 14) (v := (.tuple #[(.agg #[(.pointer y177)]), (.agg #[(.pointer y178)])])) rfl rfl rfl (r_move rfl) ?_
        refine s_pu (d := some 22) (v := (.agg #[(.pointer y177)])) rfl rfl rfl (r_extract rfl rfl) ?_
        refine s_pu (d := some 23) (v := (.agg #[(.pointer y178)])) rfl rfl rfl (r_extract rfl rfl) ?_
        obtain ⟨e180, H⟩ := H
        obtain ⟨h56, e179⟩ : ∃ hh : Heap, hh = hsets h55 p141 0 [(.pointer y177)] := ⟨_, rfl⟩
        have H := H h56 e179
        refine s_st (d := none) (h' := h56) rfl rfl rfl (fun dr => (r_store (v := (.agg #[(.pointer y177)])) Tryd.sizeOf70 rfl rfl rfl (one_all rfl) e180).trans (by rw [e179]; rfl)) ⟨trivial, trivial, trivial⟩ ?_ trivial
        obtain ⟨e182, H⟩ := H
        obtain ⟨h57, e181⟩ : ∃ hh : Heap, hh = hsets h56 p170 0 [(.pointer y178)] := ⟨_, rfl⟩
        have H := H h57 e181
        refine s_st (d := none) (h' := h57) rfl rfl rfl (fun dr => (r_store (v := (.agg #[(.pointer y178)])) Tryd.sizeOf70 rfl rfl rfl (one_all rfl) e182).trans (by rw [e181]; rfl)) ⟨trivial, trivial, trivial⟩ ?_ trivial
        refine s_fin ?_
        exact N_mk (l := [(4, (.pointer (some p7))), (7, (.pointer (some p141)))]) H ⟨rfl, rfl, trivial⟩
    · have H := H.2.2
      obtain ⟨p183, e184⟩ : ∃ p : Addr, p = ⟨h3.size, 0, none⟩ := ⟨_, rfl⟩
      obtain ⟨h58, e185⟩ : ∃ hh : Heap, hh = h3.push (.cells #[(.pointer none)] 70) := ⟨_, rfl⟩
      have H := H p183 h58 e184 e185
      obtain ⟨e186, H⟩ := H
      obtain ⟨e187, H⟩ := H
      refine s_ef1 (d := some 8) (v := (.pointer (some p183))) (h' := h58) rfl rfl rfl (fun dr => (r_alloc Tryd.zeroValue70).trans (by rw [e184, e185]; rfl)) ⟨(.inl ⟨rfl, fun dr => r_loadN Tryd.isAgg70 Tryd.sizeOf70 (vs := [(.pointer x53)]) rfl rfl ⟨e186, trivial⟩⟩), (.inl ⟨rfl, fun dr => r_loadN Tryd.isAgg70 Tryd.sizeOf70 (vs := [(.pointer x51)]) rfl rfl ⟨e187, trivial⟩⟩), trivial⟩ ?_ trivial
      refine s_or ?_ ?_
      · have H := H.1
        refine s_ef (d := some 20) rfl rfl rfl (fun dr => r_call Tryd.call86 rfl rfl H) ?_ trivial
        rintro _ h59 ⟨y188, rfl, H⟩
        obtain ⟨e189, H⟩ := H
        refine ⟨⟨trivial, (.inl ⟨rfl, fun dr => r_loadN Tryd.isAgg70 Tryd.sizeOf70 (vs := [(.pointer x51)]) rfl rfl ⟨e189, trivial⟩⟩), trivial⟩, ?_⟩
        refine s_or ?_ ?_
        · have H := H.1
          refine s_ef (d := some 21) rfl rfl rfl (fun dr => r_call Tryd.call90 rfl rfl H) ?_ trivial
          rintro _ h60 ⟨y190, y191, rfl, H⟩
          refine ⟨⟨trivial, trivial, trivial⟩, ?_⟩
          refine s_pu (d := some 14) (v := (.tuple #[(.agg #[(.pointer y190)]), (.agg #[(.pointer y191)])])) rfl rfl rfl (r_move rfl) ?_
          refine s_pu (d := some 22) (v := (.agg #[(.pointer y190)])) rfl rfl rfl (r_extract rfl rfl) ?_
          refine s_pu (d := some 23) (v := (.agg #[(.pointer y191)])) rfl rfl rfl (r_extract rfl rfl) ?_
          obtain ⟨p192, e193⟩ : ∃ p : Addr, p = ⟨h60.size, 0, none⟩ := ⟨_, rfl⟩
          obtain ⟨h61, e194⟩ : ∃ hh : Heap, hh = h60.push (.cells #[(.pointer none)] 70) := ⟨_, rfl⟩
          have H := H p192 h61 e193 e194
          obtain ⟨e195, H⟩ := H
          obtain ⟨e196, H⟩ := H
          refine s_ef1 (d := some 7) (v := (.pointer (some p192))) (h' := h61) rfl rfl rfl (fun dr => (r_alloc Tryd.zeroValue70).trans (by rw [e193, e194]; rfl)) ⟨(.inl ⟨rfl, fun dr => r_loadN Tryd.isAgg70 Tryd.sizeOf70 (vs := [(.pointer x53)]) rfl rfl ⟨e195, trivial⟩⟩), (.inl ⟨rfl, fun dr => r_loadN Tryd.isAgg70 Tryd.sizeOf70 (vs := [(.pointer x51)]) rfl rfl ⟨e196, trivial⟩⟩), trivial⟩ ?_ trivial
          obtain ⟨e198, H⟩ := H
          obtain ⟨h62, e197⟩ : ∃ hh : Heap, hh = hsets h61 p192 0 [(.pointer y190)] := ⟨_, rfl⟩
          have H := H h62 e197
          refine s_st (d := none) (h' := h62) rfl rfl rfl (fun dr => (r_store (v := (.agg #[(.pointer y190)])) Tryd.sizeOf70 rfl rfl rfl (one_all rfl) e198).trans (by rw [e197]; rfl)) ⟨trivial, trivial, trivial⟩ ?_ trivial
          obtain ⟨e200, H⟩ := H
          obtain ⟨h63, e199⟩ : ∃ hh : Heap, hh = hsets h62 p183 0 [(.pointer y191)] := ⟨_, rfl⟩
          have H := H h63 e199
          refine s_st (d := none) (h' := h63) rfl rfl rfl (fun dr => (r_store (v := (.agg #[(.pointer y191)])) Tryd.sizeOf70 rfl rfl rfl (one_all rfl) e200).trans (by rw [e199]; rfl)) ⟨trivial, trivial, trivial⟩ ?_ trivial
          refine s_fin ?_
          exact N_mk (l := [(4, (.pointer (some p7))), (7, (.pointer (some p192)))]) H ⟨rfl, rfl, trivial⟩
        · have H := H.2
          obtain ⟨p201, e202⟩ : ∃ p : Addr, p = ⟨h59.size, 0, none⟩ := ⟨_, rfl⟩
          obtain ⟨h64, e203⟩ : ∃ hh : Heap, hh = h59.push (.cells #[(.pointer none)] 70) := ⟨_, rfl⟩
          have H := H p201 h64 e202 e203
          obtain ⟨e204, H⟩ := H
          obtain ⟨e205, H⟩ := H
          refine s_ef1 (d := some 7) (v := (.pointer (some p201))) (h' := h64) rfl rfl rfl (fun dr => (r_alloc Tryd.zeroValue70).trans (by rw [e202, e203]; rfl)) ⟨(.inl ⟨rfl, fun dr => r_loadN Tryd.isAgg70 Tryd.sizeOf70 (vs := [(.pointer x53)]) rfl rfl ⟨e204, trivial⟩⟩), (.inl ⟨rfl, fun dr => r_loadN Tryd.isAgg70 Tryd.sizeOf70 (vs := [(.pointer x51)]) rfl rfl ⟨e205, trivial⟩⟩), trivial⟩ ?_ trivial
          refine s_ef (d := some 21) rfl rfl rfl (fun dr => r_call Tryd.call90 rfl rfl H) ?_ trivial
          rintro _ h65 ⟨y206, y207, rfl, H⟩
          refine ⟨⟨trivial, trivial, trivial⟩, ?_⟩
          refine s_pu (d := some 14) (v := (.tuple #[(.agg #[(.pointer y206)]), (.agg #[(.pointer y207)])])) rfl rfl rfl (r_move rfl) ?_
          refine s_pu (d := some 22) (v := (.agg #[(.pointer y206)])) rfl rfl rfl (r_extract rfl rfl) ?_
          refine s_pu (d := some 23) (v := (.agg #[(.pointer y207)])) rfl rfl rfl (r_extract rfl rfl) ?_
          obtain ⟨e209, H⟩ := H
          obtain ⟨h66, e208⟩ : ∃ hh : Heap, hh = hsets h65 p201 0 [(.pointer y206)] := ⟨_, rfl⟩
          have H := H h66 e208
          refine s_st (d := none) (h' := h66) rfl rfl rfl (fun dr => (r_store (v := (.agg #[(.pointer y206)])) Tryd.sizeOf70 rfl rfl rfl (one_all rfl) e209).trans (by rw [e208]; rfl)) ⟨trivial, trivial, trivial⟩ ?_ trivial
          obtain ⟨e211, H⟩ := H
          obtain ⟨h67, e210⟩ : ∃ hh : Heap, hh = hsets h66 p183 0 [(.pointer y207)] := ⟨_, rfl⟩
          have H := H h67 e210
          refine s_st (d := none) (h' := h67) rfl rfl rfl (fun dr => (r_store (v := (.agg #[(.pointer y207)])) Tryd.sizeOf70 rfl rfl rfl (one_all rfl) e211).trans (by rw [e210]; rfl)) ⟨trivial, trivial, trivial⟩ ?_ trivial
          refine s_fin ?_
          exact N_mk (l := [(4, (.pointer (some p7))), (7, (.pointer (some p201)))]) H ⟨rfl, rfl, trivial⟩
      · have H := H.2
        obtain ⟨p212, e213⟩ : ∃ p : Addr, p = ⟨h58.size, 0, none⟩ := ⟨_, rfl⟩
        obtain ⟨h68, e214⟩ : ∃ hh : Heap, hh = h58.push (.cells #[(.pointer none)] 70) := ⟨_, rfl⟩
        have H := H p212 h68 e213 e214
        obtain ⟨e215, H⟩ := H
        obtain ⟨e216, H⟩ := H
        refine s_ef1 (d := some 7) (v := (.pointer (some p212))) (h' := h68) rfl rfl rfl (fun dr => (r_alloc Tryd.zeroValue70).trans (by rw [e213, e214]; rfl)) ⟨(.inl ⟨rfl, fun dr => r_loadN Tryd.isAgg70 Tryd.sizeOf70 (vs := [(.pointer x53)]) rfl rfl ⟨e215, trivial⟩⟩), (.inl ⟨rfl, fun dr => r_loadN Tryd.isAgg70 Tryd.sizeOf70 (vs := [(.pointer x51)]) rfl rfl ⟨e216, trivial⟩⟩), trivial⟩ ?_ trivial
        refine s_ef (d := some 20) rfl rfl rfl (fun dr => r_call Tryd.call86 rfl rfl H) ?_ trivial
        rintro _ h69 ⟨y217, rfl, H⟩
        obtain ⟨e218, H⟩ := H
        refine ⟨⟨trivial, (.inl ⟨rfl, fun dr => r_loadN Tryd.isAgg70 Tryd.sizeOf70 (vs := [(.pointer x51)]) rfl rfl ⟨e218, trivial⟩⟩), trivial⟩, ?_⟩
        refine s_ef (d := some 21) rfl rfl rfl (fun dr => r_call Tryd.call90 rfl rfl H) ?_ trivial
        rintro _ h70 ⟨y219, y220, rfl, H⟩
        refine ⟨⟨trivial, trivial, trivial⟩, ?_⟩
        refine s_pu (d := some 14) (v := (.tuple #[(.agg #[(.pointer y219)]), (.agg #[(.pointer y220)])])) rfl rfl rfl (r_move rfl) ?_
        refine s_pu (d := some 22) (v := (.agg #[(.pointer y219)])) rfl rfl rfl (r_extract rfl rfl) ?_
        refine s_pu (d := some 23) (v := (.agg #[(.pointer y220)])) rfl rfl rfl (r_extract rfl rfl) ?_
        obtain ⟨e222, H⟩ := H
        obtain ⟨h71, e221⟩ : ∃ hh : Heap, hh = hsets h70 p212 0 [(.pointer y219)] := ⟨_, rfl⟩
        have H := H h71 e221
        refine s_st (d := none) (h' := h71) rfl rfl rfl (fun dr => (r_store (v := (.agg #[(.pointer y219)])) Tryd.sizeOf70 rfl rfl rfl (one_all rfl) e222).trans (by rw [e221]; rfl)) ⟨trivial, trivial, trivial⟩ ?_ trivial
        obtain ⟨e224, H⟩ := H
        obtain ⟨h72, e223⟩ : ∃ hh : Heap, hh = hsets h71 p183 0 [(.pointer y220)] := ⟨_, rfl⟩
        have H := H h72 e223
        refine s_st (d := none) (h' := h72) rfl rfl rfl (fun dr => (r_store (v := (.agg #[(.pointer y220)])) Tryd.sizeOf70 rfl rfl rfl (one_all rfl) e224).trans (by rw [e223]; rfl)) ⟨trivial, trivial, trivial⟩ ?_ trivial
        refine s_fin ?_
        exact N_mk (l := [(4, (.pointer (some p7))), (7, (.pointer (some p212)))]) H ⟨rfl, rfl, trivial⟩

/-! ### ival_Map_Over_1 -/

def ival_Map_Over_1_F (r : World) (vr1 : Bool) (vr2 : Int) (vr3 : Int) (c4 : Addr) (h : Heap) (R : Bool → Heap → Prop) : Prop :=
  New h (.cells #[(.bool vr1), (.int .i64 vr2), (.int .i64 vr3)] 124) fun p5 h1 =>
  ∀ J9 : Bool → Prop, (∀ (x8 : Bool),
    (R x8 h1) →
    J9 x8) →
  LdB h1 (Addr.add p5 0) fun x11 =>
  Br x11 (
    LdI h1 (Addr.add p5 1) fun x14 =>
    LdI h1 c4 fun x16 =>
    J9 (decide (x16 < x14))) (
    J9 false)

set_option maxRecDepth 100000 in
theorem ival_Map_Over_1_of {r : World} {vr1 : Bool} {vr2 : Int} {vr3 : Int} {c4 : Addr} {h : Heap} {R : Bool → Heap → Prop} (H : ival_Map_Over_1_F r vr1 vr2 vr3 c4 h R) : ival_Map_Over_1 r vr1 vr2 vr3 c4 h R := by
  unfold ival_Map_Over_1_F at H
  refine calls_of 12 [.tmp 3] Tryd.func91 rfl rfl rfl rfl rfl ?_
  refine W_seq ?_
  refine W_region (.ef 0 [] (.pu 1 .fin) .no) rfl rfl ?_
  obtain ⟨p5, e6⟩ : ∃ p : Addr, p = ⟨h.size, 0, none⟩ := ⟨_, rfl⟩
  obtain ⟨h1, e7⟩ : ∃ hh : Heap, hh = h.push (.cells #[(.bool vr1), (.int .i64 vr2), (.int .i64 vr3)] 124) := ⟨_, rfl⟩
  have H := H p5 h1 e6 e7
  refine s_ef1 (d := some 2) (v := (.pointer (some p5))) (h' := h1) rfl rfl rfl (fun dr => (r_box (v := (.agg #[(.bool vr1), (.int .i64 vr2), (.int .i64 vr3)])) rfl).trans (by rw [e6, e7]; rfl)) trivial ?_ trivial
  refine s_pu (d := some 3) (v := (.bool false)) rfl rfl rfl (r_assign rfl) ?_
  refine s_fin ?_
  show W _ _ _ _ _ _ _ _
  refine W_seq ?_
  refine W_set ?_
  intro N10 eN10
  have H := H (fun (x8 : Bool) => ∀ b, N10 [] (mkE [(3, (.bool x8))] b) h1) (by
    intro x8 H b
    rw [eN10]
    show W _ _ _ _ _ _ _ _
    refine W_ret ?_
    exact ⟨[(.bool x8)], ⟨_, _, rfl, rfl, rfl⟩, x8, rfl, H⟩)
  clear eN10
  refine W_region (.pu 0 (.rl 1 (.pu 2 (.pu 3 (.rl 4 (.rl 5 (.pu 6 (.pu 7 (.pu 8 .fin))))))))) rfl rfl ?_
  refine s_pu (d := some 4) (v := (.pointer (some (Addr.add p5 0)))) rfl rfl rfl (r_fieldAddr Tryd.underlying124 Tryd.sizeOf4 rfl rfl rfl) ?_
  obtain ⟨x11, e12, H⟩ := H
  refine s_rl (d := some 5) (v := (.bool x11)) rfl rfl rfl (fun dr => r_load1 Tryd.isAgg4 rfl e12) ?_
  refine s_pu (d := some 6) (v := (.bool x11)) rfl rfl rfl (r_move rfl) ?_
  rcases Bool.eq_false_or_eq_true x11 with g13 | g13
  · have H := H.1 g13
    refine s_pu (d := some 7) (v := (.pointer (some (Addr.add p5 1)))) rfl rfl (wants_yes rfl rfl rfl rfl g13) (r_fieldAddr Tryd.underlying124 Tryd.sizeOf3 rfl rfl rfl) ?_
    obtain ⟨x14, e15, H⟩ := H
    refine s_rl (d := some 8) (v := (.int .i64 x14)) rfl rfl (wants_yes rfl rfl rfl rfl g13) (fun dr => r_load1 Tryd.isAgg3 rfl e15) ?_
    obtain ⟨x16, e17, H⟩ := H
    refine s_rl (d := some 9) (v := (.int .i64 x16)) rfl rfl (wants_yes rfl rfl rfl rfl g13) (fun dr => r_load1 Tryd.isAgg3 rfl e17) ?_
    refine s_pu (d := some 10) (v := (.bool (decide (x16 < x14)))) rfl rfl (wants_yes rfl rfl rfl rfl g13) (r_gtr rfl rfl) ?_
    refine s_pu (d := some 11) (v := (.bool (decide (x16 < x14)))) rfl rfl rfl (r_pick1 rfl g13 rfl) ?_
    refine s_pu (d := some 3) (v := (.bool (decide (x16 < x14)))) rfl rfl rfl (r_assign rfl) ?_
    refine s_fin ?_
    exact N_mk (l := [(3, (.bool (decide (x16 < x14))))]) H ⟨rfl, trivial⟩
  · have H := H.2 g13
    refine s_sk (d := some 7) rfl rfl (wants_no rfl rfl rfl rfl g13) ?_
    refine s_skl (d := some 8) rfl rfl (wants_no rfl rfl rfl rfl g13) ?_
    refine s_skl (d := some 9) rfl rfl (wants_no rfl rfl rfl rfl g13) ?_
    refine s_sk (d := some 10) rfl rfl (wants_no rfl rfl rfl rfl g13) ?_
    refine s_pu (d := some 11) (v := (.bool false)) rfl rfl rfl (r_pick0 rfl g13 rfl) ?_
    refine s_pu (d := some 3) (v := (.bool false)) rfl rfl rfl (r_assign rfl) ?_
    refine s_fin ?_
    exact N_mk (l := [(3, (.bool false))]) H ⟨rfl, trivial⟩

/-! ### ival_Map_Over_2 -/

def ival_Map_Over_2_F (r : World) (vr1 : Bool) (vr2 : Int) (vr3 : Int) (c4 : Addr) (h : Heap) (R : Bool → Heap → Prop) : Prop :=
  New h (.cells #[(.bool vr1), (.int .i64 vr2), (.int .i64 vr3)] 124) fun p5 h1 =>
  ∀ J9 : Bool → Prop, (∀ (x8 : Bool),
    (R x8 h1) →
    J9 x8) →
  LdB h1 (Addr.add p5 0) fun x11 =>
  Br x11 (
    LdI h1 (Addr.add p5 2) fun x14 =>
    LdI h1 c4 fun x16 =>
    J9 (decide (x16 ≤ x14))) (
    J9 false)

set_option maxRecDepth 100000 in
theorem ival_Map_Over_2_of {r : World} {vr1 : Bool} {vr2 : Int} {vr3 : Int} {c4 : Addr} {h : Heap} {R : Bool → Heap → Prop} (H : ival_Map_Over_2_F r vr1 vr2 vr3 c4 h R) : ival_Map_Over_2 r vr1 vr2 vr3 c4 h R := by
  unfold ival_Map_Over_2_F at H
  refine calls_of 12 [.tmp 3] Tryd.func93 rfl rfl rfl rfl rfl ?_
  refine W_seq ?_
  refine W_region (.ef 0 [] (.pu 1 .fin) .no) rfl rfl ?_
  obtain ⟨p5, e6⟩ : ∃ p : Addr, p = ⟨h.size, 0, none⟩ := ⟨_, rfl⟩
  obtain ⟨h1, e7⟩ : ∃ hh : Heap, hh = h.push (.cells #[(.bool vr1), (.int .i64 vr2), (.int .i64 vr3)] 124) := ⟨_, rfl⟩
  have H := H p5 h1 e6 e7
  refine s_ef1 (d := some 2) (v := (.pointer (some p5))) (h' := h1) rfl rfl rfl (fun dr => (r_box (v := (.agg #[(.bool vr1), (.int .i64 vr2), (.int .i64 vr3)])) rfl).trans (by rw [e6, e7]; rfl)) trivial ?_ trivial
  refine s_pu (d := some 3) (v := (.bool false)) rfl rfl rfl (r_assign rfl) ?_
  refine s_fin ?_
  show W _ _ _ _ _ _ _ _
  refine W_seq ?_
  refine W_set ?_
  intro N10 eN10
  have H := H (fun (x8 : Bool) => ∀ b, N10 [] (mkE [(3, (.bool x8))] b) h1) (by
    intro x8 H b
    rw [eN10]
    show W _ _ _ _ _ _ _ _
    refine W_ret ?_
    exact ⟨[(.bool x8)], ⟨_, _, rfl, rfl, rfl⟩, x8, rfl, H⟩)
  clear eN10
  refine W_region (.pu 0 (.rl 1 (.pu 2 (.pu 3 (.rl 4 (.rl 5 (.pu 6 (.pu 7 (.pu 8 .fin))))))))) rfl rfl ?_
  refine s_pu (d := some 4) (v := (.pointer (some (Addr.add p5 0)))) rfl rfl rfl (r_fieldAddr Tryd.underlying124 Tryd.sizeOf4 rfl rfl rfl) ?_
  obtain ⟨x11, e12, H⟩ := H
  refine s_rl (d := some 5) (v := (.bool x11)) rfl rfl rfl (fun dr => r_load1 Tryd.isAgg4 rfl e12) ?_
  refine s_pu (d := some 6) (v := (.bool x11)) rfl rfl rfl (r_move rfl) ?_
  rcases Bool.eq_false_or_eq_true x11 with g13 | g13
  · have H := H.1 g13
    refine s_pu (d := some 7) (v := (.pointer (some (Addr.add p5 2)))) rfl rfl (wants_yes rfl rfl rfl rfl g13) (r_fieldAddr Tryd.underlying124 Tryd.sizeOf3 rfl rfl rfl) ?_
    obtain ⟨x14, e15, H⟩ := H
    refine s_rl (d := some 8) (v := (.int .i64 x14)) rfl rfl (wants_yes rfl rfl rfl rfl g13) (fun dr => r_load1 Tryd.isAgg3 rfl e15) ?_
    obtain ⟨x16, e17, H⟩ := H
    refine s_rl (d := some 9) (v := (.int .i64 x16)) rfl rfl (wants_yes rfl rfl rfl rfl g13) (fun dr => r_load1 Tryd.isAgg3 rfl e17) ?_
    refine s_pu (d := some 10) (v := (.bool (decide (x16 ≤ x14)))) rfl rfl (wants_yes rfl rfl rfl rfl g13) (r_geq rfl rfl) ?_
    refine s_pu (d := some 11) (v := (.bool (decide (x16 ≤ x14)))) rfl rfl rfl (r_pick1 rfl g13 rfl) ?_
    refine s_pu (d := some 3) (v := (.bool (decide (x16 ≤ x14)))) rfl rfl rfl (r_assign rfl) ?_
    refine s_fin ?_
    exact N_mk (l := [(3, (.bool (decide (x16 ≤ x14))))]) H ⟨rfl, trivial⟩
  · have H := H.2 g13
    refine s_sk (d := some 7) rfl rfl (wants_no rfl rfl rfl rfl g13) ?_
    refine s_skl (d := some 8) rfl rfl (wants_no rfl rfl rfl rfl g13) ?_
    refine s_skl (d := some 9) rfl rfl (wants_no rfl rfl rfl rfl g13) ?_
    refine s_sk (d := some 10) rfl rfl (wants_no rfl rfl rfl rfl g13) ?_
    refine s_pu (d := some 11) (v := (.bool false)) rfl rfl rfl (r_pick0 rfl g13 rfl) ?_
    refine s_pu (d := some 3) (v := (.bool false)) rfl rfl rfl (r_assign rfl) ?_
    refine s_fin ?_
    exact N_mk (l := [(3, (.bool false))]) H ⟨rfl, trivial⟩

/-! ### ival_Map_Any -/

def ival_Map_Any_F (r : World) (m1 : Option Addr) (x2 : Int) (h : Heap) (R : Int → Int → Int → Bool → Heap → Prop) : Prop :=
  New h (.cells #[(.pointer m1)] 72) fun p3 h1 =>
  New h1 (.cells #[(.int .i64 0), (.int .i64 0), (.int .i64 0)] 74) fun p6 h2 =>
  LdP h2 (Addr.add p3 0) fun x9 =>
  ival_Map_Over r x9 x2 x2 h2 fun y11 h3 =>
  Br (decide (((y11.len : Int)) = 0)) (
    St h3 p6 3 [(.int .i64 0), (.int .i64 0), (.int .i64 0)] fun h4 =>
    LdI h4 (Addr.add p6 0) fun x14 =>
    LdI h4 (Addr.add p6 1) fun x16 =>
    LdI h4 (Addr.add p6 2) fun x18 =>
    R x14 x16 x18 false h4) (
    Ix y11 0 3 fun q24 =>
    LdI h3 (Addr.add q24 0) fun x26 =>
    LdI h3 (Addr.add q24 1) fun x28 =>
    LdI h3 (Addr.add q24 2) fun x30 =>
    St h3 p6 3 [(.int .i64 x26), (.int .i64 x28), (.int .i64 x30)] fun h5 =>
    LdI h5 (Addr.add p6 0) fun x34 =>
    LdI h5 (Addr.add p6 1) fun x36 =>
    LdI h5 (Addr.add p6 2) fun x38 =>
    R x34 x36 x38 true h5)

set_option maxRecDepth 100000 in
theorem ival_Map_Any_of {r : World} {m1 : Option Addr} {x2 : Int} {h : Heap} {R : Int → Int → Int → Bool → Heap → Prop} (H : ival_Map_Any_F r m1 x2 h R) : ival_Map_Any r m1 x2 h R := by
  unfold ival_Map_Any_F at H
  refine calls_of 18 [.cell 4 74, .tmp 5] Tryd.func55 rfl rfl rfl rfl rfl ?_
  refine W_seq ?_
  refine W_region (.ef 0 [] (.ef 1 [] (.pu 2 .fin) .no) .no) rfl rfl ?_
  obtain ⟨p3, e4⟩ : ∃ p : Addr, p = ⟨h.size, 0, none⟩ := ⟨_, rfl⟩
  obtain ⟨h1, e5⟩ : ∃ hh : Heap, hh = h.push (.cells #[(.pointer m1)] 72) := ⟨_, rfl⟩
  have H := H p3 h1 e4 e5
  refine s_ef1 (d := some 2) (v := (.pointer (some p3))) (h' := h1) rfl rfl rfl (fun dr => (r_box (v := (.agg #[(.pointer m1)])) rfl).trans (by rw [e4, e5]; rfl)) trivial ?_ trivial
  obtain ⟨p6, e7⟩ : ∃ p : Addr, p = ⟨h1.size, 0, none⟩ := ⟨_, rfl⟩
  obtain ⟨h2, e8⟩ : ∃ hh : Heap, hh = h1.push (.cells #[(.int .i64 0), (.int .i64 0), (.int .i64 0)] 74) := ⟨_, rfl⟩
  have H := H p6 h2 e7 e8
  refine s_ef1 (d := some 4) (v := (.pointer (some p6))) (h' := h2) rfl rfl rfl (fun dr => (r_alloc Tryd.zeroValue74).trans (by rw [e7, e8]; rfl)) trivial ?_ trivial
  refine s_pu (d := some 5) (v := (.bool false)) rfl rfl rfl (r_assign rfl) ?_
  refine s_fin ?_
  show W _ _ _ _ _ _ _ _
  refine W_seq ?_
  refine W_region (.rl 0 (.pu 1 (.pu 2 (.ef 3 [] (.pu 4 .fin) .no)))) rfl rfl ?_
  obtain ⟨x9, e10, H⟩ := H
  refine s_rl (d := some 7) (v := (.agg #[(.pointer x9)])) rfl rfl rfl (fun dr => r_loadN Tryd.isAgg72 Tryd.sizeOf72 (vs := [(.pointer x9)]) rfl rfl ⟨e10, trivial⟩) ?_
  refine s_pu (d := some 8) (v := (.int .i64 x2)) rfl rfl rfl (r_move rfl) ?_
  refine s_pu (d := some 9) (v := (.int .i64 x2)) rfl rfl rfl (r_move rfl) ?_
  refine s_ef (d := some 10) rfl rfl rfl (fun dr => r_call Tryd.call54 rfl rfl H) ?_ trivial
  rintro _ h3 ⟨y11, rfl, H⟩
  refine ⟨trivial, ?_⟩
  refine s_pu (d := some 6) (v := (Sl.v y11)) rfl rfl rfl (r_assign rfl) ?_
  refine s_fin ?_
  show W _ _ _ _ _ _ _ _
  refine W_seq ?_
  refine W_seq ?_
  refine W_region (.pu 0 (.pu 1 (.pu 2 .fin))) rfl rfl ?_
  refine s_pu (d := some 11) (v := (Sl.v y11)) rfl rfl rfl (r_move rfl) ?_
  refine s_pu (d := some 12) (v := (.int .i64 ((y11.len : Int)))) rfl rfl rfl (r_len Tryd.underlying67 rfl) ?_
  refine s_pu (d := some 13) (v := (.bool (decide (((y11.len : Int)) = 0)))) rfl rfl rfl (r_eql rfl rfl) ?_
  refine s_fin ?_
  show W _ _ _ _ _ _ _ _
  refine W_if (decide (((y11.len : Int)) = 0)) rfl (fun g40 => ?_) (fun g40 => ?_)
  · have H := H.1 g40
    refine W_seq ?_
    refine W_region (.pu 0 (.ef 1 [] (.pu 2 .fin) .no)) rfl rfl ?_
    refine s_pu (d := some 14) (v := (.agg #[(.int .i64 0), (.int .i64 0), (.int .i64 0)])) rfl rfl rfl (fun w => by kernel_rfl) ?_
    obtain ⟨e13, H⟩ := H
    obtain ⟨h4, e12⟩ : ∃ hh : Heap, hh = hsets h3 p6 0 [(.int .i64 0), (.int .i64 0), (.int .i64 0)] := ⟨_, rfl⟩
    have H := H h4 e12
    refine s_st (d := none) (h' := h4) rfl rfl rfl (fun dr => (r_store (v := (.agg #[(.int .i64 0), (.int .i64 0), (.int .i64 0)])) Tryd.sizeOf74 rfl rfl rfl (one_all rfl) e13).trans (by rw [e12]; rfl)) trivial ?_ trivial
    refine s_pu (d := some 5) (v := (.bool false)) rfl rfl rfl (r_assign rfl) ?_
    refine s_fin ?_
    show W _ _ _ _ _ _ _ _
    refine W_ret ?_
    obtain ⟨x14, e15, H⟩ := H
    obtain ⟨x16, e17, H⟩ := H
    obtain ⟨x18, e19, H⟩ := H
    exact ⟨[(.agg #[(.int .i64 x14), (.int .i64 x16), (.int .i64 x18)]), (.bool false)], ⟨_, _, _, rfl, rfl, fun dr => run_loadVarN Tryd.isAgg74 Tryd.sizeOf74 (vs := [(.int .i64 x14), (.int .i64 x16), (.int .i64 x18)]) rfl ⟨e15, e17, e19, trivial⟩, ⟨_, _, rfl, rfl, rfl⟩⟩, x14, x16, x18, false, rfl, H⟩
  · have H := H.2 g40
    refine W_skip ?_
    show W _ _ _ _ _ _ _ _
    refine W_seq ?_
    refine W_region (.pu 0 (.pu 1 (.rl 2 (.ef 3 [] (.pu 4 .fin) .no)))) rfl rfl ?_
    refine s_pu (d := some 15) (v := (Sl.v y11)) rfl rfl rfl (r_move rfl) ?_
    obtain ⟨p20, e21, e22, e23, H⟩ := H
    obtain ⟨q24, e25⟩ : ∃ q : Addr, q = Addr.add p20 (Int.toNat 0 * 3) := ⟨_, rfl⟩
    rw [← e25] at H
    refine s_pu (d := some 16) (v := (.pointer (some q24))) rfl rfl rfl (fun w => (r_indexAddr Tryd.underlying67 Tryd.sizeOf74 rfl rfl e21 e22 e23 w).trans (by rw [e25])) ?_
    obtain ⟨x26, e27, H⟩ := H
    obtain ⟨x28, e29, H⟩ := H
    obtain ⟨x30, e31, H⟩ := H
    refine s_rl (d := some 17) (v := (.agg #[(.int .i64 x26), (.int .i64 x28), (.int .i64 x30)])) rfl rfl rfl (fun dr => r_loadN Tryd.isAgg74 Tryd.sizeOf74 (vs := [(.int .i64 x26), (.int .i64 x28), (.int .i64 x30)]) rfl rfl ⟨e27, e29, e31, trivial⟩) ?_
    obtain ⟨e33, H⟩ := H
    obtain ⟨h5, e32⟩ : ∃ hh : Heap, hh = hsets h3 p6 0 [(.int .i64 x26), (.int .i64 x28), (.int .i64 x30)] := ⟨_, rfl⟩
    have H := H h5 e32
    refine s_st (d := none) (h' := h5) rfl rfl rfl (fun dr => (r_store (v := (.agg #[(.int .i64 x26), (.int .i64 x28), (.int .i64 x30)])) Tryd.sizeOf74 rfl rfl rfl (one_all rfl) e33).trans (by rw [e32]; rfl)) trivial ?_ trivial
    refine s_pu (d := some 5) (v := (.bool true)) rfl rfl rfl (r_assign rfl) ?_
    refine s_fin ?_
    show W _ _ _ _ _ _ _ _
    refine W_ret ?_
    obtain ⟨x34, e35, H⟩ := H
    obtain ⟨x36, e37, H⟩ := H
    obtain ⟨x38, e39, H⟩ := H
    exact ⟨[(.agg #[(.int .i64 x34), (.int .i64 x36), (.int .i64 x38)]), (.bool true)], ⟨_, _, _, rfl, rfl, fun dr => run_loadVarN Tryd.isAgg74 Tryd.sizeOf74 (vs := [(.int .i64 x34), (.int .i64 x36), (.int .i64 x38)]) rfl ⟨e35, e37, e39, trivial⟩, ⟨_, _, rfl, rfl, rfl⟩⟩, x34, x36, x38, true, rfl, H⟩

/-! ### ival_Map_Len -/

def ival_Map_Len_F (r : World) (m1 : Option Addr) (h : Heap) (R : Int → Heap → Prop) : Prop :=
  New h (.cells #[(.pointer m1)] 72) fun p2 h1 =>
  LdP h1 (Addr.add (Addr.add p2 0) 0) fun x5 =>
  finger_Many_api_Span_ival_reach_ival_reaches_Len r x5 h1 fun y7 h2 =>
  R y7 h2

set_option maxRecDepth 100000 in
theorem ival_Map_Len_of {r : World} {m1 : Option Addr} {h : Heap} {R : Int → Heap → Prop} (H : ival_Map_Len_F r m1 h R) : ival_Map_Len r m1 h R := by
  unfold ival_Map_Len_F at H
  refine calls_of 6 [.tmp 2] Tryd.func56 rfl rfl rfl rfl rfl ?_
  refine W_seq ?_
  refine W_region (.ef 0 [] (.pu 1 .fin) .no) rfl rfl ?_
  obtain ⟨p2, e3⟩ : ∃ p : Addr, p = ⟨h.size, 0, none⟩ := ⟨_, rfl⟩
  obtain ⟨h1, e4⟩ : ∃ hh : Heap, hh = h.push (.cells #[(.pointer m1)] 72) := ⟨_, rfl⟩
  have H := H p2 h1 e3 e4
  refine s_ef1 (d := some 1) (v := (.pointer (some p2))) (h' := h1) rfl rfl rfl (fun dr => (r_box (v := (.agg #[(.pointer m1)])) rfl).trans (by rw [e3, e4]; rfl)) trivial ?_ trivial
  refine s_pu (d := some 2) (v := (.int .i64 0)) rfl rfl rfl (r_assign rfl) ?_
  refine s_fin ?_
  show W _ _ _ _ _ _ _ _
  refine W_seq ?_
  refine W_region (.pu 0 (.rl 1 (.ef 2 [] (.pu 3 .fin) .no))) rfl rfl ?_
  refine s_pu (d := some 3) (v := (.pointer (some (Addr.add p2 0)))) rfl rfl rfl (r_fieldAddr Tryd.underlying72 Tryd.sizeOf70 rfl rfl rfl) ?_
  obtain ⟨x5, e6, H⟩ := H
  refine s_rl (d := some 4) (v := (.agg #[(.pointer x5)])) rfl rfl rfl (fun dr => r_loadN Tryd.isAgg70 Tryd.sizeOf70 (vs := [(.pointer x5)]) rfl rfl ⟨e6, trivial⟩) ?_
  refine s_ef (d := some 5) rfl rfl rfl (fun dr => r_call Tryd.call92 rfl rfl H) ?_ trivial
  rintro _ h2 ⟨y7, rfl, H⟩
  refine ⟨trivial, ?_⟩
  refine s_pu (d := some 2) (v := (.int .i64 y7)) rfl rfl rfl (r_assign rfl) ?_
  refine s_fin ?_
  show W _ _ _ _ _ _ _ _
  refine W_ret ?_
  exact ⟨[(.int .i64 y7)], ⟨_, _, rfl, rfl, rfl⟩, y7, rfl, H⟩

/-! ### ival_Map_Spans -/

def ival_Map_Spans_F (r : World) (m1 : Option Addr) (h : Heap) (R : Sl → Heap → Prop) : Prop :=
  New h (.cells #[(.pointer m1)] 72) fun p2 h1 =>
  LdP h1 (Addr.add (Addr.add p2 0) 0) fun x5 =>
  finger_Many_api_Span_ival_reach_ival_reaches_All r x5 h1 fun y7 h2 =>
  R y7 h2

set_option maxRecDepth 100000 in
theorem ival_Map_Spans_of {r : World} {m1 : Option Addr} {h : Heap} {R : Sl → Heap → Prop} (H : ival_Map_Spans_F r m1 h R) : ival_Map_Spans r m1 h R := by
  unfold ival_Map_Spans_F at H
  refine calls_of 6 [.tmp 2] Tryd.func51 rfl rfl rfl rfl rfl ?_
  refine W_seq ?_
  refine W_region (.ef 0 [] (.pu 1 .fin) .no) rfl rfl ?_
  obtain ⟨p2, e3⟩ : ∃ p : Addr, p = ⟨h.size, 0, none⟩ := ⟨_, rfl⟩
  obtain ⟨h1, e4⟩ : ∃ hh : Heap, hh = h.push (.cells #[(.pointer m1)] 72) := ⟨_, rfl⟩
  have H := H p2 h1 e3 e4
  refine s_ef1 (d := some 1) (v := (.pointer (some p2))) (h' := h1) rfl rfl rfl (fun dr => (r_box (v := (.agg #[(.pointer m1)])) rfl).trans (by rw [e3, e4]; rfl)) trivial ?_ trivial
  refine s_pu (d := some 2) (v := (Sl.v Sl.nil)) rfl rfl rfl (r_assign rfl) ?_
  refine s_fin ?_
  show W _ _ _ _ _ _ _ _
  refine W_seq ?_
  refine W_region (.pu 0 (.rl 1 (.ef 2 [] (.pu 3 .fin) .no))) rfl rfl ?_
  refine s_pu (d := some 3) (v := (.pointer (some (Addr.add p2 0)))) rfl rfl rfl (r_fieldAddr Tryd.underlying72 Tryd.sizeOf70 rfl rfl rfl) ?_
  obtain ⟨x5, e6, H⟩ := H
  refine s_rl (d := some 4) (v := (.agg #[(.pointer x5)])) rfl rfl rfl (fun dr => r_loadN Tryd.isAgg70 Tryd.sizeOf70 (vs := [(.pointer x5)]) rfl rfl ⟨e6, trivial⟩) ?_
  refine s_ef (d := some 5) rfl rfl rfl (fun dr => r_call Tryd.call89 rfl rfl H) ?_ trivial
  rintro _ h2 ⟨y7, rfl, H⟩
  refine ⟨trivial, ?_⟩
  refine s_pu (d := some 2) (v := (Sl.v y7)) rfl rfl rfl (r_assign rfl) ?_
  refine s_fin ?_
  show W _ _ _ _ _ _ _ _
  refine W_ret ?_
  exact ⟨[(Sl.v y7)], ⟨_, _, rfl, rfl, rfl⟩, y7, rfl, H⟩

/-! ### law3_spanned -/

def law3_spanned_F (r : World)  (h : Heap) (R : Bool → Heap → Prop) : Prop :=
  New h (.cells #[(.pointer none)] 72) fun p1 h1 =>
  LdP h1 (Addr.add p1 0) fun x4 =>
  ival_Map_Add r x4 2 4 5 h1 fun y6 y7 h2 =>
  St h2 p1 1 [(.pointer y6)] fun h3 =>
  LdP h3 (Addr.add p1 0) fun x10 =>
  ival_Map_Any r x10 3 h3 fun y12 y13 y14 y15 h4 =>
  New h4 (.cells #[(.int .i64 0), (.int .i64 0), (.int .i64 0)] 74) fun p16 h5 =>
  St h5 p16 3 [(.int .i64 y12), (.int .i64 y13), (.int .i64 y14)] fun h6 =>
  LdP h6 (Addr.add p1 0) fun x21 =>
  ival_Map_Any r x21 5 h6 fun y23 y24 y25 y26 h7 =>
  New h7 (.cells #[(.int .i64 0), (.int .i64 0), (.int .i64 0)] 74) fun p27 h8 =>
  St h8 p27 3 [(.int .i64 y23), (.int .i64 y24), (.int .i64 y25)] fun h9 =>
  ∀ J33 : Bool → Prop, (∀ (x32 : Bool),
    (R x32 h9) →
    J33 x32) →
  (isIface y7 = true) ∧
  Br (isNil y7) (
    Br y15 (
      LdI h9 (Addr.add p16 2) fun x38 =>
      Br (decide (x38 = 5)) (
        J33 (!y26)) (
        J33 false)) (
      J33 false)) (
    J33 false)

set_option maxRecDepth 100000 in
theorem law3_spanned_of {r : World}  {h : Heap} {R : Bool → Heap → Prop} (H : law3_spanned_F r  h R) : law3_spanned r  h R := by
  unfold law3_spanned_F at H
  refine calls_of 37 [.tmp 0] Tryd.func47 rfl rfl rfl rfl rfl ?_
  refine W_seq ?_
  refine W_region (.pu 0 .fin) rfl rfl ?_
  refine s_pu (d := some 0) (v := (.bool false)) rfl rfl rfl (r_assign rfl) ?_
  refine s_fin ?_
  show W _ _ _ _ _ _ _ _
  refine W_seq ?_
  refine W_region (.ef 0 [] .fin .no) rfl rfl ?_
  obtain ⟨p1, e2⟩ : ∃ p : Addr, p = ⟨h.size, 0, none⟩ := ⟨_, rfl⟩
  obtain ⟨h1, e3⟩ : ∃ hh : Heap, hh = h.push (.cells #[(.pointer none)] 72) := ⟨_, rfl⟩
  have H := H p1 h1 e2 e3
  refine s_ef1 (d := some 1) (v := (.pointer (some p1))) (h' := h1) rfl rfl rfl (fun dr => (r_alloc Tryd.zeroValue72).trans (by rw [e2, e3]; rfl)) trivial ?_ trivial
  refine s_fin ?_
  show W _ _ _ _ _ _ _ _
  refine W_seq ?_
  refine W_region (.rl 0 (.pu 1 (.ef 2 [] (.pu 3 (.pu 4 (.pu 5 (.ef 6 [] (.pu 7 .fin) .no)))) .no))) rfl rfl ?_
  obtain ⟨x4, e5, H⟩ := H
  refine s_rl (d := some 8) (v := (.agg #[(.pointer x4)])) rfl rfl rfl (fun dr => r_loadN Tryd.isAgg72 Tryd.sizeOf72 (vs := [(.pointer x4)]) rfl rfl ⟨e5, trivial⟩) ?_
  refine s_pu (d := some 9) (v := (.agg #[(.int .i64 2), (.int .i64 4), (.int .i64 5)])) rfl rfl rfl (fun w => by kernel_rfl) ?_
  refine s_ef (d := some 10) rfl rfl rfl (fun dr => r_call Tryd.call48 rfl rfl H) ?_ trivial
  rintro _ h2 ⟨y6, y7, rfl, H⟩
  refine ⟨trivial, ?_⟩
  refine s_pu (d := some 7) (v := (.tuple #[(.agg #[(.pointer y6)]), y7])) rfl rfl rfl (r_move rfl) ?_
  refine s_pu (d := some 11) (v := (.agg #[(.pointer y6)])) rfl rfl rfl (r_extract rfl rfl) ?_
  refine s_pu (d := some 12) (v := y7) rfl rfl rfl (r_extract rfl rfl) ?_
  obtain ⟨e9, H⟩ := H
  obtain ⟨h3, e8⟩ : ∃ hh : Heap, hh = hsets h2 p1 0 [(.pointer y6)] := ⟨_, rfl⟩
  have H := H h3 e8
  refine s_st (d := none) (h' := h3) rfl rfl rfl (fun dr => (r_store (v := (.agg #[(.pointer y6)])) Tryd.sizeOf72 rfl rfl rfl (one_all rfl) e9).trans (by rw [e8]; rfl)) trivial ?_ trivial
  refine s_pu (d := some 2) (v := y7) rfl rfl rfl (r_assign rfl) ?_
  refine s_fin ?_
  show W _ _ _ _ _ _ _ _
  refine W_seq ?_
  refine W_region (.rl 0 (.ef 1 [] (.pu 2 (.pu 3 (.pu 4 (.ef 5 [] (.ef 6 [] (.pu 7 .fin) .no) .no)))) .no)) rfl rfl ?_
  obtain ⟨x10, e11, H⟩ := H
  refine s_rl (d := some 14) (v := (.agg #[(.pointer x10)])) rfl rfl rfl (fun dr => r_loadN Tryd.isAgg72 Tryd.sizeOf72 (vs := [(.pointer x10)]) rfl rfl ⟨e11, trivial⟩) ?_
  refine s_ef (d := some 15) rfl rfl rfl (fun dr => r_call Tryd.call55 rfl rfl H) ?_ trivial
  rintro _ h4 ⟨y12, y13, y14, y15, rfl, H⟩
  refine ⟨trivial, ?_⟩
  refine s_pu (d := some 13) (v := (.tuple #[(.agg #[(.int .i64 y12), (.int .i64 y13), (.int .i64 y14)]), (.bool y15)])) rfl rfl rfl (r_move rfl) ?_
  refine s_pu (d := some 16) (v := (.agg #[(.int .i64 y12), (.int .i64 y13), (.int .i64 y14)])) rfl rfl rfl (r_extract rfl rfl) ?_
  refine s_pu (d := some 17) (v := (.bool y15)) rfl rfl rfl (r_extract rfl rfl) ?_
  obtain ⟨p16, e17⟩ : ∃ p : Addr, p = ⟨h4.size, 0, none⟩ := ⟨_, rfl⟩
  obtain ⟨h5, e18⟩ : ∃ hh : Heap, hh = h4.push (.cells #[(.int .i64 0), (.int .i64 0), (.int .i64 0)] 74) := ⟨_, rfl⟩
  have H := H p16 h5 e17 e18
  refine s_ef1 (d := some 3) (v := (.pointer (some p16))) (h' := h5) rfl rfl rfl (fun dr => (r_alloc Tryd.zeroValue74).trans (by rw [e17, e18]; rfl)) trivial ?_ trivial
  obtain ⟨e20, H⟩ := H
  obtain ⟨h6, e19⟩ : ∃ hh : Heap, hh = hsets h5 p16 0 [(.int .i64 y12), (.int .i64 y13), (.int .i64 y14)] := ⟨_, rfl⟩
  have H := H h6 e19
  refine s_st (d := none) (h' := h6) rfl rfl rfl (fun dr => (r_store (v := (.agg #[(.int .i64 y12), (.int .i64 y13), (.int .i64 y14)])) Tryd.sizeOf74 rfl rfl rfl (one_all rfl) e20).trans (by rw [e19]; rfl)) trivial ?_ trivial
  refine s_pu (d := some 4) (v := (.bool y15)) rfl rfl rfl (r_assign rfl) ?_
  refine s_fin ?_
  show W _ _ _ _ _ _ _ _
  refine W_seq ?_
  refine W_region (.rl 0 (.ef 1 [] (.pu 2 (.pu 3 (.pu 4 (.ef 5 [] (.ef 6 [] (.pu 7 .fin) .no) .no)))) .no)) rfl rfl ?_
  obtain ⟨x21, e22, H⟩ := H
  refine s_rl (d := some 19) (v := (.agg #[(.pointer x21)])) rfl rfl rfl (fun dr => r_loadN Tryd.isAgg72 Tryd.sizeOf72 (vs := [(.pointer x21)]) rfl rfl ⟨e22, trivial⟩) ?_
  refine s_ef (d := some 20) rfl rfl rfl (fun dr => r_call Tryd.call55 rfl rfl H) ?_ trivial
  rintro _ h7 ⟨y23, y24, y25, y26, rfl, H⟩
  refine ⟨trivial, ?_⟩
  refine s_pu (d := some 18) (v := (.tuple #[(.agg #[(.int .i64 y23), (.int .i64 y24), (.int .i64 y25)]), (.bool y26)])) rfl rfl rfl (r_move rfl) ?_
  refine s_pu (d := some 21) (v := (.agg #[(.int .i64 y23), (.int .i64 y24), (.int .i64 y25)])) rfl rfl rfl (r_extract rfl rfl) ?_
  refine s_pu (d := some 22) (v := (.bool y26)) rfl rfl rfl (r_extract rfl rfl) ?_
  obtain ⟨p27, e28⟩ : ∃ p : Addr, p = ⟨h7.size, 0, none⟩ := ⟨_, rfl⟩
  obtain ⟨h8, e29⟩ : ∃ hh : Heap, hh = h7.push (.cells #[(.int .i64 0), (.int .i64 0), (.int .i64 0)] 74) := ⟨_, rfl⟩
  have H := H p27 h8 e28 e29
  refine s_ef1 (d := some 5) (v := (.pointer (some p27))) (h' := h8) rfl rfl rfl (fun dr => (r_alloc Tryd.zeroValue74).trans (by rw [e28, e29]; rfl)) trivial ?_ trivial
  obtain ⟨e31, H⟩ := H
  obtain ⟨h9, e30⟩ : ∃ hh : Heap, hh = hsets h8 p27 0 [(.int .i64 y23), (.int .i64 y24), (.int .i64 y25)] := ⟨_, rfl⟩
  have H := H h9 e30
  refine s_st (d := none) (h' := h9) rfl rfl rfl (fun dr => (r_store (v := (.agg #[(.int .i64 y23), (.int .i64 y24), (.int .i64 y25)])) Tryd.sizeOf74 rfl rfl rfl (one_all rfl) e31).trans (by rw [e30]; rfl)) trivial ?_ trivial
  refine s_pu (d := some 6) (v := (.bool y26)) rfl rfl rfl (r_assign rfl) ?_
  refine s_fin ?_
  show W _ _ _ _ _ _ _ _
  refine W_seq ?_
  refine W_set ?_
  intro N34 eN34
  have H := H (fun (x32 : Bool) => ∀ b, N34 [] (mkE [(0, (.bool x32))] b) h9) (by
    intro x32 H b
    rw [eN34]
    show W _ _ _ _ _ _ _ _
    refine W_ret ?_
    exact ⟨[(.bool x32)], ⟨_, _, rfl, rfl, rfl⟩, x32, rfl, H⟩)
  clear eN34
  refine W_region (.pu 0 (.pu 1 (.pu 2 (.pu 3 (.pu 4 (.pu 5 (.pu 6 (.rl 7 (.pu 8 (.pu 9 (.pu 10 (.pu 11 (.pu 12 (.pu 13 (.pu 14 .fin))))))))))))))) rfl rfl ?_
  refine s_pu (d := some 23) (v := y7) rfl rfl rfl (r_move rfl) ?_
  obtain ⟨e35, H⟩ := H
  refine s_pu (d := some 24) (v := (.bool (isNil y7))) rfl rfl rfl (r_nilI Tryd.underlying26 rfl e35 rfl) ?_
  refine s_pu (d := some 25) (v := (.bool (isNil y7))) rfl rfl rfl (r_move rfl) ?_
  rcases Bool.eq_false_or_eq_true (isNil y7) with g36 | g36
  · have H := H.1 g36
    refine s_pu (d := some 26) (v := (.bool y15)) rfl rfl (wants_yes rfl rfl rfl rfl g36) (r_move rfl) ?_
    refine s_pu (d := some 27) (v := (.bool y15)) rfl rfl rfl (r_pick1 rfl g36 rfl) ?_
    refine s_pu (d := some 28) (v := (.bool y15)) rfl rfl rfl (r_move rfl) ?_
    rcases Bool.eq_false_or_eq_true y15 with g37 | g37
    · have H := H.1 g37
      refine s_pu (d := some 29) (v := (.pointer (some (Addr.add p16 2)))) rfl rfl (wants_yes rfl rfl rfl rfl g37) (r_fieldAddr Tryd.underlying74 Tryd.sizeOf3 rfl rfl rfl) ?_
      obtain ⟨x38, e39, H⟩ := H
      refine s_rl (d := some 30) (v := (.int .i64 x38)) rfl rfl (wants_yes rfl rfl rfl rfl g37) (fun dr => r_load1 Tryd.isAgg3 rfl e39) ?_
      refine s_pu (d := some 31) (v := (.bool (decide (x38 = 5)))) rfl rfl (wants_yes rfl rfl rfl rfl g37) (r_eql rfl rfl) ?_
      refine s_pu (d := some 32) (v := (.bool (decide (x38 = 5)))) rfl rfl rfl (r_pick1 rfl g37 rfl) ?_
      refine s_pu (d := some 33) (v := (.bool (decide (x38 = 5)))) rfl rfl rfl (r_move rfl) ?_
      rcases Bool.eq_false_or_eq_true (decide (x38 = 5)) with g40 | g40
      · have H := H.1 g40
        refine s_pu (d := some 34) (v := (.bool y26)) rfl rfl (wants_yes rfl rfl rfl rfl g40) (r_move rfl) ?_
        refine s_pu (d := some 35) (v := (.bool (!y26))) rfl rfl (wants_yes rfl rfl rfl rfl g40) (r_not rfl) ?_
        refine s_pu (d := some 36) (v := (.bool (!y26))) rfl rfl rfl (r_pick1 rfl g40 rfl) ?_
        refine s_pu (d := some 0) (v := (.bool (!y26))) rfl rfl rfl (r_assign rfl) ?_
        refine s_fin ?_
        exact N_mk (l := [(0, (.bool (!y26)))]) H ⟨rfl, trivial⟩
      · have H := H.2 g40
        refine s_sk (d := some 34) rfl rfl (wants_no rfl rfl rfl rfl g40) ?_
        refine s_sk (d := some 35) rfl rfl (wants_no rfl rfl rfl rfl g40) ?_
        refine s_pu (d := some 36) (v := (.bool false)) rfl rfl rfl (r_pick0 rfl g40 rfl) ?_
        refine s_pu (d := some 0) (v := (.bool false)) rfl rfl rfl (r_assign rfl) ?_
        refine s_fin ?_
        exact N_mk (l := [(0, (.bool false))]) H ⟨rfl, trivial⟩
    · have H := H.2 g37
      refine s_sk (d := some 29) rfl rfl (wants_no rfl rfl rfl rfl g37) ?_
      refine s_skl (d := some 30) rfl rfl (wants_no rfl rfl rfl rfl g37) ?_
      refine s_sk (d := some 31) rfl rfl (wants_no rfl rfl rfl rfl g37) ?_
      refine s_pu (d := some 32) (v := (.bool false)) rfl rfl rfl (r_pick0 rfl g37 rfl) ?_
      refine s_pu (d := some 33) (v := (.bool false)) rfl rfl rfl (r_move rfl) ?_
      refine s_sk (d := some 34) rfl rfl (wants_no rfl rfl rfl rfl rfl) ?_
      refine s_sk (d := some 35) rfl rfl (wants_no rfl rfl rfl rfl rfl) ?_
      refine s_pu (d := some 36) (v := (.bool false)) rfl rfl rfl (r_pick0 rfl rfl rfl) ?_
      refine s_pu (d := some 0) (v := (.bool false)) rfl rfl rfl (r_assign rfl) ?_
      refine s_fin ?_
      exact N_mk (l := [(0, (.bool false))]) H ⟨rfl, trivial⟩
  · have H := H.2 g36
    refine s_sk (d := some 26) rfl rfl (wants_no rfl rfl rfl rfl g36) ?_
    refine s_pu (d := some 27) (v := (.bool false)) rfl rfl rfl (r_pick0 rfl g36 rfl) ?_
    refine s_pu (d := some 28) (v := (.bool false)) rfl rfl rfl (r_move rfl) ?_
    refine s_sk (d := some 29) rfl rfl (wants_no rfl rfl rfl rfl rfl) ?_
    refine s_skl (d := some 30) rfl rfl (wants_no rfl rfl rfl rfl rfl) ?_
    refine s_sk (d := some 31) rfl rfl (wants_no rfl rfl rfl rfl rfl) ?_
    refine s_pu (d := some 32) (v := (.bool false)) rfl rfl rfl (r_pick0 rfl rfl rfl) ?_
    refine s_pu (d := some 33) (v := (.bool false)) rfl rfl rfl (r_move rfl) ?_
    refine s_sk (d := some 34) rfl rfl (wants_no rfl rfl rfl rfl rfl) ?_
    refine s_sk (d := some 35) rfl rfl (wants_no rfl rfl rfl rfl rfl) ?_
    refine s_pu (d := some 36) (v := (.bool false)) rfl rfl rfl (r_pick0 rfl rfl rfl) ?_
    refine s_pu (d := some 0) (v := (.bool false)) rfl rfl rfl (r_assign rfl) ?_
    refine s_fin ?_
    exact N_mk (l := [(0, (.bool false))]) H ⟨rfl, trivial⟩

/-! ### same_Spans -/

def same_Spans_F (r : World) (a1 : Sl) (vb2 : Sl) (h : Heap) (R : Bool → Heap → Prop) : Prop :=
  Br (!decide (((a1.len : Int)) = ((vb2.len : Int)))) (
    R false h) (
    ∀ X4 : Int → Prop, (∀ (i3 : Int),
      (Br (decide (i3 < ((a1.len : Int)))) (
        Ix a1 i3 3 fun q9 =>
        LdI h (Addr.add q9 0) fun x11 =>
        LdI h (Addr.add q9 1) fun x13 =>
        LdI h (Addr.add q9 2) fun x15 =>
        Ix vb2 i3 3 fun q21 =>
        LdI h (Addr.add q21 0) fun x23 =>
        LdI h (Addr.add q21 1) fun x25 =>
        LdI h (Addr.add q21 2) fun x27 =>
        Br (!(decide (x11 = x23 ∧ x13 = x25 ∧ x15 = x27))) (
          R false h) (
          X4 (w64 (i3 + 1)))) (
        R true h)) →
      X4 i3) →
    X4 0)

set_option maxRecDepth 100000 in
theorem same_Spans_of {r : World} {a1 : Sl} {vb2 : Sl} {h : Heap} {R : Bool → Heap → Prop} (H : same_Spans_F r a1 vb2 h R) : same_Spans r a1 vb2 h R := by
  unfold same_Spans_F at H
  refine calls_of 26 [.tmp 4] Tryd.func50 rfl rfl rfl rfl rfl ?_
  refine W_seq ?_
  refine W_region (.pu 0 .fin) rfl rfl ?_
  refine s_pu (d := some 4) (v := (.bool false)) rfl rfl rfl (r_assign rfl) ?_
  refine s_fin ?_
  show W _ _ _ _ _ _ _ _
  refine W_seq ?_
  refine W_seq ?_
  refine W_region (.pu 0 (.pu 1 (.pu 2 (.pu 3 (.pu 4 .fin))))) rfl rfl ?_
  refine s_pu (d := some 6) (v := (Sl.v a1)) rfl rfl rfl (r_move rfl) ?_
  refine s_pu (d := some 7) (v := (.int .i64 ((a1.len : Int)))) rfl rfl rfl (r_len Tryd.underlying67 rfl) ?_
  refine s_pu (d := some 8) (v := (Sl.v vb2)) rfl rfl rfl (r_move rfl) ?_
  refine s_pu (d := some 9) (v := (.int .i64 ((vb2.len : Int)))) rfl rfl rfl (r_len Tryd.underlying67 rfl) ?_
  refine s_pu (d := some 10) (v := (.bool (!decide (((a1.len : Int)) = ((vb2.len : Int)))))) rfl rfl rfl (r_neq rfl rfl) ?_
  refine s_fin ?_
  show W _ _ _ _ _ _ _ _
  refine W_if (!decide (((a1.len : Int)) = ((vb2.len : Int)))) rfl (fun g31 => ?_) (fun g31 => ?_)
  · have H := H.1 g31
    refine W_seq ?_
    refine W_region (.pu 0 .fin) rfl rfl ?_
    refine s_pu (d := some 4) (v := (.bool false)) rfl rfl rfl (r_assign rfl) ?_
    refine s_fin ?_
    show W _ _ _ _ _ _ _ _
    refine W_ret ?_
    exact ⟨[(.bool false)], ⟨_, _, rfl, rfl, rfl⟩, false, rfl, H⟩
  · have H := H.2 g31
    refine W_skip ?_
    show W _ _ _ _ _ _ _ _
    refine W_seq ?_
    refine W_seq ?_
    refine W_region (.pu 0 .fin) rfl rfl ?_
    refine s_pu (d := some 5) (v := (.int .i64 0)) rfl rfl rfl (r_assign rfl) ?_
    refine s_fin ?_
    show W _ _ _ _ _ _ _ _
    refine W_block ?_
    refine W_loop (WL_mk (l := [(0, (Sl.v a1)), (1, (Sl.v vb2)), (5, (.int .i64 0))]) ?_ ⟨rfl, rfl, rfl, trivial⟩)
    refine H (fun (i3 : Int) => ∀ b, WL _ _ _ _ _ _ (mkE [(0, (Sl.v a1)), (1, (Sl.v vb2)), (5, (.int .i64 i3))] b) h) ?_
    intro i3 H b
    refine WL_round ?_
    refine W_seq ?_
    refine W_seq ?_
    refine W_region (.pu 0 (.pu 1 (.pu 2 (.pu 3 .fin)))) rfl rfl ?_
    refine s_pu (d := some 11) (v := (.int .i64 i3)) rfl rfl rfl (r_move rfl) ?_
    refine s_pu (d := some 12) (v := (Sl.v a1)) rfl rfl rfl (r_move rfl) ?_
    refine s_pu (d := some 13) (v := (.int .i64 ((a1.len : Int)))) rfl rfl rfl (r_len Tryd.underlying67 rfl) ?_
    refine s_pu (d := some 14) (v := (.bool (decide (i3 < ((a1.len : Int)))))) rfl rfl rfl (r_lss rfl rfl) ?_
    refine s_fin ?_
    show W _ _ _ _ _ _ _ _
    refine W_if (decide (i3 < ((a1.len : Int)))) rfl (fun g30 => ?_) (fun g30 => ?_)
    · have H := H.1 g30
      refine W_skip ?_
      show W _ _ _ _ _ _ _ _
      refine W_seq ?_
      refine W_block ?_
      refine W_seq ?_
      refine W_draw [0, 0, 3, 7, 0, 0, 48, 112, 255] (.pu 0 (.pu 1 (.pu 2 (.rd 3 (.pu 4 (.pu 5 (.pu 6 (.rd 7 (.pu 8 .fin))))))))) (by kernel_rfl) (by kernel_rfl) ?_
      refine s_pu (d := some 17) (v := (Sl.v a1)) rfl rfl rfl (r_move rfl) ?_
      refine s_pu (d := some 18) (v := (.int .i64 i3)) rfl rfl rfl (r_move rfl) ?_
      obtain ⟨p5, e6, e7, e8, H⟩ := H
      obtain ⟨q9, e10⟩ : ∃ q : Addr, q = Addr.add p5 (Int.toNat i3 * 3) := ⟨_, rfl⟩
      rw [← e10] at H
      refine s_pu (d := some 19) (v := (.pointer (some q9))) rfl rfl rfl (fun w => (r_indexAddr Tryd.underlying67 Tryd.sizeOf74 rfl rfl e6 e7 e8 w).trans (by rw [e10])) ?_
      obtain ⟨x11, e12, H⟩ := H
      obtain ⟨x13, e14, H⟩ := H
      obtain ⟨x15, e16, H⟩ := H
      refine s_rd (d := some 20) (v := (.agg #[(.int .i64 x11), (.int .i64 x13), (.int .i64 x15)])) rfl rfl rfl (fun dr => r_loadN Tryd.isAgg74 Tryd.sizeOf74 (vs := [(.int .i64 x11), (.int .i64 x13), (.int .i64 x15)]) rfl rfl ⟨e12, e14, e16, trivial⟩) ?_
      refine s_pu (d := some 21) (v := (Sl.v vb2)) rfl rfl rfl (r_move rfl) ?_
      refine s_pu (d := some 22) (v := (.int .i64 i3)) rfl rfl rfl (r_move rfl) ?_
      obtain ⟨p17, e18, e19, e20, H⟩ := H
      obtain ⟨q21, e22⟩ : ∃ q : Addr, q = Addr.add p17 (Int.toNat i3 * 3) := ⟨_, rfl⟩
      rw [← e22] at H
      refine s_pu (d := some 23) (v := (.pointer (some q21))) rfl rfl rfl (fun w => (r_indexAddr Tryd.underlying67 Tryd.sizeOf74 rfl rfl e18 e19 e20 w).trans (by rw [e22])) ?_
      obtain ⟨x23, e24, H⟩ := H
      obtain ⟨x25, e26, H⟩ := H
      obtain ⟨x27, e28, H⟩ := H
      refine s_rd (d := some 24) (v := (.agg #[(.int .i64 x23), (.int .i64 x25), (.int .i64 x27)])) rfl rfl rfl (fun dr => r_loadN Tryd.isAgg74 Tryd.sizeOf74 (vs := [(.int .i64 x23), (.int .i64 x25), (.int .i64 x27)]) rfl rfl ⟨e24, e26, e28, trivial⟩) ?_
      refine s_pu (d := some 25) (v := (.bool (!(decide (x11 = x23 ∧ x13 = x25 ∧ x15 = x27))))) rfl rfl rfl (r_neqAgg_Tryd74 rfl rfl) ?_
      refine s_fin ?_
      show W _ _ _ _ _ _ _ _
      refine W_if (!(decide (x11 = x23 ∧ x13 = x25 ∧ x15 = x27))) rfl (fun g29 => ?_) (fun g29 => ?_)
      · have H := H.1 g29
        refine W_seq ?_
        refine W_region (.pu 0 .fin) rfl rfl ?_
        refine s_pu (d := some 4) (v := (.bool false)) rfl rfl rfl (r_assign rfl) ?_
        refine s_fin ?_
        show W _ _ _ _ _ _ _ _
        refine W_ret ?_
        exact ⟨[(.bool false)], ⟨_, _, rfl, rfl, rfl⟩, false, rfl, H⟩
      · have H := H.2 g29
        refine W_skip ?_
        show W _ _ _ _ _ _ _ _
        refine W_region (.pu 0 (.pu 1 (.pu 2 .fin))) rfl rfl ?_
        refine s_pu (d := some 15) (v := (.int .i64 i3)) rfl rfl rfl (r_move rfl) ?_
        refine s_pu (d := some 16) (v := (.int .i64 (w64 (i3 + 1)))) rfl rfl rfl (r_add rfl rfl) ?_
        refine s_pu (d := some 5) (v := (.int .i64 (w64 (i3 + 1)))) rfl rfl rfl (r_assign rfl) ?_
        refine s_fin ?_
        exact WL_mk (l := [(0, (Sl.v a1)), (1, (Sl.v vb2)), (5, (.int .i64 (w64 (i3 + 1))))]) H ⟨rfl, rfl, rfl, trivial⟩
    · have H := H.2 g30
      refine W_exit (inX_here ?_)
      show W _ _ _ _ _ _ _ _
      refine W_seq ?_
      refine W_region (.pu 0 .fin) rfl rfl ?_
      refine s_pu (d := some 4) (v := (.bool true)) rfl rfl rfl (r_assign rfl) ?_
      refine s_fin ?_
      show W _ _ _ _ _ _ _ _
      refine W_ret ?_
      exact ⟨[(.bool true)], ⟨_, _, rfl, rfl, rfl⟩, true, rfl, H⟩

/-! ### ref1_Laid -/

def ref1_Laid_F (r : World) (l1 : Sl) (s2 : Int) (s3 : Int) (s4 : Int) (h : Heap) (R : Sl → Heap → Prop) : Prop :=
  New h (.cells #[(.int .i64 s2), (.int .i64 s3), (.int .i64 s4)] 74) fun p5 h1 =>
  ∀ X9 : Int → Prop, (∀ (k8 : Int),
    (∀ J11 : Bool → Prop, (∀ (x10 : Bool),
      (Br x10 (
        X9 (w64 (k8 + 1))) (
        Sub l1 0 k8 ((l1.cap : Int)) 3 fun s13 =>
        App 74 3 24 (.agg #[(.int .i64 0), (.int .i64 0), (.int .i64 0)]) Sl.nil s13 h1 fun s19 h2 =>
        LdI h2 (Addr.add p5 0) fun x20 =>
        LdI h2 (Addr.add p5 1) fun x22 =>
        LdI h2 (Addr.add p5 2) fun x24 =>
        New h2 (.cells #[(.int .i64 x20), (.int .i64 x22), (.int .i64 x24)] 74) fun p26 h3 =>
        App 74 3 24 (.agg #[(.int .i64 0), (.int .i64 0), (.int .i64 0)]) s19 ((⟨some p26, 1, 1⟩ : Sl)) h3 fun s29 h4 =>
        Sub l1 k8 ((l1.len : Int)) ((l1.cap : Int)) 3 fun s30 =>
        App 74 3 24 (.agg #[(.int .i64 0), (.int .i64 0), (.int .i64 0)]) s29 s30 h4 fun s36 h5 =>
        R s36 h5)) →
      J11 x10) →
    Br (decide (k8 < ((l1.len : Int)))) (
      Ix l1 k8 3 fun q43 =>
      LdI h1 (Addr.add q43 0) fun x45 =>
      LdI h1 (Addr.add p5 0) fun x47 =>
      J11 (decide (x45 ≤ x47))) (
      J11 false)) →
    X9 k8) →
  X9 0

set_option maxRecDepth 100000 in
theorem ref1_Laid_of {r : World} {l1 : Sl} {s2 : Int} {s3 : Int} {s4 : Int} {h : Heap} {R : Sl → Heap → Prop} (H : ref1_Laid_F r l1 s2 s3 s4 h R) : ref1_Laid r l1 s2 s3 s4 h R := by
  unfold ref1_Laid_F at H
  refine calls_of 37 [.tmp 4] Tryd.func49 rfl rfl rfl rfl rfl ?_
  refine W_seq ?_
  refine W_region (.ef 0 [] (.pu 1 .fin) .no) rfl rfl ?_
  obtain ⟨p5, e6⟩ : ∃ p : Addr, p = ⟨h.size, 0, none⟩ := ⟨_, rfl⟩
  obtain ⟨h1, e7⟩ : ∃ hh : Heap, hh = h.push (.cells #[(.int .i64 s2), (.int .i64 s3), (.int .i64 s4)] 74) := ⟨_, rfl⟩
  have H := H p5 h1 e6 e7
  refine s_ef1 (d := some 3) (v := (.pointer (some p5))) (h' := h1) rfl rfl rfl (fun dr => (r_box (v := (.agg #[(.int .i64 s2), (.int .i64 s3), (.int .i64 s4)])) rfl).trans (by rw [e6, e7]; rfl)) trivial ?_ trivial
  refine s_pu (d := some 4) (v := (Sl.v Sl.nil)) rfl rfl rfl (r_assign rfl) ?_
  refine s_fin ?_
  show W _ _ _ _ _ _ _ _
  refine W_seq ?_
  refine W_region (.pu 0 .fin) rfl rfl ?_
  refine s_pu (d := some 5) (v := (.int .i64 0)) rfl rfl rfl (r_assign rfl) ?_
  refine s_fin ?_
  show W _ _ _ _ _ _ _ _
  refine W_seq ?_
  refine W_block ?_
  refine W_loop (WL_mk (l := [(0, (Sl.v l1)), (3, (.pointer (some p5))), (5, (.int .i64 0))]) ?_ ⟨rfl, rfl, rfl, trivial⟩)
  refine H (fun (k8 : Int) => ∀ b, WL _ _ _ _ _ _ (mkE [(0, (Sl.v l1)), (3, (.pointer (some p5))), (5, (.int .i64 k8))] b) h1) ?_
  intro k8 H b
  refine WL_round ?_
  refine W_seq ?_
  refine W_seq ?_
  refine W_set ?_
  intro N12 eN12
  have H := H (fun (x10 : Bool) => ∀ b, N12 [] (mkE [(0, (Sl.v l1)), (3, (.pointer (some p5))), (5, (.int .i64 k8)), (20, (.bool x10))] b) h1) (by
    intro x10 H b
    rw [eN12]
    show W _ _ _ _ _ _ _ _
    refine W_if x10 rfl (fun g37 => ?_) (fun g37 => ?_)
    · have H := H.1 g37
      refine W_skip ?_
      show W _ _ _ _ _ _ _ _
      refine W_block ?_
      refine W_region (.pu 0 (.pu 1 (.pu 2 .fin))) rfl rfl ?_
      refine s_pu (d := some 21) (v := (.int .i64 k8)) rfl rfl rfl (r_move rfl) ?_
      refine s_pu (d := some 22) (v := (.int .i64 (w64 (k8 + 1)))) rfl rfl rfl (r_add rfl rfl) ?_
      refine s_pu (d := some 5) (v := (.int .i64 (w64 (k8 + 1)))) rfl rfl rfl (r_assign rfl) ?_
      refine s_fin ?_
      exact WL_mk (l := [(0, (Sl.v l1)), (3, (.pointer (some p5))), (5, (.int .i64 (w64 (k8 + 1))))]) H ⟨rfl, rfl, rfl, trivial⟩
    · have H := H.2 g37
      refine W_exit (inX_here ?_)
      show W _ _ _ _ _ _ _ _
      refine W_seq ?_
      refine W_region (.pu 0 .fin) rfl rfl ?_
      refine s_pu (d := some 6) (v := (Sl.v Sl.nil)) rfl rfl rfl (r_assign rfl) ?_
      refine s_fin ?_
      show W _ _ _ _ _ _ _ _
      refine W_seq ?_
      refine W_region (.pu 0 (.pu 1 (.pu 2 (.pu 3 (.ef 4 [] (.pu 5 .fin) .no))))) rfl rfl ?_
      refine s_pu (d := some 23) (v := (Sl.v Sl.nil)) rfl rfl rfl (r_move rfl) ?_
      refine s_pu (d := some 24) (v := (Sl.v l1)) rfl rfl rfl (r_move rfl) ?_
      refine s_pu (d := some 25) (v := (.int .i64 k8)) rfl rfl rfl (r_move rfl) ?_
      obtain ⟨e14, e15, e16, e17, H⟩ := H
      obtain ⟨s13, e18⟩ : ∃ t : Sl, t = ⟨sliceA l1.a (Int.toNat ((l1.cap : Int))) (Int.toNat 0) 3, Int.toNat k8 - Int.toNat 0, Int.toNat ((l1.cap : Int)) - Int.toNat 0⟩ := ⟨_, rfl⟩
      have H := H s13 e18
      refine s_pu (d := some 26) (v := (Sl.v s13)) rfl rfl rfl (fun w => (r_slice (lo := .none) (hi := (.some (.tmp 25))) (mx := .none) Tryd.underlying67 Tryd.sizeOf74 rfl ((l1.cap : Int)) k8 0 rfl ⟨_, rfl⟩ rfl e14 e15 (.inr e16) e17 w).trans (by rw [e18]; rfl)) ?_
      refine s_ef (d := some 27) rfl rfl rfl (fun dr => slFDILaw_67.append rfl rfl H) ?_ trivial
      rintro _ h2 ⟨s19, rfl, H⟩
      refine ⟨trivial, ?_⟩
      refine s_pu (d := some 6) (v := (Sl.v s19)) rfl rfl rfl (r_assign rfl) ?_
      refine s_fin ?_
      show W _ _ _ _ _ _ _ _
      refine W_seq ?_
      refine W_region (.pu 0 (.rl 1 (.ef 2 [] (.ef 3 [] (.pu 4 .fin) .no) .no))) rfl rfl ?_
      refine s_pu (d := some 28) (v := (Sl.v s19)) rfl rfl rfl (r_move rfl) ?_
      obtain ⟨x20, e21, H⟩ := H
      obtain ⟨x22, e23, H⟩ := H
      obtain ⟨x24, e25, H⟩ := H
      refine s_rl (d := some 29) (v := (.agg #[(.int .i64 x20), (.int .i64 x22), (.int .i64 x24)])) rfl rfl rfl (fun dr => r_loadN Tryd.isAgg74 Tryd.sizeOf74 (vs := [(.int .i64 x20), (.int .i64 x22), (.int .i64 x24)]) rfl rfl ⟨e21, e23, e25, trivial⟩) ?_
      obtain ⟨p26, e27⟩ : ∃ p : Addr, p = ⟨h2.size, 0, none⟩ := ⟨_, rfl⟩
      obtain ⟨h3, e28⟩ : ∃ hh : Heap, hh = h2.push (.cells #[(.int .i64 x20), (.int .i64 x22), (.int .i64 x24)] 74) := ⟨_, rfl⟩
      have H := H p26 h3 e27 e28
      refine s_ef1 (d := some 30) (v := (Sl.v ((⟨some p26, 1, 1⟩ : Sl)))) (h' := h3) rfl rfl rfl (fun dr => (slFDILaw_67.build (cells := #[(.int .i64 x20), (.int .i64 x22), (.int .i64 x24)]) (by decide) rfl (by kernel_rfl)).trans (by rw [e27, e28]; rfl)) trivial ?_ trivial
      refine s_ef (d := some 31) rfl rfl rfl (fun dr => slFDILaw_67.append rfl rfl H) ?_ trivial
      rintro _ h4 ⟨s29, rfl, H⟩
      refine ⟨trivial, ?_⟩
      refine s_pu (d := some 6) (v := (Sl.v s29)) rfl rfl rfl (r_assign rfl) ?_
      refine s_fin ?_
      show W _ _ _ _ _ _ _ _
      refine W_seq ?_
      refine W_region (.pu 0 (.pu 1 (.pu 2 (.pu 3 (.ef 4 [] (.pu 5 .fin) .no))))) rfl rfl ?_
      refine s_pu (d := some 32) (v := (Sl.v s29)) rfl rfl rfl (r_move rfl) ?_
      refine s_pu (d := some 33) (v := (Sl.v l1)) rfl rfl rfl (r_move rfl) ?_
      refine s_pu (d := some 34) (v := (.int .i64 k8)) rfl rfl rfl (r_move rfl) ?_
      obtain ⟨e31, e32, e33, e34, H⟩ := H
      obtain ⟨s30, e35⟩ : ∃ t : Sl, t = ⟨sliceA l1.a (Int.toNat ((l1.cap : Int))) (Int.toNat k8) 3, Int.toNat ((l1.len : Int)) - Int.toNat k8, Int.toNat ((l1.cap : Int)) - Int.toNat k8⟩ := ⟨_, rfl⟩
      have H := H s30 e35
      refine s_pu (d := some 35) (v := (Sl.v s30)) rfl rfl rfl (fun w => (r_slice (lo := (.some (.tmp 34))) (hi := .none) (mx := .none) Tryd.underlying67 Tryd.sizeOf74 rfl ((l1.cap : Int)) ((l1.len : Int)) k8 rfl ⟨rfl, rfl⟩ ⟨_, rfl⟩ e31 e32 (.inl rfl) e34 w).trans (by rw [e35]; rfl)) ?_
      refine s_ef (d := some 36) rfl rfl rfl (fun dr => slFDILaw_67.append rfl rfl H) ?_ trivial
      rintro _ h5 ⟨s36, rfl, H⟩
      refine ⟨trivial, ?_⟩
      refine s_pu (d := some 4) (v := (Sl.v s36)) rfl rfl rfl (r_assign rfl) ?_
      refine s_fin ?_
      show W _ _ _ _ _ _ _ _
      refine W_ret ?_
      exact ⟨[(Sl.v s36)], ⟨_, _, rfl, rfl, rfl⟩, s36, rfl, H⟩)
  clear eN12
  refine W_draw [0, 0, 2, 7, 15, 31, 31, 127, 255, 511, 31, 1055, 4095, 8191] (.pu 0 (.pu 1 (.pu 2 (.pu 3 (.pu 4 (.pu 5 (.pu 6 (.pu 7 (.pu 8 (.rd 9 (.pu 10 (.rd 11 (.pu 12 (.pu 13 .fin)))))))))))))) (by kernel_rfl) (by kernel_rfl) ?_
  refine s_pu (d := some 7) (v := (.int .i64 k8)) rfl rfl rfl (r_move rfl) ?_
  refine s_pu (d := some 8) (v := (Sl.v l1)) rfl rfl rfl (r_move rfl) ?_
  refine s_pu (d := some 9) (v := (.int .i64 ((l1.len : Int)))) rfl rfl rfl (r_len Tryd.underlying67 rfl) ?_
  refine s_pu (d := some 10) (v := (.bool (decide (k8 < ((l1.len : Int)))))) rfl rfl rfl (r_lss rfl rfl) ?_
  refine s_pu (d := some 11) (v := (.bool (decide (k8 < ((l1.len : Int)))))) rfl rfl rfl (r_move rfl) ?_
  rcases Bool.eq_false_or_eq_true (decide (k8 < ((l1.len : Int)))) with g38 | g38
  · have H := H.1 g38
    refine s_pu (d := some 12) (v := (Sl.v l1)) rfl rfl (wants_yes rfl rfl rfl rfl g38) (r_move rfl) ?_
    refine s_pu (d := some 13) (v := (.int .i64 k8)) rfl rfl (wants_yes rfl rfl rfl rfl g38) (r_move rfl) ?_
    obtain ⟨p39, e40, e41, e42, H⟩ := H
    obtain ⟨q43, e44⟩ : ∃ q : Addr, q = Addr.add p39 (Int.toNat k8 * 3) := ⟨_, rfl⟩
    rw [← e44] at H
    refine s_pu (d := some 14) (v := (.pointer (some q43))) rfl rfl (wants_yes rfl rfl rfl rfl g38) (fun w => (r_indexAddr Tryd.underlying67 Tryd.sizeOf74 rfl rfl e40 e41 e42 w).trans (by rw [e44])) ?_
    refine s_pu (d := some 15) (v := (.pointer (some (Addr.add q43 0)))) rfl rfl (wants_yes rfl rfl rfl rfl g38) (r_fieldAddr Tryd.underlying74 Tryd.sizeOf3 rfl rfl rfl) ?_
    obtain ⟨x45, e46, H⟩ := H
    refine s_rd (d := some 16) (v := (.int .i64 x45)) rfl rfl (wants_yes rfl rfl rfl rfl g38) (fun dr => r_load1 Tryd.isAgg3 rfl e46) ?_
    refine s_pu (d := some 17) (v := (.pointer (some (Addr.add p5 0)))) rfl rfl (wants_yes rfl rfl rfl rfl g38) (r_fieldAddr Tryd.underlying74 Tryd.sizeOf3 rfl rfl rfl) ?_
    obtain ⟨x47, e48, H⟩ := H
    refine s_rd (d := some 18) (v := (.int .i64 x47)) rfl rfl (wants_yes rfl rfl rfl rfl g38) (fun dr => r_load1 Tryd.isAgg3 rfl e48) ?_
    refine s_pu (d := some 19) (v := (.bool (decide (x45 ≤ x47)))) rfl rfl (wants_yes rfl rfl rfl rfl g38) (r_leq rfl rfl) ?_
    refine s_pu (d := some 20) (v := (.bool (decide (x45 ≤ x47)))) rfl rfl rfl (r_pick1 rfl g38 rfl) ?_
    refine s_fin ?_
    exact N_mk (l := [(0, (Sl.v l1)), (3, (.pointer (some p5))), (5, (.int .i64 k8)), (20, (.bool (decide (x45 ≤ x47))))]) H ⟨rfl, rfl, rfl, rfl, trivial⟩
  · have H := H.2 g38
    refine s_sk (d := some 12) rfl rfl (wants_no rfl rfl rfl rfl g38) ?_
    refine s_sk (d := some 13) rfl rfl (wants_no rfl rfl rfl rfl g38) ?_
    refine s_sk (d := some 14) rfl rfl (wants_no rfl rfl rfl rfl g38) ?_
    refine s_sk (d := some 15) rfl rfl (wants_no rfl rfl rfl rfl g38) ?_
    refine s_skd (d := some 16) rfl rfl (wants_no rfl rfl rfl rfl g38) ?_
    refine s_sk (d := some 17) rfl rfl (wants_no rfl rfl rfl rfl g38) ?_
    refine s_skd (d := some 18) rfl rfl (wants_no rfl rfl rfl rfl g38) ?_
    refine s_sk (d := some 19) rfl rfl (wants_no rfl rfl rfl rfl g38) ?_
    refine s_pu (d := some 20) (v := (.bool false)) rfl rfl rfl (r_pick0 rfl g38 rfl) ?_
    refine s_fin ?_
    exact N_mk (l := [(0, (Sl.v l1)), (3, (.pointer (some p5))), (5, (.int .i64 k8)), (20, (.bool false))]) H ⟨rfl, rfl, rfl, rfl, trivial⟩

/-! ### ref1_Met -/

def ref1_Met_F (r : World) (l1 : Sl) (low2 : Int) (high3 : Int) (h : Heap) (R : Sl → Heap → Prop) : Prop :=
  ∀ X6 : Sl → Int → Heap → Prop, (∀ (out4 : Sl) (i5 : Int) (h1 : Heap),
    (Br (decide (i5 < ((l1.len : Int)))) (
      ∀ J8 : Sl → Heap → Prop, (∀ (out7 : Sl) (h2 : Heap),
        (X6 out7 (w64 (i5 + 1)) h2) →
        J8 out7 h2) →
      ∀ J11 : Bool → Prop, (∀ (x10 : Bool),
        (Br x10 (
          Ix l1 i5 3 fun q17 =>
          LdI h1 (Addr.add q17 0) fun x19 =>
          LdI h1 (Addr.add q17 1) fun x21 =>
          LdI h1 (Addr.add q17 2) fun x23 =>
          New h1 (.cells #[(.int .i64 x19), (.int .i64 x21), (.int .i64 x23)] 74) fun p25 h3 =>
          App 74 3 24 (.agg #[(.int .i64 0), (.int .i64 0), (.int .i64 0)]) out4 ((⟨some p25, 1, 1⟩ : Sl)) h3 fun s28 h4 =>
          J8 s28 h4) (
          J8 out4 h1)) →
        J11 x10) →
      Br (decide (low2 ≤ high3)) (
        Ix l1 i5 3 fun q35 =>
        LdI h1 (Addr.add q35 0) fun x37 =>
        Br (decide (x37 ≤ high3)) (
          Ix l1 i5 3 fun q44 =>
          LdI h1 (Addr.add q44 1) fun x46 =>
          J11 (decide (low2 ≤ x46))) (
          J11 false)) (
        J11 false)) (
      R out4 h1)) →
    X6 out4 i5 h1) →
  X6 Sl.nil 0 h

set_option maxRecDepth 100000 in
theorem ref1_Met_of {r : World} {l1 : Sl} {low2 : Int} {high3 : Int} {h : Heap} {R : Sl → Heap → Prop} (H : ref1_Met_F r l1 low2 high3 h R) : ref1_Met r l1 low2 high3 h R := by
  unfold ref1_Met_F at H
  refine calls_of 44 [.tmp 6] Tryd.func53 rfl rfl rfl rfl rfl ?_
  refine W_seq ?_
  refine W_region (.pu 0 .fin) rfl rfl ?_
  refine s_pu (d := some 6) (v := (Sl.v Sl.nil)) rfl rfl rfl (r_assign rfl) ?_
  refine s_fin ?_
  show W _ _ _ _ _ _ _ _
  refine W_seq ?_
  refine W_region (.pu 0 .fin) rfl rfl ?_
  refine s_pu (d := some 7) (v := (Sl.v Sl.nil)) rfl rfl rfl (r_assign rfl) ?_
  refine s_fin ?_
  show W _ _ _ _ _ _ _ _
  refine W_seq ?_
  refine W_seq ?_
  refine W_region (.pu 0 .fin) rfl rfl ?_
  refine s_pu (d := some 8) (v := (.int .i64 0)) rfl rfl rfl (r_assign rfl) ?_
  refine s_fin ?_
  show W _ _ _ _ _ _ _ _
  refine W_block ?_
  refine W_loop (WL_mk (l := [(0, (Sl.v l1)), (1, (.int .i64 low2)), (2, (.int .i64 high3)), (7, (Sl.v Sl.nil)), (8, (.int .i64 0))]) ?_ ⟨rfl, rfl, rfl, rfl, rfl, trivial⟩)
  refine H (fun (out4 : Sl) (i5 : Int) (h1 : Heap) => ∀ b, WL _ _ _ _ _ _ (mkE [(0, (Sl.v l1)), (1, (.int .i64 low2)), (2, (.int .i64 high3)), (7, (Sl.v out4)), (8, (.int .i64 i5))] b) h1) ?_
  intro out4 i5 h1 H b
  refine WL_round ?_
  refine W_seq ?_
  refine W_seq ?_
  refine W_region (.pu 0 (.pu 1 (.pu 2 (.pu 3 .fin)))) rfl rfl ?_
  refine s_pu (d := some 9) (v := (.int .i64 i5)) rfl rfl rfl (r_move rfl) ?_
  refine s_pu (d := some 10) (v := (Sl.v l1)) rfl rfl rfl (r_move rfl) ?_
  refine s_pu (d := some 11) (v := (.int .i64 ((l1.len : Int)))) rfl rfl rfl (r_len Tryd.underlying67 rfl) ?_
  refine s_pu (d := some 12) (v := (.bool (decide (i5 < ((l1.len : Int)))))) rfl rfl rfl (r_lss rfl rfl) ?_
  refine s_fin ?_
  show W _ _ _ _ _ _ _ _
  refine W_if (decide (i5 < ((l1.len : Int)))) rfl (fun g48 => ?_) (fun g48 => ?_)
  · have H := H.1 g48
    refine W_skip ?_
    show W _ _ _ _ _ _ _ _
    refine W_seq ?_
    refine W_set ?_
    intro N9 eN9
    have H := H (fun (out7 : Sl) (h2 : Heap) => ∀ b, N9 [] (mkE [(0, (Sl.v l1)), (1, (.int .i64 low2)), (2, (.int .i64 high3)), (7, (Sl.v out7)), (8, (.int .i64 i5))] b) h2) (by
      intro out7 h2 H b
      rw [eN9]
      show W _ _ _ _ _ _ _ _
      refine W_region (.pu 0 (.pu 1 (.pu 2 .fin))) rfl rfl ?_
      refine s_pu (d := some 13) (v := (.int .i64 i5)) rfl rfl rfl (r_move rfl) ?_
      refine s_pu (d := some 14) (v := (.int .i64 (w64 (i5 + 1)))) rfl rfl rfl (r_add rfl rfl) ?_
      refine s_pu (d := some 8) (v := (.int .i64 (w64 (i5 + 1)))) rfl rfl rfl (r_assign rfl) ?_
      refine s_fin ?_
      exact WL_mk (l := [(0, (Sl.v l1)), (1, (.int .i64 low2)), (2, (.int .i64 high3)), (7, (Sl.v out7)), (8, (.int .i64 (w64 (i5 + 1))))]) H ⟨rfl, rfl, rfl, rfl, rfl, trivial⟩)
    clear eN9
    refine W_block ?_
    refine W_seq ?_
    refine W_set ?_
    intro N12 eN12
    have H := H (fun (x10 : Bool) => ∀ b, N12 [] (mkE [(0, (Sl.v l1)), (1, (.int .i64 low2)), (2, (.int .i64 high3)), (7, (Sl.v out4)), (8, (.int .i64 i5)), (35, (.bool x10))] b) h1) (by
      intro x10 H b
      rw [eN12]
      show W _ _ _ _ _ _ _ _
      refine W_if x10 rfl (fun g29 => ?_) (fun g29 => ?_)
      · have H := H.1 g29
        refine W_region (.pu 0 (.pu 1 (.pu 2 (.pu 3 (.rl 4 (.ef 5 [] (.ef 6 [] (.pu 7 .fin) .no) .no)))))) rfl rfl ?_
        refine s_pu (d := some 36) (v := (Sl.v out4)) rfl rfl rfl (r_move rfl) ?_
        refine s_pu (d := some 37) (v := (Sl.v l1)) rfl rfl rfl (r_move rfl) ?_
        refine s_pu (d := some 38) (v := (.int .i64 i5)) rfl rfl rfl (r_move rfl) ?_
        obtain ⟨p13, e14, e15, e16, H⟩ := H
        obtain ⟨q17, e18⟩ : ∃ q : Addr, q = Addr.add p13 (Int.toNat i5 * 3) := ⟨_, rfl⟩
        rw [← e18] at H
        refine s_pu (d := some 39) (v := (.pointer (some q17))) rfl rfl rfl (fun w => (r_indexAddr Tryd.underlying67 Tryd.sizeOf74 rfl rfl e14 e15 e16 w).trans (by rw [e18])) ?_
        obtain ⟨x19, e20, H⟩ := H
        obtain ⟨x21, e22, H⟩ := H
        obtain ⟨x23, e24, H⟩ := H
        refine s_rl (d := some 40) (v := (.agg #[(.int .i64 x19), (.int .i64 x21), (.int .i64 x23)])) rfl rfl rfl (fun dr => r_loadN Tryd.isAgg74 Tryd.sizeOf74 (vs := [(.int .i64 x19), (.int .i64 x21), (.int .i64 x23)]) rfl rfl ⟨e20, e22, e24, trivial⟩) ?_
        obtain ⟨p25, e26⟩ : ∃ p : Addr, p = ⟨h1.size, 0, none⟩ := ⟨_, rfl⟩
        obtain ⟨h3, e27⟩ : ∃ hh : Heap, hh = h1.push (.cells #[(.int .i64 x19), (.int .i64 x21), (.int .i64 x23)] 74) := ⟨_, rfl⟩
        have H := H p25 h3 e26 e27
        refine s_ef1 (d := some 41) (v := (Sl.v ((⟨some p25, 1, 1⟩ : Sl)))) (h' := h3) rfl rfl rfl (fun dr => (slFDILaw_67.build (cells := #[(.int .i64 x19), (.int .i64 x21), (.int .i64 x23)]) (by decide) rfl (by kernel_rfl)).trans (by rw [e26, e27]; rfl)) trivial ?_ trivial
        refine s_ef (d := some 42) rfl rfl rfl (fun dr => slFDILaw_67.append rfl rfl H) ?_ trivial
        rintro _ h4 ⟨s28, rfl, H⟩
        refine ⟨trivial, ?_⟩
        refine s_pu (d := some 7) (v := (Sl.v s28)) rfl rfl rfl (r_assign rfl) ?_
        refine s_fin ?_
        exact N_mk (l := [(0, (Sl.v l1)), (1, (.int .i64 low2)), (2, (.int .i64 high3)), (7, (Sl.v s28)), (8, (.int .i64 i5))]) H ⟨rfl, rfl, rfl, rfl, rfl, trivial⟩
      · have H := H.2 g29
        refine W_skip ?_
        exact N_mk (l := [(0, (Sl.v l1)), (1, (.int .i64 low2)), (2, (.int .i64 high3)), (7, (Sl.v out4)), (8, (.int .i64 i5))]) H ⟨rfl, rfl, rfl, rfl, rfl, trivial⟩)
    clear eN12
    refine W_region (.pu 0 (.pu 1 (.pu 2 (.pu 3 (.pu 4 (.pu 5 (.pu 6 (.pu 7 (.rl 8 (.pu 9 (.pu 10 (.pu 11 (.pu 12 (.pu 13 (.pu 14 (.pu 15 (.pu 16 (.rl 17 (.pu 18 (.pu 19 (.pu 20 .fin))))))))))))))))))))) rfl rfl ?_
    refine s_pu (d := some 15) (v := (.int .i64 low2)) rfl rfl rfl (r_move rfl) ?_
    refine s_pu (d := some 16) (v := (.int .i64 high3)) rfl rfl rfl (r_move rfl) ?_
    refine s_pu (d := some 17) (v := (.bool (decide (low2 ≤ high3)))) rfl rfl rfl (r_leq rfl rfl) ?_
    refine s_pu (d := some 18) (v := (.bool (decide (low2 ≤ high3)))) rfl rfl rfl (r_move rfl) ?_
    rcases Bool.eq_false_or_eq_true (decide (low2 ≤ high3)) with g30 | g30
    · have H := H.1 g30
      refine s_pu (d := some 19) (v := (Sl.v l1)) rfl rfl (wants_yes rfl rfl rfl rfl g30) (r_move rfl) ?_
      refine s_pu (d := some 20) (v := (.int .i64 i5)) rfl rfl (wants_yes rfl rfl rfl rfl g30) (r_move rfl) ?_
      obtain ⟨p31, e32, e33, e34, H⟩ := H
      obtain ⟨q35, e36⟩ : ∃ q : Addr, q = Addr.add p31 (Int.toNat i5 * 3) := ⟨_, rfl⟩
      rw [← e36] at H
      refine s_pu (d := some 21) (v := (.pointer (some q35))) rfl rfl (wants_yes rfl rfl rfl rfl g30) (fun w => (r_indexAddr Tryd.underlying67 Tryd.sizeOf74 rfl rfl e32 e33 e34 w).trans (by rw [e36])) ?_
      refine s_pu (d := some 22) (v := (.pointer (some (Addr.add q35 0)))) rfl rfl (wants_yes rfl rfl rfl rfl g30) (r_fieldAddr Tryd.underlying74 Tryd.sizeOf3 rfl rfl rfl) ?_
      obtain ⟨x37, e38, H⟩ := H
      refine s_rl (d := some 23) (v := (.int .i64 x37)) rfl rfl (wants_yes rfl rfl rfl rfl g30) (fun dr => r_load1 Tryd.isAgg3 rfl e38) ?_
      refine s_pu (d := some 24) (v := (.int .i64 high3)) rfl rfl (wants_yes rfl rfl rfl rfl g30) (r_move rfl) ?_
      refine s_pu (d := some 25) (v := (.bool (decide (x37 ≤ high3)))) rfl rfl (wants_yes rfl rfl rfl rfl g30) (r_leq rfl rfl) ?_
      refine s_pu (d := some 26) (v := (.bool (decide (x37 ≤ high3)))) rfl rfl rfl (r_pick1 rfl g30 rfl) ?_
      refine s_pu (d := some 27) (v := (.bool (decide (x37 ≤ high3)))) rfl rfl rfl (r_move rfl) ?_
      rcases Bool.eq_false_or_eq_true (decide (x37 ≤ high3)) with g39 | g39
      · have H := H.1 g39
        refine s_pu (d := some 28) (v := (Sl.v l1)) rfl rfl (wants_yes rfl rfl rfl rfl g39) (r_move rfl) ?_
        refine s_pu (d := some 29) (v := (.int .i64 i5)) rfl rfl (wants_yes rfl rfl rfl rfl g39) (r_move rfl) ?_
        obtain ⟨p40, e41, e42, e43, H⟩ := H
        obtain ⟨q44, e45⟩ : ∃ q : Addr, q = Addr.add p40 (Int.toNat i5 * 3) := ⟨_, rfl⟩
        rw [← e45] at H
        refine s_pu (d := some 30) (v := (.pointer (some q44))) rfl rfl (wants_yes rfl rfl rfl rfl g39) (fun w => (r_indexAddr Tryd.underlying67 Tryd.sizeOf74 rfl rfl e41 e42 e43 w).trans (by rw [e45])) ?_
        refine s_pu (d := some 31) (v := (.pointer (some (Addr.add q44 1)))) rfl rfl (wants_yes rfl rfl rfl rfl g39) (r_fieldAddr Tryd.underlying74 Tryd.sizeOf3 rfl rfl rfl) ?_
        obtain ⟨x46, e47, H⟩ := H
        refine s_rl (d := some 32) (v := (.int .i64 x46)) rfl rfl (wants_yes rfl rfl rfl rfl g39) (fun dr => r_load1 Tryd.isAgg3 rfl e47) ?_
        refine s_pu (d := some 33) (v := (.int .i64 low2)) rfl rfl (wants_yes rfl rfl rfl rfl g39) (r_move rfl) ?_
        refine s_pu (d := some 34) (v := (.bool (decide (low2 ≤ x46)))) rfl rfl (wants_yes rfl rfl rfl rfl g39) (r_geq rfl rfl) ?_
        refine s_pu (d := some 35) (v := (.bool (decide (low2 ≤ x46)))) rfl rfl rfl (r_pick1 rfl g39 rfl) ?_
        refine s_fin ?_
        exact N_mk (l := [(0, (Sl.v l1)), (1, (.int .i64 low2)), (2, (.int .i64 high3)), (7, (Sl.v out4)), (8, (.int .i64 i5)), (35, (.bool (decide (low2 ≤ x46))))]) H ⟨rfl, rfl, rfl, rfl, rfl, rfl, trivial⟩
      · have H := H.2 g39
        refine s_sk (d := some 28) rfl rfl (wants_no rfl rfl rfl rfl g39) ?_
        refine s_sk (d := some 29) rfl rfl (wants_no rfl rfl rfl rfl g39) ?_
        refine s_sk (d := some 30) rfl rfl (wants_no rfl rfl rfl rfl g39) ?_
        refine s_sk (d := some 31) rfl rfl (wants_no rfl rfl rfl rfl g39) ?_
        refine s_skl (d := some 32) rfl rfl (wants_no rfl rfl rfl rfl g39) ?_
        refine s_sk (d := some 33) rfl rfl (wants_no rfl rfl rfl rfl g39) ?_
        refine s_sk (d := some 34) rfl rfl (wants_no rfl rfl rfl rfl g39) ?_
        refine s_pu (d := some 35) (v := (.bool false)) rfl rfl rfl (r_pick0 rfl g39 rfl) ?_
        refine s_fin ?_
        exact N_mk (l := [(0, (Sl.v l1)), (1, (.int .i64 low2)), (2, (.int .i64 high3)), (7, (Sl.v out4)), (8, (.int .i64 i5)), (35, (.bool false))]) H ⟨rfl, rfl, rfl, rfl, rfl, rfl, trivial⟩
    · have H := H.2 g30
      refine s_sk (d := some 19) rfl rfl (wants_no rfl rfl rfl rfl g30) ?_
      refine s_sk (d := some 20) rfl rfl (wants_no rfl rfl rfl rfl g30) ?_
      refine s_sk (d := some 21) rfl rfl (wants_no rfl rfl rfl rfl g30) ?_
      refine s_sk (d := some 22) rfl rfl (wants_no rfl rfl rfl rfl g30) ?_
      refine s_skl (d := some 23) rfl rfl (wants_no rfl rfl rfl rfl g30) ?_
      refine s_sk (d := some 24) rfl rfl (wants_no rfl rfl rfl rfl g30) ?_
      refine s_sk (d := some 25) rfl rfl (wants_no rfl rfl rfl rfl g30) ?_
      refine s_pu (d := some 26) (v := (.bool false)) rfl rfl rfl (r_pick0 rfl g30 rfl) ?_
      refine s_pu (d := some 27) (v := (.bool false)) rfl rfl rfl (r_move rfl) ?_
      refine s_sk (d := some 28) rfl rfl (wants_no rfl rfl rfl rfl rfl) ?_
      refine s_sk (d := some 29) rfl rfl (wants_no rfl rfl rfl rfl rfl) ?_
      refine s_sk (d := some 30) rfl rfl (wants_no rfl rfl rfl rfl rfl) ?_
      refine s_sk (d := some 31) rfl rfl (wants_no rfl rfl rfl rfl rfl) ?_
      refine s_skl (d := some 32) rfl rfl (wants_no rfl rfl rfl rfl rfl) ?_
      refine s_sk (d := some 33) rfl rfl (wants_no rfl rfl rfl rfl rfl) ?_
      refine s_sk (d := some 34) rfl rfl (wants_no rfl rfl rfl rfl rfl) ?_
      refine s_pu (d := some 35) (v := (.bool false)) rfl rfl rfl (r_pick0 rfl rfl rfl) ?_
      refine s_fin ?_
      exact N_mk (l := [(0, (Sl.v l1)), (1, (.int .i64 low2)), (2, (.int .i64 high3)), (7, (Sl.v out4)), (8, (.int .i64 i5)), (35, (.bool false))]) H ⟨rfl, rfl, rfl, rfl, rfl, rfl, trivial⟩
  · have H := H.2 g48
    refine W_exit (inX_here ?_)
    show W _ _ _ _ _ _ _ _
    refine W_seq ?_
    refine W_region (.pu 0 (.pu 1 .fin)) rfl rfl ?_
    refine s_pu (d := some 43) (v := (Sl.v out4)) rfl rfl rfl (r_move rfl) ?_
    refine s_pu (d := some 6) (v := (Sl.v out4)) rfl rfl rfl (r_assign rfl) ?_
    refine s_fin ?_
    show W _ _ _ _ _ _ _ _
    refine W_ret ?_
    exact ⟨[(Sl.v out4)], ⟨_, _, rfl, rfl, rfl⟩, out4, rfl, H⟩

/-! ### law3_IvalTells -/

def law3_IvalTells_F (r : World) (l1 : Sl) (x2 : Int) (low3 : Int) (high4 : Int) (h : Heap) (R : Bool → Heap → Prop) : Prop :=
  law3_spanned r h fun y5 h1 =>
  Br (!y5) (
    R false h1) (
    New h1 (.cells #[(.pointer none)] 72) fun p6 h2 =>
    ∀ X11 : Sl → Int → Heap → Prop, (∀ (all9 : Sl) (i10 : Int) (h3 : Heap),
      (Br (decide (i10 < ((l1.len : Int)))) (
        ∀ J13 : Sl → Heap → Prop, (∀ (all12 : Sl) (h4 : Heap),
          (X11 all12 (w64 (i10 + 1)) h4) →
          J13 all12 h4) →
        Ix l1 i10 3 fun q19 =>
        LdI h3 (Addr.add q19 0) fun x21 =>
        Ix l1 i10 3 fun q27 =>
        LdI h3 (Addr.add q27 1) fun x29 =>
        ∀ J32 : Int → Prop, (∀ (ve31 : Int),
          (∀ J36 : Addr → Value → Heap → Prop, (∀ (p34 : Addr) (err35 : Value) (h5 : Heap),
            (same_Error r err35 ve31 h5 fun y38 h6 =>
            Br (!y38) (
              R false h6) (
              Br (decide (ve31 = 0)) (
                LdP h6 (Addr.add p34 0) fun x39 =>
                St h6 p6 1 [(.pointer x39)] fun h7 =>
                Ix l1 i10 3 fun q47 =>
                LdI h7 (Addr.add q47 0) fun x49 =>
                LdI h7 (Addr.add q47 1) fun x51 =>
                LdI h7 (Addr.add q47 2) fun x53 =>
                ref1_Laid r all9 x49 x51 x53 h7 fun y55 h8 =>
                J13 y55 h8) (
                J13 all9 h6))) →
            J36 p34 err35 h5) →
          LdP h3 (Addr.add p6 0) fun x58 =>
          Ix l1 i10 3 fun q64 =>
          LdI h3 (Addr.add q64 0) fun x66 =>
          LdI h3 (Addr.add q64 1) fun x68 =>
          LdI h3 (Addr.add q64 2) fun x70 =>
          (ival_Map_Add r x58 x66 x68 x70 h3 fun y72 y73 h9 =>
          New h9 (.cells #[(.pointer none)] 72) fun p74 h10 =>
          (hcell h10 (Addr.add q64 0) = some (.int .i64 x66)) ∧
          (hcell h10 (Addr.add q64 1) = some (.int .i64 x68)) ∧
          (hcell h10 (Addr.add q64 2) = some (.int .i64 x70)) ∧
          (hcell h10 (Addr.add p6 0) = some (.pointer x58)) ∧
          St h10 p74 1 [(.pointer y72)] fun h11 =>
          J36 p74 y73 h11) ∧
          (New h3 (.cells #[(.pointer none)] 72) fun p83 h12 =>
          (hcell h12 (Addr.add q64 0) = some (.int .i64 x66)) ∧
          (hcell h12 (Addr.add q64 1) = some (.int .i64 x68)) ∧
          (hcell h12 (Addr.add q64 2) = some (.int .i64 x70)) ∧
          (hcell h12 (Addr.add p6 0) = some (.pointer x58)) ∧
          ival_Map_Add r x58 x66 x68 x70 h12 fun y90 y91 h13 =>
          St h13 p83 1 [(.pointer y90)] fun h14 =>
          J36 p83 y91 h14)) →
          J32 ve31) →
        Br (decide (x29 < x21)) (
          J32 3) (
          J32 0)) (
        LdP h3 (Addr.add p6 0) fun x95 =>
        ival_Map_Spans r x95 h3 fun y97 h15 =>
        same_Spans r y97 all9 h15 fun y98 h16 =>
        LdP h16 (Addr.add p6 0) fun x99 =>
        ival_Map_All r x99 x2 h16 fun y101 h17 =>
        ref1_Met r all9 x2 x2 h17 fun y102 h18 =>
        same_Spans r y101 y102 h18 fun y103 h19 =>
        LdP h19 (Addr.add p6 0) fun x104 =>
        ival_Map_Over r x104 low3 high4 h19 fun y106 h20 =>
        ref1_Met r all9 low3 high4 h20 fun y107 h21 =>
        same_Spans r y106 y107 h21 fun y108 h22 =>
        LdP h22 (Addr.add p6 0) fun x109 =>
        ival_Map_Any r x109 x2 h22 fun y111 y112 y113 y114 h23 =>
        New h23 (.cells #[(.int .i64 0), (.int .i64 0), (.int .i64 0)] 74) fun p115 h24 =>
        St h24 p115 3 [(.int .i64 y111), (.int .i64 y112), (.int .i64 y113)] fun h25 =>
        New h25 (.cells #[(.int .i64 0), (.int .i64 0), (.int .i64 0)] 74) fun p120 h26 =>
        ref1_Met r all9 x2 x2 h26 fun y123 h27 =>
        ∀ J124 : Heap → Prop, (∀ (h28 : Heap),
          (∀ J127 : Bool → Heap → Prop, (∀ (x126 : Bool) (h29 : Heap),
            (R x126 h29) →
            J127 x126 h29) →
          Br y98 (
            Br y103 (
              Br y108 (
                LdP h28 (Addr.add p6 0) fun x132 =>
                ival_Map_Len r x132 h28 fun y134 h30 =>
                Br (decide (y134 = ((all9.len : Int)))) (
                  ref1_Met r all9 x2 x2 h30 fun y136 h31 =>
                  Br (y114 == (decide (0 < ((y136.len : Int))))) (
                    LdI h31 (Addr.add p115 0) fun x138 =>
                    LdI h31 (Addr.add p115 1) fun x140 =>
                    LdI h31 (Addr.add p115 2) fun x142 =>
                    LdI h31 (Addr.add p120 0) fun x144 =>
                    LdI h31 (Addr.add p120 1) fun x146 =>
                    LdI h31 (Addr.add p120 2) fun x148 =>
                    J127 (decide (x138 = x144 ∧ x140 = x146 ∧ x142 = x148)) h31) (
                    J127 false h31)) (
                  J127 false h30)) (
                J127 false h28)) (
              J127 false h28)) (
            J127 false h28)) →
          J124 h28) →
        Br (decide (0 < ((y123.len : Int)))) (
          ref1_Met r all9 x2 x2 h27 fun y150 h32 =>
          Ix y150 0 3 fun q155 =>
          LdI h32 (Addr.add q155 0) fun x157 =>
          LdI h32 (Addr.add q155 1) fun x159 =>
          LdI h32 (Addr.add q155 2) fun x161 =>
          St h32 p120 3 [(.int .i64 x157), (.int .i64 x159), (.int .i64 x161)] fun h33 =>
          J124 h33) (
          J124 h27))) →
      X11 all9 i10 h3) →
    X11 Sl.nil 0 h2)

set_option maxRecDepth 100000 in
theorem law3_IvalTells_of {r : World} {l1 : Sl} {x2 : Int} {low3 : Int} {high4 : Int} {h : Heap} {R : Bool → Heap → Prop} (H : law3_IvalTells_F r l1 x2 low3 high4 h R) : law3_IvalTells r l1 x2 low3 high4 h R := by
  unfold law3_IvalTells_F at H
  refine calls_of 134 [.tmp 8] Tryd.func8 rfl rfl rfl rfl rfl ?_
  refine W_seq ?_
  refine W_region (.pu 0 .fin) rfl rfl ?_
  refine s_pu (d := some 8) (v := (.bool false)) rfl rfl rfl (r_assign rfl) ?_
  refine s_fin ?_
  show W _ _ _ _ _ _ _ _
  refine W_seq ?_
  refine W_region (.ef 0 [] (.pu 1 .fin) .no) rfl rfl ?_
  refine s_ef (d := some 23) rfl rfl rfl (fun dr => r_call Tryd.call47 rfl rfl H) ?_ trivial
  rintro _ h1 ⟨y5, rfl, H⟩
  refine ⟨trivial, ?_⟩
  refine s_pu (d := some 9) (v := (.bool y5)) rfl rfl rfl (r_assign rfl) ?_
  refine s_fin ?_
  show W _ _ _ _ _ _ _ _
  refine W_seq ?_
  refine W_seq ?_
  refine W_region (.pu 0 (.pu 1 .fin)) rfl rfl ?_
  refine s_pu (d := some 24) (v := (.bool y5)) rfl rfl rfl (r_move rfl) ?_
  refine s_pu (d := some 25) (v := (.bool (!y5))) rfl rfl rfl (r_not rfl) ?_
  refine s_fin ?_
  show W _ _ _ _ _ _ _ _
  refine W_if (!y5) rfl (fun g167 => ?_) (fun g167 => ?_)
  · have H := H.1 g167
    refine W_seq ?_
    refine W_region (.pu 0 .fin) rfl rfl ?_
    refine s_pu (d := some 8) (v := (.bool false)) rfl rfl rfl (r_assign rfl) ?_
    refine s_fin ?_
    show W _ _ _ _ _ _ _ _
    refine W_ret ?_
    exact ⟨[(.bool false)], ⟨_, _, rfl, rfl, rfl⟩, false, rfl, H⟩
  · have H := H.2 g167
    refine W_skip ?_
    show W _ _ _ _ _ _ _ _
    refine W_seq ?_
    refine W_region (.ef 0 [] .fin .no) rfl rfl ?_
    obtain ⟨p6, e7⟩ : ∃ p : Addr, p = ⟨h1.size, 0, none⟩ := ⟨_, rfl⟩
    obtain ⟨h2, e8⟩ : ∃ hh : Heap, hh = h1.push (.cells #[(.pointer none)] 72) := ⟨_, rfl⟩
    have H := H p6 h2 e7 e8
    refine s_ef1 (d := some 10) (v := (.pointer (some p6))) (h' := h2) rfl rfl rfl (fun dr => (r_alloc Tryd.zeroValue72).trans (by rw [e7, e8]; rfl)) trivial ?_ trivial
    refine s_fin ?_
    show W _ _ _ _ _ _ _ _
    refine W_seq ?_
    refine W_region (.pu 0 .fin) rfl rfl ?_
    refine s_pu (d := some 11) (v := (Sl.v Sl.nil)) rfl rfl rfl (r_assign rfl) ?_
    refine s_fin ?_
    show W _ _ _ _ _ _ _ _
    refine W_seq ?_
    refine W_seq ?_
    refine W_region (.pu 0 .fin) rfl rfl ?_
    refine s_pu (d := some 12) (v := (.int .i64 0)) rfl rfl rfl (r_assign rfl) ?_
    refine s_fin ?_
    show W _ _ _ _ _ _ _ _
    refine W_block ?_
    refine W_loop (WL_mk (l := [(0, (Sl.v l1)), (1, (.int .i64 x2)), (2, (.int .i64 low3)), (3, (.int .i64 high4)), (10, (.pointer (some p6))), (11, (Sl.v Sl.nil)), (12, (.int .i64 0))]) ?_ ⟨rfl, rfl, rfl, rfl, rfl, rfl, rfl, trivial⟩)
    refine H (fun (all9 : Sl) (i10 : Int) (h3 : Heap) => ∀ b, WL _ _ _ _ _ _ (mkE [(0, (Sl.v l1)), (1, (.int .i64 x2)), (2, (.int .i64 low3)), (3, (.int .i64 high4)), (10, (.pointer (some p6))), (11, (Sl.v all9)), (12, (.int .i64 i10))] b) h3) ?_
    intro all9 i10 h3 H b
    refine WL_round ?_
    refine W_seq ?_
    refine W_seq ?_
    refine W_region (.pu 0 (.pu 1 (.pu 2 (.pu 3 .fin)))) rfl rfl ?_
    refine s_pu (d := some 26) (v := (.int .i64 i10)) rfl rfl rfl (r_move rfl) ?_
    refine s_pu (d := some 27) (v := (Sl.v l1)) rfl rfl rfl (r_move rfl) ?_
    refine s_pu (d := some 28) (v := (.int .i64 ((l1.len : Int)))) rfl rfl rfl (r_len Tryd.underlying67 rfl) ?_
    refine s_pu (d := some 29) (v := (.bool (decide (i10 < ((l1.len : Int)))))) rfl rfl rfl (r_lss rfl rfl) ?_
    refine s_fin ?_
    show W _ _ _ _ _ _ _ _
    refine W_if (decide (i10 < ((l1.len : Int)))) rfl (fun g166 => ?_) (fun g166 => ?_)
    · have H := H.1 g166
      refine W_skip ?_
      show W _ _ _ _ _ _ _ _
      refine W_seq ?_
      refine W_set ?_
      intro N14 eN14
      have H := H (fun (all12 : Sl) (h4 : Heap) => ∀ b, N14 [] (mkE [(0, (Sl.v l1)), (1, (.int .i64 x2)), (2, (.int .i64 low3)), (3, (.int .i64 high4)), (10, (.pointer (some p6))), (11, (Sl.v all12)), (12, (.int .i64 i10))] b) h4) (by
        intro all12 h4 H b
        rw [eN14]
        show W _ _ _ _ _ _ _ _
        refine W_region (.pu 0 (.pu 1 (.pu 2 .fin))) rfl rfl ?_
        refine s_pu (d := some 30) (v := (.int .i64 i10)) rfl rfl rfl (r_move rfl) ?_
        refine s_pu (d := some 31) (v := (.int .i64 (w64 (i10 + 1)))) rfl rfl rfl (r_add rfl rfl) ?_
        refine s_pu (d := some 12) (v := (.int .i64 (w64 (i10 + 1)))) rfl rfl rfl (r_assign rfl) ?_
        refine s_fin ?_
        exact WL_mk (l := [(0, (Sl.v l1)), (1, (.int .i64 x2)), (2, (.int .i64 low3)), (3, (.int .i64 high4)), (10, (.pointer (some p6))), (11, (Sl.v all12)), (12, (.int .i64 (w64 (i10 + 1))))]) H ⟨rfl, rfl, rfl, rfl, rfl, rfl, rfl, trivial⟩)
      clear eN14
      refine W_block ?_
      refine W_seq ?_
      refine W_region (.pu 0 .fin) rfl rfl ?_
      refine s_pu (d := some 13) (v := (.int .i64 0)) rfl rfl rfl (r_assign rfl) ?_
      refine s_fin ?_
      show W _ _ _ _ _ _ _ _
      refine W_seq ?_
      refine W_seq ?_
      refine W_draw [0, 0, 3, 7, 15, 0, 0, 96, 224, 480, 1023] (.pu 0 (.pu 1 (.pu 2 (.pu 3 (.rd 4 (.pu 5 (.pu 6 (.pu 7 (.pu 8 (.rd 9 (.pu 10 .fin))))))))))) (by kernel_rfl) (by kernel_rfl) ?_
      refine s_pu (d := some 32) (v := (Sl.v l1)) rfl rfl rfl (r_move rfl) ?_
      refine s_pu (d := some 33) (v := (.int .i64 i10)) rfl rfl rfl (r_move rfl) ?_
      obtain ⟨p15, e16, e17, e18, H⟩ := H
      obtain ⟨q19, e20⟩ : ∃ q : Addr, q = Addr.add p15 (Int.toNat i10 * 3) := ⟨_, rfl⟩
      rw [← e20] at H
      refine s_pu (d := some 34) (v := (.pointer (some q19))) rfl rfl rfl (fun w => (r_indexAddr Tryd.underlying67 Tryd.sizeOf74 rfl rfl e16 e17 e18 w).trans (by rw [e20])) ?_
      refine s_pu (d := some 35) (v := (.pointer (some (Addr.add q19 0)))) rfl rfl rfl (r_fieldAddr Tryd.underlying74 Tryd.sizeOf3 rfl rfl rfl) ?_
      obtain ⟨x21, e22, H⟩ := H
      refine s_rd (d := some 36) (v := (.int .i64 x21)) rfl rfl rfl (fun dr => r_load1 Tryd.isAgg3 rfl e22) ?_
      refine s_pu (d := some 37) (v := (Sl.v l1)) rfl rfl rfl (r_move rfl) ?_
      refine s_pu (d := some 38) (v := (.int .i64 i10)) rfl rfl rfl (r_move rfl) ?_
      obtain ⟨p23, e24, e25, e26, H⟩ := H
      obtain ⟨q27, e28⟩ : ∃ q : Addr, q = Addr.add p23 (Int.toNat i10 * 3) := ⟨_, rfl⟩
      rw [← e28] at H
      refine s_pu (d := some 39) (v := (.pointer (some q27))) rfl rfl rfl (fun w => (r_indexAddr Tryd.underlying67 Tryd.sizeOf74 rfl rfl e24 e25 e26 w).trans (by rw [e28])) ?_
      refine s_pu (d := some 40) (v := (.pointer (some (Addr.add q27 1)))) rfl rfl rfl (r_fieldAddr Tryd.underlying74 Tryd.sizeOf3 rfl rfl rfl) ?_
      obtain ⟨x29, e30, H⟩ := H
      refine s_rd (d := some 41) (v := (.int .i64 x29)) rfl rfl rfl (fun dr => r_load1 Tryd.isAgg3 rfl e30) ?_
      refine s_pu (d := some 42) (v := (.bool (decide (x29 < x21)))) rfl rfl rfl (r_gtr rfl rfl) ?_
      refine s_fin ?_
      show W _ _ _ _ _ _ _ _
      refine W_set ?_
      intro N33 eN33
      have H := H (fun (ve31 : Int) => ∀ b, N33 [] (mkE [(0, (Sl.v l1)), (1, (.int .i64 x2)), (2, (.int .i64 low3)), (3, (.int .i64 high4)), (10, (.pointer (some p6))), (11, (Sl.v all9)), (12, (.int .i64 i10)), (13, (.int .i64 ve31))] b) h3) (by
        intro ve31 H b
        rw [eN33]
        show W _ _ _ _ _ _ _ _
        refine W_seq ?_
        refine W_set ?_
        intro N37 eN37
        have H := H (fun (p34 : Addr) (err35 : Value) (h5 : Heap) => ∀ b, N37 [] (mkE [(0, (Sl.v l1)), (1, (.int .i64 x2)), (2, (.int .i64 low3)), (3, (.int .i64 high4)), (10, (.pointer (some p6))), (11, (Sl.v all9)), (12, (.int .i64 i10)), (13, (.int .i64 ve31)), (14, (.pointer (some p34))), (15, err35)] b) h5) (by
          intro p34 err35 h5 H b
          rw [eN37]
          show W _ _ _ _ _ _ _ _
          refine W_seq ?_
          refine W_region (.pu 0 (.pu 1 (.ef 2 [] (.pu 3 .fin) .no))) rfl rfl ?_
          refine s_pu (d := some 52) (v := err35) rfl rfl rfl (r_move rfl) ?_
          refine s_pu (d := some 53) (v := (.int .i64 ve31)) rfl rfl rfl (r_move rfl) ?_
          refine s_ef (d := some 54) rfl rfl rfl (fun dr => r_call Tryd.call12 rfl rfl H) ?_ trivial
          rintro _ h6 ⟨y38, rfl, H⟩
          refine ⟨trivial, ?_⟩
          refine s_pu (d := some 16) (v := (.bool y38)) rfl rfl rfl (r_assign rfl) ?_
          refine s_fin ?_
          show W _ _ _ _ _ _ _ _
          refine W_seq ?_
          refine W_seq ?_
          refine W_region (.pu 0 (.pu 1 .fin)) rfl rfl ?_
          refine s_pu (d := some 55) (v := (.bool y38)) rfl rfl rfl (r_move rfl) ?_
          refine s_pu (d := some 56) (v := (.bool (!y38))) rfl rfl rfl (r_not rfl) ?_
          refine s_fin ?_
          show W _ _ _ _ _ _ _ _
          refine W_if (!y38) rfl (fun g57 => ?_) (fun g57 => ?_)
          · have H := H.1 g57
            refine W_seq ?_
            refine W_region (.pu 0 .fin) rfl rfl ?_
            refine s_pu (d := some 8) (v := (.bool false)) rfl rfl rfl (r_assign rfl) ?_
            refine s_fin ?_
            show W _ _ _ _ _ _ _ _
            refine W_ret ?_
            exact ⟨[(.bool false)], ⟨_, _, rfl, rfl, rfl⟩, false, rfl, H⟩
          · have H := H.2 g57
            refine W_skip ?_
            show W _ _ _ _ _ _ _ _
            refine W_seq ?_
            refine W_region (.pu 0 (.pu 1 .fin)) rfl rfl ?_
            refine s_pu (d := some 57) (v := (.int .i64 ve31)) rfl rfl rfl (r_move rfl) ?_
            refine s_pu (d := some 58) (v := (.bool (decide (ve31 = 0)))) rfl rfl rfl (r_eql rfl rfl) ?_
            refine s_fin ?_
            show W _ _ _ _ _ _ _ _
            refine W_if (decide (ve31 = 0)) rfl (fun g56 => ?_) (fun g56 => ?_)
            · have H := H.1 g56
              refine W_seq ?_
              refine W_region (.rl 0 (.ef 1 [] .fin .no)) rfl rfl ?_
              obtain ⟨x39, e40, H⟩ := H
              refine s_rl (d := some 59) (v := (.agg #[(.pointer x39)])) rfl rfl rfl (fun dr => r_loadN Tryd.isAgg72 Tryd.sizeOf72 (vs := [(.pointer x39)]) rfl rfl ⟨e40, trivial⟩) ?_
              obtain ⟨e42, H⟩ := H
              obtain ⟨h7, e41⟩ : ∃ hh : Heap, hh = hsets h6 p6 0 [(.pointer x39)] := ⟨_, rfl⟩
              have H := H h7 e41
              refine s_st (d := none) (h' := h7) rfl rfl rfl (fun dr => (r_store (v := (.agg #[(.pointer x39)])) Tryd.sizeOf72 rfl rfl rfl (one_all rfl) e42).trans (by rw [e41]; rfl)) trivial ?_ trivial
              refine s_fin ?_
              show W _ _ _ _ _ _ _ _
              refine W_region (.pu 0 (.pu 1 (.pu 2 (.pu 3 (.rl 4 (.ef 5 [] (.pu 6 .fin) .no)))))) rfl rfl ?_
              refine s_pu (d := some 60) (v := (Sl.v all9)) rfl rfl rfl (r_move rfl) ?_
              refine s_pu (d := some 61) (v := (Sl.v l1)) rfl rfl rfl (r_move rfl) ?_
              refine s_pu (d := some 62) (v := (.int .i64 i10)) rfl rfl rfl (r_move rfl) ?_
              obtain ⟨p43, e44, e45, e46, H⟩ := H
              obtain ⟨q47, e48⟩ : ∃ q : Addr, q = Addr.add p43 (Int.toNat i10 * 3) := ⟨_, rfl⟩
              rw [← e48] at H
              refine s_pu (d := some 63) (v := (.pointer (some q47))) rfl rfl rfl (fun w => (r_indexAddr Tryd.underlying67 Tryd.sizeOf74 rfl rfl e44 e45 e46 w).trans (by rw [e48])) ?_
              obtain ⟨x49, e50, H⟩ := H
              obtain ⟨x51, e52, H⟩ := H
              obtain ⟨x53, e54, H⟩ := H
              refine s_rl (d := some 64) (v := (.agg #[(.int .i64 x49), (.int .i64 x51), (.int .i64 x53)])) rfl rfl rfl (fun dr => r_loadN Tryd.isAgg74 Tryd.sizeOf74 (vs := [(.int .i64 x49), (.int .i64 x51), (.int .i64 x53)]) rfl rfl ⟨e50, e52, e54, trivial⟩) ?_
              refine s_ef (d := some 65) rfl rfl rfl (fun dr => r_call Tryd.call49 rfl rfl H) ?_ trivial
              rintro _ h8 ⟨y55, rfl, H⟩
              refine ⟨trivial, ?_⟩
              refine s_pu (d := some 11) (v := (Sl.v y55)) rfl rfl rfl (r_assign rfl) ?_
              refine s_fin ?_
              exact N_mk (l := [(0, (Sl.v l1)), (1, (.int .i64 x2)), (2, (.int .i64 low3)), (3, (.int .i64 high4)), (10, (.pointer (some p6))), (11, (Sl.v y55)), (12, (.int .i64 i10))]) H ⟨rfl, rfl, rfl, rfl, rfl, rfl, rfl, trivial⟩
            · have H := H.2 g56
              refine W_skip ?_
              exact N_mk (l := [(0, (Sl.v l1)), (1, (.int .i64 x2)), (2, (.int .i64 low3)), (3, (.int .i64 high4)), (10, (.pointer (some p6))), (11, (Sl.v all9)), (12, (.int .i64 i10))]) H ⟨rfl, rfl, rfl, rfl, rfl, rfl, rfl, trivial⟩)
        clear eN37
        refine W_draw [0, 0, 0, 6, 14, 31, 63, 127, 127, 0, 767, 2047] (.rd 0 (.pu 1 (.pu 2 (.pu 3 (.rd 4 (.ef 5 [0, 4] (.pu 6 (.pu 7 (.pu 8 (.ef 9 [] (.ef 10 [0, 4] (.pu 11 .fin) .no) .no)))) (.ef 9 [] (.ef 5 [0, 4] (.pu 6 (.pu 7 (.pu 8 (.ef 10 [0, 4] (.pu 11 .fin) .no)))) .no) .no))))))) (by kernel_rfl) (by kernel_rfl) ?_
        obtain ⟨x58, e59, H⟩ := H
        refine s_rd (d := some 44) (v := (.agg #[(.pointer x58)])) rfl rfl rfl (fun dr => r_loadN Tryd.isAgg72 Tryd.sizeOf72 (vs := [(.pointer x58)]) rfl rfl ⟨e59, trivial⟩) ?_
        refine s_pu (d := some 45) (v := (Sl.v l1)) rfl rfl rfl (r_move rfl) ?_
        refine s_pu (d := some 46) (v := (.int .i64 i10)) rfl rfl rfl (r_move rfl) ?_
        obtain ⟨p60, e61, e62, e63, H⟩ := H
        obtain ⟨q64, e65⟩ : ∃ q : Addr, q = Addr.add p60 (Int.toNat i10 * 3) := ⟨_, rfl⟩
        rw [← e65] at H
        refine s_pu (d := some 47) (v := (.pointer (some q64))) rfl rfl rfl (fun w => (r_indexAddr Tryd.underlying67 Tryd.sizeOf74 rfl rfl e61 e62 e63 w).trans (by rw [e65])) ?_
        obtain ⟨x66, e67, H⟩ := H
        obtain ⟨x68, e69, H⟩ := H
        obtain ⟨x70, e71, H⟩ := H
        refine s_rd (d := some 48) (v := (.agg #[(.int .i64 x66), (.int .i64 x68), (.int .i64 x70)])) rfl rfl rfl (fun dr => r_loadN Tryd.isAgg74 Tryd.sizeOf74 (vs := [(.int .i64 x66), (.int .i64 x68), (.int .i64 x70)]) rfl rfl ⟨e67, e69, e71, trivial⟩) ?_
        refine s_or ?_ ?_
        · have H := H.1
          refine s_ef (d := some 49) rfl rfl rfl (fun dr => r_call Tryd.call48 rfl rfl H) ?_ trivial
          rintro _ h9 ⟨y72, y73, rfl, H⟩
          refine ⟨⟨trivial, trivial, trivial⟩, ?_⟩
          refine s_pu (d := some 43) (v := (.tuple #[(.agg #[(.pointer y72)]), y73])) rfl rfl rfl (r_move rfl) ?_
          refine s_pu (d := some 50) (v := (.agg #[(.pointer y72)])) rfl rfl rfl (r_extract rfl rfl) ?_
          refine s_pu (d := some 51) (v := y73) rfl rfl rfl (r_extract rfl rfl) ?_
          obtain ⟨p74, e75⟩ : ∃ p : Addr, p = ⟨h9.size, 0, none⟩ := ⟨_, rfl⟩
          obtain ⟨h10, e76⟩ : ∃ hh : Heap, hh = h9.push (.cells #[(.pointer none)] 72) := ⟨_, rfl⟩
          have H := H p74 h10 e75 e76
          obtain ⟨e77, H⟩ := H
          obtain ⟨e78, H⟩ := H
          obtain ⟨e79, H⟩ := H
          obtain ⟨e80, H⟩ := H
          refine s_ef1 (d := some 14) (v := (.pointer (some p74))) (h' := h10) rfl rfl rfl (fun dr => (r_alloc Tryd.zeroValue72).trans (by rw [e75, e76]; rfl)) ⟨(.inl ⟨rfl, fun dr => r_loadN Tryd.isAgg74 Tryd.sizeOf74 (vs := [(.int .i64 x66), (.int .i64 x68), (.int .i64 x70)]) rfl rfl ⟨e77, e78, e79, trivial⟩⟩), (.inl ⟨rfl, fun dr => r_loadN Tryd.isAgg72 Tryd.sizeOf72 (vs := [(.pointer x58)]) rfl rfl ⟨e80, trivial⟩⟩), trivial⟩ ?_ trivial
          obtain ⟨e82, H⟩ := H
          obtain ⟨h11, e81⟩ : ∃ hh : Heap, hh = hsets h10 p74 0 [(.pointer y72)] := ⟨_, rfl⟩
          have H := H h11 e81
          refine s_st (d := none) (h' := h11) rfl rfl rfl (fun dr => (r_store (v := (.agg #[(.pointer y72)])) Tryd.sizeOf72 rfl rfl rfl (one_all rfl) e82).trans (by rw [e81]; rfl)) ⟨trivial, trivial, trivial⟩ ?_ trivial
          refine s_pu (d := some 15) (v := y73) rfl rfl rfl (r_assign rfl) ?_
          refine s_fin ?_
          exact N_mk (l := [(0, (Sl.v l1)), (1, (.int .i64 x2)), (2, (.int .i64 low3)), (3, (.int .i64 high4)), (10, (.pointer (some p6))), (11, (Sl.v all9)), (12, (.int .i64 i10)), (13, (.int .i64 ve31)), (14, (.pointer (some p74))), (15, y73)]) H ⟨rfl, rfl, rfl, rfl, rfl, rfl, rfl, rfl, rfl, rfl, trivial⟩
        · have H := H.2
          obtain ⟨p83, e84⟩ : ∃ p : Addr, p = ⟨h3.size, 0, none⟩ := ⟨_, rfl⟩
          obtain ⟨h12, e85⟩ : ∃ hh : Heap, hh = h3.push (.cells #[(.pointer none)] 72) := ⟨_, rfl⟩
          have H := H p83 h12 e84 e85
          obtain ⟨e86, H⟩ := H
          obtain ⟨e87, H⟩ := H
          obtain ⟨e88, H⟩ := H
          obtain ⟨e89, H⟩ := H
          refine s_ef1 (d := some 14) (v := (.pointer (some p83))) (h' := h12) rfl rfl rfl (fun dr => (r_alloc Tryd.zeroValue72).trans (by rw [e84, e85]; rfl)) ⟨(.inl ⟨rfl, fun dr => r_loadN Tryd.isAgg74 Tryd.sizeOf74 (vs := [(.int .i64 x66), (.int .i64 x68), (.int .i64 x70)]) rfl rfl ⟨e86, e87, e88, trivial⟩⟩), (.inl ⟨rfl, fun dr => r_loadN Tryd.isAgg72 Tryd.sizeOf72 (vs := [(.pointer x58)]) rfl rfl ⟨e89, trivial⟩⟩), trivial⟩ ?_ trivial
          refine s_ef (d := some 49) rfl rfl rfl (fun dr => r_call Tryd.call48 rfl rfl H) ?_ trivial
          rintro _ h13 ⟨y90, y91, rfl, H⟩
          refine ⟨⟨trivial, trivial, trivial⟩, ?_⟩
          refine s_pu (d := some 43) (v := (.tuple #[(.agg #[(.pointer y90)]), y91])) rfl rfl rfl (r_move rfl) ?_
          refine s_pu (d := some 50) (v := (.agg #[(.pointer y90)])) rfl rfl rfl (r_extract rfl rfl) ?_
          refine s_pu (d := some 51) (v := y91) rfl rfl rfl (r_extract rfl rfl) ?_
          obtain ⟨e93, H⟩ := H
          obtain ⟨h14, e92⟩ : ∃ hh : Heap, hh = hsets h13 p83 0 [(.pointer y90)] := ⟨_, rfl⟩
          have H := H h14 e92
          refine s_st (d := none) (h' := h14) rfl rfl rfl (fun dr => (r_store (v := (.agg #[(.pointer y90)])) Tryd.sizeOf72 rfl rfl rfl (one_all rfl) e93).trans (by rw [e92]; rfl)) ⟨trivial, trivial, trivial⟩ ?_ trivial
          refine s_pu (d := some 15) (v := y91) rfl rfl rfl (r_assign rfl) ?_
          refine s_fin ?_
          exact N_mk (l := [(0, (Sl.v l1)), (1, (.int .i64 x2)), (2, (.int .i64 low3)), (3, (.int .i64 high4)), (10, (.pointer (some p6))), (11, (Sl.v all9)), (12, (.int .i64 i10)), (13, (.int .i64 ve31)), (14, (.pointer (some p83))), (15, y91)]) H ⟨rfl, rfl, rfl, rfl, rfl, rfl, rfl, rfl, rfl, rfl, trivial⟩)
      clear eN33
      refine W_if (decide (x29 < x21)) rfl (fun g94 => ?_) (fun g94 => ?_)
      · have H := H.1 g94
        refine W_region (.pu 0 .fin) rfl rfl ?_
        refine s_pu (d := some 13) (v := (.int .i64 3)) rfl rfl rfl (r_assign rfl) ?_
        refine s_fin ?_
        exact N_mk (l := [(0, (Sl.v l1)), (1, (.int .i64 x2)), (2, (.int .i64 low3)), (3, (.int .i64 high4)), (10, (.pointer (some p6))), (11, (Sl.v all9)), (12, (.int .i64 i10)), (13, (.int .i64 3))]) H ⟨rfl, rfl, rfl, rfl, rfl, rfl, rfl, rfl, trivial⟩
      · have H := H.2 g94
        refine W_skip ?_
        exact N_mk (l := [(0, (Sl.v l1)), (1, (.int .i64 x2)), (2, (.int .i64 low3)), (3, (.int .i64 high4)), (10, (.pointer (some p6))), (11, (Sl.v all9)), (12, (.int .i64 i10)), (13, (.int .i64 0))]) H ⟨rfl, rfl, rfl, rfl, rfl, rfl, rfl, rfl, trivial⟩
    · have H := H.2 g166
      refine W_exit (inX_here ?_)
      show W _ _ _ _ _ _ _ _
      refine W_seq ?_
      refine W_region (.rl 0 (.ef 1 [] (.pu 2 (.ef 3 [] (.pu 4 .fin) .no)) .no)) rfl rfl ?_
      obtain ⟨x95, e96, H⟩ := H
      refine s_rl (d := some 66) (v := (.agg #[(.pointer x95)])) rfl rfl rfl (fun dr => r_loadN Tryd.isAgg72 Tryd.sizeOf72 (vs := [(.pointer x95)]) rfl rfl ⟨e96, trivial⟩) ?_
      refine s_ef (d := some 67) rfl rfl rfl (fun dr => r_call Tryd.call51 rfl rfl H) ?_ trivial
      rintro _ h15 ⟨y97, rfl, H⟩
      refine ⟨trivial, ?_⟩
      refine s_pu (d := some 68) (v := (Sl.v all9)) rfl rfl rfl (r_move rfl) ?_
      refine s_ef (d := some 69) rfl rfl rfl (fun dr => r_call Tryd.call50 rfl rfl H) ?_ trivial
      rintro _ h16 ⟨y98, rfl, H⟩
      refine ⟨trivial, ?_⟩
      refine s_pu (d := some 17) (v := (.bool y98)) rfl rfl rfl (r_assign rfl) ?_
      refine s_fin ?_
      show W _ _ _ _ _ _ _ _
      refine W_seq ?_
      refine W_region (.rl 0 (.pu 1 (.ef 2 [] (.pu 3 (.pu 4 (.pu 5 (.ef 6 [] (.ef 7 [] (.pu 8 .fin) .no) .no)))) .no))) rfl rfl ?_
      obtain ⟨x99, e100, H⟩ := H
      refine s_rl (d := some 70) (v := (.agg #[(.pointer x99)])) rfl rfl rfl (fun dr => r_loadN Tryd.isAgg72 Tryd.sizeOf72 (vs := [(.pointer x99)]) rfl rfl ⟨e100, trivial⟩) ?_
      refine s_pu (d := some 71) (v := (.int .i64 x2)) rfl rfl rfl (r_move rfl) ?_
      refine s_ef (d := some 72) rfl rfl rfl (fun dr => r_call Tryd.call52 rfl rfl H) ?_ trivial
      rintro _ h17 ⟨y101, rfl, H⟩
      refine ⟨trivial, ?_⟩
      refine s_pu (d := some 73) (v := (Sl.v all9)) rfl rfl rfl (r_move rfl) ?_
      refine s_pu (d := some 74) (v := (.int .i64 x2)) rfl rfl rfl (r_move rfl) ?_
      refine s_pu (d := some 75) (v := (.int .i64 x2)) rfl rfl rfl (r_move rfl) ?_
      refine s_ef (d := some 76) rfl rfl rfl (fun dr => r_call Tryd.call53 rfl rfl H) ?_ trivial
      rintro _ h18 ⟨y102, rfl, H⟩
      refine ⟨trivial, ?_⟩
      refine s_ef (d := some 77) rfl rfl rfl (fun dr => r_call Tryd.call50 rfl rfl H) ?_ trivial
      rintro _ h19 ⟨y103, rfl, H⟩
      refine ⟨trivial, ?_⟩
      refine s_pu (d := some 18) (v := (.bool y103)) rfl rfl rfl (r_assign rfl) ?_
      refine s_fin ?_
      show W _ _ _ _ _ _ _ _
      refine W_seq ?_
      refine W_region (.rl 0 (.pu 1 (.pu 2 (.ef 3 [] (.pu 4 (.pu 5 (.pu 6 (.ef 7 [] (.ef 8 [] (.pu 9 .fin) .no) .no)))) .no)))) rfl rfl ?_
      obtain ⟨x104, e105, H⟩ := H
      refine s_rl (d := some 78) (v := (.agg #[(.pointer x104)])) rfl rfl rfl (fun dr => r_loadN Tryd.isAgg72 Tryd.sizeOf72 (vs := [(.pointer x104)]) rfl rfl ⟨e105, trivial⟩) ?_
      refine s_pu (d := some 79) (v := (.int .i64 low3)) rfl rfl rfl (r_move rfl) ?_
      refine s_pu (d := some 80) (v := (.int .i64 high4)) rfl rfl rfl (r_move rfl) ?_
      refine s_ef (d := some 81) rfl rfl rfl (fun dr => r_call Tryd.call54 rfl rfl H) ?_ trivial
      rintro _ h20 ⟨y106, rfl, H⟩
      refine ⟨trivial, ?_⟩
      refine s_pu (d := some 82) (v := (Sl.v all9)) rfl rfl rfl (r_move rfl) ?_
      refine s_pu (d := some 83) (v := (.int .i64 low3)) rfl rfl rfl (r_move rfl) ?_
      refine s_pu (d := some 84) (v := (.int .i64 high4)) rfl rfl rfl (r_move rfl) ?_
      refine s_ef (d := some 85) rfl rfl rfl (fun dr => r_call Tryd.call53 rfl rfl H) ?_ trivial
      rintro _ h21 ⟨y107, rfl, H⟩
      refine ⟨trivial, ?_⟩
      refine s_ef (d := some 86) rfl rfl rfl (fun dr => r_call Tryd.call50 rfl rfl H) ?_ trivial
      rintro _ h22 ⟨y108, rfl, H⟩
      refine ⟨trivial, ?_⟩
      refine s_pu (d := some 19) (v := (.bool y108)) rfl rfl rfl (r_assign rfl) ?_
      refine s_fin ?_
      show W _ _ _ _ _ _ _ _
      refine W_seq ?_
      refine W_region (.rl 0 (.pu 1 (.ef 2 [] (.pu 3 (.pu 4 (.pu 5 (.ef 6 [] (.ef 7 [] (.pu 8 .fin) .no) .no)))) .no))) rfl rfl ?_
      obtain ⟨x109, e110, H⟩ := H
      refine s_rl (d := some 88) (v := (.agg #[(.pointer x109)])) rfl rfl rfl (fun dr => r_loadN Tryd.isAgg72 Tryd.sizeOf72 (vs := [(.pointer x109)]) rfl rfl ⟨e110, trivial⟩) ?_
      refine s_pu (d := some 89) (v := (.int .i64 x2)) rfl rfl rfl (r_move rfl) ?_
      refine s_ef (d := some 90) rfl rfl rfl (fun dr => r_call Tryd.call55 rfl rfl H) ?_ trivial
      rintro _ h23 ⟨y111, y112, y113, y114, rfl, H⟩
      refine ⟨trivial, ?_⟩
      refine s_pu (d := some 87) (v := (.tuple #[(.agg #[(.int .i64 y111), (.int .i64 y112), (.int .i64 y113)]), (.bool y114)])) rfl rfl rfl (r_move rfl) ?_
      refine s_pu (d := some 91) (v := (.agg #[(.int .i64 y111), (.int .i64 y112), (.int .i64 y113)])) rfl rfl rfl (r_extract rfl rfl) ?_
      refine s_pu (d := some 92) (v := (.bool y114)) rfl rfl rfl (r_extract rfl rfl) ?_
      obtain ⟨p115, e116⟩ : ∃ p : Addr, p = ⟨h23.size, 0, none⟩ := ⟨_, rfl⟩
      obtain ⟨h24, e117⟩ : ∃ hh : Heap, hh = h23.push (.cells #[(.int .i64 0), (.int .i64 0), (.int .i64 0)] 74) := ⟨_, rfl⟩
      have H := H p115 h24 e116 e117
      refine s_ef1 (d := some 20) (v := (.pointer (some p115))) (h' := h24) rfl rfl rfl (fun dr => (r_alloc Tryd.zeroValue74).trans (by rw [e116, e117]; rfl)) trivial ?_ trivial
      obtain ⟨e119, H⟩ := H
      obtain ⟨h25, e118⟩ : ∃ hh : Heap, hh = hsets h24 p115 0 [(.int .i64 y111), (.int .i64 y112), (.int .i64 y113)] := ⟨_, rfl⟩
      have H := H h25 e118
      refine s_st (d := none) (h' := h25) rfl rfl rfl (fun dr => (r_store (v := (.agg #[(.int .i64 y111), (.int .i64 y112), (.int .i64 y113)])) Tryd.sizeOf74 rfl rfl rfl (one_all rfl) e119).trans (by rw [e118]; rfl)) trivial ?_ trivial
      refine s_pu (d := some 21) (v := (.bool y114)) rfl rfl rfl (r_assign rfl) ?_
      refine s_fin ?_
      show W _ _ _ _ _ _ _ _
      refine W_seq ?_
      refine W_region (.ef 0 [] .fin .no) rfl rfl ?_
      obtain ⟨p120, e121⟩ : ∃ p : Addr, p = ⟨h25.size, 0, none⟩ := ⟨_, rfl⟩
      obtain ⟨h26, e122⟩ : ∃ hh : Heap, hh = h25.push (.cells #[(.int .i64 0), (.int .i64 0), (.int .i64 0)] 74) := ⟨_, rfl⟩
      have H := H p120 h26 e121 e122
      refine s_ef1 (d := some 22) (v := (.pointer (some p120))) (h' := h26) rfl rfl rfl (fun dr => (r_alloc Tryd.zeroValue74).trans (by rw [e121, e122]; rfl)) trivial ?_ trivial
      refine s_fin ?_
      show W _ _ _ _ _ _ _ _
      refine W_seq ?_
      refine W_seq ?_
      refine W_region (.pu 0 (.pu 1 (.pu 2 (.ef 3 [] (.pu 4 (.pu 5 .fin)) .no)))) rfl rfl ?_
      refine s_pu (d := some 93) (v := (Sl.v all9)) rfl rfl rfl (r_move rfl) ?_
      refine s_pu (d := some 94) (v := (.int .i64 x2)) rfl rfl rfl (r_move rfl) ?_
      refine s_pu (d := some 95) (v := (.int .i64 x2)) rfl rfl rfl (r_move rfl) ?_
      refine s_ef (d := some 96) rfl rfl rfl (fun dr => r_call Tryd.call53 rfl rfl H) ?_ trivial
      rintro _ h27 ⟨y123, rfl, H⟩
      refine ⟨trivial, ?_⟩
      refine s_pu (d := some 97) (v := (.int .i64 ((y123.len : Int)))) rfl rfl rfl (r_len Tryd.underlying67 rfl) ?_
      refine s_pu (d := some 98) (v := (.bool (decide (0 < ((y123.len : Int)))))) rfl rfl rfl (r_gtr rfl rfl) ?_
      refine s_fin ?_
      show W _ _ _ _ _ _ _ _
      refine W_set ?_
      intro N125 eN125
      have H := H (fun (h28 : Heap) => ∀ b, N125 [] (mkE [(1, (.int .i64 x2)), (10, (.pointer (some p6))), (11, (Sl.v all9)), (17, (.bool y98)), (18, (.bool y103)), (19, (.bool y108)), (20, (.pointer (some p115))), (21, (.bool y114)), (22, (.pointer (some p120)))] b) h28) (by
        intro h28 H b
        rw [eN125]
        show W _ _ _ _ _ _ _ _
        refine W_seq ?_
        refine W_set ?_
        intro N128 eN128
        have H := H (fun (x126 : Bool) (h29 : Heap) => ∀ b, N128 [] (mkE [(8, (.bool x126))] b) h29) (by
          intro x126 h29 H b
          rw [eN128]
          show W _ _ _ _ _ _ _ _
          refine W_ret ?_
          exact ⟨[(.bool x126)], ⟨_, _, rfl, rfl, rfl⟩, x126, rfl, H⟩)
        clear eN128
        refine W_region (.pu 0 (.pu 1 (.pu 2 (.pu 3 (.pu 4 (.pu 5 (.pu 6 (.pu 7 (.rl 8 (.ef 9 [] (.pu 10 (.pu 11 (.pu 12 (.pu 13 (.pu 14 (.pu 15 (.pu 16 (.pu 17 (.pu 18 (.ef 19 [] (.pu 20 (.pu 21 (.pu 22 (.pu 23 (.pu 24 (.rl 25 (.rl 26 (.pu 27 (.pu 28 (.pu 29 .fin)))))))))) .no)))))))))) .no)))))))))) rfl rfl ?_
        refine s_pu (d := some 105) (v := (.bool y98)) rfl rfl rfl (r_move rfl) ?_
        refine s_pu (d := some 106) (v := (.bool y98)) rfl rfl rfl (r_move rfl) ?_
        rcases Bool.eq_false_or_eq_true y98 with g129 | g129
        · have H := H.1 g129
          refine s_pu (d := some 107) (v := (.bool y103)) rfl rfl (wants_yes rfl rfl rfl rfl g129) (r_move rfl) ?_
          refine s_pu (d := some 108) (v := (.bool y103)) rfl rfl rfl (r_pick1 rfl g129 rfl) ?_
          refine s_pu (d := some 109) (v := (.bool y103)) rfl rfl rfl (r_move rfl) ?_
          rcases Bool.eq_false_or_eq_true y103 with g130 | g130
          · have H := H.1 g130
            refine s_pu (d := some 110) (v := (.bool y108)) rfl rfl (wants_yes rfl rfl rfl rfl g130) (r_move rfl) ?_
            refine s_pu (d := some 111) (v := (.bool y108)) rfl rfl rfl (r_pick1 rfl g130 rfl) ?_
            refine s_pu (d := some 112) (v := (.bool y108)) rfl rfl rfl (r_move rfl) ?_
            rcases Bool.eq_false_or_eq_true y108 with g131 | g131
            · have H := H.1 g131
              obtain ⟨x132, e133, H⟩ := H
              refine s_rl (d := some 113) (v := (.agg #[(.pointer x132)])) rfl rfl (wants_yes rfl rfl rfl rfl g131) (fun dr => r_loadN Tryd.isAgg72 Tryd.sizeOf72 (vs := [(.pointer x132)]) rfl rfl ⟨e133, trivial⟩) ?_
              refine s_ef (d := some 114) rfl rfl (wants_yes rfl rfl rfl rfl g131) (fun dr => r_call Tryd.call56 rfl rfl H) ?_ trivial
              rintro _ h30 ⟨y134, rfl, H⟩
              refine ⟨trivial, ?_⟩
              refine s_pu (d := some 115) (v := (Sl.v all9)) rfl rfl (wants_yes rfl rfl rfl rfl g131) (r_move rfl) ?_
              refine s_pu (d := some 116) (v := (.int .i64 ((all9.len : Int)))) rfl rfl (wants_yes rfl rfl rfl rfl g131) (r_len Tryd.underlying67 rfl) ?_
              refine s_pu (d := some 117) (v := (.bool (decide (y134 = ((all9.len : Int)))))) rfl rfl (wants_yes rfl rfl rfl rfl g131) (r_eql rfl rfl) ?_
              refine s_pu (d := some 118) (v := (.bool (decide (y134 = ((all9.len : Int)))))) rfl rfl rfl (r_pick1 rfl g131 rfl) ?_
              refine s_pu (d := some 119) (v := (.bool (decide (y134 = ((all9.len : Int)))))) rfl rfl rfl (r_move rfl) ?_
              rcases Bool.eq_false_or_eq_true (decide (y134 = ((all9.len : Int)))) with g135 | g135
              · have H := H.1 g135
                refine s_pu (d := some 120) (v := (.bool y114)) rfl rfl (wants_yes rfl rfl rfl rfl g135) (r_move rfl) ?_
                refine s_pu (d := some 121) (v := (Sl.v all9)) rfl rfl (wants_yes rfl rfl rfl rfl g135) (r_move rfl) ?_
                refine s_pu (d := some 122) (v := (.int .i64 x2)) rfl rfl (wants_yes rfl rfl rfl rfl g135) (r_move rfl) ?_
                refine s_pu (d := some 123) (v := (.int .i64 x2)) rfl rfl (wants_yes rfl rfl rfl rfl g135) (r_move rfl) ?_
                refine s_ef (d := some 124) rfl rfl (wants_yes rfl rfl rfl rfl g135) (fun dr => r_call Tryd.call53 rfl rfl H) ?_ trivial
                rintro _ h31 ⟨y136, rfl, H⟩
                refine ⟨trivial, ?_⟩
                refine s_pu (d := some 125) (v := (.int .i64 ((y136.len : Int)))) rfl rfl (wants_yes rfl rfl rfl rfl g135) (r_len Tryd.underlying67 rfl) ?_
                refine s_pu (d := some 126) (v := (.bool (decide (0 < ((y136.len : Int)))))) rfl rfl (wants_yes rfl rfl rfl rfl g135) (r_gtr rfl rfl) ?_
                refine s_pu (d := some 127) (v := (.bool (y114 == (decide (0 < ((y136.len : Int))))))) rfl rfl (wants_yes rfl rfl rfl rfl g135) (r_eqlB Tryd.underlying4 rfl rfl) ?_
                refine s_pu (d := some 128) (v := (.bool (y114 == (decide (0 < ((y136.len : Int))))))) rfl rfl rfl (r_pick1 rfl g135 rfl) ?_
                refine s_pu (d := some 129) (v := (.bool (y114 == (decide (0 < ((y136.len : Int))))))) rfl rfl rfl (r_move rfl) ?_
                rcases Bool.eq_false_or_eq_true (y114 == (decide (0 < ((y136.len : Int))))) with g137 | g137
                · have H := H.1 g137
                  obtain ⟨x138, e139, H⟩ := H
                  obtain ⟨x140, e141, H⟩ := H
                  obtain ⟨x142, e143, H⟩ := H
                  refine s_rl (d := some 130) (v := (.agg #[(.int .i64 x138), (.int .i64 x140), (.int .i64 x142)])) rfl rfl (wants_yes rfl rfl rfl rfl g137) (fun dr => r_loadN Tryd.isAgg74 Tryd.sizeOf74 (vs := [(.int .i64 x138), (.int .i64 x140), (.int .i64 x142)]) rfl rfl ⟨e139, e141, e143, trivial⟩) ?_
                  obtain ⟨x144, e145, H⟩ := H
                  obtain ⟨x146, e147, H⟩ := H
                  obtain ⟨x148, e149, H⟩ := H
                  refine s_rl (d := some 131) (v := (.agg #[(.int .i64 x144), (.int .i64 x146), (.int .i64 x148)])) rfl rfl (wants_yes rfl rfl rfl rfl g137) (fun dr => r_loadN Tryd.isAgg74 Tryd.sizeOf74 (vs := [(.int .i64 x144), (.int .i64 x146), (.int .i64 x148)]) rfl rfl ⟨e145, e147, e149, trivial⟩) ?_
                  refine s_pu (d := some 132) (v := (.bool (decide (x138 = x144 ∧ x140 = x146 ∧ x142 = x148)))) rfl rfl (wants_yes rfl rfl rfl rfl g137) (r_eqlAgg_Tryd74 rfl rfl) ?_
                  refine s_pu (d := some 133) (v := (.bool (decide (x138 = x144 ∧ x140 = x146 ∧ x142 = x148)))) rfl rfl rfl (r_pick1 rfl g137 rfl) ?_
                  refine s_pu (d := some 8) (v := (.bool (decide (x138 = x144 ∧ x140 = x146 ∧ x142 = x148)))) rfl rfl rfl (r_assign rfl) ?_
                  refine s_fin ?_
                  exact N_mk (l := [(8, (.bool (decide (x138 = x144 ∧ x140 = x146 ∧ x142 = x148))))]) H ⟨rfl, trivial⟩
                · have H := H.2 g137
                  refine s_skl (d := some 130) rfl rfl (wants_no rfl rfl rfl rfl g137) ?_
                  refine s_skl (d := some 131) rfl rfl (wants_no rfl rfl rfl rfl g137) ?_
                  refine s_sk (d := some 132) rfl rfl (wants_no rfl rfl rfl rfl g137) ?_
                  refine s_pu (d := some 133) (v := (.bool false)) rfl rfl rfl (r_pick0 rfl g137 rfl) ?_
                  refine s_pu (d := some 8) (v := (.bool false)) rfl rfl rfl (r_assign rfl) ?_
                  refine s_fin ?_
                  exact N_mk (l := [(8, (.bool false))]) H ⟨rfl, trivial⟩
              · have H := H.2 g135
                refine s_sk (d := some 120) rfl rfl (wants_no rfl rfl rfl rfl g135) ?_
                refine s_sk (d := some 121) rfl rfl (wants_no rfl rfl rfl rfl g135) ?_
                refine s_sk (d := some 122) rfl rfl (wants_no rfl rfl rfl rfl g135) ?_
                refine s_sk (d := some 123) rfl rfl (wants_no rfl rfl rfl rfl g135) ?_
                refine s_skf (d := some 124) rfl rfl (wants_no rfl rfl rfl rfl g135) trivial ?_ trivial
                refine s_sk (d := some 125) rfl rfl (wants_no rfl rfl rfl rfl g135) ?_
                refine s_sk (d := some 126) rfl rfl (wants_no rfl rfl rfl rfl g135) ?_
                refine s_sk (d := some 127) rfl rfl (wants_no rfl rfl rfl rfl g135) ?_
                refine s_pu (d := some 128) (v := (.bool false)) rfl rfl rfl (r_pick0 rfl g135 rfl) ?_
                refine s_pu (d := some 129) (v := (.bool false)) rfl rfl rfl (r_move rfl) ?_
                refine s_skl (d := some 130) rfl rfl (wants_no rfl rfl rfl rfl rfl) ?_
                refine s_skl (d := some 131) rfl rfl (wants_no rfl rfl rfl rfl rfl) ?_
                refine s_sk (d := some 132) rfl rfl (wants_no rfl rfl rfl rfl rfl) ?_
                refine s_pu (d := some 133) (v := (.bool false)) rfl rfl rfl (r_pick0 rfl rfl rfl) ?_
                refine s_pu (d := some 8) (v := (.bool false)) rfl rfl rfl (r_assign rfl) ?_
                refine s_fin ?_
                exact N_mk (l := [(8, (.bool false))]) H ⟨rfl, trivial⟩
            · have H := H.2 g131
              refine s_skl (d := some 113) rfl rfl (wants_no rfl rfl rfl rfl g131) ?_
              refine s_skf (d := some 114) rfl rfl (wants_no rfl rfl rfl rfl g131) trivial ?_ trivial
              refine s_sk (d := some 115) rfl rfl (wants_no rfl rfl rfl rfl g131) ?_
              refine s_sk (d := some 116) rfl rfl (wants_no rfl rfl rfl rfl g131) ?_
              refine s_sk (d := some 117) rfl rfl (wants_no rfl rfl rfl rfl g131) ?_
              refine s_pu (d := some 118) (v := (.bool false)) rfl rfl rfl (r_pick0 rfl g131 rfl) ?_
              refine s_pu (d := some 119) (v := (.bool false)) rfl rfl rfl (r_move rfl) ?_
              refine s_sk (d := some 120) rfl rfl (wants_no rfl rfl rfl rfl rfl) ?_
              refine s_sk (d := some 121) rfl rfl (wants_no rfl rfl rfl rfl rfl) ?_
              refine s_sk (d := some 122) rfl rfl (wants_no rfl rfl rfl rfl rfl) ?_
              refine s_sk (d := some 123) rfl rfl (wants_no rfl rfl rfl rfl rfl) ?_
              refine s_skf (d := some 124) rfl rfl (wants_no rfl rfl rfl rfl rfl) trivial ?_ trivial
              refine s_sk (d := some 125) rfl rfl (wants_no rfl rfl rfl rfl rfl) ?_
              refine s_sk (d := some 126) rfl rfl (wants_no rfl rfl rfl rfl rfl) ?_
              refine s_sk (d := some 127) rfl rfl (wants_no rfl rfl rfl rfl rfl) ?_
              refine s_pu (d := some 128) (v := (.bool false)) rfl rfl rfl (r_pick0 rfl rfl rfl) ?_
              refine s_pu (d := some 129) (v := (.bool false)) rfl rfl rfl (r_move rfl) ?_
              refine s_skl (d := some 130) rfl rfl (wants_no rfl rfl rfl rfl rfl) ?_
              refine s_skl (d := some 131) rfl rfl (wants_no rfl rfl rfl rfl rfl) ?_
              refine s_sk (d := some 132) rfl rfl (wants_no rfl rfl rfl rfl rfl) ?_
              refine s_pu (d := some 133) (v := (.bool false)) rfl rfl rfl (r_pick0 rfl rfl rfl) ?_
              refine s_pu (d := some 8) (v := (.bool false)) rfl rfl rfl (r_assign rfl) ?_
              refine s_fin ?_
              exact N_mk (l := [(8, (.bool false))]) H ⟨rfl, trivial⟩
          · have H := H.2 g130
            refine s_sk (d := some 110) rfl rfl (wants_no rfl rfl rfl rfl g130) ?_
            refine s_pu (d := some 111) (v := (.bool false)) rfl rfl rfl (r_pick0 rfl g130 rfl) ?_
            refine s_pu (d := some 112) (v := (.bool false)) rfl rfl rfl (r_move rfl) ?_
            refine s_skl (d := some 113) rfl rfl (wants_no rfl rfl rfl rfl rfl) ?_
            refine s_skf (d := some 114) rfl rfl (wants_no rfl rfl rfl rfl rfl) trivial ?_ trivial
            refine s_sk (d := some 115) rfl rfl (wants_no rfl rfl rfl rfl rfl) ?_
            refine s_sk (d := some 116) rfl rfl (wants_no rfl rfl rfl rfl rfl) ?_
            refine s_sk (d := some 117) rfl rfl (wants_no rfl rfl rfl rfl rfl) ?_
            refine s_pu (d := some 118) (v := (.bool false)) rfl rfl rfl (r_pick0 rfl rfl rfl) ?_
            refine s_pu (d := some 119) (v := (.bool false)) rfl rfl rfl (r_move rfl) ?_
            refine s_sk (d := some 120) rfl rfl (wants_no rfl rfl rfl rfl rfl) ?_
            refine s_sk (d := some 121) rfl rfl (wants_no rfl rfl rfl rfl rfl) ?_
            refine s_sk (d := some 122) rfl rfl (wants_no rfl rfl rfl rfl rfl) ?_
            refine s_sk (d := some 123) rfl rfl (wants_no rfl rfl rfl rfl rfl) ?_
            refine s_skf (d := some 124) rfl rfl (wants_no rfl rfl rfl rfl rfl) trivial ?_ trivial
            refine s_sk (d := some 125) rfl rfl (wants_no rfl rfl rfl rfl rfl) ?_
            refine s_sk (d := some 126) rfl rfl (wants_no rfl rfl rfl rfl rfl) ?_
            refine s_sk (d := some 127) rfl rfl (wants_no rfl rfl rfl rfl rfl) ?_
            refine s_pu (d := some 128) (v := (.bool false)) rfl rfl rfl (r_pick0 rfl rfl rfl) ?_
            refine s_pu (d := some 129) (v := (.bool false)) rfl rfl rfl (r_move rfl) ?_
            refine s_skl (d := some 130) rfl rfl (wants_no rfl rfl rfl rfl rfl) ?_
            refine s_skl (d := some 131) rfl rfl (wants_no rfl rfl rfl rfl rfl) ?_
            refine s_sk (d := some 132) rfl rfl (wants_no rfl rfl rfl rfl rfl) ?_
            refine s_pu (d := some 133) (v := (.bool false)) rfl rfl rfl (r_pick0 rfl rfl rfl) ?_
            refine s_pu (d := some 8) (v := (.bool false)) rfl rfl rfl (r_assign rfl) ?_
            refine s_fin ?_
            exact N_mk (l := [(8, (.bool false))]) H ⟨rfl, trivial⟩
        · have H := H.2 g129
          refine s_sk (d := some 107) rfl rfl (wants_no rfl rfl rfl rfl g129) ?_
          refine s_pu (d := some 108) (v := (.bool false)) rfl rfl rfl (r_pick0 rfl g129 rfl) ?_
          refine s_pu (d := some 109) (v := (.bool false)) rfl rfl rfl (r_move rfl) ?_
          refine s_sk (d := some 110) rfl rfl (wants_no rfl rfl rfl rfl rfl) ?_
          refine s_pu (d := some 111) (v := (.bool false)) rfl rfl rfl (r_pick0 rfl rfl rfl) ?_
          refine s_pu (d := some 112) (v := (.bool false)) rfl rfl rfl (r_move rfl) ?_
          refine s_skl (d := some 113) rfl rfl (wants_no rfl rfl rfl rfl rfl) ?_
          refine s_skf (d := some 114) rfl rfl (wants_no rfl rfl rfl rfl rfl) trivial ?_ trivial
          refine s_sk (d := some 115) rfl rfl (wants_no rfl rfl rfl rfl rfl) ?_
          refine s_sk (d := some 116) rfl rfl (wants_no rfl rfl rfl rfl rfl) ?_
          refine s_sk (d := some 117) rfl rfl (wants_no rfl rfl rfl rfl rfl) ?_
          refine s_pu (d := some 118) (v := (.bool false)) rfl rfl rfl (r_pick0 rfl rfl rfl) ?_
          refine s_pu (d := some 119) (v := (.bool false)) rfl rfl rfl (r_move rfl) ?_
          refine s_sk (d := some 120) rfl rfl (wants_no rfl rfl rfl rfl rfl) ?_
          refine s_sk (d := some 121) rfl rfl (wants_no rfl rfl rfl rfl rfl) ?_
          refine s_sk (d := some 122) rfl rfl (wants_no rfl rfl rfl rfl rfl) ?_
          refine s_sk (d := some 123) rfl rfl (wants_no rfl rfl rfl rfl rfl) ?_
          refine s_skf (d := some 124) rfl rfl (wants_no rfl rfl rfl rfl rfl) trivial ?_ trivial
          refine s_sk (d := some 125) rfl rfl (wants_no rfl rfl rfl rfl rfl) ?_
          refine s_sk (d := some 126) rfl rfl (wants_no rfl rfl rfl rfl rfl) ?_
          refine s_sk (d := some 127) rfl rfl (wants_no rfl rfl rfl rfl rfl) ?_
          refine s_pu (d := some 128) (v := (.bool false)) rfl rfl rfl (r_pick0 rfl rfl rfl) ?_
          refine s_pu (d := some 129) (v := (.bool false)) rfl rfl rfl (r_move rfl) ?_
          refine s_skl (d := some 130) rfl rfl (wants_no rfl rfl rfl rfl rfl) ?_
          refine s_skl (d := some 131) rfl rfl (wants_no rfl rfl rfl rfl rfl) ?_
          refine s_sk (d := some 132) rfl rfl (wants_no rfl rfl rfl rfl rfl) ?_
          refine s_pu (d := some 133) (v := (.bool false)) rfl rfl rfl (r_pick0 rfl rfl rfl) ?_
          refine s_pu (d := some 8) (v := (.bool false)) rfl rfl rfl (r_assign rfl) ?_
          refine s_fin ?_
          exact N_mk (l := [(8, (.bool false))]) H ⟨rfl, trivial⟩)
      clear eN125
      refine W_if (decide (0 < ((y123.len : Int)))) rfl (fun g165 => ?_) (fun g165 => ?_)
      · have H := H.1 g165
        refine W_region (.pu 0 (.pu 1 (.pu 2 (.ef 3 [] (.pu 4 (.rl 5 (.ef 6 [] .fin .no))) .no)))) rfl rfl ?_
        refine s_pu (d := some 99) (v := (Sl.v all9)) rfl rfl rfl (r_move rfl) ?_
        refine s_pu (d := some 100) (v := (.int .i64 x2)) rfl rfl rfl (r_move rfl) ?_
        refine s_pu (d := some 101) (v := (.int .i64 x2)) rfl rfl rfl (r_move rfl) ?_
        refine s_ef (d := some 102) rfl rfl rfl (fun dr => r_call Tryd.call53 rfl rfl H) ?_ trivial
        rintro _ h32 ⟨y150, rfl, H⟩
        refine ⟨trivial, ?_⟩
        obtain ⟨p151, e152, e153, e154, H⟩ := H
        obtain ⟨q155, e156⟩ : ∃ q : Addr, q = Addr.add p151 (Int.toNat 0 * 3) := ⟨_, rfl⟩
        rw [← e156] at H
        refine s_pu (d := some 103) (v := (.pointer (some q155))) rfl rfl rfl (fun w => (r_indexAddr Tryd.underlying67 Tryd.sizeOf74 rfl rfl e152 e153 e154 w).trans (by rw [e156])) ?_
        obtain ⟨x157, e158, H⟩ := H
        obtain ⟨x159, e160, H⟩ := H
        obtain ⟨x161, e162, H⟩ := H
        refine s_rl (d := some 104) (v := (.agg #[(.int .i64 x157), (.int .i64 x159), (.int .i64 x161)])) rfl rfl rfl (fun dr => r_loadN Tryd.isAgg74 Tryd.sizeOf74 (vs := [(.int .i64 x157), (.int .i64 x159), (.int .i64 x161)]) rfl rfl ⟨e158, e160, e162, trivial⟩) ?_
        obtain ⟨e164, H⟩ := H
        obtain ⟨h33, e163⟩ : ∃ hh : Heap, hh = hsets h32 p120 0 [(.int .i64 x157), (.int .i64 x159), (.int .i64 x161)] := ⟨_, rfl⟩
        have H := H h33 e163
        refine s_st (d := none) (h' := h33) rfl rfl rfl (fun dr => (r_store (v := (.agg #[(.int .i64 x157), (.int .i64 x159), (.int .i64 x161)])) Tryd.sizeOf74 rfl rfl rfl (one_all rfl) e164).trans (by rw [e163]; rfl)) trivial ?_ trivial
        refine s_fin ?_
        exact N_mk (l := [(1, (.int .i64 x2)), (10, (.pointer (some p6))), (11, (Sl.v all9)), (17, (.bool y98)), (18, (.bool y103)), (19, (.bool y108)), (20, (.pointer (some p115))), (21, (.bool y114)), (22, (.pointer (some p120)))]) H ⟨rfl, rfl, rfl, rfl, rfl, rfl, rfl, rfl, rfl, trivial⟩
      · have H := H.2 g165
        refine W_skip ?_
        exact N_mk (l := [(1, (.int .i64 x2)), (10, (.pointer (some p6))), (11, (Sl.v all9)), (17, (.bool y98)), (18, (.bool y103)), (19, (.bool y108)), (20, (.pointer (some p115))), (21, (.bool y114)), (22, (.pointer (some p120)))]) H ⟨rfl, rfl, rfl, rfl, rfl, rfl, rfl, rfl, rfl, trivial⟩

end Go.Proofs.YtcafckgflpmfgaaDoor
