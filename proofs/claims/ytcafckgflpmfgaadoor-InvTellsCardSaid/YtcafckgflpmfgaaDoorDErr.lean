/- Typed words of functions, and that they hold: printed by gen.py (an own tool of this claim) off the model's own form of each function. -/
import Derived.Test.YtcafckgflpmfgaaDoorProg
import Derived.Test.YtcafckgflpmfgaaDoorTwMore
import Derived.Test.YtcafckgflpmfgaaDoorAsH
namespace Go.Proofs.YtcafckgflpmfgaaDoor
open Go Go.RowKit Go.Tw
set_option linter.unusedVariables false



/-! ### the calls -/

abbrev plain_Told (r : World) (err1 : Value) (h : Heap) (R : Int → Heap → Prop) : Prop :=
  CallsH Tryd.prog r 71 [err1] h fun v h' => ∃ (y2 : Int), v = (.int .i64 y2) ∧ R y2 h'

theorem plain_Told.mono {r : World} {err1 : Value} {h : Heap} {R R' : Int → Heap → Prop} (H : plain_Told r err1 h R) (hr : ∀ y2 h, R y2 h → R' y2 h) : plain_Told r err1 h R' :=
  CallsH.mono H fun _ _ hx => by
    obtain ⟨y2, hv, hR⟩ := hx
    exact ⟨y2, hv, hr _ _ hR⟩

abbrev same_Error (r : World) (err1 : Value) (ve2 : Int) (h : Heap) (R : Bool → Heap → Prop) : Prop :=
  CallsH Tryd.prog r 12 [err1, (.int .i64 ve2)] h fun v h' => ∃ (y3 : Bool), v = (.bool y3) ∧ R y3 h'

theorem same_Error.mono {r : World} {err1 : Value} {ve2 : Int} {h : Heap} {R R' : Bool → Heap → Prop} (H : same_Error r err1 ve2 h R) (hr : ∀ y3 h, R y3 h → R' y3 h) : same_Error r err1 ve2 h R' :=
  CallsH.mono H fun _ _ hx => by
    obtain ⟨y3, hv, hR⟩ := hx
    exact ⟨y3, hv, hr _ _ hR⟩

/-! ### plain_Told -/

def plain_Told_F (r : World) (err1 : Value) (h : Heap) (R : Int → Heap → Prop) : Prop :=
  (isIface err1 = true) ∧
  Br (isNil err1) (
    R 0 h) (
    New h (.cells #[(.int .i64 0)] 29) fun p3 h1 =>
    errors_As r err1 ((.iface 148 (.pointer (some p3)))) h1 fun y6 h2 =>
    Br y6 (
      LdI h2 p3 fun x7 =>
      R x7 h2) (
      R ((-1)) h2))

set_option maxRecDepth 100000 in
theorem plain_Told_of {r : World} {err1 : Value} {h : Heap} {R : Int → Heap → Prop} (H : plain_Told_F r err1 h R) : plain_Told r err1 h R := by
  unfold plain_Told_F at H
  refine calls_of 10 [.tmp 2] Tryd.func71 rfl rfl rfl rfl rfl ?_
  refine W_seq ?_
  refine W_region (.pu 0 .fin) rfl rfl ?_
  refine s_pu (d := some 2) (v := (.int .i64 0)) rfl rfl rfl (r_assign rfl) ?_
  refine s_fin ?_
  show W _ _ _ _ _ _ _ _
  refine W_seq ?_
  refine W_seq ?_
  refine W_region (.pu 0 (.pu 1 .fin)) rfl rfl ?_
  refine s_pu (d := some 4) (v := err1) rfl rfl rfl (r_move rfl) ?_
  obtain ⟨e2, H⟩ := H
  refine s_pu (d := some 5) (v := (.bool (isNil err1))) rfl rfl rfl (r_nilI Tryd.underlying26 rfl e2 rfl) ?_
  refine s_fin ?_
  show W _ _ _ _ _ _ _ _
  refine W_if (isNil err1) rfl (fun g10 => ?_) (fun g10 => ?_)
  · have H := H.1 g10
    refine W_seq ?_
    refine W_region (.pu 0 .fin) rfl rfl ?_
    refine s_pu (d := some 2) (v := (.int .i64 0)) rfl rfl rfl (r_assign rfl) ?_
    refine s_fin ?_
    show W _ _ _ _ _ _ _ _
    refine W_ret ?_
    exact ⟨[(.int .i64 0)], ⟨_, _, rfl, rfl, rfl⟩, 0, rfl, H⟩
  · have H := H.2 g10
    refine W_skip ?_
    show W _ _ _ _ _ _ _ _
    refine W_seq ?_
    refine W_region (.ef 0 [] .fin .no) rfl rfl ?_
    obtain ⟨p3, e4⟩ : ∃ p : Addr, p = ⟨h.size, 0, none⟩ := ⟨_, rfl⟩
    obtain ⟨h1, e5⟩ : ∃ hh : Heap, hh = h.push (.cells #[(.int .i64 0)] 29) := ⟨_, rfl⟩
    have H := H p3 h1 e4 e5
    refine s_ef1 (d := some 3) (v := (.pointer (some p3))) (h' := h1) rfl rfl rfl (fun dr => (r_alloc Tryd.zeroValue29).trans (by rw [e4, e5]; rfl)) trivial ?_ trivial
    refine s_fin ?_
    show W _ _ _ _ _ _ _ _
    refine W_seq ?_
    refine W_seq ?_
    refine W_region (.pu 0 (.pu 1 (.ef 2 [] .fin .no))) rfl rfl ?_
    refine s_pu (d := some 6) (v := err1) rfl rfl rfl (r_move rfl) ?_
    refine s_pu (d := some 7) (v := ((.iface 148 (.pointer (some p3))))) rfl rfl rfl (r_iface Tryd.underlying148 rfl rfl) ?_
    refine s_ef (d := some 8) rfl rfl rfl (fun dr => r_call Tryd.call105 rfl rfl H) ?_ trivial
    rintro _ h2 ⟨y6, rfl, H⟩
    refine ⟨trivial, ?_⟩
    refine s_fin ?_
    show W _ _ _ _ _ _ _ _
    refine W_if y6 rfl (fun g9 => ?_) (fun g9 => ?_)
    · have H := H.1 g9
      refine W_seq ?_
      refine W_region (.rl 0 (.pu 1 .fin)) rfl rfl ?_
      obtain ⟨x7, e8, H⟩ := H
      refine s_rl (d := some 9) (v := (.int .i64 x7)) rfl rfl rfl (fun dr => r_load1 Tryd.isAgg29 rfl e8) ?_
      refine s_pu (d := some 2) (v := (.int .i64 x7)) rfl rfl rfl (r_assign rfl) ?_
      refine s_fin ?_
      show W _ _ _ _ _ _ _ _
      refine W_ret ?_
      exact ⟨[(.int .i64 x7)], ⟨_, _, rfl, rfl, rfl⟩, x7, rfl, H⟩
    · have H := H.2 g9
      refine W_skip ?_
      show W _ _ _ _ _ _ _ _
      refine W_seq ?_
      refine W_region (.pu 0 .fin) rfl rfl ?_
      refine s_pu (d := some 2) (v := (.int .i64 ((-1)))) rfl rfl rfl (r_assign rfl) ?_
      refine s_fin ?_
      show W _ _ _ _ _ _ _ _
      refine W_ret ?_
      exact ⟨[(.int .i64 ((-1)))], ⟨_, _, rfl, rfl, rfl⟩, ((-1)), rfl, H⟩

/-! ### same_Error -/

def same_Error_F (r : World) (err1 : Value) (ve2 : Int) (h : Heap) (R : Bool → Heap → Prop) : Prop :=
  plain_Told r err1 h fun y3 h1 =>
  R (decide (y3 = ve2)) h1

set_option maxRecDepth 100000 in
theorem same_Error_of {r : World} {err1 : Value} {ve2 : Int} {h : Heap} {R : Bool → Heap → Prop} (H : same_Error_F r err1 ve2 h R) : same_Error r err1 ve2 h R := by
  unfold same_Error_F at H
  refine calls_of 11 [.tmp 4] Tryd.func12 rfl rfl rfl rfl rfl ?_
  refine W_seq ?_
  refine W_region (.pu 0 .fin) rfl rfl ?_
  refine s_pu (d := some 4) (v := (.bool false)) rfl rfl rfl (r_assign rfl) ?_
  refine s_fin ?_
  show W _ _ _ _ _ _ _ _
  refine W_seq ?_
  refine W_region (.pu 0 (.ef 1 [] (.pu 2 .fin) .no)) rfl rfl ?_
  refine s_pu (d := some 6) (v := err1) rfl rfl rfl (r_move rfl) ?_
  refine s_ef (d := some 7) rfl rfl rfl (fun dr => r_call Tryd.call71 rfl rfl H) ?_ trivial
  rintro _ h1 ⟨y3, rfl, H⟩
  refine ⟨trivial, ?_⟩
  refine s_pu (d := some 5) (v := (.int .i64 y3)) rfl rfl rfl (r_assign rfl) ?_
  refine s_fin ?_
  show W _ _ _ _ _ _ _ _
  refine W_seq ?_
  refine W_region (.pu 0 (.pu 1 (.pu 2 (.pu 3 .fin)))) rfl rfl ?_
  refine s_pu (d := some 8) (v := (.int .i64 y3)) rfl rfl rfl (r_move rfl) ?_
  refine s_pu (d := some 9) (v := (.int .i64 ve2)) rfl rfl rfl (r_move rfl) ?_
  refine s_pu (d := some 10) (v := (.bool (decide (y3 = ve2)))) rfl rfl rfl (r_eql rfl rfl) ?_
  refine s_pu (d := some 4) (v := (.bool (decide (y3 = ve2)))) rfl rfl rfl (r_assign rfl) ?_
  refine s_fin ?_
  show W _ _ _ _ _ _ _ _
  refine W_ret ?_
  exact ⟨[(.bool (decide (y3 = ve2)))], ⟨_, _, rfl, rfl, rfl⟩, (decide (y3 = ve2)), rfl, H⟩

end Go.Proofs.YtcafckgflpmfgaaDoor
