/- Typed words of functions, and that they hold: printed by gen.py (an own tool of this claim) off the model's own form of each function. -/
import Derived.Test.YtfiemlcoliijoaaProg
import Derived.Test.YtfiemlcoliijoaaHMono
import Derived.Test.YtfiemlcoliijoaaTwGrow
namespace Go.Proofs.Ytfiemlcoliijoaa
open Go Go.RowKit Go.Tw
set_option linter.unusedVariables false

theorem slFHFing_102 : SlF Try.prog 102 98 1 8 (.pointer none) := ⟨Try.underlying102, ⟨Try.t98, by kernel_rfl, rfl, rfl, rfl⟩, rfl, Try.sizeOf98, Try.zeroValue98⟩

/-! ### the calls -/

abbrev finger_number (r : World) (x1 : Int) (h : Heap) (R : Option Addr → Heap → Prop) : Prop :=
  CallsH Try.prog r 50 [(.int .i64 x1)] h fun v h' => ∃ (y2 : Option Addr), v = (.pointer y2) ∧ R y2 h'

theorem finger_number.mono {r : World} {x1 : Int} {h : Heap} {R R' : Option Addr → Heap → Prop} (H : finger_number r x1 h R) (hr : ∀ y2 h, R y2 h → R' y2 h) : finger_number r x1 h R' :=
  CallsH.mono H fun _ _ hx => by
    obtain ⟨y2, hv, hR⟩ := hx
    exact ⟨y2, hv, hr _ _ hR⟩

abbrev finger_measured (r : World) (l1 : Sl) (h : Heap) (R : Int → Int → Int → Int → Int → Heap → Prop) : Prop :=
  CallsH Try.prog r 62 [(Sl.v l1)] h fun v h' => ∃ (y2 : Int) (y3 : Int) (y4 : Int) (y5 : Int) (y6 : Int), v = (.agg #[(.int .i64 y2), (.int .i64 y3), (.int .i64 y4), (.int .i64 y5), (.int .i64 y6)]) ∧ R y2 y3 y4 y5 y6 h'

theorem finger_measured.mono {r : World} {l1 : Sl} {h : Heap} {R R' : Int → Int → Int → Int → Int → Heap → Prop} (H : finger_measured r l1 h R) (hr : ∀ y2 y3 y4 y5 y6 h, R y2 y3 y4 y5 y6 h → R' y2 y3 y4 y5 y6 h) : finger_measured r l1 h R' :=
  CallsH.mono H fun _ _ hx => by
    obtain ⟨y2, y3, y4, y5, y6, hv, hR⟩ := hx
    exact ⟨y2, y3, y4, y5, y6, hv, hr _ _ _ _ _ _ hR⟩

abbrev finger_group (r : World) (l1 : Sl) (h : Heap) (R : Option Addr → Heap → Prop) : Prop :=
  CallsH Try.prog r 59 [(Sl.v l1)] h fun v h' => ∃ (y2 : Option Addr), v = (.pointer y2) ∧ R y2 h'

theorem finger_group.mono {r : World} {l1 : Sl} {h : Heap} {R R' : Option Addr → Heap → Prop} (H : finger_group r l1 h R) (hr : ∀ y2 h, R y2 h → R' y2 h) : finger_group r l1 h R' :=
  CallsH.mono H fun _ _ hx => by
    obtain ⟨y2, hv, hR⟩ := hx
    exact ⟨y2, hv, hr _ _ hR⟩

abbrev finger_level_measure (r : World) (v1 : Option Addr) (h : Heap) (R : Int → Int → Int → Int → Int → Heap → Prop) : Prop :=
  CallsH Try.prog r 43 [(.pointer v1)] h fun v h' => ∃ (y2 : Int) (y3 : Int) (y4 : Int) (y5 : Int) (y6 : Int), v = (.agg #[(.int .i64 y2), (.int .i64 y3), (.int .i64 y4), (.int .i64 y5), (.int .i64 y6)]) ∧ R y2 y3 y4 y5 y6 h'

theorem finger_level_measure.mono {r : World} {v1 : Option Addr} {h : Heap} {R R' : Int → Int → Int → Int → Int → Heap → Prop} (H : finger_level_measure r v1 h R) (hr : ∀ y2 y3 y4 y5 y6 h, R y2 y3 y4 y5 y6 h → R' y2 y3 y4 y5 y6 h) : finger_level_measure r v1 h R' :=
  CallsH.mono H fun _ _ hx => by
    obtain ⟨y2, y3, y4, y5, y6, hv, hR⟩ := hx
    exact ⟨y2, y3, y4, y5, y6, hv, hr _ _ _ _ _ _ hR⟩

abbrev finger_alone (r : World) (t1 : Option Addr) (h : Heap) (R : Option Addr → Heap → Prop) : Prop :=
  CallsH Try.prog r 56 [(.pointer t1)] h fun v h' => ∃ (y2 : Option Addr), v = (.pointer y2) ∧ R y2 h'

theorem finger_alone.mono {r : World} {t1 : Option Addr} {h : Heap} {R R' : Option Addr → Heap → Prop} (H : finger_alone r t1 h R) (hr : ∀ y2 h, R y2 h → R' y2 h) : finger_alone r t1 h R' :=
  CallsH.mono H fun _ _ hx => by
    obtain ⟨y2, hv, hR⟩ := hx
    exact ⟨y2, hv, hr _ _ hR⟩

abbrev finger_deep (r : World) (l1 : Sl) (mid2 : Option Addr) (vr3 : Sl) (h : Heap) (R : Option Addr → Heap → Prop) : Prop :=
  CallsH Try.prog r 57 [(Sl.v l1), (.pointer mid2), (Sl.v vr3)] h fun v h' => ∃ (y4 : Option Addr), v = (.pointer y4) ∧ R y4 h'

theorem finger_deep.mono {r : World} {l1 : Sl} {mid2 : Option Addr} {vr3 : Sl} {h : Heap} {R R' : Option Addr → Heap → Prop} (H : finger_deep r l1 mid2 vr3 h R) (hr : ∀ y4 h, R y4 h → R' y4 h) : finger_deep r l1 mid2 vr3 h R' :=
  CallsH.mono H fun _ _ hx => by
    obtain ⟨y4, hv, hR⟩ := hx
    exact ⟨y4, hv, hr _ _ hR⟩

abbrev finger_pushLeft (r : World) (t1 : Option Addr) (v2 : Option Addr) (h : Heap) (R : Option Addr → Heap → Prop) : Prop :=
  CallsH Try.prog r 61 [(.pointer t1), (.pointer v2)] h fun v h' => ∃ (y3 : Option Addr), v = (.pointer y3) ∧ R y3 h'

theorem finger_pushLeft.mono {r : World} {t1 : Option Addr} {v2 : Option Addr} {h : Heap} {R R' : Option Addr → Heap → Prop} (H : finger_pushLeft r t1 v2 h R) (hr : ∀ y3 h, R y3 h → R' y3 h) : finger_pushLeft r t1 v2 h R' :=
  CallsH.mono H fun _ _ hx => by
    obtain ⟨y3, hv, hR⟩ := hx
    exact ⟨y3, hv, hr _ _ hR⟩

abbrev finger_pushRight (r : World) (v1 : Option Addr) (t2 : Option Addr) (h : Heap) (R : Option Addr → Heap → Prop) : Prop :=
  CallsH Try.prog r 49 [(.pointer v1), (.pointer t2)] h fun v h' => ∃ (y3 : Option Addr), v = (.pointer y3) ∧ R y3 h'

theorem finger_pushRight.mono {r : World} {v1 : Option Addr} {t2 : Option Addr} {h : Heap} {R R' : Option Addr → Heap → Prop} (H : finger_pushRight r v1 t2 h R) (hr : ∀ y3 h, R y3 h → R' y3 h) : finger_pushRight r v1 t2 h R' :=
  CallsH.mono H fun _ _ hx => by
    obtain ⟨y3, hv, hR⟩ := hx
    exact ⟨y3, hv, hr _ _ hR⟩

abbrev slices_Clone_finger_thing_finger_thing (r : World) (s1 : Sl) (h : Heap) (R : Sl → Heap → Prop) : Prop :=
  CallsH Try.prog r 58 [(Sl.v s1)] h fun v h' => ∃ (y2 : Sl), v = (Sl.v y2) ∧ R y2 h'

theorem slices_Clone_finger_thing_finger_thing.mono {r : World} {s1 : Sl} {h : Heap} {R R' : Sl → Heap → Prop} (H : slices_Clone_finger_thing_finger_thing r s1 h R) (hr : ∀ y2 h, R y2 h → R' y2 h) : slices_Clone_finger_thing_finger_thing r s1 h R' :=
  CallsH.mono H fun _ _ hx => by
    obtain ⟨y2, hv, hR⟩ := hx
    exact ⟨y2, hv, hr _ _ hR⟩

abbrev finger_some (r : World) (l1 : Sl) (h : Heap) (R : Option Addr → Heap → Prop) : Prop :=
  CallsH Try.prog r 64 [(Sl.v l1)] h fun v h' => ∃ (y2 : Option Addr), v = (.pointer y2) ∧ R y2 h'

theorem finger_some.mono {r : World} {l1 : Sl} {h : Heap} {R R' : Option Addr → Heap → Prop} (H : finger_some r l1 h R) (hr : ∀ y2 h, R y2 h → R' y2 h) : finger_some r l1 h R' :=
  CallsH.mono H fun _ _ hx => by
    obtain ⟨y2, hv, hR⟩ := hx
    exact ⟨y2, hv, hr _ _ hR⟩

abbrev finger_deepLeft (r : World) (l1 : Sl) (mid2 : Option Addr) (vr3 : Sl) (h : Heap) (R : Option Addr → Heap → Prop) : Prop :=
  CallsH Try.prog r 65 [(Sl.v l1), (.pointer mid2), (Sl.v vr3)] h fun v h' => ∃ (y4 : Option Addr), v = (.pointer y4) ∧ R y4 h'

theorem finger_deepLeft.mono {r : World} {l1 : Sl} {mid2 : Option Addr} {vr3 : Sl} {h : Heap} {R R' : Option Addr → Heap → Prop} (H : finger_deepLeft r l1 mid2 vr3 h R) (hr : ∀ y4 h, R y4 h → R' y4 h) : finger_deepLeft r l1 mid2 vr3 h R' :=
  CallsH.mono H fun _ _ hx => by
    obtain ⟨y4, hv, hR⟩ := hx
    exact ⟨y4, hv, hr _ _ hR⟩

abbrev finger_deepRight (r : World) (l1 : Sl) (mid2 : Option Addr) (vr3 : Sl) (h : Heap) (R : Option Addr → Heap → Prop) : Prop :=
  CallsH Try.prog r 66 [(Sl.v l1), (.pointer mid2), (Sl.v vr3)] h fun v h' => ∃ (y4 : Option Addr), v = (.pointer y4) ∧ R y4 h'

theorem finger_deepRight.mono {r : World} {l1 : Sl} {mid2 : Option Addr} {vr3 : Sl} {h : Heap} {R R' : Option Addr → Heap → Prop} (H : finger_deepRight r l1 mid2 vr3 h R) (hr : ∀ y4 h, R y4 h → R' y4 h) : finger_deepRight r l1 mid2 vr3 h R' :=
  CallsH.mono H fun _ _ hx => by
    obtain ⟨y4, hv, hR⟩ := hx
    exact ⟨y4, hv, hr _ _ hR⟩

abbrev finger_popLeft (r : World) (v1 : Option Addr) (h : Heap) (R : Option Addr → Option Addr → Heap → Prop) : Prop :=
  CallsH Try.prog r 67 [(.pointer v1)] h fun v h' => ∃ (y2 : Option Addr) (y3 : Option Addr), v = (.tuple #[(.pointer y2), (.pointer y3)]) ∧ R y2 y3 h'

theorem finger_popLeft.mono {r : World} {v1 : Option Addr} {h : Heap} {R R' : Option Addr → Option Addr → Heap → Prop} (H : finger_popLeft r v1 h R) (hr : ∀ y2 y3 h, R y2 y3 h → R' y2 y3 h) : finger_popLeft r v1 h R' :=
  CallsH.mono H fun _ _ hx => by
    obtain ⟨y2, y3, hv, hR⟩ := hx
    exact ⟨y2, y3, hv, hr _ _ _ hR⟩

abbrev finger_popRight (r : World) (v1 : Option Addr) (h : Heap) (R : Option Addr → Option Addr → Heap → Prop) : Prop :=
  CallsH Try.prog r 68 [(.pointer v1)] h fun v h' => ∃ (y2 : Option Addr) (y3 : Option Addr), v = (.tuple #[(.pointer y2), (.pointer y3)]) ∧ R y2 y3 h'

theorem finger_popRight.mono {r : World} {v1 : Option Addr} {h : Heap} {R R' : Option Addr → Option Addr → Heap → Prop} (H : finger_popRight r v1 h R) (hr : ∀ y2 y3 h, R y2 y3 h → R' y2 y3 h) : finger_popRight r v1 h R' :=
  CallsH.mono H fun _ _ hx => by
    obtain ⟨y2, y3, hv, hR⟩ := hx
    exact ⟨y2, y3, hv, hr _ _ _ hR⟩

/-! ### finger_number -/

def finger_number_F (r : World) (x1 : Int) (h : Heap) (R : Option Addr → Heap → Prop) : Prop :=
  mono_One r x1 h fun y2 y3 y4 y5 y6 h1 =>
  New h1 (.cells #[(.int .i64 y2), (.int .i64 y3), (.int .i64 y4), (.int .i64 y5), (.int .i64 y6), (.int .i64 x1), (Sl.v Sl.nil)] 115) fun p7 h2 =>
  R (some p7) h2

set_option maxRecDepth 100000 in
theorem finger_number_of {r : World} {x1 : Int} {h : Heap} {R : Option Addr → Heap → Prop} (H : finger_number_F r x1 h R) : finger_number r x1 h R := by
  unfold finger_number_F at H
  refine calls_of 8 [.tmp 2] Try.func50 rfl rfl rfl rfl rfl ?_
  refine W_seq ?_
  refine W_region (.pu 0 .fin) rfl rfl ?_
  refine s_pu (d := some 2) (v := (.pointer none)) rfl rfl rfl (r_assign rfl) ?_
  refine s_fin ?_
  show W _ _ _ _ _ _ _ _
  refine W_seq ?_
  refine W_region (.pu 0 (.ef 1 [] (.pu 2 (.pu 3 (.ef 4 [] (.pu 5 .fin) .no))) .no)) rfl rfl ?_
  refine s_pu (d := some 3) (v := (.int .i64 x1)) rfl rfl rfl (r_move rfl) ?_
  refine s_ef (d := some 4) rfl rfl rfl (fun dr => r_call Try.call32 rfl rfl H) ?_ trivial
  rintro _ h1 ⟨y2, y3, y4, y5, y6, rfl, H⟩
  refine ⟨trivial, ?_⟩
  refine s_pu (d := some 5) (v := (.int .i64 x1)) rfl rfl rfl (r_move rfl) ?_
  refine s_pu (d := some 6) (v := (.agg #[(.int .i64 y2), (.int .i64 y3), (.int .i64 y4), (.int .i64 y5), (.int .i64 y6), (.int .i64 x1), (Sl.v Sl.nil)])) rfl rfl rfl (fun w => by kernel_rfl) ?_
  obtain ⟨p7, e8⟩ : ∃ p : Addr, p = ⟨h1.size, 0, none⟩ := ⟨_, rfl⟩
  obtain ⟨h2, e9⟩ : ∃ hh : Heap, hh = h1.push (.cells #[(.int .i64 y2), (.int .i64 y3), (.int .i64 y4), (.int .i64 y5), (.int .i64 y6), (.int .i64 x1), (Sl.v Sl.nil)] 115) := ⟨_, rfl⟩
  have H := H p7 h2 e8 e9
  refine s_ef1 (d := some 7) (v := (.pointer (some p7))) (h' := h2) rfl rfl rfl (fun dr => (r_box (v := (.agg #[(.int .i64 y2), (.int .i64 y3), (.int .i64 y4), (.int .i64 y5), (.int .i64 y6), (.int .i64 x1), (Sl.v Sl.nil)])) rfl).trans (by rw [e8, e9]; rfl)) trivial ?_ trivial
  refine s_pu (d := some 2) (v := (.pointer (some p7))) rfl rfl rfl (r_assign rfl) ?_
  refine s_fin ?_
  show W _ _ _ _ _ _ _ _
  refine W_ret ?_
  exact ⟨[(.pointer (some p7))], ⟨_, _, rfl, rfl, rfl⟩, (some p7), rfl, H⟩

/-! ### finger_measured -/

def finger_measured_F (r : World) (l1 : Sl) (h : Heap) (R : Int → Int → Int → Int → Int → Heap → Prop) : Prop :=
  New h (.cells #[(.int .i64 0), (.int .i64 0), (.int .i64 0), (.int .i64 0), (.int .i64 0)] 40) fun p2 h1 =>
  mono_None r h1 fun y5 y6 y7 y8 y9 h2 =>
  New h2 (.cells #[(.int .i64 0), (.int .i64 0), (.int .i64 0), (.int .i64 0), (.int .i64 0)] 40) fun p10 h3 =>
  St h3 p10 5 [(.int .i64 y5), (.int .i64 y6), (.int .i64 y7), (.int .i64 y8), (.int .i64 y9)] fun h4 =>
  ∀ X16 : Int → Heap → Prop, (∀ (x15 : Int) (h5 : Heap),
    (Br (decide (x15 < ((l1.len : Int)))) (
      Ix l1 x15 1 fun q21 =>
      LdP h5 q21 fun x23 =>
      LdI h5 (Addr.add p10 0) fun x25 =>
      LdI h5 (Addr.add p10 1) fun x27 =>
      LdI h5 (Addr.add p10 2) fun x29 =>
      LdI h5 (Addr.add p10 3) fun x31 =>
      LdI h5 (Addr.add p10 4) fun x33 =>
      Ck x23 fun p35 =>
      LdI h5 (Addr.add (Addr.add p35 0) 0) fun x37 =>
      LdI h5 (Addr.add (Addr.add p35 0) 1) fun x39 =>
      LdI h5 (Addr.add (Addr.add p35 0) 2) fun x41 =>
      LdI h5 (Addr.add (Addr.add p35 0) 3) fun x43 =>
      LdI h5 (Addr.add (Addr.add p35 0) 4) fun x45 =>
      mono_Join r x25 x27 x29 x31 x33 x37 x39 x41 x43 x45 h5 fun y47 y48 y49 y50 y51 h6 =>
      St h6 p10 5 [(.int .i64 y47), (.int .i64 y48), (.int .i64 y49), (.int .i64 y50), (.int .i64 y51)] fun h7 =>
      X16 (w64 (x15 + 1)) h7) (
      LdI h5 (Addr.add p10 0) fun x54 =>
      LdI h5 (Addr.add p10 1) fun x56 =>
      LdI h5 (Addr.add p10 2) fun x58 =>
      LdI h5 (Addr.add p10 3) fun x60 =>
      LdI h5 (Addr.add p10 4) fun x62 =>
      St h5 p2 5 [(.int .i64 x54), (.int .i64 x56), (.int .i64 x58), (.int .i64 x60), (.int .i64 x62)] fun h8 =>
      LdI h8 (Addr.add p2 0) fun x66 =>
      LdI h8 (Addr.add p2 1) fun x68 =>
      LdI h8 (Addr.add p2 2) fun x70 =>
      LdI h8 (Addr.add p2 3) fun x72 =>
      LdI h8 (Addr.add p2 4) fun x74 =>
      R x66 x68 x70 x72 x74 h8)) →
    X16 x15 h5) →
  X16 0 h4

set_option maxRecDepth 100000 in
theorem finger_measured_of {r : World} {l1 : Sl} {h : Heap} {R : Int → Int → Int → Int → Int → Heap → Prop} (H : finger_measured_F r l1 h R) : finger_measured r l1 h R := by
  unfold finger_measured_F at H
  refine calls_of 21 [.cell 2 40] Try.func62 rfl rfl rfl rfl rfl ?_
  refine W_seq ?_
  refine W_region (.ef 0 [] .fin .no) rfl rfl ?_
  obtain ⟨p2, e3⟩ : ∃ p : Addr, p = ⟨h.size, 0, none⟩ := ⟨_, rfl⟩
  obtain ⟨h1, e4⟩ : ∃ hh : Heap, hh = h.push (.cells #[(.int .i64 0), (.int .i64 0), (.int .i64 0), (.int .i64 0), (.int .i64 0)] 40) := ⟨_, rfl⟩
  have H := H p2 h1 e3 e4
  refine s_ef1 (d := some 2) (v := (.pointer (some p2))) (h' := h1) rfl rfl rfl (fun dr => (r_alloc Try.zeroValue40).trans (by rw [e3, e4]; rfl)) trivial ?_ trivial
  refine s_fin ?_
  show W _ _ _ _ _ _ _ _
  refine W_seq ?_
  refine W_region (.ef 0 [] (.ef 1 [] (.ef 2 [] .fin .no) .no) .no) rfl rfl ?_
  refine s_ef (d := some 6) rfl rfl rfl (fun dr => r_call Try.call30 rfl rfl H) ?_ trivial
  rintro _ h2 ⟨y5, y6, y7, y8, y9, rfl, H⟩
  refine ⟨trivial, ?_⟩
  obtain ⟨p10, e11⟩ : ∃ p : Addr, p = ⟨h2.size, 0, none⟩ := ⟨_, rfl⟩
  obtain ⟨h3, e12⟩ : ∃ hh : Heap, hh = h2.push (.cells #[(.int .i64 0), (.int .i64 0), (.int .i64 0), (.int .i64 0), (.int .i64 0)] 40) := ⟨_, rfl⟩
  have H := H p10 h3 e11 e12
  refine s_ef1 (d := some 3) (v := (.pointer (some p10))) (h' := h3) rfl rfl rfl (fun dr => (r_alloc Try.zeroValue40).trans (by rw [e11, e12]; rfl)) trivial ?_ trivial
  obtain ⟨e14, H⟩ := H
  obtain ⟨h4, e13⟩ : ∃ hh : Heap, hh = hsets h3 p10 0 [(.int .i64 y5), (.int .i64 y6), (.int .i64 y7), (.int .i64 y8), (.int .i64 y9)] := ⟨_, rfl⟩
  have H := H h4 e13
  refine s_st (d := none) (h' := h4) rfl rfl rfl (fun dr => (r_store (v := (.agg #[(.int .i64 y5), (.int .i64 y6), (.int .i64 y7), (.int .i64 y8), (.int .i64 y9)])) Try.sizeOf40 rfl rfl rfl (one_all rfl) e14).trans (by rw [e13]; rfl)) trivial ?_ trivial
  refine s_fin ?_
  show W _ _ _ _ _ _ _ _
  refine W_seq ?_
  refine W_seq ?_
  refine W_region (.pu 0 (.pu 1 (.pu 2 .fin))) rfl rfl ?_
  refine s_pu (d := some 7) (v := (Sl.v l1)) rfl rfl rfl (r_move rfl) ?_
  refine s_pu (d := some 8) (v := (.int .i64 ((l1.len : Int)))) rfl rfl rfl (r_len Try.underlying102 rfl) ?_
  refine s_pu (d := some 9) (v := (.int .i64 0)) rfl rfl rfl (r_move rfl) ?_
  refine s_fin ?_
  show W _ _ _ _ _ _ _ _
  refine W_block ?_
  refine W_loop (WL_mk (l := [(2, (.pointer (some p2))), (3, (.pointer (some p10))), (7, (Sl.v l1)), (8, (.int .i64 ((l1.len : Int)))), (9, (.int .i64 0))]) ?_ ⟨rfl, rfl, rfl, rfl, rfl, trivial⟩)
  refine H (fun (x15 : Int) (h5 : Heap) => ∀ b, WL _ _ _ _ _ _ (mkE [(2, (.pointer (some p2))), (3, (.pointer (some p10))), (7, (Sl.v l1)), (8, (.int .i64 ((l1.len : Int)))), (9, (.int .i64 x15))] b) h5) ?_
  intro x15 h5 H b
  refine WL_round ?_
  refine W_seq ?_
  refine W_region (.pu 0 .fin) rfl rfl ?_
  refine s_pu (d := some 10) (v := (.bool (decide (x15 < ((l1.len : Int)))))) rfl rfl rfl (r_lss rfl rfl) ?_
  refine s_fin ?_
  show W _ _ _ _ _ _ _ _
  refine W_seq ?_
  refine W_if (decide (x15 < ((l1.len : Int)))) rfl (fun g76 => ?_) (fun g76 => ?_)
  · have H := H.1 g76
    refine W_skip ?_
    show W _ _ _ _ _ _ _ _
    refine W_seq ?_
    refine W_block ?_
    refine W_seq ?_
    refine W_region (.pu 0 (.rl 1 (.pu 2 .fin))) rfl rfl ?_
    obtain ⟨p17, e18, e19, e20, H⟩ := H
    obtain ⟨q21, e22⟩ : ∃ q : Addr, q = Addr.add p17 (Int.toNat x15 * 1) := ⟨_, rfl⟩
    rw [← e22] at H
    refine s_pu (d := some 11) (v := (.pointer (some q21))) rfl rfl rfl (fun w => (r_indexAddr Try.underlying102 Try.sizeOf98 rfl rfl e18 e19 e20 w).trans (by rw [e22])) ?_
    obtain ⟨x23, e24, H⟩ := H
    refine s_rl (d := some 12) (v := (.pointer x23)) rfl rfl rfl (fun dr => r_load1 Try.isAgg98 rfl e24) ?_
    refine s_pu (d := some 5) (v := (.pointer x23)) rfl rfl rfl (r_assign rfl) ?_
    refine s_fin ?_
    show W _ _ _ _ _ _ _ _
    refine W_draw [0, 0, 2, 6, 14, 31, 63] (.rd 0 (.pu 1 (.pu 2 (.pu 3 (.rd 4 (.ef 5 [0, 4] (.ef 6 [0, 4] .fin .no) .no)))))) (by kernel_rfl) (by kernel_rfl) ?_
    obtain ⟨x25, e26, H⟩ := H
    obtain ⟨x27, e28, H⟩ := H
    obtain ⟨x29, e30, H⟩ := H
    obtain ⟨x31, e32, H⟩ := H
    obtain ⟨x33, e34, H⟩ := H
    refine s_rd (d := some 13) (v := (.agg #[(.int .i64 x25), (.int .i64 x27), (.int .i64 x29), (.int .i64 x31), (.int .i64 x33)])) rfl rfl rfl (fun dr => r_loadN Try.isAgg40 Try.sizeOf40 (vs := [(.int .i64 x25), (.int .i64 x27), (.int .i64 x29), (.int .i64 x31), (.int .i64 x33)]) rfl rfl ⟨e26, e28, e30, e32, e34, trivial⟩) ?_
    refine s_pu (d := some 14) (v := (.pointer x23)) rfl rfl rfl (r_move rfl) ?_
    obtain ⟨p35, e36, H⟩ := H
    refine s_pu (d := some 15) (v := (.pointer (some p35))) rfl rfl rfl (r_nilCheck rfl e36) ?_
    refine s_pu (d := some 16) (v := (.pointer (some (Addr.add p35 0)))) rfl rfl rfl (r_fieldAddr Try.underlying115 Try.sizeOf40 rfl rfl rfl) ?_
    obtain ⟨x37, e38, H⟩ := H
    obtain ⟨x39, e40, H⟩ := H
    obtain ⟨x41, e42, H⟩ := H
    obtain ⟨x43, e44, H⟩ := H
    obtain ⟨x45, e46, H⟩ := H
    refine s_rd (d := some 17) (v := (.agg #[(.int .i64 x37), (.int .i64 x39), (.int .i64 x41), (.int .i64 x43), (.int .i64 x45)])) rfl rfl rfl (fun dr => r_loadN Try.isAgg40 Try.sizeOf40 (vs := [(.int .i64 x37), (.int .i64 x39), (.int .i64 x41), (.int .i64 x43), (.int .i64 x45)]) rfl rfl ⟨e38, e40, e42, e44, e46, trivial⟩) ?_
    refine s_ef (d := some 18) rfl rfl rfl (fun dr => r_call Try.call31 rfl rfl H) ?_ trivial
    rintro _ h6 ⟨y47, y48, y49, y50, y51, rfl, H⟩
    refine ⟨⟨trivial, trivial, trivial⟩, ?_⟩
    obtain ⟨e53, H⟩ := H
    obtain ⟨h7, e52⟩ : ∃ hh : Heap, hh = hsets h6 p10 0 [(.int .i64 y47), (.int .i64 y48), (.int .i64 y49), (.int .i64 y50), (.int .i64 y51)] := ⟨_, rfl⟩
    have H := H h7 e52
    refine s_st (d := none) (h' := h7) rfl rfl rfl (fun dr => (r_store (v := (.agg #[(.int .i64 y47), (.int .i64 y48), (.int .i64 y49), (.int .i64 y50), (.int .i64 y51)])) Try.sizeOf40 rfl rfl rfl (one_all rfl) e53).trans (by rw [e52]; rfl)) ⟨trivial, trivial, trivial⟩ ?_ trivial
    refine s_fin ?_
    show W _ _ _ _ _ _ _ _
    refine W_region (.pu 0 (.pu 1 .fin)) rfl rfl ?_
    refine s_pu (d := some 19) (v := (.int .i64 (w64 (x15 + 1)))) rfl rfl rfl (r_add rfl rfl) ?_
    refine s_pu (d := some 9) (v := (.int .i64 (w64 (x15 + 1)))) rfl rfl rfl (r_move rfl) ?_
    refine s_fin ?_
    exact WL_mk (l := [(2, (.pointer (some p2))), (3, (.pointer (some p10))), (7, (Sl.v l1)), (8, (.int .i64 ((l1.len : Int)))), (9, (.int .i64 (w64 (x15 + 1))))]) H ⟨rfl, rfl, rfl, rfl, rfl, trivial⟩
  · have H := H.2 g76
    refine W_exit (inX_here ?_)
    show W _ _ _ _ _ _ _ _
    refine W_seq ?_
    refine W_region (.rl 0 (.ef 1 [] .fin .no)) rfl rfl ?_
    obtain ⟨x54, e55, H⟩ := H
    obtain ⟨x56, e57, H⟩ := H
    obtain ⟨x58, e59, H⟩ := H
    obtain ⟨x60, e61, H⟩ := H
    obtain ⟨x62, e63, H⟩ := H
    refine s_rl (d := some 20) (v := (.agg #[(.int .i64 x54), (.int .i64 x56), (.int .i64 x58), (.int .i64 x60), (.int .i64 x62)])) rfl rfl rfl (fun dr => r_loadN Try.isAgg40 Try.sizeOf40 (vs := [(.int .i64 x54), (.int .i64 x56), (.int .i64 x58), (.int .i64 x60), (.int .i64 x62)]) rfl rfl ⟨e55, e57, e59, e61, e63, trivial⟩) ?_
    obtain ⟨e65, H⟩ := H
    obtain ⟨h8, e64⟩ : ∃ hh : Heap, hh = hsets h5 p2 0 [(.int .i64 x54), (.int .i64 x56), (.int .i64 x58), (.int .i64 x60), (.int .i64 x62)] := ⟨_, rfl⟩
    have H := H h8 e64
    refine s_st (d := none) (h' := h8) rfl rfl rfl (fun dr => (r_store (v := (.agg #[(.int .i64 x54), (.int .i64 x56), (.int .i64 x58), (.int .i64 x60), (.int .i64 x62)])) Try.sizeOf40 rfl rfl rfl (one_all rfl) e65).trans (by rw [e64]; rfl)) trivial ?_ trivial
    refine s_fin ?_
    show W _ _ _ _ _ _ _ _
    refine W_ret ?_
    obtain ⟨x66, e67, H⟩ := H
    obtain ⟨x68, e69, H⟩ := H
    obtain ⟨x70, e71, H⟩ := H
    obtain ⟨x72, e73, H⟩ := H
    obtain ⟨x74, e75, H⟩ := H
    exact ⟨[(.agg #[(.int .i64 x66), (.int .i64 x68), (.int .i64 x70), (.int .i64 x72), (.int .i64 x74)])], ⟨_, _, _, rfl, rfl, fun dr => run_loadVarN Try.isAgg40 Try.sizeOf40 (vs := [(.int .i64 x66), (.int .i64 x68), (.int .i64 x70), (.int .i64 x72), (.int .i64 x74)]) rfl ⟨e67, e69, e71, e73, e75, trivial⟩, rfl⟩, x66, x68, x70, x72, x74, rfl, H⟩

/-! ### finger_group -/

def finger_group_F (r : World) (l1 : Sl) (h : Heap) (R : Option Addr → Heap → Prop) : Prop :=
  finger_measured r l1 h fun y2 y3 y4 y5 y6 h1 =>
  New h1 (.cells #[(.int .i64 y2), (.int .i64 y3), (.int .i64 y4), (.int .i64 y5), (.int .i64 y6), (.int .i64 0), (Sl.v l1)] 115) fun p7 h2 =>
  R (some p7) h2

set_option maxRecDepth 100000 in
theorem finger_group_of {r : World} {l1 : Sl} {h : Heap} {R : Option Addr → Heap → Prop} (H : finger_group_F r l1 h R) : finger_group r l1 h R := by
  unfold finger_group_F at H
  refine calls_of 8 [.tmp 2] Try.func59 rfl rfl rfl rfl rfl ?_
  refine W_seq ?_
  refine W_region (.pu 0 .fin) rfl rfl ?_
  refine s_pu (d := some 2) (v := (.pointer none)) rfl rfl rfl (r_assign rfl) ?_
  refine s_fin ?_
  show W _ _ _ _ _ _ _ _
  refine W_seq ?_
  refine W_region (.pu 0 (.ef 1 [] (.pu 2 (.pu 3 (.ef 4 [] (.pu 5 .fin) .no))) .no)) rfl rfl ?_
  refine s_pu (d := some 3) (v := (Sl.v l1)) rfl rfl rfl (r_move rfl) ?_
  refine s_ef (d := some 4) rfl rfl rfl (fun dr => r_call Try.call62 rfl rfl H) ?_ trivial
  rintro _ h1 ⟨y2, y3, y4, y5, y6, rfl, H⟩
  refine ⟨trivial, ?_⟩
  refine s_pu (d := some 5) (v := (Sl.v l1)) rfl rfl rfl (r_move rfl) ?_
  refine s_pu (d := some 6) (v := (.agg #[(.int .i64 y2), (.int .i64 y3), (.int .i64 y4), (.int .i64 y5), (.int .i64 y6), (.int .i64 0), (Sl.v l1)])) rfl rfl rfl (fun w => by kernel_rfl) ?_
  obtain ⟨p7, e8⟩ : ∃ p : Addr, p = ⟨h1.size, 0, none⟩ := ⟨_, rfl⟩
  obtain ⟨h2, e9⟩ : ∃ hh : Heap, hh = h1.push (.cells #[(.int .i64 y2), (.int .i64 y3), (.int .i64 y4), (.int .i64 y5), (.int .i64 y6), (.int .i64 0), (Sl.v l1)] 115) := ⟨_, rfl⟩
  have H := H p7 h2 e8 e9
  refine s_ef1 (d := some 7) (v := (.pointer (some p7))) (h' := h2) rfl rfl rfl (fun dr => (r_box (v := (.agg #[(.int .i64 y2), (.int .i64 y3), (.int .i64 y4), (.int .i64 y5), (.int .i64 y6), (.int .i64 0), (Sl.v l1)])) rfl).trans (by rw [e8, e9]; rfl)) trivial ?_ trivial
  refine s_pu (d := some 2) (v := (.pointer (some p7))) rfl rfl rfl (r_assign rfl) ?_
  refine s_fin ?_
  show W _ _ _ _ _ _ _ _
  refine W_ret ?_
  exact ⟨[(.pointer (some p7))], ⟨_, _, rfl, rfl, rfl⟩, (some p7), rfl, H⟩

/-! ### finger_level_measure -/

def finger_level_measure_F (r : World) (v1 : Option Addr) (h : Heap) (R : Int → Int → Int → Int → Int → Heap → Prop) : Prop :=
  New h (.cells #[(.int .i64 0), (.int .i64 0), (.int .i64 0), (.int .i64 0), (.int .i64 0)] 40) fun p2 h1 =>
  Br (Option.isNone v1) (
    mono_None r h1 fun y5 y6 y7 y8 y9 h2 =>
    St h2 p2 5 [(.int .i64 y5), (.int .i64 y6), (.int .i64 y7), (.int .i64 y8), (.int .i64 y9)] fun h3 =>
    LdI h3 (Addr.add p2 0) fun x12 =>
    LdI h3 (Addr.add p2 1) fun x14 =>
    LdI h3 (Addr.add p2 2) fun x16 =>
    LdI h3 (Addr.add p2 3) fun x18 =>
    LdI h3 (Addr.add p2 4) fun x20 =>
    R x12 x14 x16 x18 x20 h3) (
    Ck v1 fun p22 =>
    LdI h1 (Addr.add (Addr.add p22 0) 0) fun x24 =>
    LdI h1 (Addr.add (Addr.add p22 0) 1) fun x26 =>
    LdI h1 (Addr.add (Addr.add p22 0) 2) fun x28 =>
    LdI h1 (Addr.add (Addr.add p22 0) 3) fun x30 =>
    LdI h1 (Addr.add (Addr.add p22 0) 4) fun x32 =>
    St h1 p2 5 [(.int .i64 x24), (.int .i64 x26), (.int .i64 x28), (.int .i64 x30), (.int .i64 x32)] fun h4 =>
    LdI h4 (Addr.add p2 0) fun x36 =>
    LdI h4 (Addr.add p2 1) fun x38 =>
    LdI h4 (Addr.add p2 2) fun x40 =>
    LdI h4 (Addr.add p2 3) fun x42 =>
    LdI h4 (Addr.add p2 4) fun x44 =>
    R x36 x38 x40 x42 x44 h4)

set_option maxRecDepth 100000 in
theorem finger_level_measure_of {r : World} {v1 : Option Addr} {h : Heap} {R : Int → Int → Int → Int → Int → Heap → Prop} (H : finger_level_measure_F r v1 h R) : finger_level_measure r v1 h R := by
  unfold finger_level_measure_F at H
  refine calls_of 10 [.cell 2 40] Try.func43 rfl rfl rfl rfl rfl ?_
  refine W_seq ?_
  refine W_region (.ef 0 [] .fin .no) rfl rfl ?_
  obtain ⟨p2, e3⟩ : ∃ p : Addr, p = ⟨h.size, 0, none⟩ := ⟨_, rfl⟩
  obtain ⟨h1, e4⟩ : ∃ hh : Heap, hh = h.push (.cells #[(.int .i64 0), (.int .i64 0), (.int .i64 0), (.int .i64 0), (.int .i64 0)] 40) := ⟨_, rfl⟩
  have H := H p2 h1 e3 e4
  refine s_ef1 (d := some 2) (v := (.pointer (some p2))) (h' := h1) rfl rfl rfl (fun dr => (r_alloc Try.zeroValue40).trans (by rw [e3, e4]; rfl)) trivial ?_ trivial
  refine s_fin ?_
  show W _ _ _ _ _ _ _ _
  refine W_seq ?_
  refine W_seq ?_
  refine W_region (.pu 0 (.pu 1 .fin)) rfl rfl ?_
  refine s_pu (d := some 3) (v := (.pointer v1)) rfl rfl rfl (r_move rfl) ?_
  refine s_pu (d := some 4) (v := (.bool (Option.isNone v1))) rfl rfl rfl (r_nilP Try.underlying42 rfl rfl) ?_
  refine s_fin ?_
  show W _ _ _ _ _ _ _ _
  refine W_if (Option.isNone v1) rfl (fun g46 => ?_) (fun g46 => ?_)
  · have H := H.1 g46
    refine W_seq ?_
    refine W_region (.ef 0 [] (.ef 1 [] .fin .no) .no) rfl rfl ?_
    refine s_ef (d := some 5) rfl rfl rfl (fun dr => r_call Try.call30 rfl rfl H) ?_ trivial
    rintro _ h2 ⟨y5, y6, y7, y8, y9, rfl, H⟩
    refine ⟨trivial, ?_⟩
    obtain ⟨e11, H⟩ := H
    obtain ⟨h3, e10⟩ : ∃ hh : Heap, hh = hsets h2 p2 0 [(.int .i64 y5), (.int .i64 y6), (.int .i64 y7), (.int .i64 y8), (.int .i64 y9)] := ⟨_, rfl⟩
    have H := H h3 e10
    refine s_st (d := none) (h' := h3) rfl rfl rfl (fun dr => (r_store (v := (.agg #[(.int .i64 y5), (.int .i64 y6), (.int .i64 y7), (.int .i64 y8), (.int .i64 y9)])) Try.sizeOf40 rfl rfl rfl (one_all rfl) e11).trans (by rw [e10]; rfl)) trivial ?_ trivial
    refine s_fin ?_
    show W _ _ _ _ _ _ _ _
    refine W_ret ?_
    obtain ⟨x12, e13, H⟩ := H
    obtain ⟨x14, e15, H⟩ := H
    obtain ⟨x16, e17, H⟩ := H
    obtain ⟨x18, e19, H⟩ := H
    obtain ⟨x20, e21, H⟩ := H
    exact ⟨[(.agg #[(.int .i64 x12), (.int .i64 x14), (.int .i64 x16), (.int .i64 x18), (.int .i64 x20)])], ⟨_, _, _, rfl, rfl, fun dr => run_loadVarN Try.isAgg40 Try.sizeOf40 (vs := [(.int .i64 x12), (.int .i64 x14), (.int .i64 x16), (.int .i64 x18), (.int .i64 x20)]) rfl ⟨e13, e15, e17, e19, e21, trivial⟩, rfl⟩, x12, x14, x16, x18, x20, rfl, H⟩
  · have H := H.2 g46
    refine W_skip ?_
    show W _ _ _ _ _ _ _ _
    refine W_seq ?_
    refine W_region (.pu 0 (.pu 1 (.pu 2 (.rl 3 (.ef 4 [] .fin .no))))) rfl rfl ?_
    refine s_pu (d := some 6) (v := (.pointer v1)) rfl rfl rfl (r_move rfl) ?_
    obtain ⟨p22, e23, H⟩ := H
    refine s_pu (d := some 7) (v := (.pointer (some p22))) rfl rfl rfl (r_nilCheck rfl e23) ?_
    refine s_pu (d := some 8) (v := (.pointer (some (Addr.add p22 0)))) rfl rfl rfl (r_fieldAddr Try.underlying104 Try.sizeOf40 rfl rfl rfl) ?_
    obtain ⟨x24, e25, H⟩ := H
    obtain ⟨x26, e27, H⟩ := H
    obtain ⟨x28, e29, H⟩ := H
    obtain ⟨x30, e31, H⟩ := H
    obtain ⟨x32, e33, H⟩ := H
    refine s_rl (d := some 9) (v := (.agg #[(.int .i64 x24), (.int .i64 x26), (.int .i64 x28), (.int .i64 x30), (.int .i64 x32)])) rfl rfl rfl (fun dr => r_loadN Try.isAgg40 Try.sizeOf40 (vs := [(.int .i64 x24), (.int .i64 x26), (.int .i64 x28), (.int .i64 x30), (.int .i64 x32)]) rfl rfl ⟨e25, e27, e29, e31, e33, trivial⟩) ?_
    obtain ⟨e35, H⟩ := H
    obtain ⟨h4, e34⟩ : ∃ hh : Heap, hh = hsets h1 p2 0 [(.int .i64 x24), (.int .i64 x26), (.int .i64 x28), (.int .i64 x30), (.int .i64 x32)] := ⟨_, rfl⟩
    have H := H h4 e34
    refine s_st (d := none) (h' := h4) rfl rfl rfl (fun dr => (r_store (v := (.agg #[(.int .i64 x24), (.int .i64 x26), (.int .i64 x28), (.int .i64 x30), (.int .i64 x32)])) Try.sizeOf40 rfl rfl rfl (one_all rfl) e35).trans (by rw [e34]; rfl)) trivial ?_ trivial
    refine s_fin ?_
    show W _ _ _ _ _ _ _ _
    refine W_ret ?_
    obtain ⟨x36, e37, H⟩ := H
    obtain ⟨x38, e39, H⟩ := H
    obtain ⟨x40, e41, H⟩ := H
    obtain ⟨x42, e43, H⟩ := H
    obtain ⟨x44, e45, H⟩ := H
    exact ⟨[(.agg #[(.int .i64 x36), (.int .i64 x38), (.int .i64 x40), (.int .i64 x42), (.int .i64 x44)])], ⟨_, _, _, rfl, rfl, fun dr => run_loadVarN Try.isAgg40 Try.sizeOf40 (vs := [(.int .i64 x36), (.int .i64 x38), (.int .i64 x40), (.int .i64 x42), (.int .i64 x44)]) rfl ⟨e37, e39, e41, e43, e45, trivial⟩, rfl⟩, x36, x38, x40, x42, x44, rfl, H⟩

/-! ### finger_alone -/

def finger_alone_F (r : World) (t1 : Option Addr) (h : Heap) (R : Option Addr → Heap → Prop) : Prop :=
  Ck t1 fun p2 =>
  LdI h (Addr.add (Addr.add p2 0) 0) fun x4 =>
  LdI h (Addr.add (Addr.add p2 0) 1) fun x6 =>
  LdI h (Addr.add (Addr.add p2 0) 2) fun x8 =>
  LdI h (Addr.add (Addr.add p2 0) 3) fun x10 =>
  LdI h (Addr.add (Addr.add p2 0) 4) fun x12 =>
  New h (.cells #[(.pointer t1)] 98) fun p14 h1 =>
  New h1 (.cells #[(.int .i64 x4), (.int .i64 x6), (.int .i64 x8), (.int .i64 x10), (.int .i64 x12), (Sl.v ((⟨some p14, 1, 1⟩ : Sl))), (Sl.v Sl.nil), (.pointer none)] 104) fun p17 h2 =>
  R (some p17) h2

set_option maxRecDepth 100000 in
theorem finger_alone_of {r : World} {t1 : Option Addr} {h : Heap} {R : Option Addr → Heap → Prop} (H : finger_alone_F r t1 h R) : finger_alone r t1 h R := by
  unfold finger_alone_F at H
  refine calls_of 11 [.tmp 2] Try.func56 rfl rfl rfl rfl rfl ?_
  refine W_seq ?_
  refine W_region (.pu 0 .fin) rfl rfl ?_
  refine s_pu (d := some 2) (v := (.pointer none)) rfl rfl rfl (r_assign rfl) ?_
  refine s_fin ?_
  show W _ _ _ _ _ _ _ _
  refine W_seq ?_
  refine W_region (.pu 0 (.pu 1 (.pu 2 (.rl 3 (.pu 4 (.ef 5 [] (.pu 6 (.ef 7 [] (.pu 8 .fin) .no)) .no)))))) rfl rfl ?_
  refine s_pu (d := some 3) (v := (.pointer t1)) rfl rfl rfl (r_move rfl) ?_
  obtain ⟨p2, e3, H⟩ := H
  refine s_pu (d := some 4) (v := (.pointer (some p2))) rfl rfl rfl (r_nilCheck rfl e3) ?_
  refine s_pu (d := some 5) (v := (.pointer (some (Addr.add p2 0)))) rfl rfl rfl (r_fieldAddr Try.underlying115 Try.sizeOf40 rfl rfl rfl) ?_
  obtain ⟨x4, e5, H⟩ := H
  obtain ⟨x6, e7, H⟩ := H
  obtain ⟨x8, e9, H⟩ := H
  obtain ⟨x10, e11, H⟩ := H
  obtain ⟨x12, e13, H⟩ := H
  refine s_rl (d := some 6) (v := (.agg #[(.int .i64 x4), (.int .i64 x6), (.int .i64 x8), (.int .i64 x10), (.int .i64 x12)])) rfl rfl rfl (fun dr => r_loadN Try.isAgg40 Try.sizeOf40 (vs := [(.int .i64 x4), (.int .i64 x6), (.int .i64 x8), (.int .i64 x10), (.int .i64 x12)]) rfl rfl ⟨e5, e7, e9, e11, e13, trivial⟩) ?_
  refine s_pu (d := some 7) (v := (.pointer t1)) rfl rfl rfl (r_move rfl) ?_
  obtain ⟨p14, e15⟩ : ∃ p : Addr, p = ⟨h.size, 0, none⟩ := ⟨_, rfl⟩
  obtain ⟨h1, e16⟩ : ∃ hh : Heap, hh = h.push (.cells #[(.pointer t1)] 98) := ⟨_, rfl⟩
  have H := H p14 h1 e15 e16
  refine s_ef1 (d := some 8) (v := (Sl.v ((⟨some p14, 1, 1⟩ : Sl)))) (h' := h1) rfl rfl rfl (fun dr => (slFHFing_102.build (cells := #[(.pointer t1)]) (by decide) rfl (by kernel_rfl)).trans (by rw [e15, e16]; rfl)) trivial ?_ trivial
  refine s_pu (d := some 9) (v := (.agg #[(.int .i64 x4), (.int .i64 x6), (.int .i64 x8), (.int .i64 x10), (.int .i64 x12), (Sl.v ((⟨some p14, 1, 1⟩ : Sl))), (Sl.v Sl.nil), (.pointer none)])) rfl rfl rfl (fun w => by kernel_rfl) ?_
  obtain ⟨p17, e18⟩ : ∃ p : Addr, p = ⟨h1.size, 0, none⟩ := ⟨_, rfl⟩
  obtain ⟨h2, e19⟩ : ∃ hh : Heap, hh = h1.push (.cells #[(.int .i64 x4), (.int .i64 x6), (.int .i64 x8), (.int .i64 x10), (.int .i64 x12), (Sl.v ((⟨some p14, 1, 1⟩ : Sl))), (Sl.v Sl.nil), (.pointer none)] 104) := ⟨_, rfl⟩
  have H := H p17 h2 e18 e19
  refine s_ef1 (d := some 10) (v := (.pointer (some p17))) (h' := h2) rfl rfl rfl (fun dr => (r_box (v := (.agg #[(.int .i64 x4), (.int .i64 x6), (.int .i64 x8), (.int .i64 x10), (.int .i64 x12), (Sl.v ((⟨some p14, 1, 1⟩ : Sl))), (Sl.v Sl.nil), (.pointer none)])) rfl).trans (by rw [e18, e19]; rfl)) trivial ?_ trivial
  refine s_pu (d := some 2) (v := (.pointer (some p17))) rfl rfl rfl (r_assign rfl) ?_
  refine s_fin ?_
  show W _ _ _ _ _ _ _ _
  refine W_ret ?_
  exact ⟨[(.pointer (some p17))], ⟨_, _, rfl, rfl, rfl⟩, (some p17), rfl, H⟩

/-! ### finger_deep -/

def finger_deep_F (r : World) (l1 : Sl) (mid2 : Option Addr) (vr3 : Sl) (h : Heap) (R : Option Addr → Heap → Prop) : Prop :=
  finger_measured r l1 h fun y4 y5 y6 y7 y8 h1 =>
  finger_level_measure r mid2 h1 fun y9 y10 y11 y12 y13 h2 =>
  mono_Join r y4 y5 y6 y7 y8 y9 y10 y11 y12 y13 h2 fun y14 y15 y16 y17 y18 h3 =>
  finger_measured r vr3 h3 fun y19 y20 y21 y22 y23 h4 =>
  mono_Join r y14 y15 y16 y17 y18 y19 y20 y21 y22 y23 h4 fun y24 y25 y26 y27 y28 h5 =>
  New h5 (.cells #[(.int .i64 y24), (.int .i64 y25), (.int .i64 y26), (.int .i64 y27), (.int .i64 y28), (Sl.v l1), (Sl.v vr3), (.pointer mid2)] 104) fun p29 h6 =>
  R (some p29) h6

set_option maxRecDepth 100000 in
theorem finger_deep_of {r : World} {l1 : Sl} {mid2 : Option Addr} {vr3 : Sl} {h : Heap} {R : Option Addr → Heap → Prop} (H : finger_deep_F r l1 mid2 vr3 h R) : finger_deep r l1 mid2 vr3 h R := by
  unfold finger_deep_F at H
  refine calls_of 20 [.tmp 6] Try.func57 rfl rfl rfl rfl rfl ?_
  refine W_seq ?_
  refine W_region (.pu 0 .fin) rfl rfl ?_
  refine s_pu (d := some 6) (v := (.pointer none)) rfl rfl rfl (r_assign rfl) ?_
  refine s_fin ?_
  show W _ _ _ _ _ _ _ _
  refine W_seq ?_
  refine W_region (.pu 0 (.ef 1 [] (.pu 2 (.ef 3 [] (.ef 4 [] (.pu 5 (.ef 6 [] (.ef 7 [] (.pu 8 (.pu 9 (.pu 10 (.pu 11 (.ef 12 [] (.pu 13 .fin) .no))))) .no) .no)) .no) .no)) .no)) rfl rfl ?_
  refine s_pu (d := some 7) (v := (Sl.v l1)) rfl rfl rfl (r_move rfl) ?_
  refine s_ef (d := some 8) rfl rfl rfl (fun dr => r_call Try.call62 rfl rfl H) ?_ trivial
  rintro _ h1 ⟨y4, y5, y6, y7, y8, rfl, H⟩
  refine ⟨trivial, ?_⟩
  refine s_pu (d := some 9) (v := (.pointer mid2)) rfl rfl rfl (r_move rfl) ?_
  refine s_ef (d := some 10) rfl rfl rfl (fun dr => r_call Try.call43 rfl rfl H) ?_ trivial
  rintro _ h2 ⟨y9, y10, y11, y12, y13, rfl, H⟩
  refine ⟨trivial, ?_⟩
  refine s_ef (d := some 11) rfl rfl rfl (fun dr => r_call Try.call31 rfl rfl H) ?_ trivial
  rintro _ h3 ⟨y14, y15, y16, y17, y18, rfl, H⟩
  refine ⟨trivial, ?_⟩
  refine s_pu (d := some 12) (v := (Sl.v vr3)) rfl rfl rfl (r_move rfl) ?_
  refine s_ef (d := some 13) rfl rfl rfl (fun dr => r_call Try.call62 rfl rfl H) ?_ trivial
  rintro _ h4 ⟨y19, y20, y21, y22, y23, rfl, H⟩
  refine ⟨trivial, ?_⟩
  refine s_ef (d := some 14) rfl rfl rfl (fun dr => r_call Try.call31 rfl rfl H) ?_ trivial
  rintro _ h5 ⟨y24, y25, y26, y27, y28, rfl, H⟩
  refine ⟨trivial, ?_⟩
  refine s_pu (d := some 15) (v := (Sl.v l1)) rfl rfl rfl (r_move rfl) ?_
  refine s_pu (d := some 16) (v := (Sl.v vr3)) rfl rfl rfl (r_move rfl) ?_
  refine s_pu (d := some 17) (v := (.pointer mid2)) rfl rfl rfl (r_move rfl) ?_
  refine s_pu (d := some 18) (v := (.agg #[(.int .i64 y24), (.int .i64 y25), (.int .i64 y26), (.int .i64 y27), (.int .i64 y28), (Sl.v l1), (Sl.v vr3), (.pointer mid2)])) rfl rfl rfl (fun w => by kernel_rfl) ?_
  obtain ⟨p29, e30⟩ : ∃ p : Addr, p = ⟨h5.size, 0, none⟩ := ⟨_, rfl⟩
  obtain ⟨h6, e31⟩ : ∃ hh : Heap, hh = h5.push (.cells #[(.int .i64 y24), (.int .i64 y25), (.int .i64 y26), (.int .i64 y27), (.int .i64 y28), (Sl.v l1), (Sl.v vr3), (.pointer mid2)] 104) := ⟨_, rfl⟩
  have H := H p29 h6 e30 e31
  refine s_ef1 (d := some 19) (v := (.pointer (some p29))) (h' := h6) rfl rfl rfl (fun dr => (r_box (v := (.agg #[(.int .i64 y24), (.int .i64 y25), (.int .i64 y26), (.int .i64 y27), (.int .i64 y28), (Sl.v l1), (Sl.v vr3), (.pointer mid2)])) rfl).trans (by rw [e30, e31]; rfl)) trivial ?_ trivial
  refine s_pu (d := some 6) (v := (.pointer (some p29))) rfl rfl rfl (r_assign rfl) ?_
  refine s_fin ?_
  show W _ _ _ _ _ _ _ _
  refine W_ret ?_
  exact ⟨[(.pointer (some p29))], ⟨_, _, rfl, rfl, rfl⟩, (some p29), rfl, H⟩

/-! ### finger_pushLeft -/

def finger_pushLeft_F (r : World) (t1 : Option Addr) (v2 : Option Addr) (h : Heap) (R : Option Addr → Heap → Prop) : Prop :=
  Br (Option.isNone v2) (
    finger_alone r t1 h fun y3 h1 =>
    R y3 h1) (
    Ck v2 fun p4 =>
    LdS h (Addr.add p4 6) fun x6 =>
    Br (Option.isNone x6.a) (
      New h (.cells #[(.pointer t1)] 98) fun p8 h2 =>
      Ck v2 fun p11 =>
      LdS h2 (Addr.add p11 5) fun x13 =>
      finger_deep r ((⟨some p8, 1, 1⟩ : Sl)) none x13 h2 fun y15 h3 =>
      R y15 h3) (
      Ck v2 fun p16 =>
      LdS h (Addr.add p16 5) fun x18 =>
      Br (decide (((x18.len : Int)) < 4)) (
        Ck v2 fun p20 =>
        LdS h (Addr.add p20 5) fun x22 =>
        Ck v2 fun p24 =>
        LdP h (Addr.add p24 7) fun x26 =>
        Ck v2 fun p28 =>
        LdS h (Addr.add p28 6) fun x30 =>
        New h (.cells #[(.pointer t1)] 98) fun p32 h4 =>
        (hcell h4 (Addr.add p28 6) = some (Sl.v x30)) ∧
        (hcell h4 (Addr.add p24 7) = some (.pointer x26)) ∧
        (hcell h4 (Addr.add p20 5) = some (Sl.v x22)) ∧
        App 98 1 8 (.pointer none) ((⟨some p32, 1, 1⟩ : Sl)) x22 h4 fun s38 h5 =>
        (hcell h5 (Addr.add p28 6) = some (Sl.v x30)) ∧
        (hcell h5 (Addr.add p24 7) = some (.pointer x26)) ∧
        finger_deep r s38 x26 x30 h5 fun y41 h6 =>
        R y41 h6) (
        ∀ J43 : Option Addr → Heap → Prop, (∀ (x42 : Option Addr) (h7 : Heap),
          (R x42 h7) →
          J43 x42 h7) →
        Ck v2 fun p45 =>
        LdS h (Addr.add p45 5) fun x47 =>
        Ix x47 0 1 fun q53 =>
        LdP h q53 fun x55 =>
        Ck v2 fun p57 =>
        LdS h (Addr.add p57 5) fun x59 =>
        Sub x59 1 ((x59.len : Int)) ((x59.cap : Int)) 1 fun s61 =>
        Ck v2 fun p67 =>
        LdP h (Addr.add p67 7) fun x69 =>
        Ck v2 fun p71 =>
        LdS h (Addr.add p71 6) fun x73 =>
        (New h (.cells #[(.pointer t1), (.pointer x55)] 98) fun p75 h8 =>
        (hcell h8 (Addr.add p71 6) = some (Sl.v x73)) ∧
        (hcell h8 (Addr.add p67 7) = some (.pointer x69)) ∧
        (hcell h8 (Addr.add p57 5) = some (Sl.v x59)) ∧
        finger_group r s61 h8 fun y81 h9 =>
        (hcell h9 (Addr.add p71 6) = some (Sl.v x73)) ∧
        (hcell h9 (Addr.add p67 7) = some (.pointer x69)) ∧
        (hcell h9 q53 = some (.pointer x55)) ∧
        (hcell h9 (Addr.add p45 5) = some (Sl.v x47)) ∧
        finger_pushLeft r y81 x69 h9 fun y86 h10 =>
        (hcell h10 (Addr.add p71 6) = some (Sl.v x73)) ∧
        (hcell h10 q53 = some (.pointer x55)) ∧
        (hcell h10 (Addr.add p45 5) = some (Sl.v x47)) ∧
        finger_deep r ((⟨some p75, 2, 2⟩ : Sl)) y86 x73 h10 fun y90 h11 =>
        J43 y90 h11) ∧
        (finger_group r s61 h fun y91 h12 =>
        (hcell h12 (Addr.add p71 6) = some (Sl.v x73)) ∧
        (hcell h12 (Addr.add p67 7) = some (.pointer x69)) ∧
        (hcell h12 q53 = some (.pointer x55)) ∧
        (hcell h12 (Addr.add p45 5) = some (Sl.v x47)) ∧
        (New h12 (.cells #[(.pointer t1), (.pointer x55)] 98) fun p96 h13 =>
        (hcell h13 (Addr.add p71 6) = some (Sl.v x73)) ∧
        (hcell h13 (Addr.add p67 7) = some (.pointer x69)) ∧
        (hcell h13 (Addr.add p57 5) = some (Sl.v x59)) ∧
        finger_pushLeft r y91 x69 h13 fun y102 h14 =>
        (hcell h14 (Addr.add p71 6) = some (Sl.v x73)) ∧
        (hcell h14 q53 = some (.pointer x55)) ∧
        (hcell h14 (Addr.add p45 5) = some (Sl.v x47)) ∧
        finger_deep r ((⟨some p96, 2, 2⟩ : Sl)) y102 x73 h14 fun y106 h15 =>
        J43 y106 h15) ∧
        (finger_pushLeft r y91 x69 h12 fun y107 h16 =>
        (hcell h16 (Addr.add p71 6) = some (Sl.v x73)) ∧
        (hcell h16 q53 = some (.pointer x55)) ∧
        (hcell h16 (Addr.add p45 5) = some (Sl.v x47)) ∧
        New h16 (.cells #[(.pointer t1), (.pointer x55)] 98) fun p111 h17 =>
        (hcell h17 (Addr.add p71 6) = some (Sl.v x73)) ∧
        (hcell h17 (Addr.add p67 7) = some (.pointer x69)) ∧
        (hcell h17 (Addr.add p57 5) = some (Sl.v x59)) ∧
        finger_deep r ((⟨some p111, 2, 2⟩ : Sl)) y107 x73 h17 fun y117 h18 =>
        J43 y117 h18)))))

set_option maxRecDepth 100000 in
theorem finger_pushLeft_of {r : World} {t1 : Option Addr} {v2 : Option Addr} {h : Heap} {R : Option Addr → Heap → Prop} (H : finger_pushLeft_F r t1 v2 h R) : finger_pushLeft r t1 v2 h R := by
  unfold finger_pushLeft_F at H
  refine calls_of 70 [.tmp 4] Try.func61 rfl rfl rfl rfl rfl ?_
  refine W_seq ?_
  refine W_region (.pu 0 .fin) rfl rfl ?_
  refine s_pu (d := some 4) (v := (.pointer none)) rfl rfl rfl (r_assign rfl) ?_
  refine s_fin ?_
  show W _ _ _ _ _ _ _ _
  refine W_seq ?_
  refine W_block ?_
  refine W_seq ?_
  refine W_region (.pu 0 (.pu 1 (.pu 2 .fin))) rfl rfl ?_
  refine s_pu (d := some 6) (v := (.pointer v2)) rfl rfl rfl (r_move rfl) ?_
  refine s_pu (d := some 7) (v := (.bool (Option.isNone v2))) rfl rfl rfl (r_nilP Try.underlying42 rfl rfl) ?_
  refine s_pu (d := some 5) (v := (.bool (Option.isNone v2))) rfl rfl rfl (r_assign rfl) ?_
  refine s_fin ?_
  show W _ _ _ _ _ _ _ _
  refine W_if (Option.isNone v2) rfl (fun g120 => ?_) (fun g120 => ?_)
  · have H := H.1 g120
    refine W_seq ?_
    refine W_region (.pu 0 (.ef 1 [] (.pu 2 .fin) .no)) rfl rfl ?_
    refine s_pu (d := some 8) (v := (.pointer t1)) rfl rfl rfl (r_move rfl) ?_
    refine s_ef (d := some 9) rfl rfl rfl (fun dr => r_call Try.call56 rfl rfl H) ?_ trivial
    rintro _ h1 ⟨y3, rfl, H⟩
    refine ⟨trivial, ?_⟩
    refine s_pu (d := some 4) (v := (.pointer y3)) rfl rfl rfl (r_assign rfl) ?_
    refine s_fin ?_
    show W _ _ _ _ _ _ _ _
    refine W_ret ?_
    exact ⟨[(.pointer y3)], ⟨_, _, rfl, rfl, rfl⟩, y3, rfl, H⟩
  · have H := H.2 g120
    refine W_seq ?_
    refine W_region (.pu 0 (.pu 1 (.pu 2 (.rl 3 (.pu 4 (.pu 5 .fin)))))) rfl rfl ?_
    refine s_pu (d := some 11) (v := (.pointer v2)) rfl rfl rfl (r_move rfl) ?_
    obtain ⟨p4, e5, H⟩ := H
    refine s_pu (d := some 12) (v := (.pointer (some p4))) rfl rfl rfl (r_nilCheck rfl e5) ?_
    refine s_pu (d := some 13) (v := (.pointer (some (Addr.add p4 6)))) rfl rfl rfl (r_fieldAddr Try.underlying104 Try.sizeOf102 rfl rfl rfl) ?_
    obtain ⟨x6, e7, H⟩ := H
    refine s_rl (d := some 14) (v := (Sl.v x6)) rfl rfl rfl (fun dr => r_load1 Try.isAgg102 rfl e7) ?_
    refine s_pu (d := some 15) (v := (.bool (Option.isNone x6.a))) rfl rfl rfl (r_nilS Try.underlying102 rfl rfl) ?_
    refine s_pu (d := some 10) (v := (.bool (Option.isNone x6.a))) rfl rfl rfl (r_assign rfl) ?_
    refine s_fin ?_
    show W _ _ _ _ _ _ _ _
    refine W_if (Option.isNone x6.a) rfl (fun g119 => ?_) (fun g119 => ?_)
    · have H := H.1 g119
      refine W_seq ?_
      refine W_region (.pu 0 (.ef 1 [] (.pu 2 (.pu 3 (.pu 4 (.rl 5 (.ef 6 [] (.pu 7 .fin) .no))))) .no)) rfl rfl ?_
      refine s_pu (d := some 16) (v := (.pointer t1)) rfl rfl rfl (r_move rfl) ?_
      obtain ⟨p8, e9⟩ : ∃ p : Addr, p = ⟨h.size, 0, none⟩ := ⟨_, rfl⟩
      obtain ⟨h2, e10⟩ : ∃ hh : Heap, hh = h.push (.cells #[(.pointer t1)] 98) := ⟨_, rfl⟩
      have H := H p8 h2 e9 e10
      refine s_ef1 (d := some 17) (v := (Sl.v ((⟨some p8, 1, 1⟩ : Sl)))) (h' := h2) rfl rfl rfl (fun dr => (slFHFing_102.build (cells := #[(.pointer t1)]) (by decide) rfl (by kernel_rfl)).trans (by rw [e9, e10]; rfl)) trivial ?_ trivial
      refine s_pu (d := some 18) (v := (.pointer v2)) rfl rfl rfl (r_move rfl) ?_
      obtain ⟨p11, e12, H⟩ := H
      refine s_pu (d := some 19) (v := (.pointer (some p11))) rfl rfl rfl (r_nilCheck rfl e12) ?_
      refine s_pu (d := some 20) (v := (.pointer (some (Addr.add p11 5)))) rfl rfl rfl (r_fieldAddr Try.underlying104 Try.sizeOf102 rfl rfl rfl) ?_
      obtain ⟨x13, e14, H⟩ := H
      refine s_rl (d := some 21) (v := (Sl.v x13)) rfl rfl rfl (fun dr => r_load1 Try.isAgg102 rfl e14) ?_
      refine s_ef (d := some 22) rfl rfl rfl (fun dr => r_call Try.call57 rfl rfl H) ?_ trivial
      rintro _ h3 ⟨y15, rfl, H⟩
      refine ⟨trivial, ?_⟩
      refine s_pu (d := some 4) (v := (.pointer y15)) rfl rfl rfl (r_assign rfl) ?_
      refine s_fin ?_
      show W _ _ _ _ _ _ _ _
      refine W_ret ?_
      exact ⟨[(.pointer y15)], ⟨_, _, rfl, rfl, rfl⟩, y15, rfl, H⟩
    · have H := H.2 g119
      refine W_seq ?_
      refine W_region (.pu 0 (.pu 1 (.pu 2 (.rl 3 (.pu 4 (.pu 5 (.pu 6 .fin))))))) rfl rfl ?_
      refine s_pu (d := some 24) (v := (.pointer v2)) rfl rfl rfl (r_move rfl) ?_
      obtain ⟨p16, e17, H⟩ := H
      refine s_pu (d := some 25) (v := (.pointer (some p16))) rfl rfl rfl (r_nilCheck rfl e17) ?_
      refine s_pu (d := some 26) (v := (.pointer (some (Addr.add p16 5)))) rfl rfl rfl (r_fieldAddr Try.underlying104 Try.sizeOf102 rfl rfl rfl) ?_
      obtain ⟨x18, e19, H⟩ := H
      refine s_rl (d := some 27) (v := (Sl.v x18)) rfl rfl rfl (fun dr => r_load1 Try.isAgg102 rfl e19) ?_
      refine s_pu (d := some 28) (v := (.int .i64 ((x18.len : Int)))) rfl rfl rfl (r_len Try.underlying102 rfl) ?_
      refine s_pu (d := some 29) (v := (.bool (decide (((x18.len : Int)) < 4)))) rfl rfl rfl (r_lss rfl rfl) ?_
      refine s_pu (d := some 23) (v := (.bool (decide (((x18.len : Int)) < 4)))) rfl rfl rfl (r_assign rfl) ?_
      refine s_fin ?_
      show W _ _ _ _ _ _ _ _
      refine W_if (decide (((x18.len : Int)) < 4)) rfl (fun g118 => ?_) (fun g118 => ?_)
      · have H := H.1 g118
        refine W_seq ?_
        refine W_draw [0, 1, 0, 4, 12, 28, 63, 0, 128, 384, 896, 0, 2048, 6144, 14336, 32767, 65535] (.pu 0 (.pu 2 (.pu 3 (.pu 4 (.rd 5 (.pu 7 (.pu 8 (.pu 9 (.rd 10 (.pu 11 (.pu 12 (.pu 13 (.rd 14 (.ef 1 [] (.ef 6 [5] (.ef 15 [5, 10, 14] (.pu 16 .fin) .no) .no) .no)))))))))))))) (by kernel_rfl) (by kernel_rfl) ?_
        refine s_pu (d := some 30) (v := (.pointer t1)) rfl rfl rfl (r_move rfl) ?_
        refine s_pu (d := some 32) (v := (.pointer v2)) rfl rfl rfl (r_move rfl) ?_
        obtain ⟨p20, e21, H⟩ := H
        refine s_pu (d := some 33) (v := (.pointer (some p20))) rfl rfl rfl (r_nilCheck rfl e21) ?_
        refine s_pu (d := some 34) (v := (.pointer (some (Addr.add p20 5)))) rfl rfl rfl (r_fieldAddr Try.underlying104 Try.sizeOf102 rfl rfl rfl) ?_
        obtain ⟨x22, e23, H⟩ := H
        refine s_rd (d := some 35) (v := (Sl.v x22)) rfl rfl rfl (fun dr => r_load1 Try.isAgg102 rfl e23) ?_
        refine s_pu (d := some 37) (v := (.pointer v2)) rfl rfl rfl (r_move rfl) ?_
        obtain ⟨p24, e25, H⟩ := H
        refine s_pu (d := some 38) (v := (.pointer (some p24))) rfl rfl rfl (r_nilCheck rfl e25) ?_
        refine s_pu (d := some 39) (v := (.pointer (some (Addr.add p24 7)))) rfl rfl rfl (r_fieldAddr Try.underlying104 Try.sizeOf42 rfl rfl rfl) ?_
        obtain ⟨x26, e27, H⟩ := H
        refine s_rd (d := some 40) (v := (.pointer x26)) rfl rfl rfl (fun dr => r_load1 Try.isAgg42 rfl e27) ?_
        refine s_pu (d := some 41) (v := (.pointer v2)) rfl rfl rfl (r_move rfl) ?_
        obtain ⟨p28, e29, H⟩ := H
        refine s_pu (d := some 42) (v := (.pointer (some p28))) rfl rfl rfl (r_nilCheck rfl e29) ?_
        refine s_pu (d := some 43) (v := (.pointer (some (Addr.add p28 6)))) rfl rfl rfl (r_fieldAddr Try.underlying104 Try.sizeOf102 rfl rfl rfl) ?_
        obtain ⟨x30, e31, H⟩ := H
        refine s_rd (d := some 44) (v := (Sl.v x30)) rfl rfl rfl (fun dr => r_load1 Try.isAgg102 rfl e31) ?_
        obtain ⟨p32, e33⟩ : ∃ p : Addr, p = ⟨h.size, 0, none⟩ := ⟨_, rfl⟩
        obtain ⟨h4, e34⟩ : ∃ hh : Heap, hh = h.push (.cells #[(.pointer t1)] 98) := ⟨_, rfl⟩
        have H := H p32 h4 e33 e34
        obtain ⟨e35, H⟩ := H
        obtain ⟨e36, H⟩ := H
        obtain ⟨e37, H⟩ := H
        refine s_ef1 (d := some 31) (v := (Sl.v ((⟨some p32, 1, 1⟩ : Sl)))) (h' := h4) rfl rfl rfl (fun dr => (slFHFing_102.build (cells := #[(.pointer t1)]) (by decide) rfl (by kernel_rfl)).trans (by rw [e33, e34]; rfl)) ⟨(.inl ⟨rfl, fun dr => r_load1 Try.isAgg102 rfl e35⟩), (.inl ⟨rfl, fun dr => r_load1 Try.isAgg42 rfl e36⟩), (.inl ⟨rfl, fun dr => r_load1 Try.isAgg102 rfl e37⟩), trivial⟩ ?_ trivial
        refine s_ef (d := some 36) rfl rfl rfl (fun dr => slFHFing_102.append rfl rfl H) ?_ trivial
        rintro _ h5 ⟨s38, rfl, H⟩
        obtain ⟨e39, H⟩ := H
        obtain ⟨e40, H⟩ := H
        refine ⟨⟨(.inl ⟨rfl, fun dr => r_load1 Try.isAgg102 rfl e39⟩), (.inl ⟨rfl, fun dr => r_load1 Try.isAgg42 rfl e40⟩), trivial, trivial⟩, ?_⟩
        refine s_ef (d := some 45) rfl rfl rfl (fun dr => r_call Try.call57 rfl rfl H) ?_ trivial
        rintro _ h6 ⟨y41, rfl, H⟩
        refine ⟨⟨trivial, trivial, trivial, trivial⟩, ?_⟩
        refine s_pu (d := some 4) (v := (.pointer y41)) rfl rfl rfl (r_assign rfl) ?_
        refine s_fin ?_
        show W _ _ _ _ _ _ _ _
        refine W_ret ?_
        exact ⟨[(.pointer y41)], ⟨_, _, rfl, rfl, rfl⟩, y41, rfl, H⟩
      · have H := H.2 g118
        refine W_skip ?_
        show W _ _ _ _ _ _ _ _
        refine W_seq ?_
        refine W_set ?_
        intro N44 eN44
        have H := H (fun (x42 : Option Addr) (h7 : Heap) => ∀ b, N44 [] (mkE [(4, (.pointer x42))] b) h7) (by
          intro x42 h7 H b
          rw [eN44]
          show W _ _ _ _ _ _ _ _
          refine W_ret ?_
          exact ⟨[(.pointer x42)], ⟨_, _, rfl, rfl, rfl⟩, x42, rfl, H⟩)
        clear eN44
        refine W_draw [0, 0, 2, 6, 14, 30, 62, 127, 0, 256, 768, 1792, 3840, 7936, 0, 16384, 49152, 114688, 261888, 0, 524288, 1572864, 3670016, 8388607, 16777215] (.pu 0 (.pu 1 (.pu 2 (.pu 3 (.rd 4 (.pu 5 (.rd 6 (.pu 8 (.pu 9 (.pu 10 (.rd 11 (.pu 12 (.pu 14 (.pu 15 (.pu 16 (.rd 17 (.pu 19 (.pu 20 (.pu 21 (.rd 22 (.ef 7 [4, 6] (.ef 13 [11] (.ef 18 [11, 17] (.ef 23 [4, 6, 11, 17, 22] (.pu 24 .fin) .no) .no) .no) (.ef 13 [11] (.ef 7 [4, 6] (.ef 18 [11, 17] (.ef 23 [4, 6, 11, 17, 22] (.pu 24 .fin) .no) .no) (.ef 18 [11, 17] (.ef 7 [4, 6] (.ef 23 [4, 6, 11, 17, 22] (.pu 24 .fin) .no) .no) .no)) .no)))))))))))))))))))))) (by kernel_rfl) (by kernel_rfl) ?_
        refine s_pu (d := some 46) (v := (.pointer t1)) rfl rfl rfl (r_move rfl) ?_
        refine s_pu (d := some 47) (v := (.pointer v2)) rfl rfl rfl (r_move rfl) ?_
        obtain ⟨p45, e46, H⟩ := H
        refine s_pu (d := some 48) (v := (.pointer (some p45))) rfl rfl rfl (r_nilCheck rfl e46) ?_
        refine s_pu (d := some 49) (v := (.pointer (some (Addr.add p45 5)))) rfl rfl rfl (r_fieldAddr Try.underlying104 Try.sizeOf102 rfl rfl rfl) ?_
        obtain ⟨x47, e48, H⟩ := H
        refine s_rd (d := some 50) (v := (Sl.v x47)) rfl rfl rfl (fun dr => r_load1 Try.isAgg102 rfl e48) ?_
        obtain ⟨p49, e50, e51, e52, H⟩ := H
        obtain ⟨q53, e54⟩ : ∃ q : Addr, q = Addr.add p49 (Int.toNat 0 * 1) := ⟨_, rfl⟩
        rw [← e54] at H
        refine s_pu (d := some 51) (v := (.pointer (some q53))) rfl rfl rfl (fun w => (r_indexAddr Try.underlying102 Try.sizeOf98 rfl rfl e50 e51 e52 w).trans (by rw [e54])) ?_
        obtain ⟨x55, e56, H⟩ := H
        refine s_rd (d := some 52) (v := (.pointer x55)) rfl rfl rfl (fun dr => r_load1 Try.isAgg98 rfl e56) ?_
        refine s_pu (d := some 54) (v := (.pointer v2)) rfl rfl rfl (r_move rfl) ?_
        obtain ⟨p57, e58, H⟩ := H
        refine s_pu (d := some 55) (v := (.pointer (some p57))) rfl rfl rfl (r_nilCheck rfl e58) ?_
        refine s_pu (d := some 56) (v := (.pointer (some (Addr.add p57 5)))) rfl rfl rfl (r_fieldAddr Try.underlying104 Try.sizeOf102 rfl rfl rfl) ?_
        obtain ⟨x59, e60, H⟩ := H
        refine s_rd (d := some 57) (v := (Sl.v x59)) rfl rfl rfl (fun dr => r_load1 Try.isAgg102 rfl e60) ?_
        obtain ⟨e62, e63, e64, e65, H⟩ := H
        obtain ⟨s61, e66⟩ : ∃ t : Sl, t = ⟨sliceA x59.a (Int.toNat ((x59.cap : Int))) (Int.toNat 1) 1, Int.toNat ((x59.len : Int)) - Int.toNat 1, Int.toNat ((x59.cap : Int)) - Int.toNat 1⟩ := ⟨_, rfl⟩
        have H := H s61 e66
        refine s_pu (d := some 58) (v := (Sl.v s61)) rfl rfl rfl (fun w => (r_slice (lo := (.some (.const (.int .i64 1)))) (hi := .none) (mx := .none) Try.underlying102 Try.sizeOf98 rfl ((x59.cap : Int)) ((x59.len : Int)) 1 rfl ⟨rfl, rfl⟩ ⟨_, rfl⟩ e62 e63 (.inl rfl) e65 w).trans (by rw [e66]; rfl)) ?_
        refine s_pu (d := some 60) (v := (.pointer v2)) rfl rfl rfl (r_move rfl) ?_
        obtain ⟨p67, e68, H⟩ := H
        refine s_pu (d := some 61) (v := (.pointer (some p67))) rfl rfl rfl (r_nilCheck rfl e68) ?_
        refine s_pu (d := some 62) (v := (.pointer (some (Addr.add p67 7)))) rfl rfl rfl (r_fieldAddr Try.underlying104 Try.sizeOf42 rfl rfl rfl) ?_
        obtain ⟨x69, e70, H⟩ := H
        refine s_rd (d := some 63) (v := (.pointer x69)) rfl rfl rfl (fun dr => r_load1 Try.isAgg42 rfl e70) ?_
        refine s_pu (d := some 65) (v := (.pointer v2)) rfl rfl rfl (r_move rfl) ?_
        obtain ⟨p71, e72, H⟩ := H
        refine s_pu (d := some 66) (v := (.pointer (some p71))) rfl rfl rfl (r_nilCheck rfl e72) ?_
        refine s_pu (d := some 67) (v := (.pointer (some (Addr.add p71 6)))) rfl rfl rfl (r_fieldAddr Try.underlying104 Try.sizeOf102 rfl rfl rfl) ?_
        obtain ⟨x73, e74, H⟩ := H
        refine s_rd (d := some 68) (v := (Sl.v x73)) rfl rfl rfl (fun dr => r_load1 Try.isAgg102 rfl e74) ?_
        refine s_or ?_ ?_
        · have H := H.1
          obtain ⟨p75, e76⟩ : ∃ p : Addr, p = ⟨h.size, 0, none⟩ := ⟨_, rfl⟩
          obtain ⟨h8, e77⟩ : ∃ hh : Heap, hh = h.push (.cells #[(.pointer t1), (.pointer x55)] 98) := ⟨_, rfl⟩
          have H := H p75 h8 e76 e77
          obtain ⟨e78, H⟩ := H
          obtain ⟨e79, H⟩ := H
          obtain ⟨e80, H⟩ := H
          refine s_ef1 (d := some 53) (v := (Sl.v ((⟨some p75, 2, 2⟩ : Sl)))) (h' := h8) rfl rfl rfl (fun dr => (slFHFing_102.build (cells := #[(.pointer t1), (.pointer x55)]) (by decide) rfl (by kernel_rfl)).trans (by rw [e76, e77]; rfl)) ⟨(.inl ⟨rfl, fun dr => r_load1 Try.isAgg102 rfl e78⟩), (.inl ⟨rfl, fun dr => r_load1 Try.isAgg42 rfl e79⟩), (.inl ⟨rfl, fun dr => r_load1 Try.isAgg102 rfl e80⟩), trivial, trivial, trivial⟩ ?_ trivial
          refine s_ef (d := some 59) rfl rfl rfl (fun dr => r_call Try.call59 rfl rfl H) ?_ trivial
          rintro _ h9 ⟨y81, rfl, H⟩
          obtain ⟨e82, H⟩ := H
          obtain ⟨e83, H⟩ := H
          obtain ⟨e84, H⟩ := H
          obtain ⟨e85, H⟩ := H
          refine ⟨⟨(.inl ⟨rfl, fun dr => r_load1 Try.isAgg102 rfl e82⟩), (.inl ⟨rfl, fun dr => r_load1 Try.isAgg42 rfl e83⟩), trivial, (.inl ⟨rfl, fun dr => r_load1 Try.isAgg98 rfl e84⟩), (.inl ⟨rfl, fun dr => r_load1 Try.isAgg102 rfl e85⟩), trivial⟩, ?_⟩
          refine s_ef (d := some 64) rfl rfl rfl (fun dr => r_call Try.call61 rfl rfl H) ?_ trivial
          rintro _ h10 ⟨y86, rfl, H⟩
          obtain ⟨e87, H⟩ := H
          obtain ⟨e88, H⟩ := H
          obtain ⟨e89, H⟩ := H
          refine ⟨⟨(.inl ⟨rfl, fun dr => r_load1 Try.isAgg102 rfl e87⟩), trivial, trivial, (.inl ⟨rfl, fun dr => r_load1 Try.isAgg98 rfl e88⟩), (.inl ⟨rfl, fun dr => r_load1 Try.isAgg102 rfl e89⟩), trivial⟩, ?_⟩
          refine s_ef (d := some 69) rfl rfl rfl (fun dr => r_call Try.call57 rfl rfl H) ?_ trivial
          rintro _ h11 ⟨y90, rfl, H⟩
          refine ⟨⟨trivial, trivial, trivial, trivial, trivial, trivial⟩, ?_⟩
          refine s_pu (d := some 4) (v := (.pointer y90)) rfl rfl rfl (r_assign rfl) ?_
          refine s_fin ?_
          exact N_mk (l := [(4, (.pointer y90))]) H ⟨rfl, trivial⟩
        · have H := H.2
          refine s_ef (d := some 59) rfl rfl rfl (fun dr => r_call Try.call59 rfl rfl H) ?_ trivial
          rintro _ h12 ⟨y91, rfl, H⟩
          obtain ⟨e92, H⟩ := H
          obtain ⟨e93, H⟩ := H
          obtain ⟨e94, H⟩ := H
          obtain ⟨e95, H⟩ := H
          refine ⟨⟨(.inl ⟨rfl, fun dr => r_load1 Try.isAgg102 rfl e92⟩), (.inl ⟨rfl, fun dr => r_load1 Try.isAgg42 rfl e93⟩), trivial, (.inl ⟨rfl, fun dr => r_load1 Try.isAgg98 rfl e94⟩), (.inl ⟨rfl, fun dr => r_load1 Try.isAgg102 rfl e95⟩), trivial⟩, ?_⟩
          refine s_or ?_ ?_
          · have H := H.1
            obtain ⟨p96, e97⟩ : ∃ p : Addr, p = ⟨h12.size, 0, none⟩ := ⟨_, rfl⟩
            obtain ⟨h13, e98⟩ : ∃ hh : Heap, hh = h12.push (.cells #[(.pointer t1), (.pointer x55)] 98) := ⟨_, rfl⟩
            have H := H p96 h13 e97 e98
            obtain ⟨e99, H⟩ := H
            obtain ⟨e100, H⟩ := H
            obtain ⟨e101, H⟩ := H
            refine s_ef1 (d := some 53) (v := (Sl.v ((⟨some p96, 2, 2⟩ : Sl)))) (h' := h13) rfl rfl rfl (fun dr => (slFHFing_102.build (cells := #[(.pointer t1), (.pointer x55)]) (by decide) rfl (by kernel_rfl)).trans (by rw [e97, e98]; rfl)) ⟨(.inl ⟨rfl, fun dr => r_load1 Try.isAgg102 rfl e99⟩), (.inl ⟨rfl, fun dr => r_load1 Try.isAgg42 rfl e100⟩), (.inl ⟨rfl, fun dr => r_load1 Try.isAgg102 rfl e101⟩), trivial, trivial, trivial⟩ ?_ trivial
            refine s_ef (d := some 64) rfl rfl rfl (fun dr => r_call Try.call61 rfl rfl H) ?_ trivial
            rintro _ h14 ⟨y102, rfl, H⟩
            obtain ⟨e103, H⟩ := H
            obtain ⟨e104, H⟩ := H
            obtain ⟨e105, H⟩ := H
            refine ⟨⟨(.inl ⟨rfl, fun dr => r_load1 Try.isAgg102 rfl e103⟩), trivial, trivial, (.inl ⟨rfl, fun dr => r_load1 Try.isAgg98 rfl e104⟩), (.inl ⟨rfl, fun dr => r_load1 Try.isAgg102 rfl e105⟩), trivial⟩, ?_⟩
            refine s_ef (d := some 69) rfl rfl rfl (fun dr => r_call Try.call57 rfl rfl H) ?_ trivial
            rintro _ h15 ⟨y106, rfl, H⟩
            refine ⟨⟨trivial, trivial, trivial, trivial, trivial, trivial⟩, ?_⟩
            refine s_pu (d := some 4) (v := (.pointer y106)) rfl rfl rfl (r_assign rfl) ?_
            refine s_fin ?_
            exact N_mk (l := [(4, (.pointer y106))]) H ⟨rfl, trivial⟩
          · have H := H.2
            refine s_ef (d := some 64) rfl rfl rfl (fun dr => r_call Try.call61 rfl rfl H) ?_ trivial
            rintro _ h16 ⟨y107, rfl, H⟩
            obtain ⟨e108, H⟩ := H
            obtain ⟨e109, H⟩ := H
            obtain ⟨e110, H⟩ := H
            refine ⟨⟨(.inl ⟨rfl, fun dr => r_load1 Try.isAgg102 rfl e108⟩), trivial, trivial, (.inl ⟨rfl, fun dr => r_load1 Try.isAgg98 rfl e109⟩), (.inl ⟨rfl, fun dr => r_load1 Try.isAgg102 rfl e110⟩), trivial⟩, ?_⟩
            obtain ⟨p111, e112⟩ : ∃ p : Addr, p = ⟨h16.size, 0, none⟩ := ⟨_, rfl⟩
            obtain ⟨h17, e113⟩ : ∃ hh : Heap, hh = h16.push (.cells #[(.pointer t1), (.pointer x55)] 98) := ⟨_, rfl⟩
            have H := H p111 h17 e112 e113
            obtain ⟨e114, H⟩ := H
            obtain ⟨e115, H⟩ := H
            obtain ⟨e116, H⟩ := H
            refine s_ef1 (d := some 53) (v := (Sl.v ((⟨some p111, 2, 2⟩ : Sl)))) (h' := h17) rfl rfl rfl (fun dr => (slFHFing_102.build (cells := #[(.pointer t1), (.pointer x55)]) (by decide) rfl (by kernel_rfl)).trans (by rw [e112, e113]; rfl)) ⟨(.inl ⟨rfl, fun dr => r_load1 Try.isAgg102 rfl e114⟩), (.inl ⟨rfl, fun dr => r_load1 Try.isAgg42 rfl e115⟩), (.inl ⟨rfl, fun dr => r_load1 Try.isAgg102 rfl e116⟩), trivial, trivial, trivial⟩ ?_ trivial
            refine s_ef (d := some 69) rfl rfl rfl (fun dr => r_call Try.call57 rfl rfl H) ?_ trivial
            rintro _ h18 ⟨y117, rfl, H⟩
            refine ⟨⟨trivial, trivial, trivial, trivial, trivial, trivial⟩, ?_⟩
            refine s_pu (d := some 4) (v := (.pointer y117)) rfl rfl rfl (r_assign rfl) ?_
            refine s_fin ?_
            exact N_mk (l := [(4, (.pointer y117))]) H ⟨rfl, trivial⟩

/-! ### finger_pushRight -/

def finger_pushRight_F (r : World) (v1 : Option Addr) (t2 : Option Addr) (h : Heap) (R : Option Addr → Heap → Prop) : Prop :=
  Br (Option.isNone v1) (
    finger_alone r t2 h fun y3 h1 =>
    R y3 h1) (
    Ck v1 fun p4 =>
    LdS h (Addr.add p4 6) fun x6 =>
    Br (Option.isNone x6.a) (
      Ck v1 fun p8 =>
      LdS h (Addr.add p8 5) fun x10 =>
      New h (.cells #[(.pointer t2)] 98) fun p12 h2 =>
      finger_deep r x10 none ((⟨some p12, 1, 1⟩ : Sl)) h2 fun y15 h3 =>
      R y15 h3) (
      Ck v1 fun p16 =>
      LdS h (Addr.add p16 6) fun x18 =>
      Br (decide (((x18.len : Int)) < 4)) (
        ∀ J21 : Option Addr → Heap → Prop, (∀ (x20 : Option Addr) (h4 : Heap),
          (R x20 h4) →
          J21 x20 h4) →
        Ck v1 fun p23 =>
        LdS h (Addr.add p23 5) fun x25 =>
        Ck v1 fun p27 =>
        LdP h (Addr.add p27 7) fun x29 =>
        Ck v1 fun p31 =>
        LdS h (Addr.add p31 6) fun x33 =>
        (slices_Clone_finger_thing_finger_thing r x33 h fun y35 h5 =>
        (hcell h5 (Addr.add p27 7) = some (.pointer x29)) ∧
        (hcell h5 (Addr.add p23 5) = some (Sl.v x25)) ∧
        New h5 (.cells #[(.pointer t2)] 98) fun p38 h6 =>
        (hcell h6 (Addr.add p31 6) = some (Sl.v x33)) ∧
        (hcell h6 (Addr.add p27 7) = some (.pointer x29)) ∧
        (hcell h6 (Addr.add p23 5) = some (Sl.v x25)) ∧
        App 98 1 8 (.pointer none) y35 ((⟨some p38, 1, 1⟩ : Sl)) h6 fun s44 h7 =>
        (hcell h7 (Addr.add p27 7) = some (.pointer x29)) ∧
        (hcell h7 (Addr.add p23 5) = some (Sl.v x25)) ∧
        finger_deep r x25 x29 s44 h7 fun y47 h8 =>
        J21 y47 h8) ∧
        (New h (.cells #[(.pointer t2)] 98) fun p48 h9 =>
        (hcell h9 (Addr.add p31 6) = some (Sl.v x33)) ∧
        (hcell h9 (Addr.add p27 7) = some (.pointer x29)) ∧
        (hcell h9 (Addr.add p23 5) = some (Sl.v x25)) ∧
        slices_Clone_finger_thing_finger_thing r x33 h9 fun y54 h10 =>
        (hcell h10 (Addr.add p27 7) = some (.pointer x29)) ∧
        (hcell h10 (Addr.add p23 5) = some (Sl.v x25)) ∧
        App 98 1 8 (.pointer none) y54 ((⟨some p48, 1, 1⟩ : Sl)) h10 fun s57 h11 =>
        (hcell h11 (Addr.add p27 7) = some (.pointer x29)) ∧
        (hcell h11 (Addr.add p23 5) = some (Sl.v x25)) ∧
        finger_deep r x25 x29 s57 h11 fun y60 h12 =>
        J21 y60 h12)) (
        ∀ J62 : Option Addr → Heap → Prop, (∀ (x61 : Option Addr) (h13 : Heap),
          (R x61 h13) →
          J62 x61 h13) →
        Ck v1 fun p64 =>
        LdS h (Addr.add p64 5) fun x66 =>
        Ck v1 fun p68 =>
        LdP h (Addr.add p68 7) fun x70 =>
        Ck v1 fun p72 =>
        LdS h (Addr.add p72 6) fun x74 =>
        Sub x74 0 3 ((x74.cap : Int)) 1 fun s76 =>
        Ck v1 fun p82 =>
        LdS h (Addr.add p82 6) fun x84 =>
        Ix x84 3 1 fun q90 =>
        LdP h q90 fun x92 =>
        (finger_group r s76 h fun y94 h14 =>
        (hcell h14 q90 = some (.pointer x92)) ∧
        (hcell h14 (Addr.add p82 6) = some (Sl.v x84)) ∧
        (hcell h14 (Addr.add p68 7) = some (.pointer x70)) ∧
        (hcell h14 (Addr.add p64 5) = some (Sl.v x66)) ∧
        (finger_pushRight r x70 y94 h14 fun y99 h15 =>
        (hcell h15 q90 = some (.pointer x92)) ∧
        (hcell h15 (Addr.add p82 6) = some (Sl.v x84)) ∧
        (hcell h15 (Addr.add p64 5) = some (Sl.v x66)) ∧
        New h15 (.cells #[(.pointer x92), (.pointer t2)] 98) fun p103 h16 =>
        (hcell h16 (Addr.add p72 6) = some (Sl.v x74)) ∧
        (hcell h16 (Addr.add p68 7) = some (.pointer x70)) ∧
        (hcell h16 (Addr.add p64 5) = some (Sl.v x66)) ∧
        finger_deep r x66 y99 ((⟨some p103, 2, 2⟩ : Sl)) h16 fun y109 h17 =>
        J62 y109 h17) ∧
        (New h14 (.cells #[(.pointer x92), (.pointer t2)] 98) fun p110 h18 =>
        (hcell h18 (Addr.add p72 6) = some (Sl.v x74)) ∧
        (hcell h18 (Addr.add p68 7) = some (.pointer x70)) ∧
        (hcell h18 (Addr.add p64 5) = some (Sl.v x66)) ∧
        finger_pushRight r x70 y94 h18 fun y116 h19 =>
        (hcell h19 q90 = some (.pointer x92)) ∧
        (hcell h19 (Addr.add p82 6) = some (Sl.v x84)) ∧
        (hcell h19 (Addr.add p64 5) = some (Sl.v x66)) ∧
        finger_deep r x66 y116 ((⟨some p110, 2, 2⟩ : Sl)) h19 fun y120 h20 =>
        J62 y120 h20)) ∧
        (New h (.cells #[(.pointer x92), (.pointer t2)] 98) fun p121 h21 =>
        (hcell h21 (Addr.add p72 6) = some (Sl.v x74)) ∧
        (hcell h21 (Addr.add p68 7) = some (.pointer x70)) ∧
        (hcell h21 (Addr.add p64 5) = some (Sl.v x66)) ∧
        finger_group r s76 h21 fun y127 h22 =>
        (hcell h22 q90 = some (.pointer x92)) ∧
        (hcell h22 (Addr.add p82 6) = some (Sl.v x84)) ∧
        (hcell h22 (Addr.add p68 7) = some (.pointer x70)) ∧
        (hcell h22 (Addr.add p64 5) = some (Sl.v x66)) ∧
        finger_pushRight r x70 y127 h22 fun y132 h23 =>
        (hcell h23 q90 = some (.pointer x92)) ∧
        (hcell h23 (Addr.add p82 6) = some (Sl.v x84)) ∧
        (hcell h23 (Addr.add p64 5) = some (Sl.v x66)) ∧
        finger_deep r x66 y132 ((⟨some p121, 2, 2⟩ : Sl)) h23 fun y136 h24 =>
        J62 y136 h24))))

set_option maxRecDepth 100000 in
theorem finger_pushRight_of {r : World} {v1 : Option Addr} {t2 : Option Addr} {h : Heap} {R : Option Addr → Heap → Prop} (H : finger_pushRight_F r v1 t2 h R) : finger_pushRight r v1 t2 h R := by
  unfold finger_pushRight_F at H
  refine calls_of 71 [.tmp 4] Try.func49 rfl rfl rfl rfl rfl ?_
  refine W_seq ?_
  refine W_region (.pu 0 .fin) rfl rfl ?_
  refine s_pu (d := some 4) (v := (.pointer none)) rfl rfl rfl (r_assign rfl) ?_
  refine s_fin ?_
  show W _ _ _ _ _ _ _ _
  refine W_seq ?_
  refine W_block ?_
  refine W_seq ?_
  refine W_region (.pu 0 (.pu 1 (.pu 2 .fin))) rfl rfl ?_
  refine s_pu (d := some 6) (v := (.pointer v1)) rfl rfl rfl (r_move rfl) ?_
  refine s_pu (d := some 7) (v := (.bool (Option.isNone v1))) rfl rfl rfl (r_nilP Try.underlying42 rfl rfl) ?_
  refine s_pu (d := some 5) (v := (.bool (Option.isNone v1))) rfl rfl rfl (r_assign rfl) ?_
  refine s_fin ?_
  show W _ _ _ _ _ _ _ _
  refine W_if (Option.isNone v1) rfl (fun g139 => ?_) (fun g139 => ?_)
  · have H := H.1 g139
    refine W_seq ?_
    refine W_region (.pu 0 (.ef 1 [] (.pu 2 .fin) .no)) rfl rfl ?_
    refine s_pu (d := some 8) (v := (.pointer t2)) rfl rfl rfl (r_move rfl) ?_
    refine s_ef (d := some 9) rfl rfl rfl (fun dr => r_call Try.call56 rfl rfl H) ?_ trivial
    rintro _ h1 ⟨y3, rfl, H⟩
    refine ⟨trivial, ?_⟩
    refine s_pu (d := some 4) (v := (.pointer y3)) rfl rfl rfl (r_assign rfl) ?_
    refine s_fin ?_
    show W _ _ _ _ _ _ _ _
    refine W_ret ?_
    exact ⟨[(.pointer y3)], ⟨_, _, rfl, rfl, rfl⟩, y3, rfl, H⟩
  · have H := H.2 g139
    refine W_seq ?_
    refine W_region (.pu 0 (.pu 1 (.pu 2 (.rl 3 (.pu 4 (.pu 5 .fin)))))) rfl rfl ?_
    refine s_pu (d := some 11) (v := (.pointer v1)) rfl rfl rfl (r_move rfl) ?_
    obtain ⟨p4, e5, H⟩ := H
    refine s_pu (d := some 12) (v := (.pointer (some p4))) rfl rfl rfl (r_nilCheck rfl e5) ?_
    refine s_pu (d := some 13) (v := (.pointer (some (Addr.add p4 6)))) rfl rfl rfl (r_fieldAddr Try.underlying104 Try.sizeOf102 rfl rfl rfl) ?_
    obtain ⟨x6, e7, H⟩ := H
    refine s_rl (d := some 14) (v := (Sl.v x6)) rfl rfl rfl (fun dr => r_load1 Try.isAgg102 rfl e7) ?_
    refine s_pu (d := some 15) (v := (.bool (Option.isNone x6.a))) rfl rfl rfl (r_nilS Try.underlying102 rfl rfl) ?_
    refine s_pu (d := some 10) (v := (.bool (Option.isNone x6.a))) rfl rfl rfl (r_assign rfl) ?_
    refine s_fin ?_
    show W _ _ _ _ _ _ _ _
    refine W_if (Option.isNone x6.a) rfl (fun g138 => ?_) (fun g138 => ?_)
    · have H := H.1 g138
      refine W_seq ?_
      refine W_region (.pu 0 (.pu 1 (.pu 2 (.rl 3 (.pu 4 (.ef 5 [] (.ef 6 [] (.pu 7 .fin) .no) .no)))))) rfl rfl ?_
      refine s_pu (d := some 16) (v := (.pointer v1)) rfl rfl rfl (r_move rfl) ?_
      obtain ⟨p8, e9, H⟩ := H
      refine s_pu (d := some 17) (v := (.pointer (some p8))) rfl rfl rfl (r_nilCheck rfl e9) ?_
      refine s_pu (d := some 18) (v := (.pointer (some (Addr.add p8 5)))) rfl rfl rfl (r_fieldAddr Try.underlying104 Try.sizeOf102 rfl rfl rfl) ?_
      obtain ⟨x10, e11, H⟩ := H
      refine s_rl (d := some 19) (v := (Sl.v x10)) rfl rfl rfl (fun dr => r_load1 Try.isAgg102 rfl e11) ?_
      refine s_pu (d := some 20) (v := (.pointer t2)) rfl rfl rfl (r_move rfl) ?_
      obtain ⟨p12, e13⟩ : ∃ p : Addr, p = ⟨h.size, 0, none⟩ := ⟨_, rfl⟩
      obtain ⟨h2, e14⟩ : ∃ hh : Heap, hh = h.push (.cells #[(.pointer t2)] 98) := ⟨_, rfl⟩
      have H := H p12 h2 e13 e14
      refine s_ef1 (d := some 21) (v := (Sl.v ((⟨some p12, 1, 1⟩ : Sl)))) (h' := h2) rfl rfl rfl (fun dr => (slFHFing_102.build (cells := #[(.pointer t2)]) (by decide) rfl (by kernel_rfl)).trans (by rw [e13, e14]; rfl)) trivial ?_ trivial
      refine s_ef (d := some 22) rfl rfl rfl (fun dr => r_call Try.call57 rfl rfl H) ?_ trivial
      rintro _ h3 ⟨y15, rfl, H⟩
      refine ⟨trivial, ?_⟩
      refine s_pu (d := some 4) (v := (.pointer y15)) rfl rfl rfl (r_assign rfl) ?_
      refine s_fin ?_
      show W _ _ _ _ _ _ _ _
      refine W_ret ?_
      exact ⟨[(.pointer y15)], ⟨_, _, rfl, rfl, rfl⟩, y15, rfl, H⟩
    · have H := H.2 g138
      refine W_seq ?_
      refine W_region (.pu 0 (.pu 1 (.pu 2 (.rl 3 (.pu 4 (.pu 5 (.pu 6 .fin))))))) rfl rfl ?_
      refine s_pu (d := some 24) (v := (.pointer v1)) rfl rfl rfl (r_move rfl) ?_
      obtain ⟨p16, e17, H⟩ := H
      refine s_pu (d := some 25) (v := (.pointer (some p16))) rfl rfl rfl (r_nilCheck rfl e17) ?_
      refine s_pu (d := some 26) (v := (.pointer (some (Addr.add p16 6)))) rfl rfl rfl (r_fieldAddr Try.underlying104 Try.sizeOf102 rfl rfl rfl) ?_
      obtain ⟨x18, e19, H⟩ := H
      refine s_rl (d := some 27) (v := (Sl.v x18)) rfl rfl rfl (fun dr => r_load1 Try.isAgg102 rfl e19) ?_
      refine s_pu (d := some 28) (v := (.int .i64 ((x18.len : Int)))) rfl rfl rfl (r_len Try.underlying102 rfl) ?_
      refine s_pu (d := some 29) (v := (.bool (decide (((x18.len : Int)) < 4)))) rfl rfl rfl (r_lss rfl rfl) ?_
      refine s_pu (d := some 23) (v := (.bool (decide (((x18.len : Int)) < 4)))) rfl rfl rfl (r_assign rfl) ?_
      refine s_fin ?_
      show W _ _ _ _ _ _ _ _
      refine W_if (decide (((x18.len : Int)) < 4)) rfl (fun g137 => ?_) (fun g137 => ?_)
      · have H := H.1 g137
        refine W_seq ?_
        refine W_set ?_
        intro N22 eN22
        have H := H (fun (x20 : Option Addr) (h4 : Heap) => ∀ b, N22 [] (mkE [(4, (.pointer x20))] b) h4) (by
          intro x20 h4 H b
          rw [eN22]
          show W _ _ _ _ _ _ _ _
          refine W_ret ?_
          exact ⟨[(.pointer x20)], ⟨_, _, rfl, rfl, rfl⟩, x20, rfl, H⟩)
        clear eN22
        refine W_draw [0, 1, 3, 7, 0, 16, 48, 112, 0, 256, 768, 1792, 3840, 0, 8192, 32512, 65535, 131071] (.pu 0 (.pu 1 (.pu 2 (.rd 3 (.pu 4 (.pu 5 (.pu 6 (.rd 7 (.pu 8 (.pu 9 (.pu 10 (.rd 11 (.pu 13 (.ef 12 [11] (.ef 14 [] (.ef 15 [11] (.ef 16 [3, 7, 11] (.pu 17 .fin) .no) .no) .no) (.ef 14 [] (.ef 12 [11] (.ef 15 [11] (.ef 16 [3, 7, 11] (.pu 17 .fin) .no) .no) .no) .no))))))))))))))) (by kernel_rfl) (by kernel_rfl) ?_
        refine s_pu (d := some 30) (v := (.pointer v1)) rfl rfl rfl (r_move rfl) ?_
        obtain ⟨p23, e24, H⟩ := H
        refine s_pu (d := some 31) (v := (.pointer (some p23))) rfl rfl rfl (r_nilCheck rfl e24) ?_
        refine s_pu (d := some 32) (v := (.pointer (some (Addr.add p23 5)))) rfl rfl rfl (r_fieldAddr Try.underlying104 Try.sizeOf102 rfl rfl rfl) ?_
        obtain ⟨x25, e26, H⟩ := H
        refine s_rd (d := some 33) (v := (Sl.v x25)) rfl rfl rfl (fun dr => r_load1 Try.isAgg102 rfl e26) ?_
        refine s_pu (d := some 34) (v := (.pointer v1)) rfl rfl rfl (r_move rfl) ?_
        obtain ⟨p27, e28, H⟩ := H
        refine s_pu (d := some 35) (v := (.pointer (some p27))) rfl rfl rfl (r_nilCheck rfl e28) ?_
        refine s_pu (d := some 36) (v := (.pointer (some (Addr.add p27 7)))) rfl rfl rfl (r_fieldAddr Try.underlying104 Try.sizeOf42 rfl rfl rfl) ?_
        obtain ⟨x29, e30, H⟩ := H
        refine s_rd (d := some 37) (v := (.pointer x29)) rfl rfl rfl (fun dr => r_load1 Try.isAgg42 rfl e30) ?_
        refine s_pu (d := some 38) (v := (.pointer v1)) rfl rfl rfl (r_move rfl) ?_
        obtain ⟨p31, e32, H⟩ := H
        refine s_pu (d := some 39) (v := (.pointer (some p31))) rfl rfl rfl (r_nilCheck rfl e32) ?_
        refine s_pu (d := some 40) (v := (.pointer (some (Addr.add p31 6)))) rfl rfl rfl (r_fieldAddr Try.underlying104 Try.sizeOf102 rfl rfl rfl) ?_
        obtain ⟨x33, e34, H⟩ := H
        refine s_rd (d := some 41) (v := (Sl.v x33)) rfl rfl rfl (fun dr => r_load1 Try.isAgg102 rfl e34) ?_
        refine s_pu (d := some 43) (v := (.pointer t2)) rfl rfl rfl (r_move rfl) ?_
        refine s_or ?_ ?_
        · have H := H.1
          refine s_ef (d := some 42) rfl rfl rfl (fun dr => r_call Try.call58 rfl rfl H) ?_ trivial
          rintro _ h5 ⟨y35, rfl, H⟩
          obtain ⟨e36, H⟩ := H
          obtain ⟨e37, H⟩ := H
          refine ⟨⟨trivial, (.inl ⟨rfl, fun dr => r_load1 Try.isAgg42 rfl e36⟩), (.inl ⟨rfl, fun dr => r_load1 Try.isAgg102 rfl e37⟩), trivial⟩, ?_⟩
          obtain ⟨p38, e39⟩ : ∃ p : Addr, p = ⟨h5.size, 0, none⟩ := ⟨_, rfl⟩
          obtain ⟨h6, e40⟩ : ∃ hh : Heap, hh = h5.push (.cells #[(.pointer t2)] 98) := ⟨_, rfl⟩
          have H := H p38 h6 e39 e40
          obtain ⟨e41, H⟩ := H
          obtain ⟨e42, H⟩ := H
          obtain ⟨e43, H⟩ := H
          refine s_ef1 (d := some 44) (v := (Sl.v ((⟨some p38, 1, 1⟩ : Sl)))) (h' := h6) rfl rfl rfl (fun dr => (slFHFing_102.build (cells := #[(.pointer t2)]) (by decide) rfl (by kernel_rfl)).trans (by rw [e39, e40]; rfl)) ⟨(.inl ⟨rfl, fun dr => r_load1 Try.isAgg102 rfl e41⟩), (.inl ⟨rfl, fun dr => r_load1 Try.isAgg42 rfl e42⟩), (.inl ⟨rfl, fun dr => r_load1 Try.isAgg102 rfl e43⟩), trivial⟩ ?_ trivial
          refine s_ef (d := some 45) rfl rfl rfl (fun dr => slFHFing_102.append rfl rfl H) ?_ trivial
          rintro _ h7 ⟨s44, rfl, H⟩
          obtain ⟨e45, H⟩ := H
          obtain ⟨e46, H⟩ := H
          refine ⟨⟨trivial, (.inl ⟨rfl, fun dr => r_load1 Try.isAgg42 rfl e45⟩), (.inl ⟨rfl, fun dr => r_load1 Try.isAgg102 rfl e46⟩), trivial⟩, ?_⟩
          refine s_ef (d := some 46) rfl rfl rfl (fun dr => r_call Try.call57 rfl rfl H) ?_ trivial
          rintro _ h8 ⟨y47, rfl, H⟩
          refine ⟨⟨trivial, trivial, trivial, trivial⟩, ?_⟩
          refine s_pu (d := some 4) (v := (.pointer y47)) rfl rfl rfl (r_assign rfl) ?_
          refine s_fin ?_
          exact N_mk (l := [(4, (.pointer y47))]) H ⟨rfl, trivial⟩
        · have H := H.2
          obtain ⟨p48, e49⟩ : ∃ p : Addr, p = ⟨h.size, 0, none⟩ := ⟨_, rfl⟩
          obtain ⟨h9, e50⟩ : ∃ hh : Heap, hh = h.push (.cells #[(.pointer t2)] 98) := ⟨_, rfl⟩
          have H := H p48 h9 e49 e50
          obtain ⟨e51, H⟩ := H
          obtain ⟨e52, H⟩ := H
          obtain ⟨e53, H⟩ := H
          refine s_ef1 (d := some 44) (v := (Sl.v ((⟨some p48, 1, 1⟩ : Sl)))) (h' := h9) rfl rfl rfl (fun dr => (slFHFing_102.build (cells := #[(.pointer t2)]) (by decide) rfl (by kernel_rfl)).trans (by rw [e49, e50]; rfl)) ⟨(.inl ⟨rfl, fun dr => r_load1 Try.isAgg102 rfl e51⟩), (.inl ⟨rfl, fun dr => r_load1 Try.isAgg42 rfl e52⟩), (.inl ⟨rfl, fun dr => r_load1 Try.isAgg102 rfl e53⟩), trivial⟩ ?_ trivial
          refine s_ef (d := some 42) rfl rfl rfl (fun dr => r_call Try.call58 rfl rfl H) ?_ trivial
          rintro _ h10 ⟨y54, rfl, H⟩
          obtain ⟨e55, H⟩ := H
          obtain ⟨e56, H⟩ := H
          refine ⟨⟨trivial, (.inl ⟨rfl, fun dr => r_load1 Try.isAgg42 rfl e55⟩), (.inl ⟨rfl, fun dr => r_load1 Try.isAgg102 rfl e56⟩), trivial⟩, ?_⟩
          refine s_ef (d := some 45) rfl rfl rfl (fun dr => slFHFing_102.append rfl rfl H) ?_ trivial
          rintro _ h11 ⟨s57, rfl, H⟩
          obtain ⟨e58, H⟩ := H
          obtain ⟨e59, H⟩ := H
          refine ⟨⟨trivial, (.inl ⟨rfl, fun dr => r_load1 Try.isAgg42 rfl e58⟩), (.inl ⟨rfl, fun dr => r_load1 Try.isAgg102 rfl e59⟩), trivial⟩, ?_⟩
          refine s_ef (d := some 46) rfl rfl rfl (fun dr => r_call Try.call57 rfl rfl H) ?_ trivial
          rintro _ h12 ⟨y60, rfl, H⟩
          refine ⟨⟨trivial, trivial, trivial, trivial⟩, ?_⟩
          refine s_pu (d := some 4) (v := (.pointer y60)) rfl rfl rfl (r_assign rfl) ?_
          refine s_fin ?_
          exact N_mk (l := [(4, (.pointer y60))]) H ⟨rfl, trivial⟩
      · have H := H.2 g137
        refine W_skip ?_
        show W _ _ _ _ _ _ _ _
        refine W_seq ?_
        refine W_set ?_
        intro N63 eN63
        have H := H (fun (x61 : Option Addr) (h13 : Heap) => ∀ b, N63 [] (mkE [(4, (.pointer x61))] b) h13) (by
          intro x61 h13 H b
          rw [eN63]
          show W _ _ _ _ _ _ _ _
          refine W_ret ?_
          exact ⟨[(.pointer x61)], ⟨_, _, rfl, rfl, rfl⟩, x61, rfl, H⟩)
        clear eN63
        refine W_draw [0, 1, 3, 7, 0, 16, 48, 112, 0, 256, 768, 1792, 3840, 7936, 16368, 0, 32768, 98304, 229376, 491520, 1015808, 0, 4161536, 8388607, 16777215] (.pu 0 (.pu 1 (.pu 2 (.rd 3 (.pu 4 (.pu 5 (.pu 6 (.rd 7 (.pu 8 (.pu 9 (.pu 10 (.rd 11 (.pu 12 (.pu 15 (.pu 16 (.pu 17 (.rd 18 (.pu 19 (.rd 20 (.pu 21 (.ef 13 [11] (.ef 14 [7, 11] (.ef 22 [18, 20] (.ef 23 [3, 7, 11, 18, 20] (.pu 24 .fin) .no) .no) (.ef 22 [18, 20] (.ef 14 [7, 11] (.ef 23 [3, 7, 11, 18, 20] (.pu 24 .fin) .no) .no) .no)) (.ef 22 [18, 20] (.ef 13 [11] (.ef 14 [7, 11] (.ef 23 [3, 7, 11, 18, 20] (.pu 24 .fin) .no) .no) .no) .no)))))))))))))))))))))) (by kernel_rfl) (by kernel_rfl) ?_
        refine s_pu (d := some 47) (v := (.pointer v1)) rfl rfl rfl (r_move rfl) ?_
        obtain ⟨p64, e65, H⟩ := H
        refine s_pu (d := some 48) (v := (.pointer (some p64))) rfl rfl rfl (r_nilCheck rfl e65) ?_
        refine s_pu (d := some 49) (v := (.pointer (some (Addr.add p64 5)))) rfl rfl rfl (r_fieldAddr Try.underlying104 Try.sizeOf102 rfl rfl rfl) ?_
        obtain ⟨x66, e67, H⟩ := H
        refine s_rd (d := some 50) (v := (Sl.v x66)) rfl rfl rfl (fun dr => r_load1 Try.isAgg102 rfl e67) ?_
        refine s_pu (d := some 51) (v := (.pointer v1)) rfl rfl rfl (r_move rfl) ?_
        obtain ⟨p68, e69, H⟩ := H
        refine s_pu (d := some 52) (v := (.pointer (some p68))) rfl rfl rfl (r_nilCheck rfl e69) ?_
        refine s_pu (d := some 53) (v := (.pointer (some (Addr.add p68 7)))) rfl rfl rfl (r_fieldAddr Try.underlying104 Try.sizeOf42 rfl rfl rfl) ?_
        obtain ⟨x70, e71, H⟩ := H
        refine s_rd (d := some 54) (v := (.pointer x70)) rfl rfl rfl (fun dr => r_load1 Try.isAgg42 rfl e71) ?_
        refine s_pu (d := some 55) (v := (.pointer v1)) rfl rfl rfl (r_move rfl) ?_
        obtain ⟨p72, e73, H⟩ := H
        refine s_pu (d := some 56) (v := (.pointer (some p72))) rfl rfl rfl (r_nilCheck rfl e73) ?_
        refine s_pu (d := some 57) (v := (.pointer (some (Addr.add p72 6)))) rfl rfl rfl (r_fieldAddr Try.underlying104 Try.sizeOf102 rfl rfl rfl) ?_
        obtain ⟨x74, e75, H⟩ := H
        refine s_rd (d := some 58) (v := (Sl.v x74)) rfl rfl rfl (fun dr => r_load1 Try.isAgg102 rfl e75) ?_
        obtain ⟨e77, e78, e79, e80, H⟩ := H
        obtain ⟨s76, e81⟩ : ∃ t : Sl, t = ⟨sliceA x74.a (Int.toNat ((x74.cap : Int))) (Int.toNat 0) 1, Int.toNat 3 - Int.toNat 0, Int.toNat ((x74.cap : Int)) - Int.toNat 0⟩ := ⟨_, rfl⟩
        have H := H s76 e81
        refine s_pu (d := some 59) (v := (Sl.v s76)) rfl rfl rfl (fun w => (r_slice (lo := .none) (hi := (.some (.const (.int .i64 3)))) (mx := .none) Try.underlying102 Try.sizeOf98 rfl ((x74.cap : Int)) 3 0 rfl ⟨_, rfl⟩ rfl e77 e78 (.inr e79) e80 w).trans (by rw [e81]; rfl)) ?_
        refine s_pu (d := some 62) (v := (.pointer v1)) rfl rfl rfl (r_move rfl) ?_
        obtain ⟨p82, e83, H⟩ := H
        refine s_pu (d := some 63) (v := (.pointer (some p82))) rfl rfl rfl (r_nilCheck rfl e83) ?_
        refine s_pu (d := some 64) (v := (.pointer (some (Addr.add p82 6)))) rfl rfl rfl (r_fieldAddr Try.underlying104 Try.sizeOf102 rfl rfl rfl) ?_
        obtain ⟨x84, e85, H⟩ := H
        refine s_rd (d := some 65) (v := (Sl.v x84)) rfl rfl rfl (fun dr => r_load1 Try.isAgg102 rfl e85) ?_
        obtain ⟨p86, e87, e88, e89, H⟩ := H
        obtain ⟨q90, e91⟩ : ∃ q : Addr, q = Addr.add p86 (Int.toNat 3 * 1) := ⟨_, rfl⟩
        rw [← e91] at H
        refine s_pu (d := some 66) (v := (.pointer (some q90))) rfl rfl rfl (fun w => (r_indexAddr Try.underlying102 Try.sizeOf98 rfl rfl e87 e88 e89 w).trans (by rw [e91])) ?_
        obtain ⟨x92, e93, H⟩ := H
        refine s_rd (d := some 67) (v := (.pointer x92)) rfl rfl rfl (fun dr => r_load1 Try.isAgg98 rfl e93) ?_
        refine s_pu (d := some 68) (v := (.pointer t2)) rfl rfl rfl (r_move rfl) ?_
        refine s_or ?_ ?_
        · have H := H.1
          refine s_ef (d := some 60) rfl rfl rfl (fun dr => r_call Try.call59 rfl rfl H) ?_ trivial
          rintro _ h14 ⟨y94, rfl, H⟩
          obtain ⟨e95, H⟩ := H
          obtain ⟨e96, H⟩ := H
          obtain ⟨e97, H⟩ := H
          obtain ⟨e98, H⟩ := H
          refine ⟨⟨(.inl ⟨rfl, fun dr => r_load1 Try.isAgg98 rfl e95⟩), (.inl ⟨rfl, fun dr => r_load1 Try.isAgg102 rfl e96⟩), trivial, (.inl ⟨rfl, fun dr => r_load1 Try.isAgg42 rfl e97⟩), (.inl ⟨rfl, fun dr => r_load1 Try.isAgg102 rfl e98⟩), trivial⟩, ?_⟩
          refine s_or ?_ ?_
          · have H := H.1
            refine s_ef (d := some 61) rfl rfl rfl (fun dr => r_call Try.call49 rfl rfl H) ?_ trivial
            rintro _ h15 ⟨y99, rfl, H⟩
            obtain ⟨e100, H⟩ := H
            obtain ⟨e101, H⟩ := H
            obtain ⟨e102, H⟩ := H
            refine ⟨⟨(.inl ⟨rfl, fun dr => r_load1 Try.isAgg98 rfl e100⟩), (.inl ⟨rfl, fun dr => r_load1 Try.isAgg102 rfl e101⟩), trivial, trivial, (.inl ⟨rfl, fun dr => r_load1 Try.isAgg102 rfl e102⟩), trivial⟩, ?_⟩
            obtain ⟨p103, e104⟩ : ∃ p : Addr, p = ⟨h15.size, 0, none⟩ := ⟨_, rfl⟩
            obtain ⟨h16, e105⟩ : ∃ hh : Heap, hh = h15.push (.cells #[(.pointer x92), (.pointer t2)] 98) := ⟨_, rfl⟩
            have H := H p103 h16 e104 e105
            obtain ⟨e106, H⟩ := H
            obtain ⟨e107, H⟩ := H
            obtain ⟨e108, H⟩ := H
            refine s_ef1 (d := some 69) (v := (Sl.v ((⟨some p103, 2, 2⟩ : Sl)))) (h' := h16) rfl rfl rfl (fun dr => (slFHFing_102.build (cells := #[(.pointer x92), (.pointer t2)]) (by decide) rfl (by kernel_rfl)).trans (by rw [e104, e105]; rfl)) ⟨trivial, trivial, (.inl ⟨rfl, fun dr => r_load1 Try.isAgg102 rfl e106⟩), (.inl ⟨rfl, fun dr => r_load1 Try.isAgg42 rfl e107⟩), (.inl ⟨rfl, fun dr => r_load1 Try.isAgg102 rfl e108⟩), trivial⟩ ?_ trivial
            refine s_ef (d := some 70) rfl rfl rfl (fun dr => r_call Try.call57 rfl rfl H) ?_ trivial
            rintro _ h17 ⟨y109, rfl, H⟩
            refine ⟨⟨trivial, trivial, trivial, trivial, trivial, trivial⟩, ?_⟩
            refine s_pu (d := some 4) (v := (.pointer y109)) rfl rfl rfl (r_assign rfl) ?_
            refine s_fin ?_
            exact N_mk (l := [(4, (.pointer y109))]) H ⟨rfl, trivial⟩
          · have H := H.2
            obtain ⟨p110, e111⟩ : ∃ p : Addr, p = ⟨h14.size, 0, none⟩ := ⟨_, rfl⟩
            obtain ⟨h18, e112⟩ : ∃ hh : Heap, hh = h14.push (.cells #[(.pointer x92), (.pointer t2)] 98) := ⟨_, rfl⟩
            have H := H p110 h18 e111 e112
            obtain ⟨e113, H⟩ := H
            obtain ⟨e114, H⟩ := H
            obtain ⟨e115, H⟩ := H
            refine s_ef1 (d := some 69) (v := (Sl.v ((⟨some p110, 2, 2⟩ : Sl)))) (h' := h18) rfl rfl rfl (fun dr => (slFHFing_102.build (cells := #[(.pointer x92), (.pointer t2)]) (by decide) rfl (by kernel_rfl)).trans (by rw [e111, e112]; rfl)) ⟨trivial, trivial, (.inl ⟨rfl, fun dr => r_load1 Try.isAgg102 rfl e113⟩), (.inl ⟨rfl, fun dr => r_load1 Try.isAgg42 rfl e114⟩), (.inl ⟨rfl, fun dr => r_load1 Try.isAgg102 rfl e115⟩), trivial⟩ ?_ trivial
            refine s_ef (d := some 61) rfl rfl rfl (fun dr => r_call Try.call49 rfl rfl H) ?_ trivial
            rintro _ h19 ⟨y116, rfl, H⟩
            obtain ⟨e117, H⟩ := H
            obtain ⟨e118, H⟩ := H
            obtain ⟨e119, H⟩ := H
            refine ⟨⟨(.inl ⟨rfl, fun dr => r_load1 Try.isAgg98 rfl e117⟩), (.inl ⟨rfl, fun dr => r_load1 Try.isAgg102 rfl e118⟩), trivial, trivial, (.inl ⟨rfl, fun dr => r_load1 Try.isAgg102 rfl e119⟩), trivial⟩, ?_⟩
            refine s_ef (d := some 70) rfl rfl rfl (fun dr => r_call Try.call57 rfl rfl H) ?_ trivial
            rintro _ h20 ⟨y120, rfl, H⟩
            refine ⟨⟨trivial, trivial, trivial, trivial, trivial, trivial⟩, ?_⟩
            refine s_pu (d := some 4) (v := (.pointer y120)) rfl rfl rfl (r_assign rfl) ?_
            refine s_fin ?_
            exact N_mk (l := [(4, (.pointer y120))]) H ⟨rfl, trivial⟩
        · have H := H.2
          obtain ⟨p121, e122⟩ : ∃ p : Addr, p = ⟨h.size, 0, none⟩ := ⟨_, rfl⟩
          obtain ⟨h21, e123⟩ : ∃ hh : Heap, hh = h.push (.cells #[(.pointer x92), (.pointer t2)] 98) := ⟨_, rfl⟩
          have H := H p121 h21 e122 e123
          obtain ⟨e124, H⟩ := H
          obtain ⟨e125, H⟩ := H
          obtain ⟨e126, H⟩ := H
          refine s_ef1 (d := some 69) (v := (Sl.v ((⟨some p121, 2, 2⟩ : Sl)))) (h' := h21) rfl rfl rfl (fun dr => (slFHFing_102.build (cells := #[(.pointer x92), (.pointer t2)]) (by decide) rfl (by kernel_rfl)).trans (by rw [e122, e123]; rfl)) ⟨trivial, trivial, (.inl ⟨rfl, fun dr => r_load1 Try.isAgg102 rfl e124⟩), (.inl ⟨rfl, fun dr => r_load1 Try.isAgg42 rfl e125⟩), (.inl ⟨rfl, fun dr => r_load1 Try.isAgg102 rfl e126⟩), trivial⟩ ?_ trivial
          refine s_ef (d := some 60) rfl rfl rfl (fun dr => r_call Try.call59 rfl rfl H) ?_ trivial
          rintro _ h22 ⟨y127, rfl, H⟩
          obtain ⟨e128, H⟩ := H
          obtain ⟨e129, H⟩ := H
          obtain ⟨e130, H⟩ := H
          obtain ⟨e131, H⟩ := H
          refine ⟨⟨(.inl ⟨rfl, fun dr => r_load1 Try.isAgg98 rfl e128⟩), (.inl ⟨rfl, fun dr => r_load1 Try.isAgg102 rfl e129⟩), trivial, (.inl ⟨rfl, fun dr => r_load1 Try.isAgg42 rfl e130⟩), (.inl ⟨rfl, fun dr => r_load1 Try.isAgg102 rfl e131⟩), trivial⟩, ?_⟩
          refine s_ef (d := some 61) rfl rfl rfl (fun dr => r_call Try.call49 rfl rfl H) ?_ trivial
          rintro _ h23 ⟨y132, rfl, H⟩
          obtain ⟨e133, H⟩ := H
          obtain ⟨e134, H⟩ := H
          obtain ⟨e135, H⟩ := H
          refine ⟨⟨(.inl ⟨rfl, fun dr => r_load1 Try.isAgg98 rfl e133⟩), (.inl ⟨rfl, fun dr => r_load1 Try.isAgg102 rfl e134⟩), trivial, trivial, (.inl ⟨rfl, fun dr => r_load1 Try.isAgg102 rfl e135⟩), trivial⟩, ?_⟩
          refine s_ef (d := some 70) rfl rfl rfl (fun dr => r_call Try.call57 rfl rfl H) ?_ trivial
          rintro _ h24 ⟨y136, rfl, H⟩
          refine ⟨⟨trivial, trivial, trivial, trivial, trivial, trivial⟩, ?_⟩
          refine s_pu (d := some 4) (v := (.pointer y136)) rfl rfl rfl (r_assign rfl) ?_
          refine s_fin ?_
          exact N_mk (l := [(4, (.pointer y136))]) H ⟨rfl, trivial⟩

/-! ### slices_Clone_finger_thing_finger_thing -/

def slices_Clone_finger_thing_finger_thing_F (r : World) (s1 : Sl) (h : Heap) (R : Sl → Heap → Prop) : Prop :=
  Br (Option.isNone s1.a) (
    R Sl.nil h) (
    New h (.cells #[] 98) fun p2 h1 =>
    App 98 1 8 (.pointer none) ((⟨some p2, 0, 0⟩ : Sl)) s1 h1 fun s5 h2 =>
    R s5 h2)

set_option maxRecDepth 100000 in
theorem slices_Clone_finger_thing_finger_thing_of {r : World} {s1 : Sl} {h : Heap} {R : Sl → Heap → Prop} (H : slices_Clone_finger_thing_finger_thing_F r s1 h R) : slices_Clone_finger_thing_finger_thing r s1 h R := by
  unfold slices_Clone_finger_thing_finger_thing_F at H
  refine calls_of 8 [.tmp 2] Try.func58 rfl rfl rfl rfl rfl ?_
  refine W_seq ?_
  refine W_region (.pu 0 .fin) rfl rfl ?_
  refine s_pu (d := some 2) (v := (Sl.v Sl.nil)) rfl rfl rfl (r_assign rfl) ?_
  refine s_fin ?_
  show W _ _ _ _ _ _ _ _
  refine W_seq ?_
  refine W_seq ?_
  refine W_region (.pu 0 (.pu 1 .fin)) rfl rfl ?_
  refine s_pu (d := some 3) (v := (Sl.v s1)) rfl rfl rfl (r_move rfl) ?_
  refine s_pu (d := some 4) (v := (.bool (Option.isNone s1.a))) rfl rfl rfl (r_nilS Try.underlying102 rfl rfl) ?_
  refine s_fin ?_
  show W _ _ _ _ _ _ _ _
  refine W_if (Option.isNone s1.a) rfl (fun g6 => ?_) (fun g6 => ?_)
  · have H := H.1 g6
    refine W_seq ?_
    refine W_region (.pu 0 .fin) rfl rfl ?_
    refine s_pu (d := some 2) (v := (Sl.v Sl.nil)) rfl rfl rfl (r_assign rfl) ?_
    refine s_fin ?_
    show W _ _ _ _ _ _ _ _
    refine W_ret ?_
    exact ⟨[(Sl.v Sl.nil)], ⟨_, _, rfl, rfl, rfl⟩, Sl.nil, rfl, H⟩
  · have H := H.2 g6
    refine W_skip ?_
    show W _ _ _ _ _ _ _ _
    refine W_seq ?_
    refine W_region (.ef 0 [] (.pu 1 (.ef 2 [] (.pu 3 .fin) .no)) .no) rfl rfl ?_
    obtain ⟨p2, e3⟩ : ∃ p : Addr, p = ⟨h.size, 0, none⟩ := ⟨_, rfl⟩
    obtain ⟨h1, e4⟩ : ∃ hh : Heap, hh = h.push (.cells #[] 98) := ⟨_, rfl⟩
    have H := H p2 h1 e3 e4
    refine s_ef1 (d := some 5) (v := (Sl.v ((⟨some p2, 0, 0⟩ : Sl)))) (h' := h1) rfl rfl rfl (fun dr => (slFHFing_102.build0).trans (by rw [e3, e4]; rfl)) trivial ?_ trivial
    refine s_pu (d := some 6) (v := (Sl.v s1)) rfl rfl rfl (r_move rfl) ?_
    refine s_ef (d := some 7) rfl rfl rfl (fun dr => slFHFing_102.append rfl rfl H) ?_ trivial
    rintro _ h2 ⟨s5, rfl, H⟩
    refine ⟨trivial, ?_⟩
    refine s_pu (d := some 2) (v := (Sl.v s5)) rfl rfl rfl (r_assign rfl) ?_
    refine s_fin ?_
    show W _ _ _ _ _ _ _ _
    refine W_ret ?_
    exact ⟨[(Sl.v s5)], ⟨_, _, rfl, rfl, rfl⟩, s5, rfl, H⟩

/-! ### finger_some -/

def finger_some_F (r : World) (l1 : Sl) (h : Heap) (R : Option Addr → Heap → Prop) : Prop :=
  ∀ X4 : Option Addr → Int → Heap → Prop, (∀ (v2 : Option Addr) (x3 : Int) (h1 : Heap),
    (Br (decide (x3 < ((l1.len : Int)))) (
      Ix l1 x3 1 fun q9 =>
      LdP h1 q9 fun x11 =>
      finger_pushRight r v2 x11 h1 fun y13 h2 =>
      X4 y13 (w64 (x3 + 1)) h2) (
      R v2 h1)) →
    X4 v2 x3 h1) →
  X4 none 0 h

set_option maxRecDepth 100000 in
theorem finger_some_of {r : World} {l1 : Sl} {h : Heap} {R : Option Addr → Heap → Prop} (H : finger_some_F r l1 h R) : finger_some r l1 h R := by
  unfold finger_some_F at H
  refine calls_of 17 [.tmp 2] Try.func64 rfl rfl rfl rfl rfl ?_
  refine W_seq ?_
  refine W_region (.pu 0 .fin) rfl rfl ?_
  refine s_pu (d := some 2) (v := (.pointer none)) rfl rfl rfl (r_assign rfl) ?_
  refine s_fin ?_
  show W _ _ _ _ _ _ _ _
  refine W_seq ?_
  refine W_region (.pu 0 .fin) rfl rfl ?_
  refine s_pu (d := some 3) (v := (.pointer none)) rfl rfl rfl (r_assign rfl) ?_
  refine s_fin ?_
  show W _ _ _ _ _ _ _ _
  refine W_seq ?_
  refine W_seq ?_
  refine W_region (.pu 0 (.pu 1 (.pu 2 .fin))) rfl rfl ?_
  refine s_pu (d := some 6) (v := (Sl.v l1)) rfl rfl rfl (r_move rfl) ?_
  refine s_pu (d := some 7) (v := (.int .i64 ((l1.len : Int)))) rfl rfl rfl (r_len Try.underlying102 rfl) ?_
  refine s_pu (d := some 8) (v := (.int .i64 0)) rfl rfl rfl (r_move rfl) ?_
  refine s_fin ?_
  show W _ _ _ _ _ _ _ _
  refine W_block ?_
  refine W_loop (WL_mk (l := [(3, (.pointer none)), (6, (Sl.v l1)), (7, (.int .i64 ((l1.len : Int)))), (8, (.int .i64 0))]) ?_ ⟨rfl, rfl, rfl, rfl, trivial⟩)
  refine H (fun (v2 : Option Addr) (x3 : Int) (h1 : Heap) => ∀ b, WL _ _ _ _ _ _ (mkE [(3, (.pointer v2)), (6, (Sl.v l1)), (7, (.int .i64 ((l1.len : Int)))), (8, (.int .i64 x3))] b) h1) ?_
  intro v2 x3 h1 H b
  refine WL_round ?_
  refine W_seq ?_
  refine W_region (.pu 0 .fin) rfl rfl ?_
  refine s_pu (d := some 9) (v := (.bool (decide (x3 < ((l1.len : Int)))))) rfl rfl rfl (r_lss rfl rfl) ?_
  refine s_fin ?_
  show W _ _ _ _ _ _ _ _
  refine W_seq ?_
  refine W_if (decide (x3 < ((l1.len : Int)))) rfl (fun g14 => ?_) (fun g14 => ?_)
  · have H := H.1 g14
    refine W_skip ?_
    show W _ _ _ _ _ _ _ _
    refine W_seq ?_
    refine W_block ?_
    refine W_seq ?_
    refine W_region (.pu 0 (.rl 1 (.pu 2 .fin))) rfl rfl ?_
    obtain ⟨p5, e6, e7, e8, H⟩ := H
    obtain ⟨q9, e10⟩ : ∃ q : Addr, q = Addr.add p5 (Int.toNat x3 * 1) := ⟨_, rfl⟩
    rw [← e10] at H
    refine s_pu (d := some 10) (v := (.pointer (some q9))) rfl rfl rfl (fun w => (r_indexAddr Try.underlying102 Try.sizeOf98 rfl rfl e6 e7 e8 w).trans (by rw [e10])) ?_
    obtain ⟨x11, e12, H⟩ := H
    refine s_rl (d := some 11) (v := (.pointer x11)) rfl rfl rfl (fun dr => r_load1 Try.isAgg98 rfl e12) ?_
    refine s_pu (d := some 5) (v := (.pointer x11)) rfl rfl rfl (r_assign rfl) ?_
    refine s_fin ?_
    show W _ _ _ _ _ _ _ _
    refine W_region (.pu 0 (.pu 1 (.ef 2 [] (.pu 3 .fin) .no))) rfl rfl ?_
    refine s_pu (d := some 12) (v := (.pointer v2)) rfl rfl rfl (r_move rfl) ?_
    refine s_pu (d := some 13) (v := (.pointer x11)) rfl rfl rfl (r_move rfl) ?_
    refine s_ef (d := some 14) rfl rfl rfl (fun dr => r_call Try.call49 rfl rfl H) ?_ trivial
    rintro _ h2 ⟨y13, rfl, H⟩
    refine ⟨trivial, ?_⟩
    refine s_pu (d := some 3) (v := (.pointer y13)) rfl rfl rfl (r_assign rfl) ?_
    refine s_fin ?_
    show W _ _ _ _ _ _ _ _
    refine W_region (.pu 0 (.pu 1 .fin)) rfl rfl ?_
    refine s_pu (d := some 15) (v := (.int .i64 (w64 (x3 + 1)))) rfl rfl rfl (r_add rfl rfl) ?_
    refine s_pu (d := some 8) (v := (.int .i64 (w64 (x3 + 1)))) rfl rfl rfl (r_move rfl) ?_
    refine s_fin ?_
    exact WL_mk (l := [(3, (.pointer y13)), (6, (Sl.v l1)), (7, (.int .i64 ((l1.len : Int)))), (8, (.int .i64 (w64 (x3 + 1))))]) H ⟨rfl, rfl, rfl, rfl, trivial⟩
  · have H := H.2 g14
    refine W_exit (inX_here ?_)
    show W _ _ _ _ _ _ _ _
    refine W_seq ?_
    refine W_region (.pu 0 (.pu 1 .fin)) rfl rfl ?_
    refine s_pu (d := some 16) (v := (.pointer v2)) rfl rfl rfl (r_move rfl) ?_
    refine s_pu (d := some 2) (v := (.pointer v2)) rfl rfl rfl (r_assign rfl) ?_
    refine s_fin ?_
    show W _ _ _ _ _ _ _ _
    refine W_ret ?_
    exact ⟨[(.pointer v2)], ⟨_, _, rfl, rfl, rfl⟩, v2, rfl, H⟩

/-! ### finger_deepLeft -/

def finger_deepLeft_F (r : World) (l1 : Sl) (mid2 : Option Addr) (vr3 : Sl) (h : Heap) (R : Option Addr → Heap → Prop) : Prop :=
  Br (decide (0 < ((l1.len : Int)))) (
    finger_deep r l1 mid2 vr3 h fun y4 h1 =>
    R y4 h1) (
    Br (Option.isNone mid2) (
      finger_some r vr3 h fun y5 h2 =>
      R y5 h2) (
      finger_popLeft r mid2 h fun y6 y7 h3 =>
      Ck y6 fun p8 =>
      LdS h3 (Addr.add p8 6) fun x10 =>
      finger_deep r x10 y7 vr3 h3 fun y12 h4 =>
      R y12 h4))

set_option maxRecDepth 100000 in
theorem finger_deepLeft_of {r : World} {l1 : Sl} {mid2 : Option Addr} {vr3 : Sl} {h : Heap} {R : Option Addr → Heap → Prop} (H : finger_deepLeft_F r l1 mid2 vr3 h R) : finger_deepLeft r l1 mid2 vr3 h R := by
  unfold finger_deepLeft_F at H
  refine calls_of 32 [.tmp 6] Try.func65 rfl rfl rfl rfl rfl ?_
  refine W_seq ?_
  refine W_region (.pu 0 .fin) rfl rfl ?_
  refine s_pu (d := some 6) (v := (.pointer none)) rfl rfl rfl (r_assign rfl) ?_
  refine s_fin ?_
  show W _ _ _ _ _ _ _ _
  refine W_seq ?_
  refine W_seq ?_
  refine W_region (.pu 0 (.pu 1 (.pu 2 .fin))) rfl rfl ?_
  refine s_pu (d := some 9) (v := (Sl.v l1)) rfl rfl rfl (r_move rfl) ?_
  refine s_pu (d := some 10) (v := (.int .i64 ((l1.len : Int)))) rfl rfl rfl (r_len Try.underlying102 rfl) ?_
  refine s_pu (d := some 11) (v := (.bool (decide (0 < ((l1.len : Int)))))) rfl rfl rfl (r_gtr rfl rfl) ?_
  refine s_fin ?_
  show W _ _ _ _ _ _ _ _
  refine W_if (decide (0 < ((l1.len : Int)))) rfl (fun g14 => ?_) (fun g14 => ?_)
  · have H := H.1 g14
    refine W_seq ?_
    refine W_region (.pu 0 (.pu 1 (.pu 2 (.ef 3 [] (.pu 4 .fin) .no)))) rfl rfl ?_
    refine s_pu (d := some 12) (v := (Sl.v l1)) rfl rfl rfl (r_move rfl) ?_
    refine s_pu (d := some 13) (v := (.pointer mid2)) rfl rfl rfl (r_move rfl) ?_
    refine s_pu (d := some 14) (v := (Sl.v vr3)) rfl rfl rfl (r_move rfl) ?_
    refine s_ef (d := some 15) rfl rfl rfl (fun dr => r_call Try.call57 rfl rfl H) ?_ trivial
    rintro _ h1 ⟨y4, rfl, H⟩
    refine ⟨trivial, ?_⟩
    refine s_pu (d := some 6) (v := (.pointer y4)) rfl rfl rfl (r_assign rfl) ?_
    refine s_fin ?_
    show W _ _ _ _ _ _ _ _
    refine W_ret ?_
    exact ⟨[(.pointer y4)], ⟨_, _, rfl, rfl, rfl⟩, y4, rfl, H⟩
  · have H := H.2 g14
    refine W_skip ?_
    show W _ _ _ _ _ _ _ _
    refine W_seq ?_
    refine W_seq ?_
    refine W_region (.pu 0 (.pu 1 .fin)) rfl rfl ?_
    refine s_pu (d := some 16) (v := (.pointer mid2)) rfl rfl rfl (r_move rfl) ?_
    refine s_pu (d := some 17) (v := (.bool (Option.isNone mid2))) rfl rfl rfl (r_nilP Try.underlying42 rfl rfl) ?_
    refine s_fin ?_
    show W _ _ _ _ _ _ _ _
    refine W_if (Option.isNone mid2) rfl (fun g13 => ?_) (fun g13 => ?_)
    · have H := H.1 g13
      refine W_seq ?_
      refine W_region (.pu 0 (.ef 1 [] (.pu 2 .fin) .no)) rfl rfl ?_
      refine s_pu (d := some 18) (v := (Sl.v vr3)) rfl rfl rfl (r_move rfl) ?_
      refine s_ef (d := some 19) rfl rfl rfl (fun dr => r_call Try.call64 rfl rfl H) ?_ trivial
      rintro _ h2 ⟨y5, rfl, H⟩
      refine ⟨trivial, ?_⟩
      refine s_pu (d := some 6) (v := (.pointer y5)) rfl rfl rfl (r_assign rfl) ?_
      refine s_fin ?_
      show W _ _ _ _ _ _ _ _
      refine W_ret ?_
      exact ⟨[(.pointer y5)], ⟨_, _, rfl, rfl, rfl⟩, y5, rfl, H⟩
    · have H := H.2 g13
      refine W_skip ?_
      show W _ _ _ _ _ _ _ _
      refine W_seq ?_
      refine W_region (.pu 0 (.ef 1 [] (.pu 2 (.pu 3 (.pu 4 (.pu 5 (.pu 6 .fin))))) .no)) rfl rfl ?_
      refine s_pu (d := some 21) (v := (.pointer mid2)) rfl rfl rfl (r_move rfl) ?_
      refine s_ef (d := some 22) rfl rfl rfl (fun dr => r_call Try.call67 rfl rfl H) ?_ trivial
      rintro _ h3 ⟨y6, y7, rfl, H⟩
      refine ⟨trivial, ?_⟩
      refine s_pu (d := some 20) (v := (.tuple #[(.pointer y6), (.pointer y7)])) rfl rfl rfl (r_move rfl) ?_
      refine s_pu (d := some 23) (v := (.pointer y6)) rfl rfl rfl (r_extract rfl rfl) ?_
      refine s_pu (d := some 24) (v := (.pointer y7)) rfl rfl rfl (r_extract rfl rfl) ?_
      refine s_pu (d := some 7) (v := (.pointer y6)) rfl rfl rfl (r_assign rfl) ?_
      refine s_pu (d := some 8) (v := (.pointer y7)) rfl rfl rfl (r_assign rfl) ?_
      refine s_fin ?_
      show W _ _ _ _ _ _ _ _
      refine W_seq ?_
      refine W_region (.pu 0 (.pu 1 (.pu 2 (.rl 3 (.pu 4 (.pu 5 (.ef 6 [] (.pu 7 .fin) .no))))))) rfl rfl ?_
      refine s_pu (d := some 25) (v := (.pointer y6)) rfl rfl rfl (r_move rfl) ?_
      obtain ⟨p8, e9, H⟩ := H
      refine s_pu (d := some 26) (v := (.pointer (some p8))) rfl rfl rfl (r_nilCheck rfl e9) ?_
      refine s_pu (d := some 27) (v := (.pointer (some (Addr.add p8 6)))) rfl rfl rfl (r_fieldAddr Try.underlying115 Try.sizeOf102 rfl rfl rfl) ?_
      obtain ⟨x10, e11, H⟩ := H
      refine s_rl (d := some 28) (v := (Sl.v x10)) rfl rfl rfl (fun dr => r_load1 Try.isAgg102 rfl e11) ?_
      refine s_pu (d := some 29) (v := (.pointer y7)) rfl rfl rfl (r_move rfl) ?_
      refine s_pu (d := some 30) (v := (Sl.v vr3)) rfl rfl rfl (r_move rfl) ?_
      refine s_ef (d := some 31) rfl rfl rfl (fun dr => r_call Try.call57 rfl rfl H) ?_ trivial
      rintro _ h4 ⟨y12, rfl, H⟩
      refine ⟨trivial, ?_⟩
      refine s_pu (d := some 6) (v := (.pointer y12)) rfl rfl rfl (r_assign rfl) ?_
      refine s_fin ?_
      show W _ _ _ _ _ _ _ _
      refine W_ret ?_
      exact ⟨[(.pointer y12)], ⟨_, _, rfl, rfl, rfl⟩, y12, rfl, H⟩

/-! ### finger_deepRight -/

def finger_deepRight_F (r : World) (l1 : Sl) (mid2 : Option Addr) (vr3 : Sl) (h : Heap) (R : Option Addr → Heap → Prop) : Prop :=
  Br (decide (0 < ((vr3.len : Int)))) (
    finger_deep r l1 mid2 vr3 h fun y4 h1 =>
    R y4 h1) (
    Br (Option.isNone mid2) (
      finger_some r l1 h fun y5 h2 =>
      R y5 h2) (
      finger_popRight r mid2 h fun y6 y7 h3 =>
      Ck y6 fun p8 =>
      LdS h3 (Addr.add p8 6) fun x10 =>
      finger_deep r l1 y7 x10 h3 fun y12 h4 =>
      R y12 h4))

set_option maxRecDepth 100000 in
theorem finger_deepRight_of {r : World} {l1 : Sl} {mid2 : Option Addr} {vr3 : Sl} {h : Heap} {R : Option Addr → Heap → Prop} (H : finger_deepRight_F r l1 mid2 vr3 h R) : finger_deepRight r l1 mid2 vr3 h R := by
  unfold finger_deepRight_F at H
  refine calls_of 32 [.tmp 6] Try.func66 rfl rfl rfl rfl rfl ?_
  refine W_seq ?_
  refine W_region (.pu 0 .fin) rfl rfl ?_
  refine s_pu (d := some 6) (v := (.pointer none)) rfl rfl rfl (r_assign rfl) ?_
  refine s_fin ?_
  show W _ _ _ _ _ _ _ _
  refine W_seq ?_
  refine W_seq ?_
  refine W_region (.pu 0 (.pu 1 (.pu 2 .fin))) rfl rfl ?_
  refine s_pu (d := some 9) (v := (Sl.v vr3)) rfl rfl rfl (r_move rfl) ?_
  refine s_pu (d := some 10) (v := (.int .i64 ((vr3.len : Int)))) rfl rfl rfl (r_len Try.underlying102 rfl) ?_
  refine s_pu (d := some 11) (v := (.bool (decide (0 < ((vr3.len : Int)))))) rfl rfl rfl (r_gtr rfl rfl) ?_
  refine s_fin ?_
  show W _ _ _ _ _ _ _ _
  refine W_if (decide (0 < ((vr3.len : Int)))) rfl (fun g14 => ?_) (fun g14 => ?_)
  · have H := H.1 g14
    refine W_seq ?_
    refine W_region (.pu 0 (.pu 1 (.pu 2 (.ef 3 [] (.pu 4 .fin) .no)))) rfl rfl ?_
    refine s_pu (d := some 12) (v := (Sl.v l1)) rfl rfl rfl (r_move rfl) ?_
    refine s_pu (d := some 13) (v := (.pointer mid2)) rfl rfl rfl (r_move rfl) ?_
    refine s_pu (d := some 14) (v := (Sl.v vr3)) rfl rfl rfl (r_move rfl) ?_
    refine s_ef (d := some 15) rfl rfl rfl (fun dr => r_call Try.call57 rfl rfl H) ?_ trivial
    rintro _ h1 ⟨y4, rfl, H⟩
    refine ⟨trivial, ?_⟩
    refine s_pu (d := some 6) (v := (.pointer y4)) rfl rfl rfl (r_assign rfl) ?_
    refine s_fin ?_
    show W _ _ _ _ _ _ _ _
    refine W_ret ?_
    exact ⟨[(.pointer y4)], ⟨_, _, rfl, rfl, rfl⟩, y4, rfl, H⟩
  · have H := H.2 g14
    refine W_skip ?_
    show W _ _ _ _ _ _ _ _
    refine W_seq ?_
    refine W_seq ?_
    refine W_region (.pu 0 (.pu 1 .fin)) rfl rfl ?_
    refine s_pu (d := some 16) (v := (.pointer mid2)) rfl rfl rfl (r_move rfl) ?_
    refine s_pu (d := some 17) (v := (.bool (Option.isNone mid2))) rfl rfl rfl (r_nilP Try.underlying42 rfl rfl) ?_
    refine s_fin ?_
    show W _ _ _ _ _ _ _ _
    refine W_if (Option.isNone mid2) rfl (fun g13 => ?_) (fun g13 => ?_)
    · have H := H.1 g13
      refine W_seq ?_
      refine W_region (.pu 0 (.ef 1 [] (.pu 2 .fin) .no)) rfl rfl ?_
      refine s_pu (d := some 18) (v := (Sl.v l1)) rfl rfl rfl (r_move rfl) ?_
      refine s_ef (d := some 19) rfl rfl rfl (fun dr => r_call Try.call64 rfl rfl H) ?_ trivial
      rintro _ h2 ⟨y5, rfl, H⟩
      refine ⟨trivial, ?_⟩
      refine s_pu (d := some 6) (v := (.pointer y5)) rfl rfl rfl (r_assign rfl) ?_
      refine s_fin ?_
      show W _ _ _ _ _ _ _ _
      refine W_ret ?_
      exact ⟨[(.pointer y5)], ⟨_, _, rfl, rfl, rfl⟩, y5, rfl, H⟩
    · have H := H.2 g13
      refine W_skip ?_
      show W _ _ _ _ _ _ _ _
      refine W_seq ?_
      refine W_region (.pu 0 (.ef 1 [] (.pu 2 (.pu 3 (.pu 4 (.pu 5 (.pu 6 .fin))))) .no)) rfl rfl ?_
      refine s_pu (d := some 21) (v := (.pointer mid2)) rfl rfl rfl (r_move rfl) ?_
      refine s_ef (d := some 22) rfl rfl rfl (fun dr => r_call Try.call68 rfl rfl H) ?_ trivial
      rintro _ h3 ⟨y6, y7, rfl, H⟩
      refine ⟨trivial, ?_⟩
      refine s_pu (d := some 20) (v := (.tuple #[(.pointer y6), (.pointer y7)])) rfl rfl rfl (r_move rfl) ?_
      refine s_pu (d := some 23) (v := (.pointer y6)) rfl rfl rfl (r_extract rfl rfl) ?_
      refine s_pu (d := some 24) (v := (.pointer y7)) rfl rfl rfl (r_extract rfl rfl) ?_
      refine s_pu (d := some 7) (v := (.pointer y6)) rfl rfl rfl (r_assign rfl) ?_
      refine s_pu (d := some 8) (v := (.pointer y7)) rfl rfl rfl (r_assign rfl) ?_
      refine s_fin ?_
      show W _ _ _ _ _ _ _ _
      refine W_seq ?_
      refine W_region (.pu 0 (.pu 1 (.pu 2 (.pu 3 (.pu 4 (.rl 5 (.ef 6 [] (.pu 7 .fin) .no))))))) rfl rfl ?_
      refine s_pu (d := some 25) (v := (Sl.v l1)) rfl rfl rfl (r_move rfl) ?_
      refine s_pu (d := some 26) (v := (.pointer y7)) rfl rfl rfl (r_move rfl) ?_
      refine s_pu (d := some 27) (v := (.pointer y6)) rfl rfl rfl (r_move rfl) ?_
      obtain ⟨p8, e9, H⟩ := H
      refine s_pu (d := some 28) (v := (.pointer (some p8))) rfl rfl rfl (r_nilCheck rfl e9) ?_
      refine s_pu (d := some 29) (v := (.pointer (some (Addr.add p8 6)))) rfl rfl rfl (r_fieldAddr Try.underlying115 Try.sizeOf102 rfl rfl rfl) ?_
      obtain ⟨x10, e11, H⟩ := H
      refine s_rl (d := some 30) (v := (Sl.v x10)) rfl rfl rfl (fun dr => r_load1 Try.isAgg102 rfl e11) ?_
      refine s_ef (d := some 31) rfl rfl rfl (fun dr => r_call Try.call57 rfl rfl H) ?_ trivial
      rintro _ h4 ⟨y12, rfl, H⟩
      refine ⟨trivial, ?_⟩
      refine s_pu (d := some 6) (v := (.pointer y12)) rfl rfl rfl (r_assign rfl) ?_
      refine s_fin ?_
      show W _ _ _ _ _ _ _ _
      refine W_ret ?_
      exact ⟨[(.pointer y12)], ⟨_, _, rfl, rfl, rfl⟩, y12, rfl, H⟩

/-! ### finger_popLeft -/

def finger_popLeft_F (r : World) (v1 : Option Addr) (h : Heap) (R : Option Addr → Option Addr → Heap → Prop) : Prop :=
  Ck v1 fun p2 =>
  LdS h (Addr.add p2 6) fun x4 =>
  Br (Option.isNone x4.a) (
    Ck v1 fun p6 =>
    LdS h (Addr.add p6 5) fun x8 =>
    Ix x8 0 1 fun q14 =>
    LdP h q14 fun x16 =>
    R x16 none h) (
    Ck v1 fun p18 =>
    LdS h (Addr.add p18 5) fun x20 =>
    Ix x20 0 1 fun q26 =>
    LdP h q26 fun x28 =>
    Ck v1 fun p30 =>
    LdS h (Addr.add p30 5) fun x32 =>
    Sub x32 1 ((x32.len : Int)) ((x32.cap : Int)) 1 fun s34 =>
    Ck v1 fun p40 =>
    LdP h (Addr.add p40 7) fun x42 =>
    Ck v1 fun p44 =>
    LdS h (Addr.add p44 6) fun x46 =>
    finger_deepLeft r s34 x42 x46 h fun y48 h1 =>
    (hcell h1 q26 = some (.pointer x28)) ∧
    (hcell h1 (Addr.add p18 5) = some (Sl.v x20)) ∧
    R x28 y48 h1)

set_option maxRecDepth 100000 in
theorem finger_popLeft_of {r : World} {v1 : Option Addr} {h : Heap} {R : Option Addr → Option Addr → Heap → Prop} (H : finger_popLeft_F r v1 h R) : finger_popLeft r v1 h R := by
  unfold finger_popLeft_F at H
  refine calls_of 35 [.tmp 2, .tmp 3] Try.func67 rfl rfl rfl rfl rfl ?_
  refine W_seq ?_
  refine W_region (.pu 0 (.pu 1 .fin)) rfl rfl ?_
  refine s_pu (d := some 2) (v := (.pointer none)) rfl rfl rfl (r_assign rfl) ?_
  refine s_pu (d := some 3) (v := (.pointer none)) rfl rfl rfl (r_assign rfl) ?_
  refine s_fin ?_
  show W _ _ _ _ _ _ _ _
  refine W_seq ?_
  refine W_seq ?_
  refine W_region (.pu 0 (.pu 1 (.pu 2 (.rl 3 (.pu 4 .fin))))) rfl rfl ?_
  refine s_pu (d := some 4) (v := (.pointer v1)) rfl rfl rfl (r_move rfl) ?_
  obtain ⟨p2, e3, H⟩ := H
  refine s_pu (d := some 5) (v := (.pointer (some p2))) rfl rfl rfl (r_nilCheck rfl e3) ?_
  refine s_pu (d := some 6) (v := (.pointer (some (Addr.add p2 6)))) rfl rfl rfl (r_fieldAddr Try.underlying104 Try.sizeOf102 rfl rfl rfl) ?_
  obtain ⟨x4, e5, H⟩ := H
  refine s_rl (d := some 7) (v := (Sl.v x4)) rfl rfl rfl (fun dr => r_load1 Try.isAgg102 rfl e5) ?_
  refine s_pu (d := some 8) (v := (.bool (Option.isNone x4.a))) rfl rfl rfl (r_nilS Try.underlying102 rfl rfl) ?_
  refine s_fin ?_
  show W _ _ _ _ _ _ _ _
  refine W_if (Option.isNone x4.a) rfl (fun g51 => ?_) (fun g51 => ?_)
  · have H := H.1 g51
    refine W_seq ?_
    refine W_region (.pu 0 (.pu 1 (.pu 2 (.rl 3 (.pu 4 (.rl 5 (.pu 6 (.pu 7 .fin)))))))) rfl rfl ?_
    refine s_pu (d := some 9) (v := (.pointer v1)) rfl rfl rfl (r_move rfl) ?_
    obtain ⟨p6, e7, H⟩ := H
    refine s_pu (d := some 10) (v := (.pointer (some p6))) rfl rfl rfl (r_nilCheck rfl e7) ?_
    refine s_pu (d := some 11) (v := (.pointer (some (Addr.add p6 5)))) rfl rfl rfl (r_fieldAddr Try.underlying104 Try.sizeOf102 rfl rfl rfl) ?_
    obtain ⟨x8, e9, H⟩ := H
    refine s_rl (d := some 12) (v := (Sl.v x8)) rfl rfl rfl (fun dr => r_load1 Try.isAgg102 rfl e9) ?_
    obtain ⟨p10, e11, e12, e13, H⟩ := H
    obtain ⟨q14, e15⟩ : ∃ q : Addr, q = Addr.add p10 (Int.toNat 0 * 1) := ⟨_, rfl⟩
    rw [← e15] at H
    refine s_pu (d := some 13) (v := (.pointer (some q14))) rfl rfl rfl (fun w => (r_indexAddr Try.underlying102 Try.sizeOf98 rfl rfl e11 e12 e13 w).trans (by rw [e15])) ?_
    obtain ⟨x16, e17, H⟩ := H
    refine s_rl (d := some 14) (v := (.pointer x16)) rfl rfl rfl (fun dr => r_load1 Try.isAgg98 rfl e17) ?_
    refine s_pu (d := some 2) (v := (.pointer x16)) rfl rfl rfl (r_assign rfl) ?_
    refine s_pu (d := some 3) (v := (.pointer none)) rfl rfl rfl (r_assign rfl) ?_
    refine s_fin ?_
    show W _ _ _ _ _ _ _ _
    refine W_ret ?_
    exact ⟨[(.pointer x16), (.pointer none)], ⟨_, _, rfl, rfl, ⟨_, _, rfl, rfl, rfl⟩⟩, x16, none, rfl, H⟩
  · have H := H.2 g51
    refine W_skip ?_
    show W _ _ _ _ _ _ _ _
    refine W_seq ?_
    refine W_draw [0, 1, 3, 7, 15, 31, 0, 64, 192, 448, 960, 0, 2048, 6144, 14336, 0, 32768, 98304, 229376, 524224, 1048575, 2097151] (.pu 0 (.pu 1 (.pu 2 (.rd 3 (.pu 4 (.rd 5 (.pu 6 (.pu 7 (.pu 8 (.rd 9 (.pu 10 (.pu 11 (.pu 12 (.pu 13 (.rd 14 (.pu 15 (.pu 16 (.pu 17 (.rd 18 (.ef 19 [9, 14, 18] (.pu 20 (.pu 21 .fin)) .no)))))))))))))))))))) (by kernel_rfl) (by kernel_rfl) ?_
    refine s_pu (d := some 15) (v := (.pointer v1)) rfl rfl rfl (r_move rfl) ?_
    obtain ⟨p18, e19, H⟩ := H
    refine s_pu (d := some 16) (v := (.pointer (some p18))) rfl rfl rfl (r_nilCheck rfl e19) ?_
    refine s_pu (d := some 17) (v := (.pointer (some (Addr.add p18 5)))) rfl rfl rfl (r_fieldAddr Try.underlying104 Try.sizeOf102 rfl rfl rfl) ?_
    obtain ⟨x20, e21, H⟩ := H
    refine s_rd (d := some 18) (v := (Sl.v x20)) rfl rfl rfl (fun dr => r_load1 Try.isAgg102 rfl e21) ?_
    obtain ⟨p22, e23, e24, e25, H⟩ := H
    obtain ⟨q26, e27⟩ : ∃ q : Addr, q = Addr.add p22 (Int.toNat 0 * 1) := ⟨_, rfl⟩
    rw [← e27] at H
    refine s_pu (d := some 19) (v := (.pointer (some q26))) rfl rfl rfl (fun w => (r_indexAddr Try.underlying102 Try.sizeOf98 rfl rfl e23 e24 e25 w).trans (by rw [e27])) ?_
    obtain ⟨x28, e29, H⟩ := H
    refine s_rd (d := some 20) (v := (.pointer x28)) rfl rfl rfl (fun dr => r_load1 Try.isAgg98 rfl e29) ?_
    refine s_pu (d := some 21) (v := (.pointer v1)) rfl rfl rfl (r_move rfl) ?_
    obtain ⟨p30, e31, H⟩ := H
    refine s_pu (d := some 22) (v := (.pointer (some p30))) rfl rfl rfl (r_nilCheck rfl e31) ?_
    refine s_pu (d := some 23) (v := (.pointer (some (Addr.add p30 5)))) rfl rfl rfl (r_fieldAddr Try.underlying104 Try.sizeOf102 rfl rfl rfl) ?_
    obtain ⟨x32, e33, H⟩ := H
    refine s_rd (d := some 24) (v := (Sl.v x32)) rfl rfl rfl (fun dr => r_load1 Try.isAgg102 rfl e33) ?_
    obtain ⟨e35, e36, e37, e38, H⟩ := H
    obtain ⟨s34, e39⟩ : ∃ t : Sl, t = ⟨sliceA x32.a (Int.toNat ((x32.cap : Int))) (Int.toNat 1) 1, Int.toNat ((x32.len : Int)) - Int.toNat 1, Int.toNat ((x32.cap : Int)) - Int.toNat 1⟩ := ⟨_, rfl⟩
    have H := H s34 e39
    refine s_pu (d := some 25) (v := (Sl.v s34)) rfl rfl rfl (fun w => (r_slice (lo := (.some (.const (.int .i64 1)))) (hi := .none) (mx := .none) Try.underlying102 Try.sizeOf98 rfl ((x32.cap : Int)) ((x32.len : Int)) 1 rfl ⟨rfl, rfl⟩ ⟨_, rfl⟩ e35 e36 (.inl rfl) e38 w).trans (by rw [e39]; rfl)) ?_
    refine s_pu (d := some 26) (v := (.pointer v1)) rfl rfl rfl (r_move rfl) ?_
    obtain ⟨p40, e41, H⟩ := H
    refine s_pu (d := some 27) (v := (.pointer (some p40))) rfl rfl rfl (r_nilCheck rfl e41) ?_
    refine s_pu (d := some 28) (v := (.pointer (some (Addr.add p40 7)))) rfl rfl rfl (r_fieldAddr Try.underlying104 Try.sizeOf42 rfl rfl rfl) ?_
    obtain ⟨x42, e43, H⟩ := H
    refine s_rd (d := some 29) (v := (.pointer x42)) rfl rfl rfl (fun dr => r_load1 Try.isAgg42 rfl e43) ?_
    refine s_pu (d := some 30) (v := (.pointer v1)) rfl rfl rfl (r_move rfl) ?_
    obtain ⟨p44, e45, H⟩ := H
    refine s_pu (d := some 31) (v := (.pointer (some p44))) rfl rfl rfl (r_nilCheck rfl e45) ?_
    refine s_pu (d := some 32) (v := (.pointer (some (Addr.add p44 6)))) rfl rfl rfl (r_fieldAddr Try.underlying104 Try.sizeOf102 rfl rfl rfl) ?_
    obtain ⟨x46, e47, H⟩ := H
    refine s_rd (d := some 33) (v := (Sl.v x46)) rfl rfl rfl (fun dr => r_load1 Try.isAgg102 rfl e47) ?_
    refine s_ef (d := some 34) rfl rfl rfl (fun dr => r_call Try.call65 rfl rfl H) ?_ trivial
    rintro _ h1 ⟨y48, rfl, H⟩
    obtain ⟨e49, H⟩ := H
    obtain ⟨e50, H⟩ := H
    refine ⟨⟨trivial, trivial, trivial, (.inl ⟨rfl, fun dr => r_load1 Try.isAgg98 rfl e49⟩), (.inl ⟨rfl, fun dr => r_load1 Try.isAgg102 rfl e50⟩), trivial⟩, ?_⟩
    refine s_pu (d := some 2) (v := (.pointer x28)) rfl rfl rfl (r_assign rfl) ?_
    refine s_pu (d := some 3) (v := (.pointer y48)) rfl rfl rfl (r_assign rfl) ?_
    refine s_fin ?_
    show W _ _ _ _ _ _ _ _
    refine W_ret ?_
    exact ⟨[(.pointer x28), (.pointer y48)], ⟨_, _, rfl, rfl, ⟨_, _, rfl, rfl, rfl⟩⟩, x28, y48, rfl, H⟩

/-! ### finger_popRight -/

def finger_popRight_F (r : World) (v1 : Option Addr) (h : Heap) (R : Option Addr → Option Addr → Heap → Prop) : Prop :=
  Ck v1 fun p2 =>
  LdS h (Addr.add p2 6) fun x4 =>
  Br (Option.isNone x4.a) (
    Ck v1 fun p6 =>
    LdS h (Addr.add p6 5) fun x8 =>
    Ix x8 0 1 fun q14 =>
    LdP h q14 fun x16 =>
    R x16 none h) (
    Ck v1 fun p18 =>
    LdS h (Addr.add p18 6) fun x20 =>
    Ck v1 fun p22 =>
    LdS h (Addr.add p22 6) fun x24 =>
    Ix x24 (w64 (((x20.len : Int)) - 1)) 1 fun q30 =>
    LdP h q30 fun x32 =>
    Ck v1 fun p34 =>
    LdS h (Addr.add p34 5) fun x36 =>
    Ck v1 fun p38 =>
    LdP h (Addr.add p38 7) fun x40 =>
    Ck v1 fun p42 =>
    LdS h (Addr.add p42 6) fun x44 =>
    Sub x44 0 (w64 (((x20.len : Int)) - 1)) ((x44.cap : Int)) 1 fun s46 =>
    finger_deepRight r x36 x40 s46 h fun y52 h1 =>
    (hcell h1 q30 = some (.pointer x32)) ∧
    (hcell h1 (Addr.add p22 6) = some (Sl.v x24)) ∧
    R x32 y52 h1)

set_option maxRecDepth 100000 in
theorem finger_popRight_of {r : World} {v1 : Option Addr} {h : Heap} {R : Option Addr → Option Addr → Heap → Prop} (H : finger_popRight_F r v1 h R) : finger_popRight r v1 h R := by
  unfold finger_popRight_F at H
  refine calls_of 44 [.tmp 2, .tmp 3] Try.func68 rfl rfl rfl rfl rfl ?_
  refine W_seq ?_
  refine W_region (.pu 0 (.pu 1 .fin)) rfl rfl ?_
  refine s_pu (d := some 2) (v := (.pointer none)) rfl rfl rfl (r_assign rfl) ?_
  refine s_pu (d := some 3) (v := (.pointer none)) rfl rfl rfl (r_assign rfl) ?_
  refine s_fin ?_
  show W _ _ _ _ _ _ _ _
  refine W_seq ?_
  refine W_seq ?_
  refine W_region (.pu 0 (.pu 1 (.pu 2 (.rl 3 (.pu 4 .fin))))) rfl rfl ?_
  refine s_pu (d := some 5) (v := (.pointer v1)) rfl rfl rfl (r_move rfl) ?_
  obtain ⟨p2, e3, H⟩ := H
  refine s_pu (d := some 6) (v := (.pointer (some p2))) rfl rfl rfl (r_nilCheck rfl e3) ?_
  refine s_pu (d := some 7) (v := (.pointer (some (Addr.add p2 6)))) rfl rfl rfl (r_fieldAddr Try.underlying104 Try.sizeOf102 rfl rfl rfl) ?_
  obtain ⟨x4, e5, H⟩ := H
  refine s_rl (d := some 8) (v := (Sl.v x4)) rfl rfl rfl (fun dr => r_load1 Try.isAgg102 rfl e5) ?_
  refine s_pu (d := some 9) (v := (.bool (Option.isNone x4.a))) rfl rfl rfl (r_nilS Try.underlying102 rfl rfl) ?_
  refine s_fin ?_
  show W _ _ _ _ _ _ _ _
  refine W_if (Option.isNone x4.a) rfl (fun g55 => ?_) (fun g55 => ?_)
  · have H := H.1 g55
    refine W_seq ?_
    refine W_region (.pu 0 (.pu 1 (.pu 2 (.rl 3 (.pu 4 (.rl 5 (.pu 6 (.pu 7 .fin)))))))) rfl rfl ?_
    refine s_pu (d := some 10) (v := (.pointer v1)) rfl rfl rfl (r_move rfl) ?_
    obtain ⟨p6, e7, H⟩ := H
    refine s_pu (d := some 11) (v := (.pointer (some p6))) rfl rfl rfl (r_nilCheck rfl e7) ?_
    refine s_pu (d := some 12) (v := (.pointer (some (Addr.add p6 5)))) rfl rfl rfl (r_fieldAddr Try.underlying104 Try.sizeOf102 rfl rfl rfl) ?_
    obtain ⟨x8, e9, H⟩ := H
    refine s_rl (d := some 13) (v := (Sl.v x8)) rfl rfl rfl (fun dr => r_load1 Try.isAgg102 rfl e9) ?_
    obtain ⟨p10, e11, e12, e13, H⟩ := H
    obtain ⟨q14, e15⟩ : ∃ q : Addr, q = Addr.add p10 (Int.toNat 0 * 1) := ⟨_, rfl⟩
    rw [← e15] at H
    refine s_pu (d := some 14) (v := (.pointer (some q14))) rfl rfl rfl (fun w => (r_indexAddr Try.underlying102 Try.sizeOf98 rfl rfl e11 e12 e13 w).trans (by rw [e15])) ?_
    obtain ⟨x16, e17, H⟩ := H
    refine s_rl (d := some 15) (v := (.pointer x16)) rfl rfl rfl (fun dr => r_load1 Try.isAgg98 rfl e17) ?_
    refine s_pu (d := some 2) (v := (.pointer x16)) rfl rfl rfl (r_assign rfl) ?_
    refine s_pu (d := some 3) (v := (.pointer none)) rfl rfl rfl (r_assign rfl) ?_
    refine s_fin ?_
    show W _ _ _ _ _ _ _ _
    refine W_ret ?_
    exact ⟨[(.pointer x16), (.pointer none)], ⟨_, _, rfl, rfl, ⟨_, _, rfl, rfl, rfl⟩⟩, x16, none, rfl, H⟩
  · have H := H.2 g55
    refine W_skip ?_
    show W _ _ _ _ _ _ _ _
    refine W_seq ?_
    refine W_region (.pu 0 (.pu 1 (.pu 2 (.rl 3 (.pu 4 (.pu 5 (.pu 6 .fin))))))) rfl rfl ?_
    refine s_pu (d := some 16) (v := (.pointer v1)) rfl rfl rfl (r_move rfl) ?_
    obtain ⟨p18, e19, H⟩ := H
    refine s_pu (d := some 17) (v := (.pointer (some p18))) rfl rfl rfl (r_nilCheck rfl e19) ?_
    refine s_pu (d := some 18) (v := (.pointer (some (Addr.add p18 6)))) rfl rfl rfl (r_fieldAddr Try.underlying104 Try.sizeOf102 rfl rfl rfl) ?_
    obtain ⟨x20, e21, H⟩ := H
    refine s_rl (d := some 19) (v := (Sl.v x20)) rfl rfl rfl (fun dr => r_load1 Try.isAgg102 rfl e21) ?_
    refine s_pu (d := some 20) (v := (.int .i64 ((x20.len : Int)))) rfl rfl rfl (r_len Try.underlying102 rfl) ?_
    refine s_pu (d := some 21) (v := (.int .i64 (w64 (((x20.len : Int)) - 1)))) rfl rfl rfl (r_sub rfl rfl) ?_
    refine s_pu (d := some 4) (v := (.int .i64 (w64 (((x20.len : Int)) - 1)))) rfl rfl rfl (r_assign rfl) ?_
    refine s_fin ?_
    show W _ _ _ _ _ _ _ _
    refine W_seq ?_
    refine W_draw [0, 1, 3, 7, 0, 31, 63, 0, 128, 384, 896, 0, 2048, 6144, 14336, 0, 32768, 98304, 229376, 0, 1015808, 2097024, 4194303, 8388607] (.pu 0 (.pu 1 (.pu 2 (.rd 3 (.pu 4 (.pu 5 (.rd 6 (.pu 7 (.pu 8 (.pu 9 (.rd 10 (.pu 11 (.pu 12 (.pu 13 (.rd 14 (.pu 15 (.pu 16 (.pu 17 (.rd 18 (.pu 19 (.pu 20 (.ef 21 [10, 14, 18] (.pu 22 (.pu 23 .fin)) .no)))))))))))))))))))))) (by kernel_rfl) (by kernel_rfl) ?_
    refine s_pu (d := some 22) (v := (.pointer v1)) rfl rfl rfl (r_move rfl) ?_
    obtain ⟨p22, e23, H⟩ := H
    refine s_pu (d := some 23) (v := (.pointer (some p22))) rfl rfl rfl (r_nilCheck rfl e23) ?_
    refine s_pu (d := some 24) (v := (.pointer (some (Addr.add p22 6)))) rfl rfl rfl (r_fieldAddr Try.underlying104 Try.sizeOf102 rfl rfl rfl) ?_
    obtain ⟨x24, e25, H⟩ := H
    refine s_rd (d := some 25) (v := (Sl.v x24)) rfl rfl rfl (fun dr => r_load1 Try.isAgg102 rfl e25) ?_
    refine s_pu (d := some 26) (v := (.int .i64 (w64 (((x20.len : Int)) - 1)))) rfl rfl rfl (r_move rfl) ?_
    obtain ⟨p26, e27, e28, e29, H⟩ := H
    obtain ⟨q30, e31⟩ : ∃ q : Addr, q = Addr.add p26 (Int.toNat (w64 (((x20.len : Int)) - 1)) * 1) := ⟨_, rfl⟩
    rw [← e31] at H
    refine s_pu (d := some 27) (v := (.pointer (some q30))) rfl rfl rfl (fun w => (r_indexAddr Try.underlying102 Try.sizeOf98 rfl rfl e27 e28 e29 w).trans (by rw [e31])) ?_
    obtain ⟨x32, e33, H⟩ := H
    refine s_rd (d := some 28) (v := (.pointer x32)) rfl rfl rfl (fun dr => r_load1 Try.isAgg98 rfl e33) ?_
    refine s_pu (d := some 29) (v := (.pointer v1)) rfl rfl rfl (r_move rfl) ?_
    obtain ⟨p34, e35, H⟩ := H
    refine s_pu (d := some 30) (v := (.pointer (some p34))) rfl rfl rfl (r_nilCheck rfl e35) ?_
    refine s_pu (d := some 31) (v := (.pointer (some (Addr.add p34 5)))) rfl rfl rfl (r_fieldAddr Try.underlying104 Try.sizeOf102 rfl rfl rfl) ?_
    obtain ⟨x36, e37, H⟩ := H
    refine s_rd (d := some 32) (v := (Sl.v x36)) rfl rfl rfl (fun dr => r_load1 Try.isAgg102 rfl e37) ?_
    refine s_pu (d := some 33) (v := (.pointer v1)) rfl rfl rfl (r_move rfl) ?_
    obtain ⟨p38, e39, H⟩ := H
    refine s_pu (d := some 34) (v := (.pointer (some p38))) rfl rfl rfl (r_nilCheck rfl e39) ?_
    refine s_pu (d := some 35) (v := (.pointer (some (Addr.add p38 7)))) rfl rfl rfl (r_fieldAddr Try.underlying104 Try.sizeOf42 rfl rfl rfl) ?_
    obtain ⟨x40, e41, H⟩ := H
    refine s_rd (d := some 36) (v := (.pointer x40)) rfl rfl rfl (fun dr => r_load1 Try.isAgg42 rfl e41) ?_
    refine s_pu (d := some 37) (v := (.pointer v1)) rfl rfl rfl (r_move rfl) ?_
    obtain ⟨p42, e43, H⟩ := H
    refine s_pu (d := some 38) (v := (.pointer (some p42))) rfl rfl rfl (r_nilCheck rfl e43) ?_
    refine s_pu (d := some 39) (v := (.pointer (some (Addr.add p42 6)))) rfl rfl rfl (r_fieldAddr Try.underlying104 Try.sizeOf102 rfl rfl rfl) ?_
    obtain ⟨x44, e45, H⟩ := H
    refine s_rd (d := some 40) (v := (Sl.v x44)) rfl rfl rfl (fun dr => r_load1 Try.isAgg102 rfl e45) ?_
    refine s_pu (d := some 41) (v := (.int .i64 (w64 (((x20.len : Int)) - 1)))) rfl rfl rfl (r_move rfl) ?_
    obtain ⟨e47, e48, e49, e50, H⟩ := H
    obtain ⟨s46, e51⟩ : ∃ t : Sl, t = ⟨sliceA x44.a (Int.toNat ((x44.cap : Int))) (Int.toNat 0) 1, Int.toNat (w64 (((x20.len : Int)) - 1)) - Int.toNat 0, Int.toNat ((x44.cap : Int)) - Int.toNat 0⟩ := ⟨_, rfl⟩
    have H := H s46 e51
    refine s_pu (d := some 42) (v := (Sl.v s46)) rfl rfl rfl (fun w => (r_slice (lo := .none) (hi := (.some (.tmp 41))) (mx := .none) Try.underlying102 Try.sizeOf98 rfl ((x44.cap : Int)) (w64 (((x20.len : Int)) - 1)) 0 rfl ⟨_, rfl⟩ rfl e47 e48 (.inr e49) e50 w).trans (by rw [e51]; rfl)) ?_
    refine s_ef (d := some 43) rfl rfl rfl (fun dr => r_call Try.call66 rfl rfl H) ?_ trivial
    rintro _ h1 ⟨y52, rfl, H⟩
    obtain ⟨e53, H⟩ := H
    obtain ⟨e54, H⟩ := H
    refine ⟨⟨trivial, trivial, trivial, (.inl ⟨rfl, fun dr => r_load1 Try.isAgg98 rfl e53⟩), (.inl ⟨rfl, fun dr => r_load1 Try.isAgg102 rfl e54⟩), trivial⟩, ?_⟩
    refine s_pu (d := some 2) (v := (.pointer x32)) rfl rfl rfl (r_assign rfl) ?_
    refine s_pu (d := some 3) (v := (.pointer y52)) rfl rfl rfl (r_assign rfl) ?_
    refine s_fin ?_
    show W _ _ _ _ _ _ _ _
    refine W_ret ?_
    exact ⟨[(.pointer x32), (.pointer y52)], ⟨_, _, rfl, rfl, ⟨_, _, rfl, rfl, rfl⟩⟩, x32, y52, rfl, H⟩

end Go.Proofs.Ytfiemlcoliijoaa
