/- Typed words of functions, and that they hold: printed by gen.py (an own tool of this claim) off the model's own form of each function. -/
import Derived.Test.YtfiemlcoliijoaaProg
import Derived.Test.YtfiemlcoliijoaaTwMore
namespace Go.Proofs.Ytfiemlcoliijoaa
open Go Go.RowKit Go.Tw
set_option linter.unusedVariables false



/-! ### the calls -/

abbrev mono_mod (r : World) (n1 : Int) (h : Heap) (R : Int → Heap → Prop) : Prop :=
  CallsH Try.prog r 45 [(.int .i64 n1)] h fun v h' => ∃ (y2 : Int), v = (.int .i64 y2) ∧ R y2 h'

theorem mono_mod.mono {r : World} {n1 : Int} {h : Heap} {R R' : Int → Heap → Prop} (H : mono_mod r n1 h R) (hr : ∀ y2 h, R y2 h → R' y2 h) : mono_mod r n1 h R' :=
  CallsH.mono H fun _ _ hx => by
    obtain ⟨y2, hv, hR⟩ := hx
    exact ⟨y2, hv, hr _ _ hR⟩

abbrev mono_power (r : World) (n1 : Int) (h : Heap) (R : Int → Heap → Prop) : Prop :=
  CallsH Try.prog r 46 [(.int .i64 n1)] h fun v h' => ∃ (y2 : Int), v = (.int .i64 y2) ∧ R y2 h'

theorem mono_power.mono {r : World} {n1 : Int} {h : Heap} {R R' : Int → Heap → Prop} (H : mono_power r n1 h R) (hr : ∀ y2 h, R y2 h → R' y2 h) : mono_power r n1 h R' :=
  CallsH.mono H fun _ _ hx => by
    obtain ⟨y2, hv, hR⟩ := hx
    exact ⟨y2, hv, hr _ _ hR⟩

abbrev mono_None (r : World)  (h : Heap) (R : Int → Int → Int → Int → Int → Heap → Prop) : Prop :=
  CallsH Try.prog r 30 [] h fun v h' => ∃ (y1 : Int) (y2 : Int) (y3 : Int) (y4 : Int) (y5 : Int), v = (.agg #[(.int .i64 y1), (.int .i64 y2), (.int .i64 y3), (.int .i64 y4), (.int .i64 y5)]) ∧ R y1 y2 y3 y4 y5 h'

theorem mono_None.mono {r : World}  {h : Heap} {R R' : Int → Int → Int → Int → Int → Heap → Prop} (H : mono_None r  h R) (hr : ∀ y1 y2 y3 y4 y5 h, R y1 y2 y3 y4 y5 h → R' y1 y2 y3 y4 y5 h) : mono_None r  h R' :=
  CallsH.mono H fun _ _ hx => by
    obtain ⟨y1, y2, y3, y4, y5, hv, hR⟩ := hx
    exact ⟨y1, y2, y3, y4, y5, hv, hr _ _ _ _ _ _ hR⟩

abbrev mono_One (r : World) (x1 : Int) (h : Heap) (R : Int → Int → Int → Int → Int → Heap → Prop) : Prop :=
  CallsH Try.prog r 32 [(.int .i64 x1)] h fun v h' => ∃ (y2 : Int) (y3 : Int) (y4 : Int) (y5 : Int) (y6 : Int), v = (.agg #[(.int .i64 y2), (.int .i64 y3), (.int .i64 y4), (.int .i64 y5), (.int .i64 y6)]) ∧ R y2 y3 y4 y5 y6 h'

theorem mono_One.mono {r : World} {x1 : Int} {h : Heap} {R R' : Int → Int → Int → Int → Int → Heap → Prop} (H : mono_One r x1 h R) (hr : ∀ y2 y3 y4 y5 y6 h, R y2 y3 y4 y5 y6 h → R' y2 y3 y4 y5 y6 h) : mono_One r x1 h R' :=
  CallsH.mono H fun _ _ hx => by
    obtain ⟨y2, y3, y4, y5, y6, hv, hR⟩ := hx
    exact ⟨y2, y3, y4, y5, y6, hv, hr _ _ _ _ _ _ hR⟩

abbrev mono_Join (r : World) (a1 : Int) (a2 : Int) (a3 : Int) (a4 : Int) (a5 : Int) (vb6 : Int) (vb7 : Int) (vb8 : Int) (vb9 : Int) (vb10 : Int) (h : Heap) (R : Int → Int → Int → Int → Int → Heap → Prop) : Prop :=
  CallsH Try.prog r 31 [(.agg #[(.int .i64 a1), (.int .i64 a2), (.int .i64 a3), (.int .i64 a4), (.int .i64 a5)]), (.agg #[(.int .i64 vb6), (.int .i64 vb7), (.int .i64 vb8), (.int .i64 vb9), (.int .i64 vb10)])] h fun v h' => ∃ (y11 : Int) (y12 : Int) (y13 : Int) (y14 : Int) (y15 : Int), v = (.agg #[(.int .i64 y11), (.int .i64 y12), (.int .i64 y13), (.int .i64 y14), (.int .i64 y15)]) ∧ R y11 y12 y13 y14 y15 h'

theorem mono_Join.mono {r : World} {a1 : Int} {a2 : Int} {a3 : Int} {a4 : Int} {a5 : Int} {vb6 : Int} {vb7 : Int} {vb8 : Int} {vb9 : Int} {vb10 : Int} {h : Heap} {R R' : Int → Int → Int → Int → Int → Heap → Prop} (H : mono_Join r a1 a2 a3 a4 a5 vb6 vb7 vb8 vb9 vb10 h R) (hr : ∀ y11 y12 y13 y14 y15 h, R y11 y12 y13 y14 y15 h → R' y11 y12 y13 y14 y15 h) : mono_Join r a1 a2 a3 a4 a5 vb6 vb7 vb8 vb9 vb10 h R' :=
  CallsH.mono H fun _ _ hx => by
    obtain ⟨y11, y12, y13, y14, y15, hv, hR⟩ := hx
    exact ⟨y11, y12, y13, y14, y15, hv, hr _ _ _ _ _ _ hR⟩

abbrev mono_Of (r : World) (l1 : Sl) (h : Heap) (R : Int → Int → Int → Int → Int → Heap → Prop) : Prop :=
  CallsH Try.prog r 15 [(Sl.v l1)] h fun v h' => ∃ (y2 : Int) (y3 : Int) (y4 : Int) (y5 : Int) (y6 : Int), v = (.agg #[(.int .i64 y2), (.int .i64 y3), (.int .i64 y4), (.int .i64 y5), (.int .i64 y6)]) ∧ R y2 y3 y4 y5 y6 h'

theorem mono_Of.mono {r : World} {l1 : Sl} {h : Heap} {R R' : Int → Int → Int → Int → Int → Heap → Prop} (H : mono_Of r l1 h R) (hr : ∀ y2 y3 y4 y5 y6 h, R y2 y3 y4 y5 y6 h → R' y2 y3 y4 y5 y6 h) : mono_Of r l1 h R' :=
  CallsH.mono H fun _ _ hx => by
    obtain ⟨y2, y3, y4, y5, y6, hv, hR⟩ := hx
    exact ⟨y2, y3, y4, y5, y6, hv, hr _ _ _ _ _ _ hR⟩

/-! ### mono_mod -/

def mono_mod_F (r : World) (n1 : Int) (h : Heap) (R : Int → Heap → Prop) : Prop :=
  ∀ J3 : Int → Prop, (∀ (n2 : Int),
    (R n2 h) →
    J3 n2) →
  Br (decide ((Int.tmod n1 2147483647) < 0)) (
    J3 (w64 ((Int.tmod n1 2147483647) + 2147483647))) (
    J3 (Int.tmod n1 2147483647))

set_option maxRecDepth 100000 in
theorem mono_mod_of {r : World} {n1 : Int} {h : Heap} {R : Int → Heap → Prop} (H : mono_mod_F r n1 h R) : mono_mod r n1 h R := by
  unfold mono_mod_F at H
  refine calls_of 10 [.tmp 2] Try.func45 rfl rfl rfl rfl rfl ?_
  refine W_seq ?_
  refine W_region (.pu 0 .fin) rfl rfl ?_
  refine s_pu (d := some 2) (v := (.int .i64 0)) rfl rfl rfl (r_assign rfl) ?_
  refine s_fin ?_
  show W _ _ _ _ _ _ _ _
  refine W_seq ?_
  refine W_seq ?_
  refine W_region (.pu 0 (.pu 1 (.pu 2 .fin))) rfl rfl ?_
  refine s_pu (d := some 3) (v := (.int .i64 n1)) rfl rfl rfl (r_move rfl) ?_
  refine s_pu (d := some 4) (v := (.int .i64 (Int.tmod n1 2147483647))) rfl rfl rfl (r_rem rfl rfl (by decide)) ?_
  refine s_pu (d := some 0) (v := (.int .i64 (Int.tmod n1 2147483647))) rfl rfl rfl (r_assign rfl) ?_
  refine s_fin ?_
  show W _ _ _ _ _ _ _ _
  refine W_seq ?_
  refine W_region (.pu 0 (.pu 1 .fin)) rfl rfl ?_
  refine s_pu (d := some 5) (v := (.int .i64 (Int.tmod n1 2147483647))) rfl rfl rfl (r_move rfl) ?_
  refine s_pu (d := some 6) (v := (.bool (decide ((Int.tmod n1 2147483647) < 0)))) rfl rfl rfl (r_lss rfl rfl) ?_
  refine s_fin ?_
  show W _ _ _ _ _ _ _ _
  refine W_set ?_
  intro N4 eN4
  have H := H (fun (n2 : Int) => ∀ b, N4 [] (mkE [(0, (.int .i64 n2))] b) h) (by
    intro n2 H b
    rw [eN4]
    show W _ _ _ _ _ _ _ _
    refine W_seq ?_
    refine W_region (.pu 0 (.pu 1 .fin)) rfl rfl ?_
    refine s_pu (d := some 9) (v := (.int .i64 n2)) rfl rfl rfl (r_move rfl) ?_
    refine s_pu (d := some 2) (v := (.int .i64 n2)) rfl rfl rfl (r_assign rfl) ?_
    refine s_fin ?_
    show W _ _ _ _ _ _ _ _
    refine W_ret ?_
    exact ⟨[(.int .i64 n2)], ⟨_, _, rfl, rfl, rfl⟩, n2, rfl, H⟩)
  clear eN4
  refine W_if (decide ((Int.tmod n1 2147483647) < 0)) rfl (fun g5 => ?_) (fun g5 => ?_)
  · have H := H.1 g5
    refine W_region (.pu 0 (.pu 1 (.pu 2 .fin))) rfl rfl ?_
    refine s_pu (d := some 7) (v := (.int .i64 (Int.tmod n1 2147483647))) rfl rfl rfl (r_move rfl) ?_
    refine s_pu (d := some 8) (v := (.int .i64 (w64 ((Int.tmod n1 2147483647) + 2147483647)))) rfl rfl rfl (r_add rfl rfl) ?_
    refine s_pu (d := some 0) (v := (.int .i64 (w64 ((Int.tmod n1 2147483647) + 2147483647)))) rfl rfl rfl (r_assign rfl) ?_
    refine s_fin ?_
    exact N_mk (l := [(0, (.int .i64 (w64 ((Int.tmod n1 2147483647) + 2147483647))))]) H ⟨rfl, trivial⟩
  · have H := H.2 g5
    refine W_skip ?_
    exact N_mk (l := [(0, (.int .i64 (Int.tmod n1 2147483647)))]) H ⟨rfl, trivial⟩

/-! ### mono_power -/

def mono_power_F (r : World) (n1 : Int) (h : Heap) (R : Int → Heap → Prop) : Prop :=
  ∀ X5 : Int → Int → Int → Prop, (∀ (n2 : Int) (out3 : Int) (vb4 : Int),
    (Br (decide (0 < n2)) (
      ∀ J7 : Int → Prop, (∀ (out6 : Int),
        (X5 (sShr .i64 n2 1) out6 (Int.tmod (w64 (vb4 * vb4)) 2147483647)) →
        J7 out6) →
      Br (decide (0 < (bAnd .i64 n2 1))) (
        J7 (Int.tmod (w64 (out3 * vb4)) 2147483647)) (
        J7 out3)) (
      R out3 h)) →
    X5 n2 out3 vb4) →
  X5 n1 1 131

set_option maxRecDepth 100000 in
theorem mono_power_of {r : World} {n1 : Int} {h : Heap} {R : Int → Heap → Prop} (H : mono_power_F r n1 h R) : mono_power r n1 h R := by
  unfold mono_power_F at H
  refine calls_of 21 [.tmp 2] Try.func46 rfl rfl rfl rfl rfl ?_
  refine W_seq ?_
  refine W_region (.pu 0 .fin) rfl rfl ?_
  refine s_pu (d := some 2) (v := (.int .i64 0)) rfl rfl rfl (r_assign rfl) ?_
  refine s_fin ?_
  show W _ _ _ _ _ _ _ _
  refine W_seq ?_
  refine W_region (.pu 0 (.pu 1 .fin)) rfl rfl ?_
  refine s_pu (d := some 3) (v := (.int .i64 1)) rfl rfl rfl (r_assign rfl) ?_
  refine s_pu (d := some 4) (v := (.int .i64 131)) rfl rfl rfl (r_assign rfl) ?_
  refine s_fin ?_
  show W _ _ _ _ _ _ _ _
  refine W_seq ?_
  refine W_block ?_
  refine W_loop (WL_mk (l := [(0, (.int .i64 n1)), (3, (.int .i64 1)), (4, (.int .i64 131))]) ?_ ⟨rfl, rfl, rfl, trivial⟩)
  refine H (fun (n2 : Int) (out3 : Int) (vb4 : Int) => ∀ b, WL _ _ _ _ _ _ (mkE [(0, (.int .i64 n2)), (3, (.int .i64 out3)), (4, (.int .i64 vb4))] b) h) ?_
  intro n2 out3 vb4 H b
  refine WL_round ?_
  refine W_seq ?_
  refine W_seq ?_
  refine W_region (.pu 0 (.pu 1 .fin)) rfl rfl ?_
  refine s_pu (d := some 5) (v := (.int .i64 n2)) rfl rfl rfl (r_move rfl) ?_
  refine s_pu (d := some 6) (v := (.bool (decide (0 < n2)))) rfl rfl rfl (r_gtr rfl rfl) ?_
  refine s_fin ?_
  show W _ _ _ _ _ _ _ _
  refine W_if (decide (0 < n2)) rfl (fun g10 => ?_) (fun g10 => ?_)
  · have H := H.1 g10
    refine W_skip ?_
    show W _ _ _ _ _ _ _ _
    refine W_seq ?_
    refine W_block ?_
    refine W_seq ?_
    refine W_seq ?_
    refine W_region (.pu 0 (.pu 1 (.pu 2 .fin))) rfl rfl ?_
    refine s_pu (d := some 9) (v := (.int .i64 n2)) rfl rfl rfl (r_move rfl) ?_
    refine s_pu (d := some 10) (v := (.int .i64 (bAnd .i64 n2 1))) rfl rfl rfl (r_and rfl rfl) ?_
    refine s_pu (d := some 11) (v := (.bool (decide (0 < (bAnd .i64 n2 1))))) rfl rfl rfl (r_gtr rfl rfl) ?_
    refine s_fin ?_
    show W _ _ _ _ _ _ _ _
    refine W_set ?_
    intro N8 eN8
    have H := H (fun (out6 : Int) => ∀ b, N8 [] (mkE [(0, (.int .i64 n2)), (3, (.int .i64 out6)), (4, (.int .i64 vb4))] b) h) (by
      intro out6 H b
      rw [eN8]
      show W _ _ _ _ _ _ _ _
      refine W_region (.pu 0 (.pu 1 (.pu 2 (.pu 3 (.pu 4 .fin))))) rfl rfl ?_
      refine s_pu (d := some 16) (v := (.int .i64 vb4)) rfl rfl rfl (r_move rfl) ?_
      refine s_pu (d := some 17) (v := (.int .i64 vb4)) rfl rfl rfl (r_move rfl) ?_
      refine s_pu (d := some 18) (v := (.int .i64 (w64 (vb4 * vb4)))) rfl rfl rfl (r_mul rfl rfl) ?_
      refine s_pu (d := some 19) (v := (.int .i64 (Int.tmod (w64 (vb4 * vb4)) 2147483647))) rfl rfl rfl (r_rem rfl rfl (by decide)) ?_
      refine s_pu (d := some 4) (v := (.int .i64 (Int.tmod (w64 (vb4 * vb4)) 2147483647))) rfl rfl rfl (r_assign rfl) ?_
      refine s_fin ?_
      show W _ _ _ _ _ _ _ _
      refine W_region (.pu 0 (.pu 1 (.pu 2 .fin))) rfl rfl ?_
      refine s_pu (d := some 7) (v := (.int .i64 n2)) rfl rfl rfl (r_move rfl) ?_
      refine s_pu (d := some 8) (v := (.int .i64 (sShr .i64 n2 1))) rfl rfl rfl (r_shr rfl rfl (by decide)) ?_
      refine s_pu (d := some 0) (v := (.int .i64 (sShr .i64 n2 1))) rfl rfl rfl (r_assign rfl) ?_
      refine s_fin ?_
      exact WL_mk (l := [(0, (.int .i64 (sShr .i64 n2 1))), (3, (.int .i64 out6)), (4, (.int .i64 (Int.tmod (w64 (vb4 * vb4)) 2147483647)))]) H ⟨rfl, rfl, rfl, trivial⟩)
    clear eN8
    refine W_if (decide (0 < (bAnd .i64 n2 1))) rfl (fun g9 => ?_) (fun g9 => ?_)
    · have H := H.1 g9
      refine W_region (.pu 0 (.pu 1 (.pu 2 (.pu 3 (.pu 4 .fin))))) rfl rfl ?_
      refine s_pu (d := some 12) (v := (.int .i64 out3)) rfl rfl rfl (r_move rfl) ?_
      refine s_pu (d := some 13) (v := (.int .i64 vb4)) rfl rfl rfl (r_move rfl) ?_
      refine s_pu (d := some 14) (v := (.int .i64 (w64 (out3 * vb4)))) rfl rfl rfl (r_mul rfl rfl) ?_
      refine s_pu (d := some 15) (v := (.int .i64 (Int.tmod (w64 (out3 * vb4)) 2147483647))) rfl rfl rfl (r_rem rfl rfl (by decide)) ?_
      refine s_pu (d := some 3) (v := (.int .i64 (Int.tmod (w64 (out3 * vb4)) 2147483647))) rfl rfl rfl (r_assign rfl) ?_
      refine s_fin ?_
      exact N_mk (l := [(0, (.int .i64 n2)), (3, (.int .i64 (Int.tmod (w64 (out3 * vb4)) 2147483647))), (4, (.int .i64 vb4))]) H ⟨rfl, rfl, rfl, trivial⟩
    · have H := H.2 g9
      refine W_skip ?_
      exact N_mk (l := [(0, (.int .i64 n2)), (3, (.int .i64 out3)), (4, (.int .i64 vb4))]) H ⟨rfl, rfl, rfl, trivial⟩
  · have H := H.2 g10
    refine W_exit (inX_here ?_)
    show W _ _ _ _ _ _ _ _
    refine W_seq ?_
    refine W_region (.pu 0 (.pu 1 .fin)) rfl rfl ?_
    refine s_pu (d := some 20) (v := (.int .i64 out3)) rfl rfl rfl (r_move rfl) ?_
    refine s_pu (d := some 2) (v := (.int .i64 out3)) rfl rfl rfl (r_assign rfl) ?_
    refine s_fin ?_
    show W _ _ _ _ _ _ _ _
    refine W_ret ?_
    exact ⟨[(.int .i64 out3)], ⟨_, _, rfl, rfl, rfl⟩, out3, rfl, H⟩

/-! ### mono_None -/

def mono_None_F (r : World)  (h : Heap) (R : Int → Int → Int → Int → Int → Heap → Prop) : Prop :=
  New h (.cells #[(.int .i64 0), (.int .i64 0), (.int .i64 0), (.int .i64 0), (.int .i64 0)] 40) fun p1 h1 =>
  St h1 p1 5 [(.int .i64 0), (.int .i64 0), (.int .i64 9223372036854775807), (.int .i64 ((-9223372036854775808))), (.int .i64 0)] fun h2 =>
  LdI h2 (Addr.add p1 0) fun x6 =>
  LdI h2 (Addr.add p1 1) fun x8 =>
  LdI h2 (Addr.add p1 2) fun x10 =>
  LdI h2 (Addr.add p1 3) fun x12 =>
  LdI h2 (Addr.add p1 4) fun x14 =>
  R x6 x8 x10 x12 x14 h2

set_option maxRecDepth 100000 in
theorem mono_None_of {r : World}  {h : Heap} {R : Int → Int → Int → Int → Int → Heap → Prop} (H : mono_None_F r  h R) : mono_None r  h R := by
  unfold mono_None_F at H
  refine calls_of 2 [.cell 0 40] Try.func30 rfl rfl rfl rfl rfl ?_
  refine W_seq ?_
  refine W_region (.ef 0 [] .fin .no) rfl rfl ?_
  obtain ⟨p1, e2⟩ : ∃ p : Addr, p = ⟨h.size, 0, none⟩ := ⟨_, rfl⟩
  obtain ⟨h1, e3⟩ : ∃ hh : Heap, hh = h.push (.cells #[(.int .i64 0), (.int .i64 0), (.int .i64 0), (.int .i64 0), (.int .i64 0)] 40) := ⟨_, rfl⟩
  have H := H p1 h1 e2 e3
  refine s_ef1 (d := some 0) (v := (.pointer (some p1))) (h' := h1) rfl rfl rfl (fun dr => (r_alloc Try.zeroValue40).trans (by rw [e2, e3]; rfl)) trivial ?_ trivial
  refine s_fin ?_
  show W _ _ _ _ _ _ _ _
  refine W_seq ?_
  refine W_region (.pu 0 (.ef 1 [] .fin .no)) rfl rfl ?_
  refine s_pu (d := some 1) (v := (.agg #[(.int .i64 0), (.int .i64 0), (.int .i64 9223372036854775807), (.int .i64 ((-9223372036854775808))), (.int .i64 0)])) rfl rfl rfl (fun w => by kernel_rfl) ?_
  obtain ⟨e5, H⟩ := H
  obtain ⟨h2, e4⟩ : ∃ hh : Heap, hh = hsets h1 p1 0 [(.int .i64 0), (.int .i64 0), (.int .i64 9223372036854775807), (.int .i64 ((-9223372036854775808))), (.int .i64 0)] := ⟨_, rfl⟩
  have H := H h2 e4
  refine s_st (d := none) (h' := h2) rfl rfl rfl (fun dr => (r_store (v := (.agg #[(.int .i64 0), (.int .i64 0), (.int .i64 9223372036854775807), (.int .i64 ((-9223372036854775808))), (.int .i64 0)])) Try.sizeOf40 rfl rfl rfl (one_all rfl) e5).trans (by rw [e4]; rfl)) trivial ?_ trivial
  refine s_fin ?_
  show W _ _ _ _ _ _ _ _
  refine W_ret ?_
  obtain ⟨x6, e7, H⟩ := H
  obtain ⟨x8, e9, H⟩ := H
  obtain ⟨x10, e11, H⟩ := H
  obtain ⟨x12, e13, H⟩ := H
  obtain ⟨x14, e15, H⟩ := H
  exact ⟨[(.agg #[(.int .i64 x6), (.int .i64 x8), (.int .i64 x10), (.int .i64 x12), (.int .i64 x14)])], ⟨_, _, _, rfl, rfl, fun dr => run_loadVarN Try.isAgg40 Try.sizeOf40 (vs := [(.int .i64 x6), (.int .i64 x8), (.int .i64 x10), (.int .i64 x12), (.int .i64 x14)]) rfl ⟨e7, e9, e11, e13, e15, trivial⟩, rfl⟩, x6, x8, x10, x12, x14, rfl, H⟩

/-! ### mono_One -/

def mono_One_F (r : World) (x1 : Int) (h : Heap) (R : Int → Int → Int → Int → Int → Heap → Prop) : Prop :=
  New h (.cells #[(.int .i64 0), (.int .i64 0), (.int .i64 0), (.int .i64 0), (.int .i64 0)] 40) fun p2 h1 =>
  mono_mod r x1 h1 fun y5 h2 =>
  mono_mod r (w64 (y5 + 1)) h2 fun y6 h3 =>
  St h3 p2 5 [(.int .i64 1), (.int .i64 x1), (.int .i64 x1), (.int .i64 x1), (.int .i64 y6)] fun h4 =>
  LdI h4 (Addr.add p2 0) fun x9 =>
  LdI h4 (Addr.add p2 1) fun x11 =>
  LdI h4 (Addr.add p2 2) fun x13 =>
  LdI h4 (Addr.add p2 3) fun x15 =>
  LdI h4 (Addr.add p2 4) fun x17 =>
  R x9 x11 x13 x15 x17 h4

set_option maxRecDepth 100000 in
theorem mono_One_of {r : World} {x1 : Int} {h : Heap} {R : Int → Int → Int → Int → Int → Heap → Prop} (H : mono_One_F r x1 h R) : mono_One r x1 h R := by
  unfold mono_One_F at H
  refine calls_of 11 [.cell 2 40] Try.func32 rfl rfl rfl rfl rfl ?_
  refine W_seq ?_
  refine W_region (.ef 0 [] .fin .no) rfl rfl ?_
  obtain ⟨p2, e3⟩ : ∃ p : Addr, p = ⟨h.size, 0, none⟩ := ⟨_, rfl⟩
  obtain ⟨h1, e4⟩ : ∃ hh : Heap, hh = h.push (.cells #[(.int .i64 0), (.int .i64 0), (.int .i64 0), (.int .i64 0), (.int .i64 0)] 40) := ⟨_, rfl⟩
  have H := H p2 h1 e3 e4
  refine s_ef1 (d := some 2) (v := (.pointer (some p2))) (h' := h1) rfl rfl rfl (fun dr => (r_alloc Try.zeroValue40).trans (by rw [e3, e4]; rfl)) trivial ?_ trivial
  refine s_fin ?_
  show W _ _ _ _ _ _ _ _
  refine W_seq ?_
  refine W_region (.pu 0 (.pu 1 (.pu 2 (.pu 3 (.ef 4 [] (.pu 5 (.ef 6 [] (.pu 7 (.ef 8 [] .fin .no)) .no)) .no))))) rfl rfl ?_
  refine s_pu (d := some 3) (v := (.int .i64 x1)) rfl rfl rfl (r_move rfl) ?_
  refine s_pu (d := some 4) (v := (.int .i64 x1)) rfl rfl rfl (r_move rfl) ?_
  refine s_pu (d := some 5) (v := (.int .i64 x1)) rfl rfl rfl (r_move rfl) ?_
  refine s_pu (d := some 6) (v := (.int .i64 x1)) rfl rfl rfl (r_move rfl) ?_
  refine s_ef (d := some 7) rfl rfl rfl (fun dr => r_call Try.call45 rfl rfl H) ?_ trivial
  rintro _ h2 ⟨y5, rfl, H⟩
  refine ⟨trivial, ?_⟩
  refine s_pu (d := some 8) (v := (.int .i64 (w64 (y5 + 1)))) rfl rfl rfl (r_add rfl rfl) ?_
  refine s_ef (d := some 9) rfl rfl rfl (fun dr => r_call Try.call45 rfl rfl H) ?_ trivial
  rintro _ h3 ⟨y6, rfl, H⟩
  refine ⟨trivial, ?_⟩
  refine s_pu (d := some 10) (v := (.agg #[(.int .i64 1), (.int .i64 x1), (.int .i64 x1), (.int .i64 x1), (.int .i64 y6)])) rfl rfl rfl (fun w => by kernel_rfl) ?_
  obtain ⟨e8, H⟩ := H
  obtain ⟨h4, e7⟩ : ∃ hh : Heap, hh = hsets h3 p2 0 [(.int .i64 1), (.int .i64 x1), (.int .i64 x1), (.int .i64 x1), (.int .i64 y6)] := ⟨_, rfl⟩
  have H := H h4 e7
  refine s_st (d := none) (h' := h4) rfl rfl rfl (fun dr => (r_store (v := (.agg #[(.int .i64 1), (.int .i64 x1), (.int .i64 x1), (.int .i64 x1), (.int .i64 y6)])) Try.sizeOf40 rfl rfl rfl (one_all rfl) e8).trans (by rw [e7]; rfl)) trivial ?_ trivial
  refine s_fin ?_
  show W _ _ _ _ _ _ _ _
  refine W_ret ?_
  obtain ⟨x9, e10, H⟩ := H
  obtain ⟨x11, e12, H⟩ := H
  obtain ⟨x13, e14, H⟩ := H
  obtain ⟨x15, e16, H⟩ := H
  obtain ⟨x17, e18, H⟩ := H
  exact ⟨[(.agg #[(.int .i64 x9), (.int .i64 x11), (.int .i64 x13), (.int .i64 x15), (.int .i64 x17)])], ⟨_, _, _, rfl, rfl, fun dr => run_loadVarN Try.isAgg40 Try.sizeOf40 (vs := [(.int .i64 x9), (.int .i64 x11), (.int .i64 x13), (.int .i64 x15), (.int .i64 x17)]) rfl ⟨e10, e12, e14, e16, e18, trivial⟩, rfl⟩, x9, x11, x13, x15, x17, rfl, H⟩

/-! ### mono_Join -/

def mono_Join_F (r : World) (a1 : Int) (a2 : Int) (a3 : Int) (a4 : Int) (a5 : Int) (vb6 : Int) (vb7 : Int) (vb8 : Int) (vb9 : Int) (vb10 : Int) (h : Heap) (R : Int → Int → Int → Int → Int → Heap → Prop) : Prop :=
  New h (.cells #[(.int .i64 a1), (.int .i64 a2), (.int .i64 a3), (.int .i64 a4), (.int .i64 a5)] 40) fun p11 h1 =>
  New h1 (.cells #[(.int .i64 vb6), (.int .i64 vb7), (.int .i64 vb8), (.int .i64 vb9), (.int .i64 vb10)] 40) fun p14 h2 =>
  New h2 (.cells #[(.int .i64 0), (.int .i64 0), (.int .i64 0), (.int .i64 0), (.int .i64 0)] 40) fun p17 h3 =>
  LdI h3 (Addr.add p11 0) fun x20 =>
  LdI h3 (Addr.add p14 0) fun x22 =>
  LdI h3 (Addr.add p11 1) fun x24 =>
  LdI h3 (Addr.add p14 1) fun x26 =>
  LdI h3 (Addr.add p11 2) fun x28 =>
  LdI h3 (Addr.add p14 2) fun x30 =>
  LdI h3 (Addr.add p11 3) fun x32 =>
  LdI h3 (Addr.add p14 3) fun x34 =>
  LdI h3 (Addr.add p11 4) fun x36 =>
  LdI h3 (Addr.add p14 0) fun x38 =>
  LdI h3 (Addr.add p14 4) fun x40 =>
  mono_mod r x36 h3 fun y42 h4 =>
  (hcell h4 (Addr.add p14 4) = some (.int .i64 x40)) ∧
  (hcell h4 (Addr.add p14 0) = some (.int .i64 x38)) ∧
  (hcell h4 (Addr.add p14 3) = some (.int .i64 x34)) ∧
  (hcell h4 (Addr.add p11 3) = some (.int .i64 x32)) ∧
  (hcell h4 (Addr.add p14 2) = some (.int .i64 x30)) ∧
  (hcell h4 (Addr.add p11 2) = some (.int .i64 x28)) ∧
  (hcell h4 (Addr.add p14 1) = some (.int .i64 x26)) ∧
  (hcell h4 (Addr.add p11 1) = some (.int .i64 x24)) ∧
  (hcell h4 (Addr.add p14 0) = some (.int .i64 x22)) ∧
  (hcell h4 (Addr.add p11 0) = some (.int .i64 x20)) ∧
  mono_power r x38 h4 fun y53 h5 =>
  (hcell h5 (Addr.add p14 4) = some (.int .i64 x40)) ∧
  (hcell h5 (Addr.add p14 3) = some (.int .i64 x34)) ∧
  (hcell h5 (Addr.add p11 3) = some (.int .i64 x32)) ∧
  (hcell h5 (Addr.add p14 2) = some (.int .i64 x30)) ∧
  (hcell h5 (Addr.add p11 2) = some (.int .i64 x28)) ∧
  (hcell h5 (Addr.add p14 1) = some (.int .i64 x26)) ∧
  (hcell h5 (Addr.add p11 1) = some (.int .i64 x24)) ∧
  (hcell h5 (Addr.add p14 0) = some (.int .i64 x22)) ∧
  (hcell h5 (Addr.add p11 0) = some (.int .i64 x20)) ∧
  mono_mod r x40 h5 fun y63 h6 =>
  (hcell h6 (Addr.add p14 3) = some (.int .i64 x34)) ∧
  (hcell h6 (Addr.add p11 3) = some (.int .i64 x32)) ∧
  (hcell h6 (Addr.add p14 2) = some (.int .i64 x30)) ∧
  (hcell h6 (Addr.add p11 2) = some (.int .i64 x28)) ∧
  (hcell h6 (Addr.add p14 1) = some (.int .i64 x26)) ∧
  (hcell h6 (Addr.add p11 1) = some (.int .i64 x24)) ∧
  (hcell h6 (Addr.add p14 0) = some (.int .i64 x22)) ∧
  (hcell h6 (Addr.add p11 0) = some (.int .i64 x20)) ∧
  St h6 p17 5 [(.int .i64 (w64 (x20 + x22))), (.int .i64 (w64 (x24 + x26))), (.int .i64 (min x28 x30)), (.int .i64 (max x32 x34)), (.int .i64 (Int.tmod (w64 ((w64 (y42 * y53)) + y63)) 2147483647))] fun h7 =>
  LdI h7 (Addr.add p17 0) fun x74 =>
  LdI h7 (Addr.add p17 1) fun x76 =>
  LdI h7 (Addr.add p17 2) fun x78 =>
  LdI h7 (Addr.add p17 3) fun x80 =>
  LdI h7 (Addr.add p17 4) fun x82 =>
  R x74 x76 x78 x80 x82 h7

set_option maxRecDepth 100000 in
theorem mono_Join_of {r : World} {a1 : Int} {a2 : Int} {a3 : Int} {a4 : Int} {a5 : Int} {vb6 : Int} {vb7 : Int} {vb8 : Int} {vb9 : Int} {vb10 : Int} {h : Heap} {R : Int → Int → Int → Int → Int → Heap → Prop} (H : mono_Join_F r a1 a2 a3 a4 a5 vb6 vb7 vb8 vb9 vb10 h R) : mono_Join r a1 a2 a3 a4 a5 vb6 vb7 vb8 vb9 vb10 h R := by
  unfold mono_Join_F at H
  refine calls_of 38 [.cell 4 40] Try.func31 rfl rfl rfl rfl rfl ?_
  refine W_seq ?_
  refine W_region (.ef 0 [] (.ef 1 [] (.ef 2 [] .fin .no) .no) .no) rfl rfl ?_
  obtain ⟨p11, e12⟩ : ∃ p : Addr, p = ⟨h.size, 0, none⟩ := ⟨_, rfl⟩
  obtain ⟨h1, e13⟩ : ∃ hh : Heap, hh = h.push (.cells #[(.int .i64 a1), (.int .i64 a2), (.int .i64 a3), (.int .i64 a4), (.int .i64 a5)] 40) := ⟨_, rfl⟩
  have H := H p11 h1 e12 e13
  refine s_ef1 (d := some 2) (v := (.pointer (some p11))) (h' := h1) rfl rfl rfl (fun dr => (r_box (v := (.agg #[(.int .i64 a1), (.int .i64 a2), (.int .i64 a3), (.int .i64 a4), (.int .i64 a5)])) rfl).trans (by rw [e12, e13]; rfl)) trivial ?_ trivial
  obtain ⟨p14, e15⟩ : ∃ p : Addr, p = ⟨h1.size, 0, none⟩ := ⟨_, rfl⟩
  obtain ⟨h2, e16⟩ : ∃ hh : Heap, hh = h1.push (.cells #[(.int .i64 vb6), (.int .i64 vb7), (.int .i64 vb8), (.int .i64 vb9), (.int .i64 vb10)] 40) := ⟨_, rfl⟩
  have H := H p14 h2 e15 e16
  refine s_ef1 (d := some 3) (v := (.pointer (some p14))) (h' := h2) rfl rfl rfl (fun dr => (r_box (v := (.agg #[(.int .i64 vb6), (.int .i64 vb7), (.int .i64 vb8), (.int .i64 vb9), (.int .i64 vb10)])) rfl).trans (by rw [e15, e16]; rfl)) trivial ?_ trivial
  obtain ⟨p17, e18⟩ : ∃ p : Addr, p = ⟨h2.size, 0, none⟩ := ⟨_, rfl⟩
  obtain ⟨h3, e19⟩ : ∃ hh : Heap, hh = h2.push (.cells #[(.int .i64 0), (.int .i64 0), (.int .i64 0), (.int .i64 0), (.int .i64 0)] 40) := ⟨_, rfl⟩
  have H := H p17 h3 e18 e19
  refine s_ef1 (d := some 4) (v := (.pointer (some p17))) (h' := h3) rfl rfl rfl (fun dr => (r_alloc Try.zeroValue40).trans (by rw [e18, e19]; rfl)) trivial ?_ trivial
  refine s_fin ?_
  show W _ _ _ _ _ _ _ _
  refine W_seq ?_
  refine W_draw [0, 1, 0, 4, 15, 0, 32, 0, 128, 480, 0, 1024, 0, 4096, 15360, 0, 32768, 0, 131072, 491520, 0, 1048576, 3145728, 0, 8388608, 32505856, 66060288, 0, 134217728, 468713472, 1072693248, 2146435072, 4294967295, 8589934591] (.pu 0 (.rd 1 (.pu 2 (.rd 3 (.pu 4 (.pu 5 (.rd 6 (.pu 7 (.rd 8 (.pu 9 (.pu 10 (.rd 11 (.pu 12 (.rd 13 (.pu 14 (.pu 15 (.rd 16 (.pu 17 (.rd 18 (.pu 19 (.pu 20 (.rd 21 (.pu 23 (.rd 24 (.pu 27 (.rd 28 (.ef 22 [21] (.ef 25 [21, 24] (.pu 26 (.ef 29 [21, 24, 28] (.pu 30 (.pu 31 (.pu 32 (.ef 33 [1, 3, 6, 8, 11, 13, 16, 18, 21, 24, 28] .fin .no)))) .no)) .no) .no))))))))))))))))))))))))))) (by kernel_rfl) (by kernel_rfl) ?_
  refine s_pu (d := some 5) (v := (.pointer (some (Addr.add p11 0)))) rfl rfl rfl (r_fieldAddr Try.underlying40 Try.sizeOf3 rfl rfl rfl) ?_
  obtain ⟨x20, e21, H⟩ := H
  refine s_rd (d := some 6) (v := (.int .i64 x20)) rfl rfl rfl (fun dr => r_load1 Try.isAgg3 rfl e21) ?_
  refine s_pu (d := some 7) (v := (.pointer (some (Addr.add p14 0)))) rfl rfl rfl (r_fieldAddr Try.underlying40 Try.sizeOf3 rfl rfl rfl) ?_
  obtain ⟨x22, e23, H⟩ := H
  refine s_rd (d := some 8) (v := (.int .i64 x22)) rfl rfl rfl (fun dr => r_load1 Try.isAgg3 rfl e23) ?_
  refine s_pu (d := some 9) (v := (.int .i64 (w64 (x20 + x22)))) rfl rfl rfl (r_add rfl rfl) ?_
  refine s_pu (d := some 10) (v := (.pointer (some (Addr.add p11 1)))) rfl rfl rfl (r_fieldAddr Try.underlying40 Try.sizeOf3 rfl rfl rfl) ?_
  obtain ⟨x24, e25, H⟩ := H
  refine s_rd (d := some 11) (v := (.int .i64 x24)) rfl rfl rfl (fun dr => r_load1 Try.isAgg3 rfl e25) ?_
  refine s_pu (d := some 12) (v := (.pointer (some (Addr.add p14 1)))) rfl rfl rfl (r_fieldAddr Try.underlying40 Try.sizeOf3 rfl rfl rfl) ?_
  obtain ⟨x26, e27, H⟩ := H
  refine s_rd (d := some 13) (v := (.int .i64 x26)) rfl rfl rfl (fun dr => r_load1 Try.isAgg3 rfl e27) ?_
  refine s_pu (d := some 14) (v := (.int .i64 (w64 (x24 + x26)))) rfl rfl rfl (r_add rfl rfl) ?_
  refine s_pu (d := some 15) (v := (.pointer (some (Addr.add p11 2)))) rfl rfl rfl (r_fieldAddr Try.underlying40 Try.sizeOf3 rfl rfl rfl) ?_
  obtain ⟨x28, e29, H⟩ := H
  refine s_rd (d := some 16) (v := (.int .i64 x28)) rfl rfl rfl (fun dr => r_load1 Try.isAgg3 rfl e29) ?_
  refine s_pu (d := some 17) (v := (.pointer (some (Addr.add p14 2)))) rfl rfl rfl (r_fieldAddr Try.underlying40 Try.sizeOf3 rfl rfl rfl) ?_
  obtain ⟨x30, e31, H⟩ := H
  refine s_rd (d := some 18) (v := (.int .i64 x30)) rfl rfl rfl (fun dr => r_load1 Try.isAgg3 rfl e31) ?_
  refine s_pu (d := some 19) (v := (.int .i64 (min x28 x30))) rfl rfl rfl (r_min rfl rfl) ?_
  refine s_pu (d := some 20) (v := (.pointer (some (Addr.add p11 3)))) rfl rfl rfl (r_fieldAddr Try.underlying40 Try.sizeOf3 rfl rfl rfl) ?_
  obtain ⟨x32, e33, H⟩ := H
  refine s_rd (d := some 21) (v := (.int .i64 x32)) rfl rfl rfl (fun dr => r_load1 Try.isAgg3 rfl e33) ?_
  refine s_pu (d := some 22) (v := (.pointer (some (Addr.add p14 3)))) rfl rfl rfl (r_fieldAddr Try.underlying40 Try.sizeOf3 rfl rfl rfl) ?_
  obtain ⟨x34, e35, H⟩ := H
  refine s_rd (d := some 23) (v := (.int .i64 x34)) rfl rfl rfl (fun dr => r_load1 Try.isAgg3 rfl e35) ?_
  refine s_pu (d := some 24) (v := (.int .i64 (max x32 x34))) rfl rfl rfl (r_max rfl rfl) ?_
  refine s_pu (d := some 25) (v := (.pointer (some (Addr.add p11 4)))) rfl rfl rfl (r_fieldAddr Try.underlying40 Try.sizeOf3 rfl rfl rfl) ?_
  obtain ⟨x36, e37, H⟩ := H
  refine s_rd (d := some 26) (v := (.int .i64 x36)) rfl rfl rfl (fun dr => r_load1 Try.isAgg3 rfl e37) ?_
  refine s_pu (d := some 28) (v := (.pointer (some (Addr.add p14 0)))) rfl rfl rfl (r_fieldAddr Try.underlying40 Try.sizeOf3 rfl rfl rfl) ?_
  obtain ⟨x38, e39, H⟩ := H
  refine s_rd (d := some 29) (v := (.int .i64 x38)) rfl rfl rfl (fun dr => r_load1 Try.isAgg3 rfl e39) ?_
  refine s_pu (d := some 32) (v := (.pointer (some (Addr.add p14 4)))) rfl rfl rfl (r_fieldAddr Try.underlying40 Try.sizeOf3 rfl rfl rfl) ?_
  obtain ⟨x40, e41, H⟩ := H
  refine s_rd (d := some 33) (v := (.int .i64 x40)) rfl rfl rfl (fun dr => r_load1 Try.isAgg3 rfl e41) ?_
  refine s_ef (d := some 27) rfl rfl rfl (fun dr => r_call Try.call45 rfl rfl H) ?_ trivial
  rintro _ h4 ⟨y42, rfl, H⟩
  obtain ⟨e43, H⟩ := H
  obtain ⟨e44, H⟩ := H
  obtain ⟨e45, H⟩ := H
  obtain ⟨e46, H⟩ := H
  obtain ⟨e47, H⟩ := H
  obtain ⟨e48, H⟩ := H
  obtain ⟨e49, H⟩ := H
  obtain ⟨e50, H⟩ := H
  obtain ⟨e51, H⟩ := H
  obtain ⟨e52, H⟩ := H
  refine ⟨⟨(.inl ⟨rfl, fun dr => r_load1 Try.isAgg3 rfl e43⟩), (.inl ⟨rfl, fun dr => r_load1 Try.isAgg3 rfl e44⟩), trivial, (.inl ⟨rfl, fun dr => r_load1 Try.isAgg3 rfl e45⟩), (.inl ⟨rfl, fun dr => r_load1 Try.isAgg3 rfl e46⟩), (.inl ⟨rfl, fun dr => r_load1 Try.isAgg3 rfl e47⟩), (.inl ⟨rfl, fun dr => r_load1 Try.isAgg3 rfl e48⟩), (.inl ⟨rfl, fun dr => r_load1 Try.isAgg3 rfl e49⟩), (.inl ⟨rfl, fun dr => r_load1 Try.isAgg3 rfl e50⟩), (.inl ⟨rfl, fun dr => r_load1 Try.isAgg3 rfl e51⟩), (.inl ⟨rfl, fun dr => r_load1 Try.isAgg3 rfl e52⟩), trivial⟩, ?_⟩
  refine s_ef (d := some 30) rfl rfl rfl (fun dr => r_call Try.call46 rfl rfl H) ?_ trivial
  rintro _ h5 ⟨y53, rfl, H⟩
  obtain ⟨e54, H⟩ := H
  obtain ⟨e55, H⟩ := H
  obtain ⟨e56, H⟩ := H
  obtain ⟨e57, H⟩ := H
  obtain ⟨e58, H⟩ := H
  obtain ⟨e59, H⟩ := H
  obtain ⟨e60, H⟩ := H
  obtain ⟨e61, H⟩ := H
  obtain ⟨e62, H⟩ := H
  refine ⟨⟨(.inl ⟨rfl, fun dr => r_load1 Try.isAgg3 rfl e54⟩), trivial, trivial, (.inl ⟨rfl, fun dr => r_load1 Try.isAgg3 rfl e55⟩), (.inl ⟨rfl, fun dr => r_load1 Try.isAgg3 rfl e56⟩), (.inl ⟨rfl, fun dr => r_load1 Try.isAgg3 rfl e57⟩), (.inl ⟨rfl, fun dr => r_load1 Try.isAgg3 rfl e58⟩), (.inl ⟨rfl, fun dr => r_load1 Try.isAgg3 rfl e59⟩), (.inl ⟨rfl, fun dr => r_load1 Try.isAgg3 rfl e60⟩), (.inl ⟨rfl, fun dr => r_load1 Try.isAgg3 rfl e61⟩), (.inl ⟨rfl, fun dr => r_load1 Try.isAgg3 rfl e62⟩), trivial⟩, ?_⟩
  refine s_pu (d := some 31) (v := (.int .i64 (w64 (y42 * y53)))) rfl rfl rfl (r_mul rfl rfl) ?_
  refine s_ef (d := some 34) rfl rfl rfl (fun dr => r_call Try.call45 rfl rfl H) ?_ trivial
  rintro _ h6 ⟨y63, rfl, H⟩
  obtain ⟨e64, H⟩ := H
  obtain ⟨e65, H⟩ := H
  obtain ⟨e66, H⟩ := H
  obtain ⟨e67, H⟩ := H
  obtain ⟨e68, H⟩ := H
  obtain ⟨e69, H⟩ := H
  obtain ⟨e70, H⟩ := H
  obtain ⟨e71, H⟩ := H
  refine ⟨⟨trivial, trivial, trivial, (.inl ⟨rfl, fun dr => r_load1 Try.isAgg3 rfl e64⟩), (.inl ⟨rfl, fun dr => r_load1 Try.isAgg3 rfl e65⟩), (.inl ⟨rfl, fun dr => r_load1 Try.isAgg3 rfl e66⟩), (.inl ⟨rfl, fun dr => r_load1 Try.isAgg3 rfl e67⟩), (.inl ⟨rfl, fun dr => r_load1 Try.isAgg3 rfl e68⟩), (.inl ⟨rfl, fun dr => r_load1 Try.isAgg3 rfl e69⟩), (.inl ⟨rfl, fun dr => r_load1 Try.isAgg3 rfl e70⟩), (.inl ⟨rfl, fun dr => r_load1 Try.isAgg3 rfl e71⟩), trivial⟩, ?_⟩
  refine s_pu (d := some 35) (v := (.int .i64 (w64 ((w64 (y42 * y53)) + y63)))) rfl rfl rfl (r_add rfl rfl) ?_
  refine s_pu (d := some 36) (v := (.int .i64 (Int.tmod (w64 ((w64 (y42 * y53)) + y63)) 2147483647))) rfl rfl rfl (r_rem rfl rfl (by decide)) ?_
  refine s_pu (d := some 37) (v := (.agg #[(.int .i64 (w64 (x20 + x22))), (.int .i64 (w64 (x24 + x26))), (.int .i64 (min x28 x30)), (.int .i64 (max x32 x34)), (.int .i64 (Int.tmod (w64 ((w64 (y42 * y53)) + y63)) 2147483647))])) rfl rfl rfl (fun w => by kernel_rfl) ?_
  obtain ⟨e73, H⟩ := H
  obtain ⟨h7, e72⟩ : ∃ hh : Heap, hh = hsets h6 p17 0 [(.int .i64 (w64 (x20 + x22))), (.int .i64 (w64 (x24 + x26))), (.int .i64 (min x28 x30)), (.int .i64 (max x32 x34)), (.int .i64 (Int.tmod (w64 ((w64 (y42 * y53)) + y63)) 2147483647))] := ⟨_, rfl⟩
  have H := H h7 e72
  refine s_st (d := none) (h' := h7) rfl rfl rfl (fun dr => (r_store (v := (.agg #[(.int .i64 (w64 (x20 + x22))), (.int .i64 (w64 (x24 + x26))), (.int .i64 (min x28 x30)), (.int .i64 (max x32 x34)), (.int .i64 (Int.tmod (w64 ((w64 (y42 * y53)) + y63)) 2147483647))])) Try.sizeOf40 rfl rfl rfl (one_all rfl) e73).trans (by rw [e72]; rfl)) ⟨trivial, trivial, trivial, trivial, trivial, trivial, trivial, trivial, trivial, trivial, trivial, trivial⟩ ?_ trivial
  refine s_fin ?_
  show W _ _ _ _ _ _ _ _
  refine W_ret ?_
  obtain ⟨x74, e75, H⟩ := H
  obtain ⟨x76, e77, H⟩ := H
  obtain ⟨x78, e79, H⟩ := H
  obtain ⟨x80, e81, H⟩ := H
  obtain ⟨x82, e83, H⟩ := H
  exact ⟨[(.agg #[(.int .i64 x74), (.int .i64 x76), (.int .i64 x78), (.int .i64 x80), (.int .i64 x82)])], ⟨_, _, _, rfl, rfl, fun dr => run_loadVarN Try.isAgg40 Try.sizeOf40 (vs := [(.int .i64 x74), (.int .i64 x76), (.int .i64 x78), (.int .i64 x80), (.int .i64 x82)]) rfl ⟨e75, e77, e79, e81, e83, trivial⟩, rfl⟩, x74, x76, x78, x80, x82, rfl, H⟩

/-! ### mono_Of -/

def mono_Of_F (r : World) (l1 : Sl) (h : Heap) (R : Int → Int → Int → Int → Int → Heap → Prop) : Prop :=
  New h (.cells #[(.int .i64 0), (.int .i64 0), (.int .i64 0), (.int .i64 0), (.int .i64 0)] 40) fun p2 h1 =>
  mono_None r h1 fun y5 y6 y7 y8 y9 h2 =>
  New h2 (.cells #[(.int .i64 0), (.int .i64 0), (.int .i64 0), (.int .i64 0), (.int .i64 0)] 40) fun p10 h3 =>
  St h3 p10 5 [(.int .i64 y5), (.int .i64 y6), (.int .i64 y7), (.int .i64 y8), (.int .i64 y9)] fun h4 =>
  ∀ X16 : Int → Heap → Prop, (∀ (x15 : Int) (h5 : Heap),
    (Br (decide (x15 < ((l1.len : Int)))) (
      Ix l1 x15 1 fun q21 =>
      LdI h5 q21 fun x23 =>
      LdI h5 (Addr.add p10 0) fun x25 =>
      LdI h5 (Addr.add p10 1) fun x27 =>
      LdI h5 (Addr.add p10 2) fun x29 =>
      LdI h5 (Addr.add p10 3) fun x31 =>
      LdI h5 (Addr.add p10 4) fun x33 =>
      mono_One r x23 h5 fun y35 y36 y37 y38 y39 h6 =>
      (hcell h6 (Addr.add p10 0) = some (.int .i64 x25)) ∧
      (hcell h6 (Addr.add p10 1) = some (.int .i64 x27)) ∧
      (hcell h6 (Addr.add p10 2) = some (.int .i64 x29)) ∧
      (hcell h6 (Addr.add p10 3) = some (.int .i64 x31)) ∧
      (hcell h6 (Addr.add p10 4) = some (.int .i64 x33)) ∧
      mono_Join r x25 x27 x29 x31 x33 y35 y36 y37 y38 y39 h6 fun y45 y46 y47 y48 y49 h7 =>
      St h7 p10 5 [(.int .i64 y45), (.int .i64 y46), (.int .i64 y47), (.int .i64 y48), (.int .i64 y49)] fun h8 =>
      X16 (w64 (x15 + 1)) h8) (
      LdI h5 (Addr.add p10 0) fun x52 =>
      LdI h5 (Addr.add p10 1) fun x54 =>
      LdI h5 (Addr.add p10 2) fun x56 =>
      LdI h5 (Addr.add p10 3) fun x58 =>
      LdI h5 (Addr.add p10 4) fun x60 =>
      St h5 p2 5 [(.int .i64 x52), (.int .i64 x54), (.int .i64 x56), (.int .i64 x58), (.int .i64 x60)] fun h9 =>
      LdI h9 (Addr.add p2 0) fun x64 =>
      LdI h9 (Addr.add p2 1) fun x66 =>
      LdI h9 (Addr.add p2 2) fun x68 =>
      LdI h9 (Addr.add p2 3) fun x70 =>
      LdI h9 (Addr.add p2 4) fun x72 =>
      R x64 x66 x68 x70 x72 h9)) →
    X16 x15 h5) →
  X16 0 h4

set_option maxRecDepth 100000 in
theorem mono_Of_of {r : World} {l1 : Sl} {h : Heap} {R : Int → Int → Int → Int → Int → Heap → Prop} (H : mono_Of_F r l1 h R) : mono_Of r l1 h R := by
  unfold mono_Of_F at H
  refine calls_of 19 [.cell 2 40] Try.func15 rfl rfl rfl rfl rfl ?_
  refine W_seq ?_
  refine W_region (.ef 0 [] .fin .no) rfl rfl ?_
  obtain ⟨p2, e3⟩ : ∃ p : Addr, p = ⟨h.size, 0, none⟩ := ⟨_, rfl⟩
  obtain ⟨h1, e4⟩ : ∃ hh : Heap, hh = h.push (.cells #[(.int .i64 0), (.int .i64 0), (.int .i64 0), (.int .i64 0), (.int .i64 0)] 40) := ⟨_, rfl⟩
  have H := H p2 h1 e3 e4
  refine s_ef1 (d := some 2) (v := (.pointer (some p2))) (h' := h1) rfl rfl rfl (fun dr => (r_alloc Try.zeroValue40).trans (by rw [e3, e4]; rfl)) trivial ?_ trivial
  refine s_fin ?_
  show W _ _ _ _ _ _ _ _
  refine W_seq ?_
  refine W_region (.ef 0 [] (.ef 1 [] (.ef 2 [] .fin .no) .no) .no) rfl rfl ?_
  refine s_ef (d := some 6) rfl rfl rfl (fun dr => r_call Try.call30 rfl rfl H) ?_ trivial
  rintro _ h2 ⟨y5, y6, y7, y8, y9, rfl, H⟩
  refine ⟨trivial, ?_⟩
  obtain ⟨p10, e11⟩ : ∃ p : Addr, p = ⟨h2.size, 0, none⟩ := ⟨_, rfl⟩
  obtain ⟨h3, e12⟩ : ∃ hh : Heap, hh = h2.push (.cells #[(.int .i64 0), (.int .i64 0), (.int .i64 0), (.int .i64 0), (.int .i64 0)] 40) := ⟨_, rfl⟩
  have H := H p10 h3 e11 e12
  refine s_ef1 (d := some 3) (v := (.pointer (some p10))) (h' := h3) rfl rfl rfl (fun dr => (r_alloc Try.zeroValue40).trans (by rw [e11, e12]; rfl)) trivial ?_ trivial
  obtain ⟨e14, H⟩ := H
  obtain ⟨h4, e13⟩ : ∃ hh : Heap, hh = hsets h3 p10 0 [(.int .i64 y5), (.int .i64 y6), (.int .i64 y7), (.int .i64 y8), (.int .i64 y9)] := ⟨_, rfl⟩
  have H := H h4 e13
  refine s_st (d := none) (h' := h4) rfl rfl rfl (fun dr => (r_store (v := (.agg #[(.int .i64 y5), (.int .i64 y6), (.int .i64 y7), (.int .i64 y8), (.int .i64 y9)])) Try.sizeOf40 rfl rfl rfl (one_all rfl) e14).trans (by rw [e13]; rfl)) trivial ?_ trivial
  refine s_fin ?_
  show W _ _ _ _ _ _ _ _
  refine W_seq ?_
  refine W_seq ?_
  refine W_region (.pu 0 (.pu 1 (.pu 2 .fin))) rfl rfl ?_
  refine s_pu (d := some 7) (v := (Sl.v l1)) rfl rfl rfl (r_move rfl) ?_
  refine s_pu (d := some 8) (v := (.int .i64 ((l1.len : Int)))) rfl rfl rfl (r_len Try.underlying22 rfl) ?_
  refine s_pu (d := some 9) (v := (.int .i64 0)) rfl rfl rfl (r_move rfl) ?_
  refine s_fin ?_
  show W _ _ _ _ _ _ _ _
  refine W_block ?_
  refine W_loop (WL_mk (l := [(2, (.pointer (some p2))), (3, (.pointer (some p10))), (7, (Sl.v l1)), (8, (.int .i64 ((l1.len : Int)))), (9, (.int .i64 0))]) ?_ ⟨rfl, rfl, rfl, rfl, rfl, trivial⟩)
  refine H (fun (x15 : Int) (h5 : Heap) => ∀ b, WL _ _ _ _ _ _ (mkE [(2, (.pointer (some p2))), (3, (.pointer (some p10))), (7, (Sl.v l1)), (8, (.int .i64 ((l1.len : Int)))), (9, (.int .i64 x15))] b) h5) ?_
  intro x15 h5 H b
  refine WL_round ?_
  refine W_seq ?_
  refine W_region (.pu 0 .fin) rfl rfl ?_
  refine s_pu (d := some 10) (v := (.bool (decide (x15 < ((l1.len : Int)))))) rfl rfl rfl (r_lss rfl rfl) ?_
  refine s_fin ?_
  show W _ _ _ _ _ _ _ _
  refine W_seq ?_
  refine W_if (decide (x15 < ((l1.len : Int)))) rfl (fun g74 => ?_) (fun g74 => ?_)
  · have H := H.1 g74
    refine W_skip ?_
    show W _ _ _ _ _ _ _ _
    refine W_seq ?_
    refine W_block ?_
    refine W_seq ?_
    refine W_region (.pu 0 (.rl 1 (.pu 2 .fin))) rfl rfl ?_
    obtain ⟨p17, e18, e19, e20, H⟩ := H
    obtain ⟨q21, e22⟩ : ∃ q : Addr, q = Addr.add p17 (Int.toNat x15 * 1) := ⟨_, rfl⟩
    rw [← e22] at H
    refine s_pu (d := some 11) (v := (.pointer (some q21))) rfl rfl rfl (fun w => (r_indexAddr Try.underlying22 Try.sizeOf3 rfl rfl e18 e19 e20 w).trans (by rw [e22])) ?_
    obtain ⟨x23, e24, H⟩ := H
    refine s_rl (d := some 12) (v := (.int .i64 x23)) rfl rfl rfl (fun dr => r_load1 Try.isAgg3 rfl e24) ?_
    refine s_pu (d := some 5) (v := (.int .i64 x23)) rfl rfl rfl (r_assign rfl) ?_
    refine s_fin ?_
    show W _ _ _ _ _ _ _ _
    refine W_draw [0, 0, 2, 7, 15] (.rd 0 (.pu 1 (.ef 2 [] (.ef 3 [0] (.ef 4 [0] .fin .no) .no) .no))) (by kernel_rfl) (by kernel_rfl) ?_
    obtain ⟨x25, e26, H⟩ := H
    obtain ⟨x27, e28, H⟩ := H
    obtain ⟨x29, e30, H⟩ := H
    obtain ⟨x31, e32, H⟩ := H
    obtain ⟨x33, e34, H⟩ := H
    refine s_rd (d := some 13) (v := (.agg #[(.int .i64 x25), (.int .i64 x27), (.int .i64 x29), (.int .i64 x31), (.int .i64 x33)])) rfl rfl rfl (fun dr => r_loadN Try.isAgg40 Try.sizeOf40 (vs := [(.int .i64 x25), (.int .i64 x27), (.int .i64 x29), (.int .i64 x31), (.int .i64 x33)]) rfl rfl ⟨e26, e28, e30, e32, e34, trivial⟩) ?_
    refine s_pu (d := some 14) (v := (.int .i64 x23)) rfl rfl rfl (r_move rfl) ?_
    refine s_ef (d := some 15) rfl rfl rfl (fun dr => r_call Try.call32 rfl rfl H) ?_ trivial
    rintro _ h6 ⟨y35, y36, y37, y38, y39, rfl, H⟩
    obtain ⟨e40, H⟩ := H
    obtain ⟨e41, H⟩ := H
    obtain ⟨e42, H⟩ := H
    obtain ⟨e43, H⟩ := H
    obtain ⟨e44, H⟩ := H
    refine ⟨⟨(.inl ⟨rfl, fun dr => r_loadN Try.isAgg40 Try.sizeOf40 (vs := [(.int .i64 x25), (.int .i64 x27), (.int .i64 x29), (.int .i64 x31), (.int .i64 x33)]) rfl rfl ⟨e40, e41, e42, e43, e44, trivial⟩⟩), trivial⟩, ?_⟩
    refine s_ef (d := some 16) rfl rfl rfl (fun dr => r_call Try.call31 rfl rfl H) ?_ trivial
    rintro _ h7 ⟨y45, y46, y47, y48, y49, rfl, H⟩
    refine ⟨⟨trivial, trivial⟩, ?_⟩
    obtain ⟨e51, H⟩ := H
    obtain ⟨h8, e50⟩ : ∃ hh : Heap, hh = hsets h7 p10 0 [(.int .i64 y45), (.int .i64 y46), (.int .i64 y47), (.int .i64 y48), (.int .i64 y49)] := ⟨_, rfl⟩
    have H := H h8 e50
    refine s_st (d := none) (h' := h8) rfl rfl rfl (fun dr => (r_store (v := (.agg #[(.int .i64 y45), (.int .i64 y46), (.int .i64 y47), (.int .i64 y48), (.int .i64 y49)])) Try.sizeOf40 rfl rfl rfl (one_all rfl) e51).trans (by rw [e50]; rfl)) ⟨trivial, trivial⟩ ?_ trivial
    refine s_fin ?_
    show W _ _ _ _ _ _ _ _
    refine W_region (.pu 0 (.pu 1 .fin)) rfl rfl ?_
    refine s_pu (d := some 17) (v := (.int .i64 (w64 (x15 + 1)))) rfl rfl rfl (r_add rfl rfl) ?_
    refine s_pu (d := some 9) (v := (.int .i64 (w64 (x15 + 1)))) rfl rfl rfl (r_move rfl) ?_
    refine s_fin ?_
    exact WL_mk (l := [(2, (.pointer (some p2))), (3, (.pointer (some p10))), (7, (Sl.v l1)), (8, (.int .i64 ((l1.len : Int)))), (9, (.int .i64 (w64 (x15 + 1))))]) H ⟨rfl, rfl, rfl, rfl, rfl, trivial⟩
  · have H := H.2 g74
    refine W_exit (inX_here ?_)
    show W _ _ _ _ _ _ _ _
    refine W_seq ?_
    refine W_region (.rl 0 (.ef 1 [] .fin .no)) rfl rfl ?_
    obtain ⟨x52, e53, H⟩ := H
    obtain ⟨x54, e55, H⟩ := H
    obtain ⟨x56, e57, H⟩ := H
    obtain ⟨x58, e59, H⟩ := H
    obtain ⟨x60, e61, H⟩ := H
    refine s_rl (d := some 18) (v := (.agg #[(.int .i64 x52), (.int .i64 x54), (.int .i64 x56), (.int .i64 x58), (.int .i64 x60)])) rfl rfl rfl (fun dr => r_loadN Try.isAgg40 Try.sizeOf40 (vs := [(.int .i64 x52), (.int .i64 x54), (.int .i64 x56), (.int .i64 x58), (.int .i64 x60)]) rfl rfl ⟨e53, e55, e57, e59, e61, trivial⟩) ?_
    obtain ⟨e63, H⟩ := H
    obtain ⟨h9, e62⟩ : ∃ hh : Heap, hh = hsets h5 p2 0 [(.int .i64 x52), (.int .i64 x54), (.int .i64 x56), (.int .i64 x58), (.int .i64 x60)] := ⟨_, rfl⟩
    have H := H h9 e62
    refine s_st (d := none) (h' := h9) rfl rfl rfl (fun dr => (r_store (v := (.agg #[(.int .i64 x52), (.int .i64 x54), (.int .i64 x56), (.int .i64 x58), (.int .i64 x60)])) Try.sizeOf40 rfl rfl rfl (one_all rfl) e63).trans (by rw [e62]; rfl)) trivial ?_ trivial
    refine s_fin ?_
    show W _ _ _ _ _ _ _ _
    refine W_ret ?_
    obtain ⟨x64, e65, H⟩ := H
    obtain ⟨x66, e67, H⟩ := H
    obtain ⟨x68, e69, H⟩ := H
    obtain ⟨x70, e71, H⟩ := H
    obtain ⟨x72, e73, H⟩ := H
    exact ⟨[(.agg #[(.int .i64 x64), (.int .i64 x66), (.int .i64 x68), (.int .i64 x70), (.int .i64 x72)])], ⟨_, _, _, rfl, rfl, fun dr => run_loadVarN Try.isAgg40 Try.sizeOf40 (vs := [(.int .i64 x64), (.int .i64 x66), (.int .i64 x68), (.int .i64 x70), (.int .i64 x72)]) rfl ⟨e65, e67, e69, e71, e73, trivial⟩, rfl⟩, x64, x66, x68, x70, x72, rfl, H⟩

end Go.Proofs.Ytfiemlcoliijoaa
