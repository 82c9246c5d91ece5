/- Typed words of functions, and that they hold: printed by gen.py (an own tool of this claim) off the model's own form of each function. -/
import Derived.Test.YtmjljnbjoldeaaaProg
import Derived.Test.YtmjljnbjoldeaaaTwMore
namespace Go.Proofs.Ytmjljnbjoldeaaa
open Go Go.RowKit Go.Tw
set_option linter.unusedVariables false

theorem slFMono_22 : SlF Try.prog 22 3 1 8 (.int .i64 0) := ⟨Try.underlying22, ⟨Try.t3, by kernel_rfl, rfl, rfl, rfl⟩, rfl, Try.sizeOf3, Try.zeroValue3⟩

/-! ### the calls -/

abbrev mono_mod (r : World) (n1 : Int) (h : Heap) (R : Int → Heap → Prop) : Prop :=
  CallsH Try.prog r 56 [(.int .i64 n1)] h fun v h' => ∃ (y2 : Int), v = (.int .i64 y2) ∧ R y2 h'

theorem mono_mod.mono {r : World} {n1 : Int} {h : Heap} {R R' : Int → Heap → Prop} (H : mono_mod r n1 h R) (hr : ∀ y2 h, R y2 h → R' y2 h) : mono_mod r n1 h R' :=
  CallsH.mono H fun _ _ hx => by
    obtain ⟨y2, hv, hR⟩ := hx
    exact ⟨y2, hv, hr _ _ hR⟩

abbrev mono_power (r : World) (n1 : Int) (h : Heap) (R : Int → Heap → Prop) : Prop :=
  CallsH Try.prog r 57 [(.int .i64 n1)] h fun v h' => ∃ (y2 : Int), v = (.int .i64 y2) ∧ R y2 h'

theorem mono_power.mono {r : World} {n1 : Int} {h : Heap} {R R' : Int → Heap → Prop} (H : mono_power r n1 h R) (hr : ∀ y2 h, R y2 h → R' y2 h) : mono_power r n1 h R' :=
  CallsH.mono H fun _ _ hx => by
    obtain ⟨y2, hv, hR⟩ := hx
    exact ⟨y2, hv, hr _ _ hR⟩

abbrev mono_None (r : World)  (h : Heap) (R : Int → Int → Int → Int → Int → Heap → Prop) : Prop :=
  CallsH Try.prog r 53 [] h fun v h' => ∃ (y1 : Int) (y2 : Int) (y3 : Int) (y4 : Int) (y5 : Int), v = (.agg #[(.int .i64 y1), (.int .i64 y2), (.int .i64 y3), (.int .i64 y4), (.int .i64 y5)]) ∧ R y1 y2 y3 y4 y5 h'

theorem mono_None.mono {r : World}  {h : Heap} {R R' : Int → Int → Int → Int → Int → Heap → Prop} (H : mono_None r  h R) (hr : ∀ y1 y2 y3 y4 y5 h, R y1 y2 y3 y4 y5 h → R' y1 y2 y3 y4 y5 h) : mono_None r  h R' :=
  CallsH.mono H fun _ _ hx => by
    obtain ⟨y1, y2, y3, y4, y5, hv, hR⟩ := hx
    exact ⟨y1, y2, y3, y4, y5, hv, hr _ _ _ _ _ _ hR⟩

abbrev mono_One (r : World) (x1 : Int) (h : Heap) (R : Int → Int → Int → Int → Int → Heap → Prop) : Prop :=
  CallsH Try.prog r 62 [(.int .i64 x1)] h fun v h' => ∃ (y2 : Int) (y3 : Int) (y4 : Int) (y5 : Int) (y6 : Int), v = (.agg #[(.int .i64 y2), (.int .i64 y3), (.int .i64 y4), (.int .i64 y5), (.int .i64 y6)]) ∧ R y2 y3 y4 y5 y6 h'

theorem mono_One.mono {r : World} {x1 : Int} {h : Heap} {R R' : Int → Int → Int → Int → Int → Heap → Prop} (H : mono_One r x1 h R) (hr : ∀ y2 y3 y4 y5 y6 h, R y2 y3 y4 y5 y6 h → R' y2 y3 y4 y5 y6 h) : mono_One r x1 h R' :=
  CallsH.mono H fun _ _ hx => by
    obtain ⟨y2, y3, y4, y5, y6, hv, hR⟩ := hx
    exact ⟨y2, y3, y4, y5, y6, hv, hr _ _ _ _ _ _ hR⟩

abbrev mono_Join (r : World) (a1 : Int) (a2 : Int) (a3 : Int) (a4 : Int) (a5 : Int) (vb6 : Int) (vb7 : Int) (vb8 : Int) (vb9 : Int) (vb10 : Int) (h : Heap) (R : Int → Int → Int → Int → Int → Heap → Prop) : Prop :=
  CallsH Try.prog r 27 [(.agg #[(.int .i64 a1), (.int .i64 a2), (.int .i64 a3), (.int .i64 a4), (.int .i64 a5)]), (.agg #[(.int .i64 vb6), (.int .i64 vb7), (.int .i64 vb8), (.int .i64 vb9), (.int .i64 vb10)])] h fun v h' => ∃ (y11 : Int) (y12 : Int) (y13 : Int) (y14 : Int) (y15 : Int), v = (.agg #[(.int .i64 y11), (.int .i64 y12), (.int .i64 y13), (.int .i64 y14), (.int .i64 y15)]) ∧ R y11 y12 y13 y14 y15 h'

theorem mono_Join.mono {r : World} {a1 : Int} {a2 : Int} {a3 : Int} {a4 : Int} {a5 : Int} {vb6 : Int} {vb7 : Int} {vb8 : Int} {vb9 : Int} {vb10 : Int} {h : Heap} {R R' : Int → Int → Int → Int → Int → Heap → Prop} (H : mono_Join r a1 a2 a3 a4 a5 vb6 vb7 vb8 vb9 vb10 h R) (hr : ∀ y11 y12 y13 y14 y15 h, R y11 y12 y13 y14 y15 h → R' y11 y12 y13 y14 y15 h) : mono_Join r a1 a2 a3 a4 a5 vb6 vb7 vb8 vb9 vb10 h R' :=
  CallsH.mono H fun _ _ hx => by
    obtain ⟨y11, y12, y13, y14, y15, hv, hR⟩ := hx
    exact ⟨y11, y12, y13, y14, y15, hv, hr _ _ _ _ _ _ hR⟩

abbrev ref1_Mod (r : World) (n1 : Int) (h : Heap) (R : Int → Heap → Prop) : Prop :=
  CallsH Try.prog r 52 [(.int .i64 n1)] h fun v h' => ∃ (y2 : Int), v = (.int .i64 y2) ∧ R y2 h'

theorem ref1_Mod.mono {r : World} {n1 : Int} {h : Heap} {R R' : Int → Heap → Prop} (H : ref1_Mod r n1 h R) (hr : ∀ y2 h, R y2 h → R' y2 h) : ref1_Mod r n1 h R' :=
  CallsH.mono H fun _ _ hx => by
    obtain ⟨y2, hv, hR⟩ := hx
    exact ⟨y2, hv, hr _ _ hR⟩

abbrev ref1_MeasureOf (r : World) (l1 : Sl) (h : Heap) (R : Int → Int → Int → Int → Int → Heap → Prop) : Prop :=
  CallsH Try.prog r 21 [(Sl.v l1)] h fun v h' => ∃ (y2 : Int) (y3 : Int) (y4 : Int) (y5 : Int) (y6 : Int), v = (.agg #[(.int .i64 y2), (.int .i64 y3), (.int .i64 y4), (.int .i64 y5), (.int .i64 y6)]) ∧ R y2 y3 y4 y5 y6 h'

theorem ref1_MeasureOf.mono {r : World} {l1 : Sl} {h : Heap} {R R' : Int → Int → Int → Int → Int → Heap → Prop} (H : ref1_MeasureOf r l1 h R) (hr : ∀ y2 y3 y4 y5 y6 h, R y2 y3 y4 y5 y6 h → R' y2 y3 y4 y5 y6 h) : ref1_MeasureOf r l1 h R' :=
  CallsH.mono H fun _ _ hx => by
    obtain ⟨y2, y3, y4, y5, y6, hv, hR⟩ := hx
    exact ⟨y2, y3, y4, y5, y6, hv, hr _ _ _ _ _ _ hR⟩

abbrev ref1_Cat (r : World) (a1 : Sl) (vb2 : Sl) (h : Heap) (R : Sl → Heap → Prop) : Prop :=
  CallsH Try.prog r 15 [(Sl.v a1), (Sl.v vb2)] h fun v h' => ∃ (y3 : Sl), v = (Sl.v y3) ∧ R y3 h'

theorem ref1_Cat.mono {r : World} {a1 : Sl} {vb2 : Sl} {h : Heap} {R R' : Sl → Heap → Prop} (H : ref1_Cat r a1 vb2 h R) (hr : ∀ y3 h, R y3 h → R' y3 h) : ref1_Cat r a1 vb2 h R' :=
  CallsH.mono H fun _ _ hx => by
    obtain ⟨y3, hv, hR⟩ := hx
    exact ⟨y3, hv, hr _ _ hR⟩

abbrev ref1_Rev (r : World) (l1 : Sl) (h : Heap) (R : Sl → Heap → Prop) : Prop :=
  CallsH Try.prog r 23 [(Sl.v l1)] h fun v h' => ∃ (y2 : Sl), v = (Sl.v y2) ∧ R y2 h'

theorem ref1_Rev.mono {r : World} {l1 : Sl} {h : Heap} {R R' : Sl → Heap → Prop} (H : ref1_Rev r l1 h R) (hr : ∀ y2 h, R y2 h → R' y2 h) : ref1_Rev r l1 h R' :=
  CallsH.mono H fun _ _ hx => by
    obtain ⟨y2, hv, hR⟩ := hx
    exact ⟨y2, hv, hr _ _ hR⟩

abbrev ref1_Put (r : World) (l1 : Sl) (i2 : Int) (x3 : Int) (h : Heap) (R : Sl → Heap → Prop) : Prop :=
  CallsH Try.prog r 41 [(Sl.v l1), (.int .i64 i2), (.int .i64 x3)] h fun v h' => ∃ (y4 : Sl), v = (Sl.v y4) ∧ R y4 h'

theorem ref1_Put.mono {r : World} {l1 : Sl} {i2 : Int} {x3 : Int} {h : Heap} {R R' : Sl → Heap → Prop} (H : ref1_Put r l1 i2 x3 h R) (hr : ∀ y4 h, R y4 h → R' y4 h) : ref1_Put r l1 i2 x3 h R' :=
  CallsH.mono H fun _ _ hx => by
    obtain ⟨y4, hv, hR⟩ := hx
    exact ⟨y4, hv, hr _ _ hR⟩

abbrev ref1_Without (r : World) (l1 : Sl) (i2 : Int) (h : Heap) (R : Sl → Heap → Prop) : Prop :=
  CallsH Try.prog r 42 [(Sl.v l1), (.int .i64 i2)] h fun v h' => ∃ (y3 : Sl), v = (Sl.v y3) ∧ R y3 h'

theorem ref1_Without.mono {r : World} {l1 : Sl} {i2 : Int} {h : Heap} {R R' : Sl → Heap → Prop} (H : ref1_Without r l1 i2 h R) (hr : ∀ y3 h, R y3 h → R' y3 h) : ref1_Without r l1 i2 h R' :=
  CallsH.mono H fun _ _ hx => by
    obtain ⟨y3, hv, hR⟩ := hx
    exact ⟨y3, hv, hr _ _ hR⟩

abbrev ref1_With (r : World) (l1 : Sl) (i2 : Int) (x3 : Int) (h : Heap) (R : Sl → Heap → Prop) : Prop :=
  CallsH Try.prog r 43 [(Sl.v l1), (.int .i64 i2), (.int .i64 x3)] h fun v h' => ∃ (y4 : Sl), v = (Sl.v y4) ∧ R y4 h'

theorem ref1_With.mono {r : World} {l1 : Sl} {i2 : Int} {x3 : Int} {h : Heap} {R R' : Sl → Heap → Prop} (H : ref1_With r l1 i2 x3 h R) (hr : ∀ y4 h, R y4 h → R' y4 h) : ref1_With r l1 i2 x3 h R' :=
  CallsH.mono H fun _ _ hx => by
    obtain ⟨y4, hv, hR⟩ := hx
    exact ⟨y4, hv, hr _ _ hR⟩

abbrev same_Ints (r : World) (a1 : Sl) (vb2 : Sl) (h : Heap) (R : Bool → Heap → Prop) : Prop :=
  CallsH Try.prog r 18 [(Sl.v a1), (Sl.v vb2)] h fun v h' => ∃ (y3 : Bool), v = (.bool y3) ∧ R y3 h'

theorem same_Ints.mono {r : World} {a1 : Sl} {vb2 : Sl} {h : Heap} {R R' : Bool → Heap → Prop} (H : same_Ints r a1 vb2 h R) (hr : ∀ y3 h, R y3 h → R' y3 h) : same_Ints r a1 vb2 h R' :=
  CallsH.mono H fun _ _ hx => by
    obtain ⟨y3, hv, hR⟩ := hx
    exact ⟨y3, hv, hr _ _ hR⟩

/-! ### mono_mod -/

def mono_mod_F (r : World) (n1 : Int) (h : Heap) (R : Int → Heap → Prop) : Prop :=
  ∀ J3 : Int → Prop, (∀ (n2 : Int),
    (R n2 h) →
    J3 n2) →
  Br (decide ((Int.tmod n1 2147483647) < 0)) (
    J3 (w64 ((Int.tmod n1 2147483647) + 2147483647))) (
    J3 (Int.tmod n1 2147483647))

set_option maxRecDepth 100000 in
theorem mono_mod_of {r : World} {n1 : Int} {h : Heap} {R : Int → Heap → Prop} (H : mono_mod_F r n1 h R) : mono_mod r n1 h R := by
  unfold mono_mod_F at H
  refine calls_of 10 [.tmp 2] Try.func56 rfl rfl rfl rfl rfl ?_
  refine W_seq ?_
  refine W_region (.pu 0 .fin) rfl rfl ?_
  refine s_pu (d := some 2) (v := (.int .i64 0)) rfl rfl rfl (r_assign rfl) ?_
  refine s_fin ?_
  show W _ _ _ _ _ _ _ _
  refine W_seq ?_
  refine W_seq ?_
  refine W_region (.pu 0 (.pu 1 (.pu 2 .fin))) rfl rfl ?_
  refine s_pu (d := some 3) (v := (.int .i64 n1)) rfl rfl rfl (r_move rfl) ?_
  refine s_pu (d := some 4) (v := (.int .i64 (Int.tmod n1 2147483647))) rfl rfl rfl (r_rem rfl rfl (by decide)) ?_
  refine s_pu (d := some 0) (v := (.int .i64 (Int.tmod n1 2147483647))) rfl rfl rfl (r_assign rfl) ?_
  refine s_fin ?_
  show W _ _ _ _ _ _ _ _
  refine W_seq ?_
  refine W_region (.pu 0 (.pu 1 .fin)) rfl rfl ?_
  refine s_pu (d := some 5) (v := (.int .i64 (Int.tmod n1 2147483647))) rfl rfl rfl (r_move rfl) ?_
  refine s_pu (d := some 6) (v := (.bool (decide ((Int.tmod n1 2147483647) < 0)))) rfl rfl rfl (r_lss rfl rfl) ?_
  refine s_fin ?_
  show W _ _ _ _ _ _ _ _
  refine W_set ?_
  intro N4 eN4
  have H := H (fun (n2 : Int) => ∀ b, N4 [] (mkE [(0, (.int .i64 n2))] b) h) (by
    intro n2 H b
    rw [eN4]
    show W _ _ _ _ _ _ _ _
    refine W_seq ?_
    refine W_region (.pu 0 (.pu 1 .fin)) rfl rfl ?_
    refine s_pu (d := some 9) (v := (.int .i64 n2)) rfl rfl rfl (r_move rfl) ?_
    refine s_pu (d := some 2) (v := (.int .i64 n2)) rfl rfl rfl (r_assign rfl) ?_
    refine s_fin ?_
    show W _ _ _ _ _ _ _ _
    refine W_ret ?_
    exact ⟨[(.int .i64 n2)], ⟨_, _, rfl, rfl, rfl⟩, n2, rfl, H⟩)
  clear eN4
  refine W_if (decide ((Int.tmod n1 2147483647) < 0)) rfl (fun g5 => ?_) (fun g5 => ?_)
  · have H := H.1 g5
    refine W_region (.pu 0 (.pu 1 (.pu 2 .fin))) rfl rfl ?_
    refine s_pu (d := some 7) (v := (.int .i64 (Int.tmod n1 2147483647))) rfl rfl rfl (r_move rfl) ?_
    refine s_pu (d := some 8) (v := (.int .i64 (w64 ((Int.tmod n1 2147483647) + 2147483647)))) rfl rfl rfl (r_add rfl rfl) ?_
    refine s_pu (d := some 0) (v := (.int .i64 (w64 ((Int.tmod n1 2147483647) + 2147483647)))) rfl rfl rfl (r_assign rfl) ?_
    refine s_fin ?_
    exact N_mk (l := [(0, (.int .i64 (w64 ((Int.tmod n1 2147483647) + 2147483647))))]) H ⟨rfl, trivial⟩
  · have H := H.2 g5
    refine W_skip ?_
    exact N_mk (l := [(0, (.int .i64 (Int.tmod n1 2147483647)))]) H ⟨rfl, trivial⟩

/-! ### mono_power -/

def mono_power_F (r : World) (n1 : Int) (h : Heap) (R : Int → Heap → Prop) : Prop :=
  ∀ X5 : Int → Int → Int → Prop, (∀ (n2 : Int) (out3 : Int) (vb4 : Int),
    (Br (decide (0 < n2)) (
      ∀ J7 : Int → Prop, (∀ (out6 : Int),
        (X5 (sShr .i64 n2 1) out6 (Int.tmod (w64 (vb4 * vb4)) 2147483647)) →
        J7 out6) →
      Br (decide (0 < (bAnd .i64 n2 1))) (
        J7 (Int.tmod (w64 (out3 * vb4)) 2147483647)) (
        J7 out3)) (
      R out3 h)) →
    X5 n2 out3 vb4) →
  X5 n1 1 131

set_option maxRecDepth 100000 in
theorem mono_power_of {r : World} {n1 : Int} {h : Heap} {R : Int → Heap → Prop} (H : mono_power_F r n1 h R) : mono_power r n1 h R := by
  unfold mono_power_F at H
  refine calls_of 21 [.tmp 2] Try.func57 rfl rfl rfl rfl rfl ?_
  refine W_seq ?_
  refine W_region (.pu 0 .fin) rfl rfl ?_
  refine s_pu (d := some 2) (v := (.int .i64 0)) rfl rfl rfl (r_assign rfl) ?_
  refine s_fin ?_
  show W _ _ _ _ _ _ _ _
  refine W_seq ?_
  refine W_region (.pu 0 (.pu 1 .fin)) rfl rfl ?_
  refine s_pu (d := some 3) (v := (.int .i64 1)) rfl rfl rfl (r_assign rfl) ?_
  refine s_pu (d := some 4) (v := (.int .i64 131)) rfl rfl rfl (r_assign rfl) ?_
  refine s_fin ?_
  show W _ _ _ _ _ _ _ _
  refine W_seq ?_
  refine W_block ?_
  refine W_loop (WL_mk (l := [(0, (.int .i64 n1)), (3, (.int .i64 1)), (4, (.int .i64 131))]) ?_ ⟨rfl, rfl, rfl, trivial⟩)
  refine H (fun (n2 : Int) (out3 : Int) (vb4 : Int) => ∀ b, WL _ _ _ _ _ _ (mkE [(0, (.int .i64 n2)), (3, (.int .i64 out3)), (4, (.int .i64 vb4))] b) h) ?_
  intro n2 out3 vb4 H b
  refine WL_round ?_
  refine W_seq ?_
  refine W_seq ?_
  refine W_region (.pu 0 (.pu 1 .fin)) rfl rfl ?_
  refine s_pu (d := some 5) (v := (.int .i64 n2)) rfl rfl rfl (r_move rfl) ?_
  refine s_pu (d := some 6) (v := (.bool (decide (0 < n2)))) rfl rfl rfl (r_gtr rfl rfl) ?_
  refine s_fin ?_
  show W _ _ _ _ _ _ _ _
  refine W_if (decide (0 < n2)) rfl (fun g10 => ?_) (fun g10 => ?_)
  · have H := H.1 g10
    refine W_skip ?_
    show W _ _ _ _ _ _ _ _
    refine W_seq ?_
    refine W_block ?_
    refine W_seq ?_
    refine W_seq ?_
    refine W_region (.pu 0 (.pu 1 (.pu 2 .fin))) rfl rfl ?_
    refine s_pu (d := some 9) (v := (.int .i64 n2)) rfl rfl rfl (r_move rfl) ?_
    refine s_pu (d := some 10) (v := (.int .i64 (bAnd .i64 n2 1))) rfl rfl rfl (r_and rfl rfl) ?_
    refine s_pu (d := some 11) (v := (.bool (decide (0 < (bAnd .i64 n2 1))))) rfl rfl rfl (r_gtr rfl rfl) ?_
    refine s_fin ?_
    show W _ _ _ _ _ _ _ _
    refine W_set ?_
    intro N8 eN8
    have H := H (fun (out6 : Int) => ∀ b, N8 [] (mkE [(0, (.int .i64 n2)), (3, (.int .i64 out6)), (4, (.int .i64 vb4))] b) h) (by
      intro out6 H b
      rw [eN8]
      show W _ _ _ _ _ _ _ _
      refine W_region (.pu 0 (.pu 1 (.pu 2 (.pu 3 (.pu 4 .fin))))) rfl rfl ?_
      refine s_pu (d := some 16) (v := (.int .i64 vb4)) rfl rfl rfl (r_move rfl) ?_
      refine s_pu (d := some 17) (v := (.int .i64 vb4)) rfl rfl rfl (r_move rfl) ?_
      refine s_pu (d := some 18) (v := (.int .i64 (w64 (vb4 * vb4)))) rfl rfl rfl (r_mul rfl rfl) ?_
      refine s_pu (d := some 19) (v := (.int .i64 (Int.tmod (w64 (vb4 * vb4)) 2147483647))) rfl rfl rfl (r_rem rfl rfl (by decide)) ?_
      refine s_pu (d := some 4) (v := (.int .i64 (Int.tmod (w64 (vb4 * vb4)) 2147483647))) rfl rfl rfl (r_assign rfl) ?_
      refine s_fin ?_
      show W _ _ _ _ _ _ _ _
      refine W_region (.pu 0 (.pu 1 (.pu 2 .fin))) rfl rfl ?_
      refine s_pu (d := some 7) (v := (.int .i64 n2)) rfl rfl rfl (r_move rfl) ?_
      refine s_pu (d := some 8) (v := (.int .i64 (sShr .i64 n2 1))) rfl rfl rfl (r_shr rfl rfl (by decide)) ?_
      refine s_pu (d := some 0) (v := (.int .i64 (sShr .i64 n2 1))) rfl rfl rfl (r_assign rfl) ?_
      refine s_fin ?_
      exact WL_mk (l := [(0, (.int .i64 (sShr .i64 n2 1))), (3, (.int .i64 out6)), (4, (.int .i64 (Int.tmod (w64 (vb4 * vb4)) 2147483647)))]) H ⟨rfl, rfl, rfl, trivial⟩)
    clear eN8
    refine W_if (decide (0 < (bAnd .i64 n2 1))) rfl (fun g9 => ?_) (fun g9 => ?_)
    · have H := H.1 g9
      refine W_region (.pu 0 (.pu 1 (.pu 2 (.pu 3 (.pu 4 .fin))))) rfl rfl ?_
      refine s_pu (d := some 12) (v := (.int .i64 out3)) rfl rfl rfl (r_move rfl) ?_
      refine s_pu (d := some 13) (v := (.int .i64 vb4)) rfl rfl rfl (r_move rfl) ?_
      refine s_pu (d := some 14) (v := (.int .i64 (w64 (out3 * vb4)))) rfl rfl rfl (r_mul rfl rfl) ?_
      refine s_pu (d := some 15) (v := (.int .i64 (Int.tmod (w64 (out3 * vb4)) 2147483647))) rfl rfl rfl (r_rem rfl rfl (by decide)) ?_
      refine s_pu (d := some 3) (v := (.int .i64 (Int.tmod (w64 (out3 * vb4)) 2147483647))) rfl rfl rfl (r_assign rfl) ?_
      refine s_fin ?_
      exact N_mk (l := [(0, (.int .i64 n2)), (3, (.int .i64 (Int.tmod (w64 (out3 * vb4)) 2147483647))), (4, (.int .i64 vb4))]) H ⟨rfl, rfl, rfl, trivial⟩
    · have H := H.2 g9
      refine W_skip ?_
      exact N_mk (l := [(0, (.int .i64 n2)), (3, (.int .i64 out3)), (4, (.int .i64 vb4))]) H ⟨rfl, rfl, rfl, trivial⟩
  · have H := H.2 g10
    refine W_exit (inX_here ?_)
    show W _ _ _ _ _ _ _ _
    refine W_seq ?_
    refine W_region (.pu 0 (.pu 1 .fin)) rfl rfl ?_
    refine s_pu (d := some 20) (v := (.int .i64 out3)) rfl rfl rfl (r_move rfl) ?_
    refine s_pu (d := some 2) (v := (.int .i64 out3)) rfl rfl rfl (r_assign rfl) ?_
    refine s_fin ?_
    show W _ _ _ _ _ _ _ _
    refine W_ret ?_
    exact ⟨[(.int .i64 out3)], ⟨_, _, rfl, rfl, rfl⟩, out3, rfl, H⟩

/-! ### mono_None -/

def mono_None_F (r : World)  (h : Heap) (R : Int → Int → Int → Int → Int → Heap → Prop) : Prop :=
  New h (.cells #[(.int .i64 0), (.int .i64 0), (.int .i64 0), (.int .i64 0), (.int .i64 0)] 34) fun p1 h1 =>
  St h1 p1 5 [(.int .i64 0), (.int .i64 0), (.int .i64 9223372036854775807), (.int .i64 ((-9223372036854775808))), (.int .i64 0)] fun h2 =>
  LdI h2 (Addr.add p1 0) fun x6 =>
  LdI h2 (Addr.add p1 1) fun x8 =>
  LdI h2 (Addr.add p1 2) fun x10 =>
  LdI h2 (Addr.add p1 3) fun x12 =>
  LdI h2 (Addr.add p1 4) fun x14 =>
  R x6 x8 x10 x12 x14 h2

set_option maxRecDepth 100000 in
theorem mono_None_of {r : World}  {h : Heap} {R : Int → Int → Int → Int → Int → Heap → Prop} (H : mono_None_F r  h R) : mono_None r  h R := by
  unfold mono_None_F at H
  refine calls_of 2 [.cell 0 34] Try.func53 rfl rfl rfl rfl rfl ?_
  refine W_seq ?_
  refine W_region (.ef 0 [] .fin .no) rfl rfl ?_
  obtain ⟨p1, e2⟩ : ∃ p : Addr, p = ⟨h.size, 0, none⟩ := ⟨_, rfl⟩
  obtain ⟨h1, e3⟩ : ∃ hh : Heap, hh = h.push (.cells #[(.int .i64 0), (.int .i64 0), (.int .i64 0), (.int .i64 0), (.int .i64 0)] 34) := ⟨_, rfl⟩
  have H := H p1 h1 e2 e3
  refine s_ef1 (d := some 0) (v := (.pointer (some p1))) (h' := h1) rfl rfl rfl (fun dr => (r_alloc Try.zeroValue34).trans (by rw [e2, e3]; rfl)) trivial ?_ trivial
  refine s_fin ?_
  show W _ _ _ _ _ _ _ _
  refine W_seq ?_
  refine W_region (.pu 0 (.ef 1 [] .fin .no)) rfl rfl ?_
  refine s_pu (d := some 1) (v := (.agg #[(.int .i64 0), (.int .i64 0), (.int .i64 9223372036854775807), (.int .i64 ((-9223372036854775808))), (.int .i64 0)])) rfl rfl rfl (fun w => by kernel_rfl) ?_
  obtain ⟨e5, H⟩ := H
  obtain ⟨h2, e4⟩ : ∃ hh : Heap, hh = hsets h1 p1 0 [(.int .i64 0), (.int .i64 0), (.int .i64 9223372036854775807), (.int .i64 ((-9223372036854775808))), (.int .i64 0)] := ⟨_, rfl⟩
  have H := H h2 e4
  refine s_st (d := none) (h' := h2) rfl rfl rfl (fun dr => (r_store (v := (.agg #[(.int .i64 0), (.int .i64 0), (.int .i64 9223372036854775807), (.int .i64 ((-9223372036854775808))), (.int .i64 0)])) Try.sizeOf34 rfl rfl rfl (one_all rfl) e5).trans (by rw [e4]; rfl)) trivial ?_ trivial
  refine s_fin ?_
  show W _ _ _ _ _ _ _ _
  refine W_ret ?_
  obtain ⟨x6, e7, H⟩ := H
  obtain ⟨x8, e9, H⟩ := H
  obtain ⟨x10, e11, H⟩ := H
  obtain ⟨x12, e13, H⟩ := H
  obtain ⟨x14, e15, H⟩ := H
  exact ⟨[(.agg #[(.int .i64 x6), (.int .i64 x8), (.int .i64 x10), (.int .i64 x12), (.int .i64 x14)])], ⟨_, _, _, rfl, rfl, fun dr => run_loadVarN Try.isAgg34 Try.sizeOf34 (vs := [(.int .i64 x6), (.int .i64 x8), (.int .i64 x10), (.int .i64 x12), (.int .i64 x14)]) rfl ⟨e7, e9, e11, e13, e15, trivial⟩, rfl⟩, x6, x8, x10, x12, x14, rfl, H⟩

/-! ### mono_One -/

def mono_One_F (r : World) (x1 : Int) (h : Heap) (R : Int → Int → Int → Int → Int → Heap → Prop) : Prop :=
  New h (.cells #[(.int .i64 0), (.int .i64 0), (.int .i64 0), (.int .i64 0), (.int .i64 0)] 34) fun p2 h1 =>
  mono_mod r x1 h1 fun y5 h2 =>
  mono_mod r (w64 (y5 + 1)) h2 fun y6 h3 =>
  St h3 p2 5 [(.int .i64 1), (.int .i64 x1), (.int .i64 x1), (.int .i64 x1), (.int .i64 y6)] fun h4 =>
  LdI h4 (Addr.add p2 0) fun x9 =>
  LdI h4 (Addr.add p2 1) fun x11 =>
  LdI h4 (Addr.add p2 2) fun x13 =>
  LdI h4 (Addr.add p2 3) fun x15 =>
  LdI h4 (Addr.add p2 4) fun x17 =>
  R x9 x11 x13 x15 x17 h4

set_option maxRecDepth 100000 in
theorem mono_One_of {r : World} {x1 : Int} {h : Heap} {R : Int → Int → Int → Int → Int → Heap → Prop} (H : mono_One_F r x1 h R) : mono_One r x1 h R := by
  unfold mono_One_F at H
  refine calls_of 11 [.cell 2 34] Try.func62 rfl rfl rfl rfl rfl ?_
  refine W_seq ?_
  refine W_region (.ef 0 [] .fin .no) rfl rfl ?_
  obtain ⟨p2, e3⟩ : ∃ p : Addr, p = ⟨h.size, 0, none⟩ := ⟨_, rfl⟩
  obtain ⟨h1, e4⟩ : ∃ hh : Heap, hh = h.push (.cells #[(.int .i64 0), (.int .i64 0), (.int .i64 0), (.int .i64 0), (.int .i64 0)] 34) := ⟨_, rfl⟩
  have H := H p2 h1 e3 e4
  refine s_ef1 (d := some 2) (v := (.pointer (some p2))) (h' := h1) rfl rfl rfl (fun dr => (r_alloc Try.zeroValue34).trans (by rw [e3, e4]; rfl)) trivial ?_ trivial
  refine s_fin ?_
  show W _ _ _ _ _ _ _ _
  refine W_seq ?_
  refine W_region (.pu 0 (.pu 1 (.pu 2 (.pu 3 (.ef 4 [] (.pu 5 (.ef 6 [] (.pu 7 (.ef 8 [] .fin .no)) .no)) .no))))) rfl rfl ?_
  refine s_pu (d := some 3) (v := (.int .i64 x1)) rfl rfl rfl (r_move rfl) ?_
  refine s_pu (d := some 4) (v := (.int .i64 x1)) rfl rfl rfl (r_move rfl) ?_
  refine s_pu (d := some 5) (v := (.int .i64 x1)) rfl rfl rfl (r_move rfl) ?_
  refine s_pu (d := some 6) (v := (.int .i64 x1)) rfl rfl rfl (r_move rfl) ?_
  refine s_ef (d := some 7) rfl rfl rfl (fun dr => r_call Try.call56 rfl rfl H) ?_ trivial
  rintro _ h2 ⟨y5, rfl, H⟩
  refine ⟨trivial, ?_⟩
  refine s_pu (d := some 8) (v := (.int .i64 (w64 (y5 + 1)))) rfl rfl rfl (r_add rfl rfl) ?_
  refine s_ef (d := some 9) rfl rfl rfl (fun dr => r_call Try.call56 rfl rfl H) ?_ trivial
  rintro _ h3 ⟨y6, rfl, H⟩
  refine ⟨trivial, ?_⟩
  refine s_pu (d := some 10) (v := (.agg #[(.int .i64 1), (.int .i64 x1), (.int .i64 x1), (.int .i64 x1), (.int .i64 y6)])) rfl rfl rfl (fun w => by kernel_rfl) ?_
  obtain ⟨e8, H⟩ := H
  obtain ⟨h4, e7⟩ : ∃ hh : Heap, hh = hsets h3 p2 0 [(.int .i64 1), (.int .i64 x1), (.int .i64 x1), (.int .i64 x1), (.int .i64 y6)] := ⟨_, rfl⟩
  have H := H h4 e7
  refine s_st (d := none) (h' := h4) rfl rfl rfl (fun dr => (r_store (v := (.agg #[(.int .i64 1), (.int .i64 x1), (.int .i64 x1), (.int .i64 x1), (.int .i64 y6)])) Try.sizeOf34 rfl rfl rfl (one_all rfl) e8).trans (by rw [e7]; rfl)) trivial ?_ trivial
  refine s_fin ?_
  show W _ _ _ _ _ _ _ _
  refine W_ret ?_
  obtain ⟨x9, e10, H⟩ := H
  obtain ⟨x11, e12, H⟩ := H
  obtain ⟨x13, e14, H⟩ := H
  obtain ⟨x15, e16, H⟩ := H
  obtain ⟨x17, e18, H⟩ := H
  exact ⟨[(.agg #[(.int .i64 x9), (.int .i64 x11), (.int .i64 x13), (.int .i64 x15), (.int .i64 x17)])], ⟨_, _, _, rfl, rfl, fun dr => run_loadVarN Try.isAgg34 Try.sizeOf34 (vs := [(.int .i64 x9), (.int .i64 x11), (.int .i64 x13), (.int .i64 x15), (.int .i64 x17)]) rfl ⟨e10, e12, e14, e16, e18, trivial⟩, rfl⟩, x9, x11, x13, x15, x17, rfl, H⟩

/-! ### mono_Join -/

def mono_Join_F (r : World) (a1 : Int) (a2 : Int) (a3 : Int) (a4 : Int) (a5 : Int) (vb6 : Int) (vb7 : Int) (vb8 : Int) (vb9 : Int) (vb10 : Int) (h : Heap) (R : Int → Int → Int → Int → Int → Heap → Prop) : Prop :=
  New h (.cells #[(.int .i64 a1), (.int .i64 a2), (.int .i64 a3), (.int .i64 a4), (.int .i64 a5)] 34) fun p11 h1 =>
  New h1 (.cells #[(.int .i64 vb6), (.int .i64 vb7), (.int .i64 vb8), (.int .i64 vb9), (.int .i64 vb10)] 34) fun p14 h2 =>
  New h2 (.cells #[(.int .i64 0), (.int .i64 0), (.int .i64 0), (.int .i64 0), (.int .i64 0)] 34) fun p17 h3 =>
  LdI h3 (Addr.add p11 0) fun x20 =>
  LdI h3 (Addr.add p14 0) fun x22 =>
  LdI h3 (Addr.add p11 1) fun x24 =>
  LdI h3 (Addr.add p14 1) fun x26 =>
  LdI h3 (Addr.add p11 2) fun x28 =>
  LdI h3 (Addr.add p14 2) fun x30 =>
  LdI h3 (Addr.add p11 3) fun x32 =>
  LdI h3 (Addr.add p14 3) fun x34 =>
  LdI h3 (Addr.add p11 4) fun x36 =>
  LdI h3 (Addr.add p14 0) fun x38 =>
  LdI h3 (Addr.add p14 4) fun x40 =>
  mono_mod r x36 h3 fun y42 h4 =>
  (hcell h4 (Addr.add p14 4) = some (.int .i64 x40)) ∧
  (hcell h4 (Addr.add p14 0) = some (.int .i64 x38)) ∧
  (hcell h4 (Addr.add p14 3) = some (.int .i64 x34)) ∧
  (hcell h4 (Addr.add p11 3) = some (.int .i64 x32)) ∧
  (hcell h4 (Addr.add p14 2) = some (.int .i64 x30)) ∧
  (hcell h4 (Addr.add p11 2) = some (.int .i64 x28)) ∧
  (hcell h4 (Addr.add p14 1) = some (.int .i64 x26)) ∧
  (hcell h4 (Addr.add p11 1) = some (.int .i64 x24)) ∧
  (hcell h4 (Addr.add p14 0) = some (.int .i64 x22)) ∧
  (hcell h4 (Addr.add p11 0) = some (.int .i64 x20)) ∧
  mono_power r x38 h4 fun y53 h5 =>
  (hcell h5 (Addr.add p14 4) = some (.int .i64 x40)) ∧
  (hcell h5 (Addr.add p14 3) = some (.int .i64 x34)) ∧
  (hcell h5 (Addr.add p11 3) = some (.int .i64 x32)) ∧
  (hcell h5 (Addr.add p14 2) = some (.int .i64 x30)) ∧
  (hcell h5 (Addr.add p11 2) = some (.int .i64 x28)) ∧
  (hcell h5 (Addr.add p14 1) = some (.int .i64 x26)) ∧
  (hcell h5 (Addr.add p11 1) = some (.int .i64 x24)) ∧
  (hcell h5 (Addr.add p14 0) = some (.int .i64 x22)) ∧
  (hcell h5 (Addr.add p11 0) = some (.int .i64 x20)) ∧
  mono_mod r x40 h5 fun y63 h6 =>
  (hcell h6 (Addr.add p14 3) = some (.int .i64 x34)) ∧
  (hcell h6 (Addr.add p11 3) = some (.int .i64 x32)) ∧
  (hcell h6 (Addr.add p14 2) = some (.int .i64 x30)) ∧
  (hcell h6 (Addr.add p11 2) = some (.int .i64 x28)) ∧
  (hcell h6 (Addr.add p14 1) = some (.int .i64 x26)) ∧
  (hcell h6 (Addr.add p11 1) = some (.int .i64 x24)) ∧
  (hcell h6 (Addr.add p14 0) = some (.int .i64 x22)) ∧
  (hcell h6 (Addr.add p11 0) = some (.int .i64 x20)) ∧
  St h6 p17 5 [(.int .i64 (w64 (x20 + x22))), (.int .i64 (w64 (x24 + x26))), (.int .i64 (min x28 x30)), (.int .i64 (max x32 x34)), (.int .i64 (Int.tmod (w64 ((w64 (y42 * y53)) + y63)) 2147483647))] fun h7 =>
  LdI h7 (Addr.add p17 0) fun x74 =>
  LdI h7 (Addr.add p17 1) fun x76 =>
  LdI h7 (Addr.add p17 2) fun x78 =>
  LdI h7 (Addr.add p17 3) fun x80 =>
  LdI h7 (Addr.add p17 4) fun x82 =>
  R x74 x76 x78 x80 x82 h7

set_option maxRecDepth 100000 in
theorem mono_Join_of {r : World} {a1 : Int} {a2 : Int} {a3 : Int} {a4 : Int} {a5 : Int} {vb6 : Int} {vb7 : Int} {vb8 : Int} {vb9 : Int} {vb10 : Int} {h : Heap} {R : Int → Int → Int → Int → Int → Heap → Prop} (H : mono_Join_F r a1 a2 a3 a4 a5 vb6 vb7 vb8 vb9 vb10 h R) : mono_Join r a1 a2 a3 a4 a5 vb6 vb7 vb8 vb9 vb10 h R := by
  unfold mono_Join_F at H
  refine calls_of 38 [.cell 4 34] Try.func27 rfl rfl rfl rfl rfl ?_
  refine W_seq ?_
  refine W_region (.ef 0 [] (.ef 1 [] (.ef 2 [] .fin .no) .no) .no) rfl rfl ?_
  obtain ⟨p11, e12⟩ : ∃ p : Addr, p = ⟨h.size, 0, none⟩ := ⟨_, rfl⟩
  obtain ⟨h1, e13⟩ : ∃ hh : Heap, hh = h.push (.cells #[(.int .i64 a1), (.int .i64 a2), (.int .i64 a3), (.int .i64 a4), (.int .i64 a5)] 34) := ⟨_, rfl⟩
  have H := H p11 h1 e12 e13
  refine s_ef1 (d := some 2) (v := (.pointer (some p11))) (h' := h1) rfl rfl rfl (fun dr => (r_box (v := (.agg #[(.int .i64 a1), (.int .i64 a2), (.int .i64 a3), (.int .i64 a4), (.int .i64 a5)])) rfl).trans (by rw [e12, e13]; rfl)) trivial ?_ trivial
  obtain ⟨p14, e15⟩ : ∃ p : Addr, p = ⟨h1.size, 0, none⟩ := ⟨_, rfl⟩
  obtain ⟨h2, e16⟩ : ∃ hh : Heap, hh = h1.push (.cells #[(.int .i64 vb6), (.int .i64 vb7), (.int .i64 vb8), (.int .i64 vb9), (.int .i64 vb10)] 34) := ⟨_, rfl⟩
  have H := H p14 h2 e15 e16
  refine s_ef1 (d := some 3) (v := (.pointer (some p14))) (h' := h2) rfl rfl rfl (fun dr => (r_box (v := (.agg #[(.int .i64 vb6), (.int .i64 vb7), (.int .i64 vb8), (.int .i64 vb9), (.int .i64 vb10)])) rfl).trans (by rw [e15, e16]; rfl)) trivial ?_ trivial
  obtain ⟨p17, e18⟩ : ∃ p : Addr, p = ⟨h2.size, 0, none⟩ := ⟨_, rfl⟩
  obtain ⟨h3, e19⟩ : ∃ hh : Heap, hh = h2.push (.cells #[(.int .i64 0), (.int .i64 0), (.int .i64 0), (.int .i64 0), (.int .i64 0)] 34) := ⟨_, rfl⟩
  have H := H p17 h3 e18 e19
  refine s_ef1 (d := some 4) (v := (.pointer (some p17))) (h' := h3) rfl rfl rfl (fun dr => (r_alloc Try.zeroValue34).trans (by rw [e18, e19]; rfl)) trivial ?_ trivial
  refine s_fin ?_
  show W _ _ _ _ _ _ _ _
  refine W_seq ?_
  refine W_draw [0, 1, 0, 4, 15, 0, 32, 0, 128, 480, 0, 1024, 0, 4096, 15360, 0, 32768, 0, 131072, 491520, 0, 1048576, 3145728, 0, 8388608, 32505856, 66060288, 0, 134217728, 468713472, 1072693248, 2146435072, 4294967295, 8589934591] (.pu 0 (.rd 1 (.pu 2 (.rd 3 (.pu 4 (.pu 5 (.rd 6 (.pu 7 (.rd 8 (.pu 9 (.pu 10 (.rd 11 (.pu 12 (.rd 13 (.pu 14 (.pu 15 (.rd 16 (.pu 17 (.rd 18 (.pu 19 (.pu 20 (.rd 21 (.pu 23 (.rd 24 (.pu 27 (.rd 28 (.ef 22 [21] (.ef 25 [21, 24] (.pu 26 (.ef 29 [21, 24, 28] (.pu 30 (.pu 31 (.pu 32 (.ef 33 [1, 3, 6, 8, 11, 13, 16, 18, 21, 24, 28] .fin .no)))) .no)) .no) .no))))))))))))))))))))))))))) (by kernel_rfl) (by kernel_rfl) ?_
  refine s_pu (d := some 5) (v := (.pointer (some (Addr.add p11 0)))) rfl rfl rfl (r_fieldAddr Try.underlying34 Try.sizeOf3 rfl rfl rfl) ?_
  obtain ⟨x20, e21, H⟩ := H
  refine s_rd (d := some 6) (v := (.int .i64 x20)) rfl rfl rfl (fun dr => r_load1 Try.isAgg3 rfl e21) ?_
  refine s_pu (d := some 7) (v := (.pointer (some (Addr.add p14 0)))) rfl rfl rfl (r_fieldAddr Try.underlying34 Try.sizeOf3 rfl rfl rfl) ?_
  obtain ⟨x22, e23, H⟩ := H
  refine s_rd (d := some 8) (v := (.int .i64 x22)) rfl rfl rfl (fun dr => r_load1 Try.isAgg3 rfl e23) ?_
  refine s_pu (d := some 9) (v := (.int .i64 (w64 (x20 + x22)))) rfl rfl rfl (r_add rfl rfl) ?_
  refine s_pu (d := some 10) (v := (.pointer (some (Addr.add p11 1)))) rfl rfl rfl (r_fieldAddr Try.underlying34 Try.sizeOf3 rfl rfl rfl) ?_
  obtain ⟨x24, e25, H⟩ := H
  refine s_rd (d := some 11) (v := (.int .i64 x24)) rfl rfl rfl (fun dr => r_load1 Try.isAgg3 rfl e25) ?_
  refine s_pu (d := some 12) (v := (.pointer (some (Addr.add p14 1)))) rfl rfl rfl (r_fieldAddr Try.underlying34 Try.sizeOf3 rfl rfl rfl) ?_
  obtain ⟨x26, e27, H⟩ := H
  refine s_rd (d := some 13) (v := (.int .i64 x26)) rfl rfl rfl (fun dr => r_load1 Try.isAgg3 rfl e27) ?_
  refine s_pu (d := some 14) (v := (.int .i64 (w64 (x24 + x26)))) rfl rfl rfl (r_add rfl rfl) ?_
  refine s_pu (d := some 15) (v := (.pointer (some (Addr.add p11 2)))) rfl rfl rfl (r_fieldAddr Try.underlying34 Try.sizeOf3 rfl rfl rfl) ?_
  obtain ⟨x28, e29, H⟩ := H
  refine s_rd (d := some 16) (v := (.int .i64 x28)) rfl rfl rfl (fun dr => r_load1 Try.isAgg3 rfl e29) ?_
  refine s_pu (d := some 17) (v := (.pointer (some (Addr.add p14 2)))) rfl rfl rfl (r_fieldAddr Try.underlying34 Try.sizeOf3 rfl rfl rfl) ?_
  obtain ⟨x30, e31, H⟩ := H
  refine s_rd (d := some 18) (v := (.int .i64 x30)) rfl rfl rfl (fun dr => r_load1 Try.isAgg3 rfl e31) ?_
  refine s_pu (d := some 19) (v := (.int .i64 (min x28 x30))) rfl rfl rfl (r_min rfl rfl) ?_
  refine s_pu (d := some 20) (v := (.pointer (some (Addr.add p11 3)))) rfl rfl rfl (r_fieldAddr Try.underlying34 Try.sizeOf3 rfl rfl rfl) ?_
  obtain ⟨x32, e33, H⟩ := H
  refine s_rd (d := some 21) (v := (.int .i64 x32)) rfl rfl rfl (fun dr => r_load1 Try.isAgg3 rfl e33) ?_
  refine s_pu (d := some 22) (v := (.pointer (some (Addr.add p14 3)))) rfl rfl rfl (r_fieldAddr Try.underlying34 Try.sizeOf3 rfl rfl rfl) ?_
  obtain ⟨x34, e35, H⟩ := H
  refine s_rd (d := some 23) (v := (.int .i64 x34)) rfl rfl rfl (fun dr => r_load1 Try.isAgg3 rfl e35) ?_
  refine s_pu (d := some 24) (v := (.int .i64 (max x32 x34))) rfl rfl rfl (r_max rfl rfl) ?_
  refine s_pu (d := some 25) (v := (.pointer (some (Addr.add p11 4)))) rfl rfl rfl (r_fieldAddr Try.underlying34 Try.sizeOf3 rfl rfl rfl) ?_
  obtain ⟨x36, e37, H⟩ := H
  refine s_rd (d := some 26) (v := (.int .i64 x36)) rfl rfl rfl (fun dr => r_load1 Try.isAgg3 rfl e37) ?_
  refine s_pu (d := some 28) (v := (.pointer (some (Addr.add p14 0)))) rfl rfl rfl (r_fieldAddr Try.underlying34 Try.sizeOf3 rfl rfl rfl) ?_
  obtain ⟨x38, e39, H⟩ := H
  refine s_rd (d := some 29) (v := (.int .i64 x38)) rfl rfl rfl (fun dr => r_load1 Try.isAgg3 rfl e39) ?_
  refine s_pu (d := some 32) (v := (.pointer (some (Addr.add p14 4)))) rfl rfl rfl (r_fieldAddr Try.underlying34 Try.sizeOf3 rfl rfl rfl) ?_
  obtain ⟨x40, e41, H⟩ := H
  refine s_rd (d := some 33) (v := (.int .i64 x40)) rfl rfl rfl (fun dr => r_load1 Try.isAgg3 rfl e41) ?_
  refine s_ef (d := some 27) rfl rfl rfl (fun dr => r_call Try.call56 rfl rfl H) ?_ trivial
  rintro _ h4 ⟨y42, rfl, H⟩
  obtain ⟨e43, H⟩ := H
  obtain ⟨e44, H⟩ := H
  obtain ⟨e45, H⟩ := H
  obtain ⟨e46, H⟩ := H
  obtain ⟨e47, H⟩ := H
  obtain ⟨e48, H⟩ := H
  obtain ⟨e49, H⟩ := H
  obtain ⟨e50, H⟩ := H
  obtain ⟨e51, H⟩ := H
  obtain ⟨e52, H⟩ := H
  refine ⟨⟨(.inl ⟨rfl, fun dr => r_load1 Try.isAgg3 rfl e43⟩), (.inl ⟨rfl, fun dr => r_load1 Try.isAgg3 rfl e44⟩), trivial, (.inl ⟨rfl, fun dr => r_load1 Try.isAgg3 rfl e45⟩), (.inl ⟨rfl, fun dr => r_load1 Try.isAgg3 rfl e46⟩), (.inl ⟨rfl, fun dr => r_load1 Try.isAgg3 rfl e47⟩), (.inl ⟨rfl, fun dr => r_load1 Try.isAgg3 rfl e48⟩), (.inl ⟨rfl, fun dr => r_load1 Try.isAgg3 rfl e49⟩), (.inl ⟨rfl, fun dr => r_load1 Try.isAgg3 rfl e50⟩), (.inl ⟨rfl, fun dr => r_load1 Try.isAgg3 rfl e51⟩), (.inl ⟨rfl, fun dr => r_load1 Try.isAgg3 rfl e52⟩), trivial⟩, ?_⟩
  refine s_ef (d := some 30) rfl rfl rfl (fun dr => r_call Try.call57 rfl rfl H) ?_ trivial
  rintro _ h5 ⟨y53, rfl, H⟩
  obtain ⟨e54, H⟩ := H
  obtain ⟨e55, H⟩ := H
  obtain ⟨e56, H⟩ := H
  obtain ⟨e57, H⟩ := H
  obtain ⟨e58, H⟩ := H
  obtain ⟨e59, H⟩ := H
  obtain ⟨e60, H⟩ := H
  obtain ⟨e61, H⟩ := H
  obtain ⟨e62, H⟩ := H
  refine ⟨⟨(.inl ⟨rfl, fun dr => r_load1 Try.isAgg3 rfl e54⟩), trivial, trivial, (.inl ⟨rfl, fun dr => r_load1 Try.isAgg3 rfl e55⟩), (.inl ⟨rfl, fun dr => r_load1 Try.isAgg3 rfl e56⟩), (.inl ⟨rfl, fun dr => r_load1 Try.isAgg3 rfl e57⟩), (.inl ⟨rfl, fun dr => r_load1 Try.isAgg3 rfl e58⟩), (.inl ⟨rfl, fun dr => r_load1 Try.isAgg3 rfl e59⟩), (.inl ⟨rfl, fun dr => r_load1 Try.isAgg3 rfl e60⟩), (.inl ⟨rfl, fun dr => r_load1 Try.isAgg3 rfl e61⟩), (.inl ⟨rfl, fun dr => r_load1 Try.isAgg3 rfl e62⟩), trivial⟩, ?_⟩
  refine s_pu (d := some 31) (v := (.int .i64 (w64 (y42 * y53)))) rfl rfl rfl (r_mul rfl rfl) ?_
  refine s_ef (d := some 34) rfl rfl rfl (fun dr => r_call Try.call56 rfl rfl H) ?_ trivial
  rintro _ h6 ⟨y63, rfl, H⟩
  obtain ⟨e64, H⟩ := H
  obtain ⟨e65, H⟩ := H
  obtain ⟨e66, H⟩ := H
  obtain ⟨e67, H⟩ := H
  obtain ⟨e68, H⟩ := H
  obtain ⟨e69, H⟩ := H
  obtain ⟨e70, H⟩ := H
  obtain ⟨e71, H⟩ := H
  refine ⟨⟨trivial, trivial, trivial, (.inl ⟨rfl, fun dr => r_load1 Try.isAgg3 rfl e64⟩), (.inl ⟨rfl, fun dr => r_load1 Try.isAgg3 rfl e65⟩), (.inl ⟨rfl, fun dr => r_load1 Try.isAgg3 rfl e66⟩), (.inl ⟨rfl, fun dr => r_load1 Try.isAgg3 rfl e67⟩), (.inl ⟨rfl, fun dr => r_load1 Try.isAgg3 rfl e68⟩), (.inl ⟨rfl, fun dr => r_load1 Try.isAgg3 rfl e69⟩), (.inl ⟨rfl, fun dr => r_load1 Try.isAgg3 rfl e70⟩), (.inl ⟨rfl, fun dr => r_load1 Try.isAgg3 rfl e71⟩), trivial⟩, ?_⟩
  refine s_pu (d := some 35) (v := (.int .i64 (w64 ((w64 (y42 * y53)) + y63)))) rfl rfl rfl (r_add rfl rfl) ?_
  refine s_pu (d := some 36) (v := (.int .i64 (Int.tmod (w64 ((w64 (y42 * y53)) + y63)) 2147483647))) rfl rfl rfl (r_rem rfl rfl (by decide)) ?_
  refine s_pu (d := some 37) (v := (.agg #[(.int .i64 (w64 (x20 + x22))), (.int .i64 (w64 (x24 + x26))), (.int .i64 (min x28 x30)), (.int .i64 (max x32 x34)), (.int .i64 (Int.tmod (w64 ((w64 (y42 * y53)) + y63)) 2147483647))])) rfl rfl rfl (fun w => by kernel_rfl) ?_
  obtain ⟨e73, H⟩ := H
  obtain ⟨h7, e72⟩ : ∃ hh : Heap, hh = hsets h6 p17 0 [(.int .i64 (w64 (x20 + x22))), (.int .i64 (w64 (x24 + x26))), (.int .i64 (min x28 x30)), (.int .i64 (max x32 x34)), (.int .i64 (Int.tmod (w64 ((w64 (y42 * y53)) + y63)) 2147483647))] := ⟨_, rfl⟩
  have H := H h7 e72
  refine s_st (d := none) (h' := h7) rfl rfl rfl (fun dr => (r_store (v := (.agg #[(.int .i64 (w64 (x20 + x22))), (.int .i64 (w64 (x24 + x26))), (.int .i64 (min x28 x30)), (.int .i64 (max x32 x34)), (.int .i64 (Int.tmod (w64 ((w64 (y42 * y53)) + y63)) 2147483647))])) Try.sizeOf34 rfl rfl rfl (one_all rfl) e73).trans (by rw [e72]; rfl)) ⟨trivial, trivial, trivial, trivial, trivial, trivial, trivial, trivial, trivial, trivial, trivial, trivial⟩ ?_ trivial
  refine s_fin ?_
  show W _ _ _ _ _ _ _ _
  refine W_ret ?_
  obtain ⟨x74, e75, H⟩ := H
  obtain ⟨x76, e77, H⟩ := H
  obtain ⟨x78, e79, H⟩ := H
  obtain ⟨x80, e81, H⟩ := H
  obtain ⟨x82, e83, H⟩ := H
  exact ⟨[(.agg #[(.int .i64 x74), (.int .i64 x76), (.int .i64 x78), (.int .i64 x80), (.int .i64 x82)])], ⟨_, _, _, rfl, rfl, fun dr => run_loadVarN Try.isAgg34 Try.sizeOf34 (vs := [(.int .i64 x74), (.int .i64 x76), (.int .i64 x78), (.int .i64 x80), (.int .i64 x82)]) rfl ⟨e75, e77, e79, e81, e83, trivial⟩, rfl⟩, x74, x76, x78, x80, x82, rfl, H⟩

/-! ### ref1_Mod -/

def ref1_Mod_F (r : World) (n1 : Int) (h : Heap) (R : Int → Heap → Prop) : Prop :=
  Br (decide ((Int.tmod n1 2147483647) < 0)) (
    R (w64 ((Int.tmod n1 2147483647) + 2147483647)) h) (
    R (Int.tmod n1 2147483647) h)

set_option maxRecDepth 100000 in
theorem ref1_Mod_of {r : World} {n1 : Int} {h : Heap} {R : Int → Heap → Prop} (H : ref1_Mod_F r n1 h R) : ref1_Mod r n1 h R := by
  unfold ref1_Mod_F at H
  refine calls_of 11 [.tmp 2] Try.func52 rfl rfl rfl rfl rfl ?_
  refine W_seq ?_
  refine W_region (.pu 0 .fin) rfl rfl ?_
  refine s_pu (d := some 2) (v := (.int .i64 0)) rfl rfl rfl (r_assign rfl) ?_
  refine s_fin ?_
  show W _ _ _ _ _ _ _ _
  refine W_seq ?_
  refine W_region (.pu 0 (.pu 1 (.pu 2 .fin))) rfl rfl ?_
  refine s_pu (d := some 4) (v := (.int .i64 n1)) rfl rfl rfl (r_move rfl) ?_
  refine s_pu (d := some 5) (v := (.int .i64 (Int.tmod n1 2147483647))) rfl rfl rfl (r_rem rfl rfl (by decide)) ?_
  refine s_pu (d := some 3) (v := (.int .i64 (Int.tmod n1 2147483647))) rfl rfl rfl (r_assign rfl) ?_
  refine s_fin ?_
  show W _ _ _ _ _ _ _ _
  refine W_seq ?_
  refine W_seq ?_
  refine W_region (.pu 0 (.pu 1 .fin)) rfl rfl ?_
  refine s_pu (d := some 6) (v := (.int .i64 (Int.tmod n1 2147483647))) rfl rfl rfl (r_move rfl) ?_
  refine s_pu (d := some 7) (v := (.bool (decide ((Int.tmod n1 2147483647) < 0)))) rfl rfl rfl (r_lss rfl rfl) ?_
  refine s_fin ?_
  show W _ _ _ _ _ _ _ _
  refine W_if (decide ((Int.tmod n1 2147483647) < 0)) rfl (fun g2 => ?_) (fun g2 => ?_)
  · have H := H.1 g2
    refine W_seq ?_
    refine W_region (.pu 0 (.pu 1 (.pu 2 .fin))) rfl rfl ?_
    refine s_pu (d := some 8) (v := (.int .i64 (Int.tmod n1 2147483647))) rfl rfl rfl (r_move rfl) ?_
    refine s_pu (d := some 9) (v := (.int .i64 (w64 ((Int.tmod n1 2147483647) + 2147483647)))) rfl rfl rfl (r_add rfl rfl) ?_
    refine s_pu (d := some 2) (v := (.int .i64 (w64 ((Int.tmod n1 2147483647) + 2147483647)))) rfl rfl rfl (r_assign rfl) ?_
    refine s_fin ?_
    show W _ _ _ _ _ _ _ _
    refine W_ret ?_
    exact ⟨[(.int .i64 (w64 ((Int.tmod n1 2147483647) + 2147483647)))], ⟨_, _, rfl, rfl, rfl⟩, (w64 ((Int.tmod n1 2147483647) + 2147483647)), rfl, H⟩
  · have H := H.2 g2
    refine W_skip ?_
    show W _ _ _ _ _ _ _ _
    refine W_seq ?_
    refine W_region (.pu 0 (.pu 1 .fin)) rfl rfl ?_
    refine s_pu (d := some 10) (v := (.int .i64 (Int.tmod n1 2147483647))) rfl rfl rfl (r_move rfl) ?_
    refine s_pu (d := some 2) (v := (.int .i64 (Int.tmod n1 2147483647))) rfl rfl rfl (r_assign rfl) ?_
    refine s_fin ?_
    show W _ _ _ _ _ _ _ _
    refine W_ret ?_
    exact ⟨[(.int .i64 (Int.tmod n1 2147483647))], ⟨_, _, rfl, rfl, rfl⟩, (Int.tmod n1 2147483647), rfl, H⟩

/-! ### ref1_MeasureOf -/

def ref1_MeasureOf_F (r : World) (l1 : Sl) (h : Heap) (R : Int → Int → Int → Int → Int → Heap → Prop) : Prop :=
  New h (.cells #[(.int .i64 0), (.int .i64 0), (.int .i64 0), (.int .i64 0), (.int .i64 0)] 34) fun p2 h1 =>
  New h1 (.cells #[(.int .i64 0), (.int .i64 0), (.int .i64 0), (.int .i64 0), (.int .i64 0)] 34) fun p5 h2 =>
  St h2 p5 5 [(.int .i64 ((l1.len : Int))), (.int .i64 0), (.int .i64 9223372036854775807), (.int .i64 ((-9223372036854775808))), (.int .i64 0)] fun h3 =>
  ∀ X11 : Int → Heap → Prop, (∀ (i10 : Int) (h4 : Heap),
    (Br (decide (i10 < ((l1.len : Int)))) (
      LdI h4 (Addr.add p5 1) fun x12 =>
      Ix l1 i10 1 fun q18 =>
      LdI h4 q18 fun x20 =>
      St h4 (Addr.add p5 1) 1 [(.int .i64 (w64 (x12 + x20)))] fun h5 =>
      Ix l1 i10 1 fun q28 =>
      LdI h5 q28 fun x30 =>
      LdI h5 (Addr.add p5 2) fun x32 =>
      ∀ J34 : Heap → Prop, (∀ (h6 : Heap),
        (Ix l1 i10 1 fun q40 =>
        LdI h6 q40 fun x42 =>
        LdI h6 (Addr.add p5 3) fun x44 =>
        ∀ J46 : Heap → Prop, (∀ (h7 : Heap),
          (LdI h7 (Addr.add p5 4) fun x48 =>
          Ix l1 i10 1 fun q54 =>
          LdI h7 q54 fun x56 =>
          ref1_Mod r x56 h7 fun y58 h8 =>
          (hcell h8 (Addr.add p5 4) = some (.int .i64 x48)) ∧
          ref1_Mod r (w64 ((w64 ((w64 (131 * x48)) + y58)) + 1)) h8 fun y60 h9 =>
          St h9 (Addr.add p5 4) 1 [(.int .i64 y60)] fun h10 =>
          X11 (w64 (i10 + 1)) h10) →
          J46 h7) →
        Br (decide (x44 < x42)) (
          Ix l1 i10 1 fun q67 =>
          LdI h6 q67 fun x69 =>
          St h6 (Addr.add p5 3) 1 [(.int .i64 x69)] fun h11 =>
          J46 h11) (
          J46 h6)) →
        J34 h6) →
      Br (decide (x30 < x32)) (
        Ix l1 i10 1 fun q78 =>
        LdI h5 q78 fun x80 =>
        St h5 (Addr.add p5 2) 1 [(.int .i64 x80)] fun h12 =>
        J34 h12) (
        J34 h5)) (
      LdI h4 (Addr.add p5 0) fun x85 =>
      LdI h4 (Addr.add p5 1) fun x87 =>
      LdI h4 (Addr.add p5 2) fun x89 =>
      LdI h4 (Addr.add p5 3) fun x91 =>
      LdI h4 (Addr.add p5 4) fun x93 =>
      St h4 p2 5 [(.int .i64 x85), (.int .i64 x87), (.int .i64 x89), (.int .i64 x91), (.int .i64 x93)] fun h13 =>
      LdI h13 (Addr.add p2 0) fun x97 =>
      LdI h13 (Addr.add p2 1) fun x99 =>
      LdI h13 (Addr.add p2 2) fun x101 =>
      LdI h13 (Addr.add p2 3) fun x103 =>
      LdI h13 (Addr.add p2 4) fun x105 =>
      R x97 x99 x101 x103 x105 h13)) →
    X11 i10 h4) →
  X11 0 h3

set_option maxRecDepth 100000 in
theorem ref1_MeasureOf_of {r : World} {l1 : Sl} {h : Heap} {R : Int → Int → Int → Int → Int → Heap → Prop} (H : ref1_MeasureOf_F r l1 h R) : ref1_MeasureOf r l1 h R := by
  unfold ref1_MeasureOf_F at H
  refine calls_of 59 [.cell 2 34] Try.func21 rfl rfl rfl rfl rfl ?_
  refine W_seq ?_
  refine W_region (.ef 0 [] .fin .no) rfl rfl ?_
  obtain ⟨p2, e3⟩ : ∃ p : Addr, p = ⟨h.size, 0, none⟩ := ⟨_, rfl⟩
  obtain ⟨h1, e4⟩ : ∃ hh : Heap, hh = h.push (.cells #[(.int .i64 0), (.int .i64 0), (.int .i64 0), (.int .i64 0), (.int .i64 0)] 34) := ⟨_, rfl⟩
  have H := H p2 h1 e3 e4
  refine s_ef1 (d := some 2) (v := (.pointer (some p2))) (h' := h1) rfl rfl rfl (fun dr => (r_alloc Try.zeroValue34).trans (by rw [e3, e4]; rfl)) trivial ?_ trivial
  refine s_fin ?_
  show W _ _ _ _ _ _ _ _
  refine W_seq ?_
  refine W_region (.pu 0 (.pu 1 (.pu 2 (.ef 3 [] (.ef 4 [] .fin .no) .no)))) rfl rfl ?_
  refine s_pu (d := some 5) (v := (Sl.v l1)) rfl rfl rfl (r_move rfl) ?_
  refine s_pu (d := some 6) (v := (.int .i64 ((l1.len : Int)))) rfl rfl rfl (r_len Try.underlying22 rfl) ?_
  refine s_pu (d := some 7) (v := (.agg #[(.int .i64 ((l1.len : Int))), (.int .i64 0), (.int .i64 9223372036854775807), (.int .i64 ((-9223372036854775808))), (.int .i64 0)])) rfl rfl rfl (fun w => by kernel_rfl) ?_
  obtain ⟨p5, e6⟩ : ∃ p : Addr, p = ⟨h1.size, 0, none⟩ := ⟨_, rfl⟩
  obtain ⟨h2, e7⟩ : ∃ hh : Heap, hh = h1.push (.cells #[(.int .i64 0), (.int .i64 0), (.int .i64 0), (.int .i64 0), (.int .i64 0)] 34) := ⟨_, rfl⟩
  have H := H p5 h2 e6 e7
  refine s_ef1 (d := some 3) (v := (.pointer (some p5))) (h' := h2) rfl rfl rfl (fun dr => (r_alloc Try.zeroValue34).trans (by rw [e6, e7]; rfl)) trivial ?_ trivial
  obtain ⟨e9, H⟩ := H
  obtain ⟨h3, e8⟩ : ∃ hh : Heap, hh = hsets h2 p5 0 [(.int .i64 ((l1.len : Int))), (.int .i64 0), (.int .i64 9223372036854775807), (.int .i64 ((-9223372036854775808))), (.int .i64 0)] := ⟨_, rfl⟩
  have H := H h3 e8
  refine s_st (d := none) (h' := h3) rfl rfl rfl (fun dr => (r_store (v := (.agg #[(.int .i64 ((l1.len : Int))), (.int .i64 0), (.int .i64 9223372036854775807), (.int .i64 ((-9223372036854775808))), (.int .i64 0)])) Try.sizeOf34 rfl rfl rfl (one_all rfl) e9).trans (by rw [e8]; rfl)) trivial ?_ trivial
  refine s_fin ?_
  show W _ _ _ _ _ _ _ _
  refine W_seq ?_
  refine W_seq ?_
  refine W_region (.pu 0 .fin) rfl rfl ?_
  refine s_pu (d := some 4) (v := (.int .i64 0)) rfl rfl rfl (r_assign rfl) ?_
  refine s_fin ?_
  show W _ _ _ _ _ _ _ _
  refine W_block ?_
  refine W_loop (WL_mk (l := [(0, (Sl.v l1)), (2, (.pointer (some p2))), (3, (.pointer (some p5))), (4, (.int .i64 0))]) ?_ ⟨rfl, rfl, rfl, rfl, trivial⟩)
  refine H (fun (i10 : Int) (h4 : Heap) => ∀ b, WL _ _ _ _ _ _ (mkE [(0, (Sl.v l1)), (2, (.pointer (some p2))), (3, (.pointer (some p5))), (4, (.int .i64 i10))] b) h4) ?_
  intro i10 h4 H b
  refine WL_round ?_
  refine W_seq ?_
  refine W_seq ?_
  refine W_region (.pu 0 (.pu 1 (.pu 2 (.pu 3 .fin)))) rfl rfl ?_
  refine s_pu (d := some 8) (v := (.int .i64 i10)) rfl rfl rfl (r_move rfl) ?_
  refine s_pu (d := some 9) (v := (Sl.v l1)) rfl rfl rfl (r_move rfl) ?_
  refine s_pu (d := some 10) (v := (.int .i64 ((l1.len : Int)))) rfl rfl rfl (r_len Try.underlying22 rfl) ?_
  refine s_pu (d := some 11) (v := (.bool (decide (i10 < ((l1.len : Int)))))) rfl rfl rfl (r_lss rfl rfl) ?_
  refine s_fin ?_
  show W _ _ _ _ _ _ _ _
  refine W_if (decide (i10 < ((l1.len : Int)))) rfl (fun g107 => ?_) (fun g107 => ?_)
  · have H := H.1 g107
    refine W_skip ?_
    show W _ _ _ _ _ _ _ _
    refine W_seq ?_
    refine W_block ?_
    refine W_seq ?_
    refine W_draw [0, 1, 0, 0, 12, 28, 63, 127, 255] (.pu 0 (.rd 1 (.pu 2 (.pu 3 (.pu 4 (.rd 5 (.pu 6 (.pu 7 (.ef 8 [1, 5] .fin .no))))))))) (by kernel_rfl) (by kernel_rfl) ?_
    refine s_pu (d := some 14) (v := (.pointer (some (Addr.add p5 1)))) rfl rfl rfl (r_fieldAddr Try.underlying34 Try.sizeOf3 rfl rfl rfl) ?_
    obtain ⟨x12, e13, H⟩ := H
    refine s_rd (d := some 15) (v := (.int .i64 x12)) rfl rfl rfl (fun dr => r_load1 Try.isAgg3 rfl e13) ?_
    refine s_pu (d := some 16) (v := (Sl.v l1)) rfl rfl rfl (r_move rfl) ?_
    refine s_pu (d := some 17) (v := (.int .i64 i10)) rfl rfl rfl (r_move rfl) ?_
    obtain ⟨p14, e15, e16, e17, H⟩ := H
    obtain ⟨q18, e19⟩ : ∃ q : Addr, q = Addr.add p14 (Int.toNat i10 * 1) := ⟨_, rfl⟩
    rw [← e19] at H
    refine s_pu (d := some 18) (v := (.pointer (some q18))) rfl rfl rfl (fun w => (r_indexAddr Try.underlying22 Try.sizeOf3 rfl rfl e15 e16 e17 w).trans (by rw [e19])) ?_
    obtain ⟨x20, e21, H⟩ := H
    refine s_rd (d := some 19) (v := (.int .i64 x20)) rfl rfl rfl (fun dr => r_load1 Try.isAgg3 rfl e21) ?_
    refine s_pu (d := some 20) (v := (.int .i64 (w64 (x12 + x20)))) rfl rfl rfl (r_add rfl rfl) ?_
    refine s_pu (d := some 21) (v := (.pointer (some (Addr.add p5 1)))) rfl rfl rfl (r_fieldAddr Try.underlying34 Try.sizeOf3 rfl rfl rfl) ?_
    obtain ⟨e23, H⟩ := H
    obtain ⟨h5, e22⟩ : ∃ hh : Heap, hh = hsets h4 (Addr.add p5 1) 0 [(.int .i64 (w64 (x12 + x20)))] := ⟨_, rfl⟩
    have H := H h5 e22
    refine s_st (d := none) (h' := h5) rfl rfl rfl (fun dr => (r_store (v := (.int .i64 (w64 (x12 + x20)))) Try.sizeOf3 rfl rfl rfl (one_all rfl) e23).trans (by rw [e22]; rfl)) ⟨trivial, trivial, trivial⟩ ?_ trivial
    refine s_fin ?_
    show W _ _ _ _ _ _ _ _
    refine W_seq ?_
    refine W_seq ?_
    refine W_draw [0, 0, 3, 7, 0, 16, 63] (.pu 0 (.pu 1 (.pu 2 (.rd 3 (.pu 4 (.rd 5 (.pu 6 .fin))))))) (by kernel_rfl) (by kernel_rfl) ?_
    refine s_pu (d := some 22) (v := (Sl.v l1)) rfl rfl rfl (r_move rfl) ?_
    refine s_pu (d := some 23) (v := (.int .i64 i10)) rfl rfl rfl (r_move rfl) ?_
    obtain ⟨p24, e25, e26, e27, H⟩ := H
    obtain ⟨q28, e29⟩ : ∃ q : Addr, q = Addr.add p24 (Int.toNat i10 * 1) := ⟨_, rfl⟩
    rw [← e29] at H
    refine s_pu (d := some 24) (v := (.pointer (some q28))) rfl rfl rfl (fun w => (r_indexAddr Try.underlying22 Try.sizeOf3 rfl rfl e25 e26 e27 w).trans (by rw [e29])) ?_
    obtain ⟨x30, e31, H⟩ := H
    refine s_rd (d := some 25) (v := (.int .i64 x30)) rfl rfl rfl (fun dr => r_load1 Try.isAgg3 rfl e31) ?_
    refine s_pu (d := some 26) (v := (.pointer (some (Addr.add p5 2)))) rfl rfl rfl (r_fieldAddr Try.underlying34 Try.sizeOf3 rfl rfl rfl) ?_
    obtain ⟨x32, e33, H⟩ := H
    refine s_rd (d := some 27) (v := (.int .i64 x32)) rfl rfl rfl (fun dr => r_load1 Try.isAgg3 rfl e33) ?_
    refine s_pu (d := some 28) (v := (.bool (decide (x30 < x32)))) rfl rfl rfl (r_lss rfl rfl) ?_
    refine s_fin ?_
    show W _ _ _ _ _ _ _ _
    refine W_set ?_
    intro N35 eN35
    have H := H (fun (h6 : Heap) => ∀ b, N35 [] (mkE [(0, (Sl.v l1)), (2, (.pointer (some p2))), (3, (.pointer (some p5))), (4, (.int .i64 i10))] b) h6) (by
      intro h6 H b
      rw [eN35]
      show W _ _ _ _ _ _ _ _
      refine W_seq ?_
      refine W_seq ?_
      refine W_draw [0, 0, 3, 7, 0, 16, 63] (.pu 0 (.pu 1 (.pu 2 (.rd 3 (.pu 4 (.rd 5 (.pu 6 .fin))))))) (by kernel_rfl) (by kernel_rfl) ?_
      refine s_pu (d := some 34) (v := (Sl.v l1)) rfl rfl rfl (r_move rfl) ?_
      refine s_pu (d := some 35) (v := (.int .i64 i10)) rfl rfl rfl (r_move rfl) ?_
      obtain ⟨p36, e37, e38, e39, H⟩ := H
      obtain ⟨q40, e41⟩ : ∃ q : Addr, q = Addr.add p36 (Int.toNat i10 * 1) := ⟨_, rfl⟩
      rw [← e41] at H
      refine s_pu (d := some 36) (v := (.pointer (some q40))) rfl rfl rfl (fun w => (r_indexAddr Try.underlying22 Try.sizeOf3 rfl rfl e37 e38 e39 w).trans (by rw [e41])) ?_
      obtain ⟨x42, e43, H⟩ := H
      refine s_rd (d := some 37) (v := (.int .i64 x42)) rfl rfl rfl (fun dr => r_load1 Try.isAgg3 rfl e43) ?_
      refine s_pu (d := some 38) (v := (.pointer (some (Addr.add p5 3)))) rfl rfl rfl (r_fieldAddr Try.underlying34 Try.sizeOf3 rfl rfl rfl) ?_
      obtain ⟨x44, e45, H⟩ := H
      refine s_rd (d := some 39) (v := (.int .i64 x44)) rfl rfl rfl (fun dr => r_load1 Try.isAgg3 rfl e45) ?_
      refine s_pu (d := some 40) (v := (.bool (decide (x44 < x42)))) rfl rfl rfl (r_gtr rfl rfl) ?_
      refine s_fin ?_
      show W _ _ _ _ _ _ _ _
      refine W_set ?_
      intro N47 eN47
      have H := H (fun (h7 : Heap) => ∀ b, N47 [] (mkE [(0, (Sl.v l1)), (2, (.pointer (some p2))), (3, (.pointer (some p5))), (4, (.int .i64 i10))] b) h7) (by
        intro h7 H b
        rw [eN47]
        show W _ _ _ _ _ _ _ _
        refine W_draw [0, 1, 3, 0, 0, 24, 56, 120, 255, 511, 1023, 2047, 4095] (.pu 0 (.rd 1 (.pu 2 (.pu 3 (.pu 4 (.pu 5 (.rd 6 (.ef 7 [6] (.pu 8 (.pu 9 (.ef 10 [1, 6] (.pu 11 (.ef 12 [1, 6] .fin .no)) .no))) .no)))))))) (by kernel_rfl) (by kernel_rfl) ?_
        refine s_pu (d := some 46) (v := (.pointer (some (Addr.add p5 4)))) rfl rfl rfl (r_fieldAddr Try.underlying34 Try.sizeOf3 rfl rfl rfl) ?_
        obtain ⟨x48, e49, H⟩ := H
        refine s_rd (d := some 47) (v := (.int .i64 x48)) rfl rfl rfl (fun dr => r_load1 Try.isAgg3 rfl e49) ?_
        refine s_pu (d := some 48) (v := (.int .i64 (w64 (131 * x48)))) rfl rfl rfl (r_mul rfl rfl) ?_
        refine s_pu (d := some 49) (v := (Sl.v l1)) rfl rfl rfl (r_move rfl) ?_
        refine s_pu (d := some 50) (v := (.int .i64 i10)) rfl rfl rfl (r_move rfl) ?_
        obtain ⟨p50, e51, e52, e53, H⟩ := H
        obtain ⟨q54, e55⟩ : ∃ q : Addr, q = Addr.add p50 (Int.toNat i10 * 1) := ⟨_, rfl⟩
        rw [← e55] at H
        refine s_pu (d := some 51) (v := (.pointer (some q54))) rfl rfl rfl (fun w => (r_indexAddr Try.underlying22 Try.sizeOf3 rfl rfl e51 e52 e53 w).trans (by rw [e55])) ?_
        obtain ⟨x56, e57, H⟩ := H
        refine s_rd (d := some 52) (v := (.int .i64 x56)) rfl rfl rfl (fun dr => r_load1 Try.isAgg3 rfl e57) ?_
        refine s_ef (d := some 53) rfl rfl rfl (fun dr => r_call Try.call52 rfl rfl H) ?_ trivial
        rintro _ h8 ⟨y58, rfl, H⟩
        obtain ⟨e59, H⟩ := H
        refine ⟨⟨trivial, (.inl ⟨rfl, fun dr => r_load1 Try.isAgg3 rfl e59⟩), trivial⟩, ?_⟩
        refine s_pu (d := some 54) (v := (.int .i64 (w64 ((w64 (131 * x48)) + y58)))) rfl rfl rfl (r_add rfl rfl) ?_
        refine s_pu (d := some 55) (v := (.int .i64 (w64 ((w64 ((w64 (131 * x48)) + y58)) + 1)))) rfl rfl rfl (r_add rfl rfl) ?_
        refine s_ef (d := some 56) rfl rfl rfl (fun dr => r_call Try.call52 rfl rfl H) ?_ trivial
        rintro _ h9 ⟨y60, rfl, H⟩
        refine ⟨⟨trivial, trivial, trivial⟩, ?_⟩
        refine s_pu (d := some 57) (v := (.pointer (some (Addr.add p5 4)))) rfl rfl rfl (r_fieldAddr Try.underlying34 Try.sizeOf3 rfl rfl rfl) ?_
        obtain ⟨e62, H⟩ := H
        obtain ⟨h10, e61⟩ : ∃ hh : Heap, hh = hsets h9 (Addr.add p5 4) 0 [(.int .i64 y60)] := ⟨_, rfl⟩
        have H := H h10 e61
        refine s_st (d := none) (h' := h10) rfl rfl rfl (fun dr => (r_store (v := (.int .i64 y60)) Try.sizeOf3 rfl rfl rfl (one_all rfl) e62).trans (by rw [e61]; rfl)) ⟨trivial, trivial, trivial⟩ ?_ trivial
        refine s_fin ?_
        show W _ _ _ _ _ _ _ _
        refine W_region (.pu 0 (.pu 1 (.pu 2 .fin))) rfl rfl ?_
        refine s_pu (d := some 12) (v := (.int .i64 i10)) rfl rfl rfl (r_move rfl) ?_
        refine s_pu (d := some 13) (v := (.int .i64 (w64 (i10 + 1)))) rfl rfl rfl (r_add rfl rfl) ?_
        refine s_pu (d := some 4) (v := (.int .i64 (w64 (i10 + 1)))) rfl rfl rfl (r_assign rfl) ?_
        refine s_fin ?_
        exact WL_mk (l := [(0, (Sl.v l1)), (2, (.pointer (some p2))), (3, (.pointer (some p5))), (4, (.int .i64 (w64 (i10 + 1))))]) H ⟨rfl, rfl, rfl, rfl, trivial⟩)
      clear eN47
      refine W_if (decide (x44 < x42)) rfl (fun g73 => ?_) (fun g73 => ?_)
      · have H := H.1 g73
        refine W_region (.pu 0 (.pu 1 (.pu 2 (.rl 3 (.pu 4 (.ef 5 [] .fin .no)))))) rfl rfl ?_
        refine s_pu (d := some 41) (v := (Sl.v l1)) rfl rfl rfl (r_move rfl) ?_
        refine s_pu (d := some 42) (v := (.int .i64 i10)) rfl rfl rfl (r_move rfl) ?_
        obtain ⟨p63, e64, e65, e66, H⟩ := H
        obtain ⟨q67, e68⟩ : ∃ q : Addr, q = Addr.add p63 (Int.toNat i10 * 1) := ⟨_, rfl⟩
        rw [← e68] at H
        refine s_pu (d := some 43) (v := (.pointer (some q67))) rfl rfl rfl (fun w => (r_indexAddr Try.underlying22 Try.sizeOf3 rfl rfl e64 e65 e66 w).trans (by rw [e68])) ?_
        obtain ⟨x69, e70, H⟩ := H
        refine s_rl (d := some 44) (v := (.int .i64 x69)) rfl rfl rfl (fun dr => r_load1 Try.isAgg3 rfl e70) ?_
        refine s_pu (d := some 45) (v := (.pointer (some (Addr.add p5 3)))) rfl rfl rfl (r_fieldAddr Try.underlying34 Try.sizeOf3 rfl rfl rfl) ?_
        obtain ⟨e72, H⟩ := H
        obtain ⟨h11, e71⟩ : ∃ hh : Heap, hh = hsets h6 (Addr.add p5 3) 0 [(.int .i64 x69)] := ⟨_, rfl⟩
        have H := H h11 e71
        refine s_st (d := none) (h' := h11) rfl rfl rfl (fun dr => (r_store (v := (.int .i64 x69)) Try.sizeOf3 rfl rfl rfl (one_all rfl) e72).trans (by rw [e71]; rfl)) trivial ?_ trivial
        refine s_fin ?_
        exact N_mk (l := [(0, (Sl.v l1)), (2, (.pointer (some p2))), (3, (.pointer (some p5))), (4, (.int .i64 i10))]) H ⟨rfl, rfl, rfl, rfl, trivial⟩
      · have H := H.2 g73
        refine W_skip ?_
        exact N_mk (l := [(0, (Sl.v l1)), (2, (.pointer (some p2))), (3, (.pointer (some p5))), (4, (.int .i64 i10))]) H ⟨rfl, rfl, rfl, rfl, trivial⟩)
    clear eN35
    refine W_if (decide (x30 < x32)) rfl (fun g84 => ?_) (fun g84 => ?_)
    · have H := H.1 g84
      refine W_region (.pu 0 (.pu 1 (.pu 2 (.rl 3 (.pu 4 (.ef 5 [] .fin .no)))))) rfl rfl ?_
      refine s_pu (d := some 29) (v := (Sl.v l1)) rfl rfl rfl (r_move rfl) ?_
      refine s_pu (d := some 30) (v := (.int .i64 i10)) rfl rfl rfl (r_move rfl) ?_
      obtain ⟨p74, e75, e76, e77, H⟩ := H
      obtain ⟨q78, e79⟩ : ∃ q : Addr, q = Addr.add p74 (Int.toNat i10 * 1) := ⟨_, rfl⟩
      rw [← e79] at H
      refine s_pu (d := some 31) (v := (.pointer (some q78))) rfl rfl rfl (fun w => (r_indexAddr Try.underlying22 Try.sizeOf3 rfl rfl e75 e76 e77 w).trans (by rw [e79])) ?_
      obtain ⟨x80, e81, H⟩ := H
      refine s_rl (d := some 32) (v := (.int .i64 x80)) rfl rfl rfl (fun dr => r_load1 Try.isAgg3 rfl e81) ?_
      refine s_pu (d := some 33) (v := (.pointer (some (Addr.add p5 2)))) rfl rfl rfl (r_fieldAddr Try.underlying34 Try.sizeOf3 rfl rfl rfl) ?_
      obtain ⟨e83, H⟩ := H
      obtain ⟨h12, e82⟩ : ∃ hh : Heap, hh = hsets h5 (Addr.add p5 2) 0 [(.int .i64 x80)] := ⟨_, rfl⟩
      have H := H h12 e82
      refine s_st (d := none) (h' := h12) rfl rfl rfl (fun dr => (r_store (v := (.int .i64 x80)) Try.sizeOf3 rfl rfl rfl (one_all rfl) e83).trans (by rw [e82]; rfl)) trivial ?_ trivial
      refine s_fin ?_
      exact N_mk (l := [(0, (Sl.v l1)), (2, (.pointer (some p2))), (3, (.pointer (some p5))), (4, (.int .i64 i10))]) H ⟨rfl, rfl, rfl, rfl, trivial⟩
    · have H := H.2 g84
      refine W_skip ?_
      exact N_mk (l := [(0, (Sl.v l1)), (2, (.pointer (some p2))), (3, (.pointer (some p5))), (4, (.int .i64 i10))]) H ⟨rfl, rfl, rfl, rfl, trivial⟩
  · have H := H.2 g107
    refine W_exit (inX_here ?_)
    show W _ _ _ _ _ _ _ _
    refine W_seq ?_
    refine W_region (.rl 0 (.ef 1 [] .fin .no)) rfl rfl ?_
    obtain ⟨x85, e86, H⟩ := H
    obtain ⟨x87, e88, H⟩ := H
    obtain ⟨x89, e90, H⟩ := H
    obtain ⟨x91, e92, H⟩ := H
    obtain ⟨x93, e94, H⟩ := H
    refine s_rl (d := some 58) (v := (.agg #[(.int .i64 x85), (.int .i64 x87), (.int .i64 x89), (.int .i64 x91), (.int .i64 x93)])) rfl rfl rfl (fun dr => r_loadN Try.isAgg34 Try.sizeOf34 (vs := [(.int .i64 x85), (.int .i64 x87), (.int .i64 x89), (.int .i64 x91), (.int .i64 x93)]) rfl rfl ⟨e86, e88, e90, e92, e94, trivial⟩) ?_
    obtain ⟨e96, H⟩ := H
    obtain ⟨h13, e95⟩ : ∃ hh : Heap, hh = hsets h4 p2 0 [(.int .i64 x85), (.int .i64 x87), (.int .i64 x89), (.int .i64 x91), (.int .i64 x93)] := ⟨_, rfl⟩
    have H := H h13 e95
    refine s_st (d := none) (h' := h13) rfl rfl rfl (fun dr => (r_store (v := (.agg #[(.int .i64 x85), (.int .i64 x87), (.int .i64 x89), (.int .i64 x91), (.int .i64 x93)])) Try.sizeOf34 rfl rfl rfl (one_all rfl) e96).trans (by rw [e95]; rfl)) trivial ?_ trivial
    refine s_fin ?_
    show W _ _ _ _ _ _ _ _
    refine W_ret ?_
    obtain ⟨x97, e98, H⟩ := H
    obtain ⟨x99, e100, H⟩ := H
    obtain ⟨x101, e102, H⟩ := H
    obtain ⟨x103, e104, H⟩ := H
    obtain ⟨x105, e106, H⟩ := H
    exact ⟨[(.agg #[(.int .i64 x97), (.int .i64 x99), (.int .i64 x101), (.int .i64 x103), (.int .i64 x105)])], ⟨_, _, _, rfl, rfl, fun dr => run_loadVarN Try.isAgg34 Try.sizeOf34 (vs := [(.int .i64 x97), (.int .i64 x99), (.int .i64 x101), (.int .i64 x103), (.int .i64 x105)]) rfl ⟨e98, e100, e102, e104, e106, trivial⟩, rfl⟩, x97, x99, x101, x103, x105, rfl, H⟩

/-! ### ref1_Cat -/

def ref1_Cat_F (r : World) (a1 : Sl) (vb2 : Sl) (h : Heap) (R : Sl → Heap → Prop) : Prop :=
  App 3 1 8 (.int .i64 0) Sl.nil a1 h fun s3 h1 =>
  App 3 1 8 (.int .i64 0) s3 vb2 h1 fun s4 h2 =>
  R s4 h2

set_option maxRecDepth 100000 in
theorem ref1_Cat_of {r : World} {a1 : Sl} {vb2 : Sl} {h : Heap} {R : Sl → Heap → Prop} (H : ref1_Cat_F r a1 vb2 h R) : ref1_Cat r a1 vb2 h R := by
  unfold ref1_Cat_F at H
  refine calls_of 12 [.tmp 4] Try.func15 rfl rfl rfl rfl rfl ?_
  refine W_seq ?_
  refine W_region (.pu 0 .fin) rfl rfl ?_
  refine s_pu (d := some 4) (v := (Sl.v Sl.nil)) rfl rfl rfl (r_assign rfl) ?_
  refine s_fin ?_
  show W _ _ _ _ _ _ _ _
  refine W_seq ?_
  refine W_region (.pu 0 .fin) rfl rfl ?_
  refine s_pu (d := some 5) (v := (Sl.v Sl.nil)) rfl rfl rfl (r_assign rfl) ?_
  refine s_fin ?_
  show W _ _ _ _ _ _ _ _
  refine W_seq ?_
  refine W_region (.pu 0 (.pu 1 (.ef 2 [] (.pu 3 .fin) .no))) rfl rfl ?_
  refine s_pu (d := some 6) (v := (Sl.v Sl.nil)) rfl rfl rfl (r_move rfl) ?_
  refine s_pu (d := some 7) (v := (Sl.v a1)) rfl rfl rfl (r_move rfl) ?_
  refine s_ef (d := some 8) rfl rfl rfl (fun dr => slFMono_22.append rfl rfl H) ?_ trivial
  rintro _ h1 ⟨s3, rfl, H⟩
  refine ⟨trivial, ?_⟩
  refine s_pu (d := some 5) (v := (Sl.v s3)) rfl rfl rfl (r_assign rfl) ?_
  refine s_fin ?_
  show W _ _ _ _ _ _ _ _
  refine W_seq ?_
  refine W_region (.pu 0 (.pu 1 (.ef 2 [] (.pu 3 .fin) .no))) rfl rfl ?_
  refine s_pu (d := some 9) (v := (Sl.v s3)) rfl rfl rfl (r_move rfl) ?_
  refine s_pu (d := some 10) (v := (Sl.v vb2)) rfl rfl rfl (r_move rfl) ?_
  refine s_ef (d := some 11) rfl rfl rfl (fun dr => slFMono_22.append rfl rfl H) ?_ trivial
  rintro _ h2 ⟨s4, rfl, H⟩
  refine ⟨trivial, ?_⟩
  refine s_pu (d := some 4) (v := (Sl.v s4)) rfl rfl rfl (r_assign rfl) ?_
  refine s_fin ?_
  show W _ _ _ _ _ _ _ _
  refine W_ret ?_
  exact ⟨[(Sl.v s4)], ⟨_, _, rfl, rfl, rfl⟩, s4, rfl, H⟩

/-! ### ref1_Rev -/

def ref1_Rev_F (r : World) (l1 : Sl) (h : Heap) (R : Sl → Heap → Prop) : Prop :=
  ∀ X4 : Sl → Int → Heap → Prop, (∀ (out2 : Sl) (i3 : Int) (h1 : Heap),
    (Br (decide (0 ≤ i3)) (
      Ix l1 i3 1 fun q9 =>
      LdI h1 q9 fun x11 =>
      New h1 (.cells #[(.int .i64 x11)] 3) fun p13 h2 =>
      App 3 1 8 (.int .i64 0) out2 ((⟨some p13, 1, 1⟩ : Sl)) h2 fun s16 h3 =>
      X4 s16 (w64 (i3 - 1)) h3) (
      R out2 h1)) →
    X4 out2 i3 h1) →
  X4 Sl.nil (w64 (((l1.len : Int)) - 1)) h

set_option maxRecDepth 100000 in
theorem ref1_Rev_of {r : World} {l1 : Sl} {h : Heap} {R : Sl → Heap → Prop} (H : ref1_Rev_F r l1 h R) : ref1_Rev r l1 h R := by
  unfold ref1_Rev_F at H
  refine calls_of 20 [.tmp 2] Try.func23 rfl rfl rfl rfl rfl ?_
  refine W_seq ?_
  refine W_region (.pu 0 .fin) rfl rfl ?_
  refine s_pu (d := some 2) (v := (Sl.v Sl.nil)) rfl rfl rfl (r_assign rfl) ?_
  refine s_fin ?_
  show W _ _ _ _ _ _ _ _
  refine W_seq ?_
  refine W_region (.pu 0 .fin) rfl rfl ?_
  refine s_pu (d := some 3) (v := (Sl.v Sl.nil)) rfl rfl rfl (r_assign rfl) ?_
  refine s_fin ?_
  show W _ _ _ _ _ _ _ _
  refine W_seq ?_
  refine W_seq ?_
  refine W_region (.pu 0 (.pu 1 (.pu 2 (.pu 3 .fin)))) rfl rfl ?_
  refine s_pu (d := some 5) (v := (Sl.v l1)) rfl rfl rfl (r_move rfl) ?_
  refine s_pu (d := some 6) (v := (.int .i64 ((l1.len : Int)))) rfl rfl rfl (r_len Try.underlying22 rfl) ?_
  refine s_pu (d := some 7) (v := (.int .i64 (w64 (((l1.len : Int)) - 1)))) rfl rfl rfl (r_sub rfl rfl) ?_
  refine s_pu (d := some 4) (v := (.int .i64 (w64 (((l1.len : Int)) - 1)))) rfl rfl rfl (r_assign rfl) ?_
  refine s_fin ?_
  show W _ _ _ _ _ _ _ _
  refine W_block ?_
  refine W_loop (WL_mk (l := [(0, (Sl.v l1)), (3, (Sl.v Sl.nil)), (4, (.int .i64 (w64 (((l1.len : Int)) - 1))))]) ?_ ⟨rfl, rfl, rfl, trivial⟩)
  refine H (fun (out2 : Sl) (i3 : Int) (h1 : Heap) => ∀ b, WL _ _ _ _ _ _ (mkE [(0, (Sl.v l1)), (3, (Sl.v out2)), (4, (.int .i64 i3))] b) h1) ?_
  intro out2 i3 h1 H b
  refine WL_round ?_
  refine W_seq ?_
  refine W_seq ?_
  refine W_region (.pu 0 (.pu 1 .fin)) rfl rfl ?_
  refine s_pu (d := some 8) (v := (.int .i64 i3)) rfl rfl rfl (r_move rfl) ?_
  refine s_pu (d := some 9) (v := (.bool (decide (0 ≤ i3)))) rfl rfl rfl (r_geq rfl rfl) ?_
  refine s_fin ?_
  show W _ _ _ _ _ _ _ _
  refine W_if (decide (0 ≤ i3)) rfl (fun g17 => ?_) (fun g17 => ?_)
  · have H := H.1 g17
    refine W_skip ?_
    show W _ _ _ _ _ _ _ _
    refine W_seq ?_
    refine W_block ?_
    refine W_region (.pu 0 (.pu 1 (.pu 2 (.pu 3 (.rl 4 (.ef 5 [] (.ef 6 [] (.pu 7 .fin) .no) .no)))))) rfl rfl ?_
    refine s_pu (d := some 12) (v := (Sl.v out2)) rfl rfl rfl (r_move rfl) ?_
    refine s_pu (d := some 13) (v := (Sl.v l1)) rfl rfl rfl (r_move rfl) ?_
    refine s_pu (d := some 14) (v := (.int .i64 i3)) rfl rfl rfl (r_move rfl) ?_
    obtain ⟨p5, e6, e7, e8, H⟩ := H
    obtain ⟨q9, e10⟩ : ∃ q : Addr, q = Addr.add p5 (Int.toNat i3 * 1) := ⟨_, rfl⟩
    rw [← e10] at H
    refine s_pu (d := some 15) (v := (.pointer (some q9))) rfl rfl rfl (fun w => (r_indexAddr Try.underlying22 Try.sizeOf3 rfl rfl e6 e7 e8 w).trans (by rw [e10])) ?_
    obtain ⟨x11, e12, H⟩ := H
    refine s_rl (d := some 16) (v := (.int .i64 x11)) rfl rfl rfl (fun dr => r_load1 Try.isAgg3 rfl e12) ?_
    obtain ⟨p13, e14⟩ : ∃ p : Addr, p = ⟨h1.size, 0, none⟩ := ⟨_, rfl⟩
    obtain ⟨h2, e15⟩ : ∃ hh : Heap, hh = h1.push (.cells #[(.int .i64 x11)] 3) := ⟨_, rfl⟩
    have H := H p13 h2 e14 e15
    refine s_ef1 (d := some 17) (v := (Sl.v ((⟨some p13, 1, 1⟩ : Sl)))) (h' := h2) rfl rfl rfl (fun dr => (slFMono_22.build (cells := #[(.int .i64 x11)]) (by decide) rfl (by kernel_rfl)).trans (by rw [e14, e15]; rfl)) trivial ?_ trivial
    refine s_ef (d := some 18) rfl rfl rfl (fun dr => slFMono_22.append rfl rfl H) ?_ trivial
    rintro _ h3 ⟨s16, rfl, H⟩
    refine ⟨trivial, ?_⟩
    refine s_pu (d := some 3) (v := (Sl.v s16)) rfl rfl rfl (r_assign rfl) ?_
    refine s_fin ?_
    show W _ _ _ _ _ _ _ _
    refine W_region (.pu 0 (.pu 1 (.pu 2 .fin))) rfl rfl ?_
    refine s_pu (d := some 10) (v := (.int .i64 i3)) rfl rfl rfl (r_move rfl) ?_
    refine s_pu (d := some 11) (v := (.int .i64 (w64 (i3 - 1)))) rfl rfl rfl (r_sub rfl rfl) ?_
    refine s_pu (d := some 4) (v := (.int .i64 (w64 (i3 - 1)))) rfl rfl rfl (r_assign rfl) ?_
    refine s_fin ?_
    exact WL_mk (l := [(0, (Sl.v l1)), (3, (Sl.v s16)), (4, (.int .i64 (w64 (i3 - 1))))]) H ⟨rfl, rfl, rfl, trivial⟩
  · have H := H.2 g17
    refine W_exit (inX_here ?_)
    show W _ _ _ _ _ _ _ _
    refine W_seq ?_
    refine W_region (.pu 0 (.pu 1 .fin)) rfl rfl ?_
    refine s_pu (d := some 19) (v := (Sl.v out2)) rfl rfl rfl (r_move rfl) ?_
    refine s_pu (d := some 2) (v := (Sl.v out2)) rfl rfl rfl (r_assign rfl) ?_
    refine s_fin ?_
    show W _ _ _ _ _ _ _ _
    refine W_ret ?_
    exact ⟨[(Sl.v out2)], ⟨_, _, rfl, rfl, rfl⟩, out2, rfl, H⟩

/-! ### ref1_Put -/

def ref1_Put_F (r : World) (l1 : Sl) (i2 : Int) (x3 : Int) (h : Heap) (R : Sl → Heap → Prop) : Prop :=
  ref1_Cat r l1 Sl.nil h fun y4 h1 =>
  Ix y4 i2 1 fun q9 =>
  St h1 q9 1 [(.int .i64 x3)] fun h2 =>
  R y4 h2

set_option maxRecDepth 100000 in
theorem ref1_Put_of {r : World} {l1 : Sl} {i2 : Int} {x3 : Int} {h : Heap} {R : Sl → Heap → Prop} (H : ref1_Put_F r l1 i2 x3 h R) : ref1_Put r l1 i2 x3 h R := by
  unfold ref1_Put_F at H
  refine calls_of 15 [.tmp 6] Try.func41 rfl rfl rfl rfl rfl ?_
  refine W_seq ?_
  refine W_region (.pu 0 .fin) rfl rfl ?_
  refine s_pu (d := some 6) (v := (Sl.v Sl.nil)) rfl rfl rfl (r_assign rfl) ?_
  refine s_fin ?_
  show W _ _ _ _ _ _ _ _
  refine W_seq ?_
  refine W_region (.pu 0 (.ef 1 [] (.pu 2 .fin) .no)) rfl rfl ?_
  refine s_pu (d := some 8) (v := (Sl.v l1)) rfl rfl rfl (r_move rfl) ?_
  refine s_ef (d := some 9) rfl rfl rfl (fun dr => r_call Try.call15 rfl rfl H) ?_ trivial
  rintro _ h1 ⟨y4, rfl, H⟩
  refine ⟨trivial, ?_⟩
  refine s_pu (d := some 7) (v := (Sl.v y4)) rfl rfl rfl (r_assign rfl) ?_
  refine s_fin ?_
  show W _ _ _ _ _ _ _ _
  refine W_seq ?_
  refine W_region (.pu 0 (.pu 1 (.pu 2 (.pu 3 (.ef 4 [] .fin .no))))) rfl rfl ?_
  refine s_pu (d := some 10) (v := (Sl.v y4)) rfl rfl rfl (r_move rfl) ?_
  refine s_pu (d := some 11) (v := (.int .i64 i2)) rfl rfl rfl (r_move rfl) ?_
  refine s_pu (d := some 12) (v := (.int .i64 x3)) rfl rfl rfl (r_move rfl) ?_
  obtain ⟨p5, e6, e7, e8, H⟩ := H
  obtain ⟨q9, e10⟩ : ∃ q : Addr, q = Addr.add p5 (Int.toNat i2 * 1) := ⟨_, rfl⟩
  rw [← e10] at H
  refine s_pu (d := some 13) (v := (.pointer (some q9))) rfl rfl rfl (fun w => (r_indexAddr Try.underlying22 Try.sizeOf3 rfl rfl e6 e7 e8 w).trans (by rw [e10])) ?_
  obtain ⟨e12, H⟩ := H
  obtain ⟨h2, e11⟩ : ∃ hh : Heap, hh = hsets h1 q9 0 [(.int .i64 x3)] := ⟨_, rfl⟩
  have H := H h2 e11
  refine s_st (d := none) (h' := h2) rfl rfl rfl (fun dr => (r_store (v := (.int .i64 x3)) Try.sizeOf3 rfl rfl rfl (one_all rfl) e12).trans (by rw [e11]; rfl)) trivial ?_ trivial
  refine s_fin ?_
  show W _ _ _ _ _ _ _ _
  refine W_seq ?_
  refine W_region (.pu 0 (.pu 1 .fin)) rfl rfl ?_
  refine s_pu (d := some 14) (v := (Sl.v y4)) rfl rfl rfl (r_move rfl) ?_
  refine s_pu (d := some 6) (v := (Sl.v y4)) rfl rfl rfl (r_assign rfl) ?_
  refine s_fin ?_
  show W _ _ _ _ _ _ _ _
  refine W_ret ?_
  exact ⟨[(Sl.v y4)], ⟨_, _, rfl, rfl, rfl⟩, y4, rfl, H⟩

/-! ### ref1_Without -/

def ref1_Without_F (r : World) (l1 : Sl) (i2 : Int) (h : Heap) (R : Sl → Heap → Prop) : Prop :=
  Sub l1 0 i2 ((l1.cap : Int)) 1 fun s3 =>
  App 3 1 8 (.int .i64 0) Sl.nil s3 h fun s9 h1 =>
  Sub l1 (w64 (i2 + 1)) ((l1.len : Int)) ((l1.cap : Int)) 1 fun s10 =>
  App 3 1 8 (.int .i64 0) s9 s10 h1 fun s16 h2 =>
  R s16 h2

set_option maxRecDepth 100000 in
theorem ref1_Without_of {r : World} {l1 : Sl} {i2 : Int} {h : Heap} {R : Sl → Heap → Prop} (H : ref1_Without_F r l1 i2 h R) : ref1_Without r l1 i2 h R := by
  unfold ref1_Without_F at H
  refine calls_of 17 [.tmp 4] Try.func42 rfl rfl rfl rfl rfl ?_
  refine W_seq ?_
  refine W_region (.pu 0 .fin) rfl rfl ?_
  refine s_pu (d := some 4) (v := (Sl.v Sl.nil)) rfl rfl rfl (r_assign rfl) ?_
  refine s_fin ?_
  show W _ _ _ _ _ _ _ _
  refine W_seq ?_
  refine W_region (.pu 0 .fin) rfl rfl ?_
  refine s_pu (d := some 5) (v := (Sl.v Sl.nil)) rfl rfl rfl (r_assign rfl) ?_
  refine s_fin ?_
  show W _ _ _ _ _ _ _ _
  refine W_seq ?_
  refine W_region (.pu 0 (.pu 1 (.pu 2 (.pu 3 (.ef 4 [] (.pu 5 .fin) .no))))) rfl rfl ?_
  refine s_pu (d := some 6) (v := (Sl.v Sl.nil)) rfl rfl rfl (r_move rfl) ?_
  refine s_pu (d := some 7) (v := (Sl.v l1)) rfl rfl rfl (r_move rfl) ?_
  refine s_pu (d := some 8) (v := (.int .i64 i2)) rfl rfl rfl (r_move rfl) ?_
  obtain ⟨e4, e5, e6, e7, H⟩ := H
  obtain ⟨s3, e8⟩ : ∃ t : Sl, t = ⟨sliceA l1.a (Int.toNat ((l1.cap : Int))) (Int.toNat 0) 1, Int.toNat i2 - Int.toNat 0, Int.toNat ((l1.cap : Int)) - Int.toNat 0⟩ := ⟨_, rfl⟩
  have H := H s3 e8
  refine s_pu (d := some 9) (v := (Sl.v s3)) rfl rfl rfl (fun w => (r_slice (lo := .none) (hi := (.some (.tmp 8))) (mx := .none) Try.underlying22 Try.sizeOf3 rfl ((l1.cap : Int)) i2 0 rfl ⟨_, rfl⟩ rfl e4 e5 (.inr e6) e7 w).trans (by rw [e8]; rfl)) ?_
  refine s_ef (d := some 10) rfl rfl rfl (fun dr => slFMono_22.append rfl rfl H) ?_ trivial
  rintro _ h1 ⟨s9, rfl, H⟩
  refine ⟨trivial, ?_⟩
  refine s_pu (d := some 5) (v := (Sl.v s9)) rfl rfl rfl (r_assign rfl) ?_
  refine s_fin ?_
  show W _ _ _ _ _ _ _ _
  refine W_seq ?_
  refine W_region (.pu 0 (.pu 1 (.pu 2 (.pu 3 (.pu 4 (.ef 5 [] (.pu 6 .fin) .no)))))) rfl rfl ?_
  refine s_pu (d := some 11) (v := (Sl.v s9)) rfl rfl rfl (r_move rfl) ?_
  refine s_pu (d := some 12) (v := (Sl.v l1)) rfl rfl rfl (r_move rfl) ?_
  refine s_pu (d := some 13) (v := (.int .i64 i2)) rfl rfl rfl (r_move rfl) ?_
  refine s_pu (d := some 14) (v := (.int .i64 (w64 (i2 + 1)))) rfl rfl rfl (r_add rfl rfl) ?_
  obtain ⟨e11, e12, e13, e14, H⟩ := H
  obtain ⟨s10, e15⟩ : ∃ t : Sl, t = ⟨sliceA l1.a (Int.toNat ((l1.cap : Int))) (Int.toNat (w64 (i2 + 1))) 1, Int.toNat ((l1.len : Int)) - Int.toNat (w64 (i2 + 1)), Int.toNat ((l1.cap : Int)) - Int.toNat (w64 (i2 + 1))⟩ := ⟨_, rfl⟩
  have H := H s10 e15
  refine s_pu (d := some 15) (v := (Sl.v s10)) rfl rfl rfl (fun w => (r_slice (lo := (.some (.tmp 14))) (hi := .none) (mx := .none) Try.underlying22 Try.sizeOf3 rfl ((l1.cap : Int)) ((l1.len : Int)) (w64 (i2 + 1)) rfl ⟨rfl, rfl⟩ ⟨_, rfl⟩ e11 e12 (.inl rfl) e14 w).trans (by rw [e15]; rfl)) ?_
  refine s_ef (d := some 16) rfl rfl rfl (fun dr => slFMono_22.append rfl rfl H) ?_ trivial
  rintro _ h2 ⟨s16, rfl, H⟩
  refine ⟨trivial, ?_⟩
  refine s_pu (d := some 4) (v := (Sl.v s16)) rfl rfl rfl (r_assign rfl) ?_
  refine s_fin ?_
  show W _ _ _ _ _ _ _ _
  refine W_ret ?_
  exact ⟨[(Sl.v s16)], ⟨_, _, rfl, rfl, rfl⟩, s16, rfl, H⟩

/-! ### ref1_With -/

def ref1_With_F (r : World) (l1 : Sl) (i2 : Int) (x3 : Int) (h : Heap) (R : Sl → Heap → Prop) : Prop :=
  Sub l1 0 i2 ((l1.cap : Int)) 1 fun s4 =>
  App 3 1 8 (.int .i64 0) Sl.nil s4 h fun s10 h1 =>
  New h1 (.cells #[(.int .i64 x3)] 3) fun p11 h2 =>
  App 3 1 8 (.int .i64 0) s10 ((⟨some p11, 1, 1⟩ : Sl)) h2 fun s14 h3 =>
  Sub l1 i2 ((l1.len : Int)) ((l1.cap : Int)) 1 fun s15 =>
  App 3 1 8 (.int .i64 0) s14 s15 h3 fun s21 h4 =>
  R s21 h4

set_option maxRecDepth 100000 in
theorem ref1_With_of {r : World} {l1 : Sl} {i2 : Int} {x3 : Int} {h : Heap} {R : Sl → Heap → Prop} (H : ref1_With_F r l1 i2 x3 h R) : ref1_With r l1 i2 x3 h R := by
  unfold ref1_With_F at H
  refine calls_of 22 [.tmp 6] Try.func43 rfl rfl rfl rfl rfl ?_
  refine W_seq ?_
  refine W_region (.pu 0 .fin) rfl rfl ?_
  refine s_pu (d := some 6) (v := (Sl.v Sl.nil)) rfl rfl rfl (r_assign rfl) ?_
  refine s_fin ?_
  show W _ _ _ _ _ _ _ _
  refine W_seq ?_
  refine W_region (.pu 0 .fin) rfl rfl ?_
  refine s_pu (d := some 7) (v := (Sl.v Sl.nil)) rfl rfl rfl (r_assign rfl) ?_
  refine s_fin ?_
  show W _ _ _ _ _ _ _ _
  refine W_seq ?_
  refine W_region (.pu 0 (.pu 1 (.pu 2 (.pu 3 (.ef 4 [] (.pu 5 .fin) .no))))) rfl rfl ?_
  refine s_pu (d := some 8) (v := (Sl.v Sl.nil)) rfl rfl rfl (r_move rfl) ?_
  refine s_pu (d := some 9) (v := (Sl.v l1)) rfl rfl rfl (r_move rfl) ?_
  refine s_pu (d := some 10) (v := (.int .i64 i2)) rfl rfl rfl (r_move rfl) ?_
  obtain ⟨e5, e6, e7, e8, H⟩ := H
  obtain ⟨s4, e9⟩ : ∃ t : Sl, t = ⟨sliceA l1.a (Int.toNat ((l1.cap : Int))) (Int.toNat 0) 1, Int.toNat i2 - Int.toNat 0, Int.toNat ((l1.cap : Int)) - Int.toNat 0⟩ := ⟨_, rfl⟩
  have H := H s4 e9
  refine s_pu (d := some 11) (v := (Sl.v s4)) rfl rfl rfl (fun w => (r_slice (lo := .none) (hi := (.some (.tmp 10))) (mx := .none) Try.underlying22 Try.sizeOf3 rfl ((l1.cap : Int)) i2 0 rfl ⟨_, rfl⟩ rfl e5 e6 (.inr e7) e8 w).trans (by rw [e9]; rfl)) ?_
  refine s_ef (d := some 12) rfl rfl rfl (fun dr => slFMono_22.append rfl rfl H) ?_ trivial
  rintro _ h1 ⟨s10, rfl, H⟩
  refine ⟨trivial, ?_⟩
  refine s_pu (d := some 7) (v := (Sl.v s10)) rfl rfl rfl (r_assign rfl) ?_
  refine s_fin ?_
  show W _ _ _ _ _ _ _ _
  refine W_seq ?_
  refine W_region (.pu 0 (.pu 1 (.ef 2 [] (.ef 3 [] (.pu 4 .fin) .no) .no))) rfl rfl ?_
  refine s_pu (d := some 13) (v := (Sl.v s10)) rfl rfl rfl (r_move rfl) ?_
  refine s_pu (d := some 14) (v := (.int .i64 x3)) rfl rfl rfl (r_move rfl) ?_
  obtain ⟨p11, e12⟩ : ∃ p : Addr, p = ⟨h1.size, 0, none⟩ := ⟨_, rfl⟩
  obtain ⟨h2, e13⟩ : ∃ hh : Heap, hh = h1.push (.cells #[(.int .i64 x3)] 3) := ⟨_, rfl⟩
  have H := H p11 h2 e12 e13
  refine s_ef1 (d := some 15) (v := (Sl.v ((⟨some p11, 1, 1⟩ : Sl)))) (h' := h2) rfl rfl rfl (fun dr => (slFMono_22.build (cells := #[(.int .i64 x3)]) (by decide) rfl (by kernel_rfl)).trans (by rw [e12, e13]; rfl)) trivial ?_ trivial
  refine s_ef (d := some 16) rfl rfl rfl (fun dr => slFMono_22.append rfl rfl H) ?_ trivial
  rintro _ h3 ⟨s14, rfl, H⟩
  refine ⟨trivial, ?_⟩
  refine s_pu (d := some 7) (v := (Sl.v s14)) rfl rfl rfl (r_assign rfl) ?_
  refine s_fin ?_
  show W _ _ _ _ _ _ _ _
  refine W_seq ?_
  refine W_region (.pu 0 (.pu 1 (.pu 2 (.pu 3 (.ef 4 [] (.pu 5 .fin) .no))))) rfl rfl ?_
  refine s_pu (d := some 17) (v := (Sl.v s14)) rfl rfl rfl (r_move rfl) ?_
  refine s_pu (d := some 18) (v := (Sl.v l1)) rfl rfl rfl (r_move rfl) ?_
  refine s_pu (d := some 19) (v := (.int .i64 i2)) rfl rfl rfl (r_move rfl) ?_
  obtain ⟨e16, e17, e18, e19, H⟩ := H
  obtain ⟨s15, e20⟩ : ∃ t : Sl, t = ⟨sliceA l1.a (Int.toNat ((l1.cap : Int))) (Int.toNat i2) 1, Int.toNat ((l1.len : Int)) - Int.toNat i2, Int.toNat ((l1.cap : Int)) - Int.toNat i2⟩ := ⟨_, rfl⟩
  have H := H s15 e20
  refine s_pu (d := some 20) (v := (Sl.v s15)) rfl rfl rfl (fun w => (r_slice (lo := (.some (.tmp 19))) (hi := .none) (mx := .none) Try.underlying22 Try.sizeOf3 rfl ((l1.cap : Int)) ((l1.len : Int)) i2 rfl ⟨rfl, rfl⟩ ⟨_, rfl⟩ e16 e17 (.inl rfl) e19 w).trans (by rw [e20]; rfl)) ?_
  refine s_ef (d := some 21) rfl rfl rfl (fun dr => slFMono_22.append rfl rfl H) ?_ trivial
  rintro _ h4 ⟨s21, rfl, H⟩
  refine ⟨trivial, ?_⟩
  refine s_pu (d := some 6) (v := (Sl.v s21)) rfl rfl rfl (r_assign rfl) ?_
  refine s_fin ?_
  show W _ _ _ _ _ _ _ _
  refine W_ret ?_
  exact ⟨[(Sl.v s21)], ⟨_, _, rfl, rfl, rfl⟩, s21, rfl, H⟩

/-! ### same_Ints -/

def same_Ints_F (r : World) (a1 : Sl) (vb2 : Sl) (h : Heap) (R : Bool → Heap → Prop) : Prop :=
  Br (!decide (((a1.len : Int)) = ((vb2.len : Int)))) (
    R false h) (
    ∀ X4 : Int → Prop, (∀ (i3 : Int),
      (Br (decide (i3 < ((a1.len : Int)))) (
        Ix a1 i3 1 fun q9 =>
        LdI h q9 fun x11 =>
        Ix vb2 i3 1 fun q17 =>
        LdI h q17 fun x19 =>
        Br (!decide (x11 = x19)) (
          R false h) (
          X4 (w64 (i3 + 1)))) (
        R true h)) →
      X4 i3) →
    X4 0)

set_option maxRecDepth 100000 in
theorem same_Ints_of {r : World} {a1 : Sl} {vb2 : Sl} {h : Heap} {R : Bool → Heap → Prop} (H : same_Ints_F r a1 vb2 h R) : same_Ints r a1 vb2 h R := by
  unfold same_Ints_F at H
  refine calls_of 26 [.tmp 4] Try.func18 rfl rfl rfl rfl rfl ?_
  refine W_seq ?_
  refine W_region (.pu 0 .fin) rfl rfl ?_
  refine s_pu (d := some 4) (v := (.bool false)) rfl rfl rfl (r_assign rfl) ?_
  refine s_fin ?_
  show W _ _ _ _ _ _ _ _
  refine W_seq ?_
  refine W_seq ?_
  refine W_region (.pu 0 (.pu 1 (.pu 2 (.pu 3 (.pu 4 .fin))))) rfl rfl ?_
  refine s_pu (d := some 6) (v := (Sl.v a1)) rfl rfl rfl (r_move rfl) ?_
  refine s_pu (d := some 7) (v := (.int .i64 ((a1.len : Int)))) rfl rfl rfl (r_len Try.underlying22 rfl) ?_
  refine s_pu (d := some 8) (v := (Sl.v vb2)) rfl rfl rfl (r_move rfl) ?_
  refine s_pu (d := some 9) (v := (.int .i64 ((vb2.len : Int)))) rfl rfl rfl (r_len Try.underlying22 rfl) ?_
  refine s_pu (d := some 10) (v := (.bool (!decide (((a1.len : Int)) = ((vb2.len : Int)))))) rfl rfl rfl (r_neq rfl rfl) ?_
  refine s_fin ?_
  show W _ _ _ _ _ _ _ _
  refine W_if (!decide (((a1.len : Int)) = ((vb2.len : Int)))) rfl (fun g23 => ?_) (fun g23 => ?_)
  · have H := H.1 g23
    refine W_seq ?_
    refine W_region (.pu 0 .fin) rfl rfl ?_
    refine s_pu (d := some 4) (v := (.bool false)) rfl rfl rfl (r_assign rfl) ?_
    refine s_fin ?_
    show W _ _ _ _ _ _ _ _
    refine W_ret ?_
    exact ⟨[(.bool false)], ⟨_, _, rfl, rfl, rfl⟩, false, rfl, H⟩
  · have H := H.2 g23
    refine W_skip ?_
    show W _ _ _ _ _ _ _ _
    refine W_seq ?_
    refine W_seq ?_
    refine W_region (.pu 0 .fin) rfl rfl ?_
    refine s_pu (d := some 5) (v := (.int .i64 0)) rfl rfl rfl (r_assign rfl) ?_
    refine s_fin ?_
    show W _ _ _ _ _ _ _ _
    refine W_block ?_
    refine W_loop (WL_mk (l := [(0, (Sl.v a1)), (1, (Sl.v vb2)), (5, (.int .i64 0))]) ?_ ⟨rfl, rfl, rfl, trivial⟩)
    refine H (fun (i3 : Int) => ∀ b, WL _ _ _ _ _ _ (mkE [(0, (Sl.v a1)), (1, (Sl.v vb2)), (5, (.int .i64 i3))] b) h) ?_
    intro i3 H b
    refine WL_round ?_
    refine W_seq ?_
    refine W_seq ?_
    refine W_region (.pu 0 (.pu 1 (.pu 2 (.pu 3 .fin)))) rfl rfl ?_
    refine s_pu (d := some 11) (v := (.int .i64 i3)) rfl rfl rfl (r_move rfl) ?_
    refine s_pu (d := some 12) (v := (Sl.v a1)) rfl rfl rfl (r_move rfl) ?_
    refine s_pu (d := some 13) (v := (.int .i64 ((a1.len : Int)))) rfl rfl rfl (r_len Try.underlying22 rfl) ?_
    refine s_pu (d := some 14) (v := (.bool (decide (i3 < ((a1.len : Int)))))) rfl rfl rfl (r_lss rfl rfl) ?_
    refine s_fin ?_
    show W _ _ _ _ _ _ _ _
    refine W_if (decide (i3 < ((a1.len : Int)))) rfl (fun g22 => ?_) (fun g22 => ?_)
    · have H := H.1 g22
      refine W_skip ?_
      show W _ _ _ _ _ _ _ _
      refine W_seq ?_
      refine W_block ?_
      refine W_seq ?_
      refine W_draw [0, 0, 3, 7, 0, 0, 48, 112, 255] (.pu 0 (.pu 1 (.pu 2 (.rd 3 (.pu 4 (.pu 5 (.pu 6 (.rd 7 (.pu 8 .fin))))))))) (by kernel_rfl) (by kernel_rfl) ?_
      refine s_pu (d := some 17) (v := (Sl.v a1)) rfl rfl rfl (r_move rfl) ?_
      refine s_pu (d := some 18) (v := (.int .i64 i3)) rfl rfl rfl (r_move rfl) ?_
      obtain ⟨p5, e6, e7, e8, H⟩ := H
      obtain ⟨q9, e10⟩ : ∃ q : Addr, q = Addr.add p5 (Int.toNat i3 * 1) := ⟨_, rfl⟩
      rw [← e10] at H
      refine s_pu (d := some 19) (v := (.pointer (some q9))) rfl rfl rfl (fun w => (r_indexAddr Try.underlying22 Try.sizeOf3 rfl rfl e6 e7 e8 w).trans (by rw [e10])) ?_
      obtain ⟨x11, e12, H⟩ := H
      refine s_rd (d := some 20) (v := (.int .i64 x11)) rfl rfl rfl (fun dr => r_load1 Try.isAgg3 rfl e12) ?_
      refine s_pu (d := some 21) (v := (Sl.v vb2)) rfl rfl rfl (r_move rfl) ?_
      refine s_pu (d := some 22) (v := (.int .i64 i3)) rfl rfl rfl (r_move rfl) ?_
      obtain ⟨p13, e14, e15, e16, H⟩ := H
      obtain ⟨q17, e18⟩ : ∃ q : Addr, q = Addr.add p13 (Int.toNat i3 * 1) := ⟨_, rfl⟩
      rw [← e18] at H
      refine s_pu (d := some 23) (v := (.pointer (some q17))) rfl rfl rfl (fun w => (r_indexAddr Try.underlying22 Try.sizeOf3 rfl rfl e14 e15 e16 w).trans (by rw [e18])) ?_
      obtain ⟨x19, e20, H⟩ := H
      refine s_rd (d := some 24) (v := (.int .i64 x19)) rfl rfl rfl (fun dr => r_load1 Try.isAgg3 rfl e20) ?_
      refine s_pu (d := some 25) (v := (.bool (!decide (x11 = x19)))) rfl rfl rfl (r_neq rfl rfl) ?_
      refine s_fin ?_
      show W _ _ _ _ _ _ _ _
      refine W_if (!decide (x11 = x19)) rfl (fun g21 => ?_) (fun g21 => ?_)
      · have H := H.1 g21
        refine W_seq ?_
        refine W_region (.pu 0 .fin) rfl rfl ?_
        refine s_pu (d := some 4) (v := (.bool false)) rfl rfl rfl (r_assign rfl) ?_
        refine s_fin ?_
        show W _ _ _ _ _ _ _ _
        refine W_ret ?_
        exact ⟨[(.bool false)], ⟨_, _, rfl, rfl, rfl⟩, false, rfl, H⟩
      · have H := H.2 g21
        refine W_skip ?_
        show W _ _ _ _ _ _ _ _
        refine W_region (.pu 0 (.pu 1 (.pu 2 .fin))) rfl rfl ?_
        refine s_pu (d := some 15) (v := (.int .i64 i3)) rfl rfl rfl (r_move rfl) ?_
        refine s_pu (d := some 16) (v := (.int .i64 (w64 (i3 + 1)))) rfl rfl rfl (r_add rfl rfl) ?_
        refine s_pu (d := some 5) (v := (.int .i64 (w64 (i3 + 1)))) rfl rfl rfl (r_assign rfl) ?_
        refine s_fin ?_
        exact WL_mk (l := [(0, (Sl.v a1)), (1, (Sl.v vb2)), (5, (.int .i64 (w64 (i3 + 1))))]) H ⟨rfl, rfl, rfl, trivial⟩
    · have H := H.2 g22
      refine W_exit (inX_here ?_)
      show W _ _ _ _ _ _ _ _
      refine W_seq ?_
      refine W_region (.pu 0 .fin) rfl rfl ?_
      refine s_pu (d := some 4) (v := (.bool true)) rfl rfl rfl (r_assign rfl) ?_
      refine s_fin ?_
      show W _ _ _ _ _ _ _ _
      refine W_ret ?_
      exact ⟨[(.bool true)], ⟨_, _, rfl, rfl, rfl⟩, true, rfl, H⟩

end Go.Proofs.Ytmjljnbjoldeaaa
