/- Typed words of functions, and that they hold: printed by gen.py (an own tool of this claim) off the model's own form of each function. -/
import Derived.Test.YtcafckgflpmfgaaDoorProg
import Derived.Test.YtcafckgflpmfgaaDoorDBas
import Derived.Test.YtcafckgflpmfgaaDoorDErr
namespace Go.Proofs.YtcafckgflpmfgaaDoor
open Go Go.RowKit Go.Tw
set_option linter.unusedVariables false

theorem slFDSeg_22 : SlF Tryd.prog 22 3 1 8 (.int .i64 0) := ⟨Tryd.underlying22, ⟨Tryd.t3, by kernel_rfl, rfl, rfl, rfl⟩, rfl, Tryd.sizeOf3, Tryd.zeroValue3⟩
theorem slFDSeg_111 : SlF Tryd.prog 111 117 6 48 (.agg #[(.int .i64 0), (.int .i64 0), (.int .i64 0), (.bool false), (.int .i64 0), (.int .i64 0)]) := ⟨Tryd.underlying111, ⟨Tryd.t117, by kernel_rfl, rfl, rfl, rfl⟩, rfl, Tryd.sizeOf117, Tryd.zeroValue117⟩

/-! ### the calls -/

abbrev seg_New (r : World) (l1 : Sl) (h : Heap) (R : Option Addr → Value → Heap → Prop) : Prop :=
  CallsH Tryd.prog r 40 [(Sl.v l1)] h fun v h' => ∃ (y2 : Option Addr) (y3 : Value), v = (.tuple #[(.pointer y2), y3]) ∧ R y2 y3 h'

theorem seg_New.mono {r : World} {l1 : Sl} {h : Heap} {R R' : Option Addr → Value → Heap → Prop} (H : seg_New r l1 h R) (hr : ∀ y2 y3 h, R y2 y3 h → R' y2 y3 h) : seg_New r l1 h R' :=
  CallsH.mono H fun _ _ hx => by
    obtain ⟨y2, y3, hv, hR⟩ := hx
    exact ⟨y2, y3, hv, hr _ _ _ hR⟩

abbrev seg_Seg_Add (r : World) (s1 : Option Addr) (i2 : Int) (j3 : Int) (x4 : Int) (h : Heap) (R : Value → Heap → Prop) : Prop :=
  CallsH Tryd.prog r 41 [(.pointer s1), (.int .i64 i2), (.int .i64 j3), (.int .i64 x4)] h R

theorem seg_Seg_Add.mono {r : World} {s1 : Option Addr} {i2 : Int} {j3 : Int} {x4 : Int} {h : Heap} {R R' : Value → Heap → Prop} (H : seg_Seg_Add r s1 i2 j3 x4 h R) (hr : ∀ y h, R y h → R' y h) : seg_Seg_Add r s1 i2 j3 x4 h R' := CallsH.mono H hr

abbrev seg_Seg_Sum (r : World) (s1 : Option Addr) (i2 : Int) (j3 : Int) (h : Heap) (R : Int → Value → Heap → Prop) : Prop :=
  CallsH Tryd.prog r 43 [(.pointer s1), (.int .i64 i2), (.int .i64 j3)] h fun v h' => ∃ (y4 : Int) (y5 : Value), v = (.tuple #[(.int .i64 y4), y5]) ∧ R y4 y5 h'

theorem seg_Seg_Sum.mono {r : World} {s1 : Option Addr} {i2 : Int} {j3 : Int} {h : Heap} {R R' : Int → Value → Heap → Prop} (H : seg_Seg_Sum r s1 i2 j3 h R) (hr : ∀ y4 y5 h, R y4 y5 h → R' y4 y5 h) : seg_Seg_Sum r s1 i2 j3 h R' :=
  CallsH.mono H fun _ _ hx => by
    obtain ⟨y4, y5, hv, hR⟩ := hx
    exact ⟨y4, y5, hv, hr _ _ _ hR⟩

abbrev seg_Seg_Least (r : World) (s1 : Option Addr) (i2 : Int) (j3 : Int) (h : Heap) (R : Int → Value → Heap → Prop) : Prop :=
  CallsH Tryd.prog r 44 [(.pointer s1), (.int .i64 i2), (.int .i64 j3)] h fun v h' => ∃ (y4 : Int) (y5 : Value), v = (.tuple #[(.int .i64 y4), y5]) ∧ R y4 y5 h'

theorem seg_Seg_Least.mono {r : World} {s1 : Option Addr} {i2 : Int} {j3 : Int} {h : Heap} {R R' : Int → Value → Heap → Prop} (H : seg_Seg_Least r s1 i2 j3 h R) (hr : ∀ y4 y5 h, R y4 y5 h → R' y4 y5 h) : seg_Seg_Least r s1 i2 j3 h R' :=
  CallsH.mono H fun _ _ hx => by
    obtain ⟨y4, y5, hv, hR⟩ := hx
    exact ⟨y4, y5, hv, hr _ _ _ hR⟩

abbrev seg_Seg_Most (r : World) (s1 : Option Addr) (i2 : Int) (j3 : Int) (h : Heap) (R : Int → Value → Heap → Prop) : Prop :=
  CallsH Tryd.prog r 45 [(.pointer s1), (.int .i64 i2), (.int .i64 j3)] h fun v h' => ∃ (y4 : Int) (y5 : Value), v = (.tuple #[(.int .i64 y4), y5]) ∧ R y4 y5 h'

theorem seg_Seg_Most.mono {r : World} {s1 : Option Addr} {i2 : Int} {j3 : Int} {h : Heap} {R R' : Int → Value → Heap → Prop} (H : seg_Seg_Most r s1 i2 j3 h R) (hr : ∀ y4 y5 h, R y4 y5 h → R' y4 y5 h) : seg_Seg_Most r s1 i2 j3 h R' :=
  CallsH.mono H fun _ _ hx => by
    obtain ⟨y4, y5, hv, hR⟩ := hx
    exact ⟨y4, y5, hv, hr _ _ _ hR⟩

abbrev seg_Seg_Ints (r : World) (s1 : Option Addr) (h : Heap) (R : Sl → Heap → Prop) : Prop :=
  CallsH Tryd.prog r 46 [(.pointer s1)] h fun v h' => ∃ (y2 : Sl), v = (Sl.v y2) ∧ R y2 h'

theorem seg_Seg_Ints.mono {r : World} {s1 : Option Addr} {h : Heap} {R R' : Sl → Heap → Prop} (H : seg_Seg_Ints r s1 h R) (hr : ∀ y2 h, R y2 h → R' y2 h) : seg_Seg_Ints r s1 h R' :=
  CallsH.mono H fun _ _ hx => by
    obtain ⟨y2, hv, hR⟩ := hx
    exact ⟨y2, hv, hr _ _ hR⟩

abbrev seg_Seg_Put (r : World) (s1 : Option Addr) (i2 : Int) (j3 : Int) (x4 : Int) (h : Heap) (R : Value → Heap → Prop) : Prop :=
  CallsH Tryd.prog r 42 [(.pointer s1), (.int .i64 i2), (.int .i64 j3), (.int .i64 x4)] h R

theorem seg_Seg_Put.mono {r : World} {s1 : Option Addr} {i2 : Int} {j3 : Int} {x4 : Int} {h : Heap} {R R' : Value → Heap → Prop} (H : seg_Seg_Put r s1 i2 j3 x4 h R) (hr : ∀ y h, R y h → R' y h) : seg_Seg_Put r s1 i2 j3 x4 h R' := CallsH.mono H hr

abbrev seg_Seg_build (r : World) (s1 : Option Addr) (va2 : Int) (l3 : Sl) (h : Heap) (R : Heap → Prop) : Prop :=
  CallsH Tryd.prog r 81 [(.pointer s1), (.int .i64 va2), (Sl.v l3)] h fun v h' => v = (.tuple #[]) ∧ R  h'

theorem seg_Seg_build.mono {r : World} {s1 : Option Addr} {va2 : Int} {l3 : Sl} {h : Heap} {R R' : Heap → Prop} (H : seg_Seg_build r s1 va2 l3 h R) (hr : ∀  h, R  h → R'  h) : seg_Seg_build r s1 va2 l3 h R' :=
  CallsH.mono H fun _ _ hx => by
    obtain ⟨hv, hR⟩ := hx
    exact ⟨hv, hr _ hR⟩

abbrev seg_Seg_within (r : World) (s1 : Option Addr) (i2 : Int) (j3 : Int) (h : Heap) (R : Value → Heap → Prop) : Prop :=
  CallsH Tryd.prog r 82 [(.pointer s1), (.int .i64 i2), (.int .i64 j3)] h R

theorem seg_Seg_within.mono {r : World} {s1 : Option Addr} {i2 : Int} {j3 : Int} {h : Heap} {R R' : Value → Heap → Prop} (H : seg_Seg_within r s1 i2 j3 h R) (hr : ∀ y h, R y h → R' y h) : seg_Seg_within r s1 i2 j3 h R' := CallsH.mono H hr

abbrev seg_Seg_change (r : World) (s1 : Option Addr) (va2 : Int) (n3 : Int) (i4 : Int) (j5 : Int) (put6 : Bool) (x7 : Int) (h : Heap) (R : Heap → Prop) : Prop :=
  CallsH Tryd.prog r 83 [(.pointer s1), (.int .i64 va2), (.int .i64 n3), (.int .i64 i4), (.int .i64 j5), (.bool put6), (.int .i64 x7)] h fun v h' => v = (.tuple #[]) ∧ R  h'

theorem seg_Seg_change.mono {r : World} {s1 : Option Addr} {va2 : Int} {n3 : Int} {i4 : Int} {j5 : Int} {put6 : Bool} {x7 : Int} {h : Heap} {R R' : Heap → Prop} (H : seg_Seg_change r s1 va2 n3 i4 j5 put6 x7 h R) (hr : ∀  h, R  h → R'  h) : seg_Seg_change r s1 va2 n3 i4 j5 put6 x7 h R' :=
  CallsH.mono H fun _ _ hx => by
    obtain ⟨hv, hR⟩ := hx
    exact ⟨hv, hr _ hR⟩

abbrev seg_Seg_told (r : World) (s1 : Option Addr) (va2 : Int) (n3 : Int) (i4 : Int) (j5 : Int) (h : Heap) (R : Int → Int → Int → Bool → Int → Int → Bool → Heap → Prop) : Prop :=
  CallsH Tryd.prog r 84 [(.pointer s1), (.int .i64 va2), (.int .i64 n3), (.int .i64 i4), (.int .i64 j5)] h fun v h' => ∃ (y6 : Int) (y7 : Int) (y8 : Int) (y9 : Bool) (y10 : Int) (y11 : Int) (y12 : Bool), v = (.tuple #[(.agg #[(.int .i64 y6), (.int .i64 y7), (.int .i64 y8), (.bool y9), (.int .i64 y10), (.int .i64 y11)]), (.bool y12)]) ∧ R y6 y7 y8 y9 y10 y11 y12 h'

theorem seg_Seg_told.mono {r : World} {s1 : Option Addr} {va2 : Int} {n3 : Int} {i4 : Int} {j5 : Int} {h : Heap} {R R' : Int → Int → Int → Bool → Int → Int → Bool → Heap → Prop} (H : seg_Seg_told r s1 va2 n3 i4 j5 h R) (hr : ∀ y6 y7 y8 y9 y10 y11 y12 h, R y6 y7 y8 y9 y10 y11 y12 h → R' y6 y7 y8 y9 y10 y11 y12 h) : seg_Seg_told r s1 va2 n3 i4 j5 h R' :=
  CallsH.mono H fun _ _ hx => by
    obtain ⟨y6, y7, y8, y9, y10, y11, y12, hv, hR⟩ := hx
    exact ⟨y6, y7, y8, y9, y10, y11, y12, hv, hr _ _ _ _ _ _ _ _ hR⟩

abbrev seg_Seg_some (r : World) (s1 : Option Addr) (i2 : Int) (j3 : Int) (h : Heap) (R : Int → Int → Int → Bool → Int → Int → Value → Heap → Prop) : Prop :=
  CallsH Tryd.prog r 85 [(.pointer s1), (.int .i64 i2), (.int .i64 j3)] h fun v h' => ∃ (y4 : Int) (y5 : Int) (y6 : Int) (y7 : Bool) (y8 : Int) (y9 : Int) (y10 : Value), v = (.tuple #[(.agg #[(.int .i64 y4), (.int .i64 y5), (.int .i64 y6), (.bool y7), (.int .i64 y8), (.int .i64 y9)]), y10]) ∧ R y4 y5 y6 y7 y8 y9 y10 h'

theorem seg_Seg_some.mono {r : World} {s1 : Option Addr} {i2 : Int} {j3 : Int} {h : Heap} {R R' : Int → Int → Int → Bool → Int → Int → Value → Heap → Prop} (H : seg_Seg_some r s1 i2 j3 h R) (hr : ∀ y4 y5 y6 y7 y8 y9 y10 h, R y4 y5 y6 y7 y8 y9 y10 h → R' y4 y5 y6 y7 y8 y9 y10 h) : seg_Seg_some r s1 i2 j3 h R' :=
  CallsH.mono H fun _ _ hx => by
    obtain ⟨y4, y5, y6, y7, y8, y9, y10, hv, hR⟩ := hx
    exact ⟨y4, y5, y6, y7, y8, y9, y10, hv, hr _ _ _ _ _ _ _ _ hR⟩

abbrev seg_Seg_pull (r : World) (s1 : Option Addr) (va2 : Int) (h : Heap) (R : Heap → Prop) : Prop :=
  CallsH Tryd.prog r 113 [(.pointer s1), (.int .i64 va2)] h fun v h' => v = (.tuple #[]) ∧ R  h'

theorem seg_Seg_pull.mono {r : World} {s1 : Option Addr} {va2 : Int} {h : Heap} {R R' : Heap → Prop} (H : seg_Seg_pull r s1 va2 h R) (hr : ∀  h, R  h → R'  h) : seg_Seg_pull r s1 va2 h R' :=
  CallsH.mono H fun _ _ hx => by
    obtain ⟨hv, hR⟩ := hx
    exact ⟨hv, hr _ hR⟩

abbrev seg_Seg_all (r : World) (s1 : Option Addr) (va2 : Int) (n3 : Int) (put4 : Bool) (what5 : Int) (more6 : Int) (h : Heap) (R : Heap → Prop) : Prop :=
  CallsH Tryd.prog r 114 [(.pointer s1), (.int .i64 va2), (.int .i64 n3), (.bool put4), (.int .i64 what5), (.int .i64 more6)] h fun v h' => v = (.tuple #[]) ∧ R  h'

theorem seg_Seg_all.mono {r : World} {s1 : Option Addr} {va2 : Int} {n3 : Int} {put4 : Bool} {what5 : Int} {more6 : Int} {h : Heap} {R R' : Heap → Prop} (H : seg_Seg_all r s1 va2 n3 put4 what5 more6 h R) (hr : ∀  h, R  h → R'  h) : seg_Seg_all r s1 va2 n3 put4 what5 more6 h R' :=
  CallsH.mono H fun _ _ hx => by
    obtain ⟨hv, hR⟩ := hx
    exact ⟨hv, hr _ hR⟩

abbrev seg_Seg_safe (r : World) (s1 : Option Addr) (va2 : Int) (x3 : Int) (h : Heap) (R : Bool → Heap → Prop) : Prop :=
  CallsH Tryd.prog r 115 [(.pointer s1), (.int .i64 va2), (.int .i64 x3)] h fun v h' => ∃ (y4 : Bool), v = (.bool y4) ∧ R y4 h'

theorem seg_Seg_safe.mono {r : World} {s1 : Option Addr} {va2 : Int} {x3 : Int} {h : Heap} {R R' : Bool → Heap → Prop} (H : seg_Seg_safe r s1 va2 x3 h R) (hr : ∀ y4 h, R y4 h → R' y4 h) : seg_Seg_safe r s1 va2 x3 h R' :=
  CallsH.mono H fun _ _ hx => by
    obtain ⟨y4, hv, hR⟩ := hx
    exact ⟨y4, hv, hr _ _ hR⟩

abbrev seg_Seg_push (r : World) (s1 : Option Addr) (va2 : Int) (n3 : Int) (h : Heap) (R : Heap → Prop) : Prop :=
  CallsH Tryd.prog r 116 [(.pointer s1), (.int .i64 va2), (.int .i64 n3)] h fun v h' => v = (.tuple #[]) ∧ R  h'

theorem seg_Seg_push.mono {r : World} {s1 : Option Addr} {va2 : Int} {n3 : Int} {h : Heap} {R R' : Heap → Prop} (H : seg_Seg_push r s1 va2 n3 h R) (hr : ∀  h, R  h → R'  h) : seg_Seg_push r s1 va2 n3 h R' :=
  CallsH.mono H fun _ _ hx => by
    obtain ⟨hv, hR⟩ := hx
    exact ⟨hv, hr _ hR⟩

/-! ### seg_New -/

def seg_New_F (r : World) (l1 : Sl) (h : Heap) (R : Option Addr → Value → Heap → Prop) : Prop :=
  Br (decide (5000 < ((l1.len : Int)))) (
    R none ((.iface 29 (.int .i64 4))) h) (
    MkS 117 6 48 (.agg #[(.int .i64 0), (.int .i64 0), (.int .i64 0), (.bool false), (.int .i64 0), (.int .i64 0)]) (max 1 (w64 (4 * ((l1.len : Int))))) h fun s2 h1 =>
    New h1 (.cells #[(.int .i64 ((l1.len : Int))), (Sl.v s2)] 113) fun p8 h2 =>
    LdI h2 (Addr.add p8 0) fun x11 =>
    ∀ J13 : Heap → Prop, (∀ (h3 : Heap),
      (R (some p8) .nilIface h3) →
      J13 h3) →
    Br (decide (0 < x11)) (
      seg_Seg_build r (some p8) 1 l1 h2 fun  h4 =>
      J13 h4) (
      J13 h2))

set_option maxRecDepth 100000 in
theorem seg_New_of {r : World} {l1 : Sl} {h : Heap} {R : Option Addr → Value → Heap → Prop} (H : seg_New_F r l1 h R) : seg_New r l1 h R := by
  unfold seg_New_F at H
  refine calls_of 27 [.tmp 2, .tmp 3] Tryd.func40 rfl rfl rfl rfl rfl ?_
  refine W_seq ?_
  refine W_region (.pu 0 (.pu 1 .fin)) rfl rfl ?_
  refine s_pu (d := some 2) (v := (.pointer none)) rfl rfl rfl (r_assign rfl) ?_
  refine s_pu (d := some 3) (v := .nilIface) rfl rfl rfl (r_assign rfl) ?_
  refine s_fin ?_
  show W _ _ _ _ _ _ _ _
  refine W_seq ?_
  refine W_seq ?_
  refine W_region (.pu 0 (.pu 1 (.pu 2 .fin))) rfl rfl ?_
  refine s_pu (d := some 5) (v := (Sl.v l1)) rfl rfl rfl (r_move rfl) ?_
  refine s_pu (d := some 6) (v := (.int .i64 ((l1.len : Int)))) rfl rfl rfl (r_len Tryd.underlying22 rfl) ?_
  refine s_pu (d := some 7) (v := (.bool (decide (5000 < ((l1.len : Int)))))) rfl rfl rfl (r_gtr rfl rfl) ?_
  refine s_fin ?_
  show W _ _ _ _ _ _ _ _
  refine W_if (decide (5000 < ((l1.len : Int)))) rfl (fun g16 => ?_) (fun g16 => ?_)
  · have H := H.1 g16
    refine W_seq ?_
    refine W_region (.pu 0 (.pu 1 (.pu 2 .fin))) rfl rfl ?_
    refine s_pu (d := some 8) (v := ((.iface 29 (.int .i64 4)))) rfl rfl rfl (r_iface Tryd.underlying29 rfl rfl) ?_
    refine s_pu (d := some 2) (v := (.pointer none)) rfl rfl rfl (r_assign rfl) ?_
    refine s_pu (d := some 3) (v := ((.iface 29 (.int .i64 4)))) rfl rfl rfl (r_assign rfl) ?_
    refine s_fin ?_
    show W _ _ _ _ _ _ _ _
    refine W_ret ?_
    exact ⟨[(.pointer none), ((.iface 29 (.int .i64 4)))], ⟨_, _, rfl, rfl, ⟨_, _, rfl, rfl, rfl⟩⟩, none, ((.iface 29 (.int .i64 4))), rfl, H⟩
  · have H := H.2 g16
    refine W_skip ?_
    show W _ _ _ _ _ _ _ _
    refine W_seq ?_
    refine W_region (.pu 0 (.pu 1 (.pu 2 (.pu 3 (.pu 4 (.pu 5 (.ef 6 [] (.pu 7 (.ef 8 [] (.pu 9 .fin) .no)) .no))))))) rfl rfl ?_
    refine s_pu (d := some 9) (v := (Sl.v l1)) rfl rfl rfl (r_move rfl) ?_
    refine s_pu (d := some 10) (v := (.int .i64 ((l1.len : Int)))) rfl rfl rfl (r_len Tryd.underlying22 rfl) ?_
    refine s_pu (d := some 11) (v := (Sl.v l1)) rfl rfl rfl (r_move rfl) ?_
    refine s_pu (d := some 12) (v := (.int .i64 ((l1.len : Int)))) rfl rfl rfl (r_len Tryd.underlying22 rfl) ?_
    refine s_pu (d := some 13) (v := (.int .i64 (w64 (4 * ((l1.len : Int)))))) rfl rfl rfl (r_mul rfl rfl) ?_
    refine s_pu (d := some 14) (v := (.int .i64 (max 1 (w64 (4 * ((l1.len : Int))))))) rfl rfl rfl (r_max rfl rfl) ?_
    obtain ⟨e3, e4, e5, H⟩ := H
    obtain ⟨s2, e6⟩ : ∃ s : Sl, s = ⟨some ⟨h.size, 0, none⟩, Int.toNat (max 1 (w64 (4 * ((l1.len : Int))))), Int.toNat (max 1 (w64 (4 * ((l1.len : Int)))))⟩ := ⟨_, rfl⟩
    obtain ⟨h1, e7⟩ : ∃ hh : Heap, hh = _ := ⟨_, rfl⟩
    have H := H s2 h1 e6 e7
    refine s_ef1 (d := some 15) (v := (Sl.v s2)) (h' := h1) rfl rfl rfl (fun dr => (slFDSeg_111.make rfl rfl e3 e4 e5).trans (by rw [e6, e7]; rfl)) trivial ?_ trivial
    refine s_pu (d := some 16) (v := (.agg #[(.int .i64 ((l1.len : Int))), (Sl.v s2)])) rfl rfl rfl (fun w => by kernel_rfl) ?_
    obtain ⟨p8, e9⟩ : ∃ p : Addr, p = ⟨h1.size, 0, none⟩ := ⟨_, rfl⟩
    obtain ⟨h2, e10⟩ : ∃ hh : Heap, hh = h1.push (.cells #[(.int .i64 ((l1.len : Int))), (Sl.v s2)] 113) := ⟨_, rfl⟩
    have H := H p8 h2 e9 e10
    refine s_ef1 (d := some 17) (v := (.pointer (some p8))) (h' := h2) rfl rfl rfl (fun dr => (r_box (v := (.agg #[(.int .i64 ((l1.len : Int))), (Sl.v s2)])) rfl).trans (by rw [e9, e10]; rfl)) trivial ?_ trivial
    refine s_pu (d := some 4) (v := (.pointer (some p8))) rfl rfl rfl (r_assign rfl) ?_
    refine s_fin ?_
    show W _ _ _ _ _ _ _ _
    refine W_seq ?_
    refine W_seq ?_
    refine W_region (.pu 0 (.pu 1 (.pu 2 (.rl 3 (.pu 4 .fin))))) rfl rfl ?_
    refine s_pu (d := some 18) (v := (.pointer (some p8))) rfl rfl rfl (r_move rfl) ?_
    refine s_pu (d := some 19) (v := (.pointer (some p8))) rfl rfl rfl (r_nilCheck rfl rfl) ?_
    refine s_pu (d := some 20) (v := (.pointer (some (Addr.add p8 0)))) rfl rfl rfl (r_fieldAddr Tryd.underlying113 Tryd.sizeOf3 rfl rfl rfl) ?_
    obtain ⟨x11, e12, H⟩ := H
    refine s_rl (d := some 21) (v := (.int .i64 x11)) rfl rfl rfl (fun dr => r_load1 Tryd.isAgg3 rfl e12) ?_
    refine s_pu (d := some 22) (v := (.bool (decide (0 < x11)))) rfl rfl rfl (r_gtr rfl rfl) ?_
    refine s_fin ?_
    show W _ _ _ _ _ _ _ _
    refine W_set ?_
    intro N14 eN14
    have H := H (fun (h3 : Heap) => ∀ b, N14 [] (mkE [(4, (.pointer (some p8)))] b) h3) (by
      intro h3 H b
      rw [eN14]
      show W _ _ _ _ _ _ _ _
      refine W_seq ?_
      refine W_region (.pu 0 (.pu 1 (.pu 2 .fin))) rfl rfl ?_
      refine s_pu (d := some 26) (v := (.pointer (some p8))) rfl rfl rfl (r_move rfl) ?_
      refine s_pu (d := some 2) (v := (.pointer (some p8))) rfl rfl rfl (r_assign rfl) ?_
      refine s_pu (d := some 3) (v := .nilIface) rfl rfl rfl (r_assign rfl) ?_
      refine s_fin ?_
      show W _ _ _ _ _ _ _ _
      refine W_ret ?_
      exact ⟨[(.pointer (some p8)), .nilIface], ⟨_, _, rfl, rfl, ⟨_, _, rfl, rfl, rfl⟩⟩, (some p8), .nilIface, rfl, H⟩)
    clear eN14
    refine W_if (decide (0 < x11)) rfl (fun g15 => ?_) (fun g15 => ?_)
    · have H := H.1 g15
      refine W_region (.pu 0 (.pu 1 (.ef 2 [] .fin .no))) rfl rfl ?_
      refine s_pu (d := some 23) (v := (.pointer (some p8))) rfl rfl rfl (r_move rfl) ?_
      refine s_pu (d := some 24) (v := (Sl.v l1)) rfl rfl rfl (r_move rfl) ?_
      refine s_ef (d := some 25) rfl rfl rfl (fun dr => r_call Tryd.call81 rfl rfl H) ?_ trivial
      rintro _ h4 ⟨rfl, H⟩
      refine ⟨trivial, ?_⟩
      refine s_fin ?_
      exact N_mk (l := [(4, (.pointer (some p8)))]) H ⟨rfl, trivial⟩
    · have H := H.2 g15
      refine W_skip ?_
      exact N_mk (l := [(4, (.pointer (some p8)))]) H ⟨rfl, trivial⟩

/-! ### seg_Seg_Add -/

def seg_Seg_Add_F (r : World) (s1 : Option Addr) (i2 : Int) (j3 : Int) (x4 : Int) (h : Heap) (R : Value → Heap → Prop) : Prop :=
  seg_Seg_within r s1 i2 j3 h fun y5 h1 =>
  (isIface y5 = true) ∧
  Br (!(isNil y5)) (
    R y5 h1) (
    Ck s1 fun p7 =>
    LdI h1 (Addr.add p7 0) fun x9 =>
    seg_Seg_change r s1 1 x9 i2 j3 false x4 h1 fun  h2 =>
    R .nilIface h2)

set_option maxRecDepth 100000 in
theorem seg_Seg_Add_of {r : World} {s1 : Option Addr} {i2 : Int} {j3 : Int} {x4 : Int} {h : Heap} {R : Value → Heap → Prop} (H : seg_Seg_Add_F r s1 i2 j3 x4 h R) : seg_Seg_Add r s1 i2 j3 x4 h R := by
  unfold seg_Seg_Add_F at H
  refine calls_of 26 [.tmp 8] Tryd.func41 rfl rfl rfl rfl rfl ?_
  refine W_seq ?_
  refine W_region (.pu 0 .fin) rfl rfl ?_
  refine s_pu (d := some 8) (v := .nilIface) rfl rfl rfl (r_assign rfl) ?_
  refine s_fin ?_
  show W _ _ _ _ _ _ _ _
  refine W_seq ?_
  refine W_seq ?_
  refine W_region (.pu 0 (.pu 1 (.pu 2 (.ef 3 [] (.pu 4 .fin) .no)))) rfl rfl ?_
  refine s_pu (d := some 10) (v := (.pointer s1)) rfl rfl rfl (r_move rfl) ?_
  refine s_pu (d := some 11) (v := (.int .i64 i2)) rfl rfl rfl (r_move rfl) ?_
  refine s_pu (d := some 12) (v := (.int .i64 j3)) rfl rfl rfl (r_move rfl) ?_
  refine s_ef (d := some 13) rfl rfl rfl (fun dr => r_call Tryd.call82 rfl rfl H) ?_ trivial
  rintro y5 h1 H
  refine ⟨trivial, ?_⟩
  refine s_pu (d := some 9) (v := y5) rfl rfl rfl (r_assign rfl) ?_
  refine s_fin ?_
  show W _ _ _ _ _ _ _ _
  refine W_seq ?_
  refine W_region (.pu 0 (.pu 1 .fin)) rfl rfl ?_
  refine s_pu (d := some 14) (v := y5) rfl rfl rfl (r_move rfl) ?_
  obtain ⟨e6, H⟩ := H
  refine s_pu (d := some 15) (v := (.bool (!(isNil y5)))) rfl rfl rfl (r_notNilI Tryd.underlying26 rfl e6 rfl) ?_
  refine s_fin ?_
  show W _ _ _ _ _ _ _ _
  refine W_if (!(isNil y5)) rfl (fun g11 => ?_) (fun g11 => ?_)
  · have H := H.1 g11
    refine W_seq ?_
    refine W_region (.pu 0 (.pu 1 .fin)) rfl rfl ?_
    refine s_pu (d := some 16) (v := y5) rfl rfl rfl (r_move rfl) ?_
    refine s_pu (d := some 8) (v := y5) rfl rfl rfl (r_assign rfl) ?_
    refine s_fin ?_
    show W _ _ _ _ _ _ _ _
    refine W_ret ?_
    exact ⟨[y5], ⟨_, _, rfl, rfl, rfl⟩, H⟩
  · have H := H.2 g11
    refine W_skip ?_
    show W _ _ _ _ _ _ _ _
    refine W_seq ?_
    refine W_region (.pu 0 (.pu 1 (.pu 2 (.pu 3 (.rl 4 (.pu 5 (.pu 6 (.pu 7 (.ef 8 [] .fin .no))))))))) rfl rfl ?_
    refine s_pu (d := some 17) (v := (.pointer s1)) rfl rfl rfl (r_move rfl) ?_
    refine s_pu (d := some 18) (v := (.pointer s1)) rfl rfl rfl (r_move rfl) ?_
    obtain ⟨p7, e8, H⟩ := H
    refine s_pu (d := some 19) (v := (.pointer (some p7))) rfl rfl rfl (r_nilCheck rfl e8) ?_
    refine s_pu (d := some 20) (v := (.pointer (some (Addr.add p7 0)))) rfl rfl rfl (r_fieldAddr Tryd.underlying113 Tryd.sizeOf3 rfl rfl rfl) ?_
    obtain ⟨x9, e10, H⟩ := H
    refine s_rl (d := some 21) (v := (.int .i64 x9)) rfl rfl rfl (fun dr => r_load1 Tryd.isAgg3 rfl e10) ?_
    refine s_pu (d := some 22) (v := (.int .i64 i2)) rfl rfl rfl (r_move rfl) ?_
    refine s_pu (d := some 23) (v := (.int .i64 j3)) rfl rfl rfl (r_move rfl) ?_
    refine s_pu (d := some 24) (v := (.int .i64 x4)) rfl rfl rfl (r_move rfl) ?_
    refine s_ef (d := some 25) rfl rfl rfl (fun dr => r_call Tryd.call83 rfl rfl H) ?_ trivial
    rintro _ h2 ⟨rfl, H⟩
    refine ⟨trivial, ?_⟩
    refine s_fin ?_
    show W _ _ _ _ _ _ _ _
    refine W_seq ?_
    refine W_region (.pu 0 .fin) rfl rfl ?_
    refine s_pu (d := some 8) (v := .nilIface) rfl rfl rfl (r_assign rfl) ?_
    refine s_fin ?_
    show W _ _ _ _ _ _ _ _
    refine W_ret ?_
    exact ⟨[.nilIface], ⟨_, _, rfl, rfl, rfl⟩, H⟩

/-! ### seg_Seg_Sum -/

def seg_Seg_Sum_F (r : World) (s1 : Option Addr) (i2 : Int) (j3 : Int) (h : Heap) (R : Int → Value → Heap → Prop) : Prop :=
  seg_Seg_within r s1 i2 j3 h fun y4 h1 =>
  (isIface y4 = true) ∧
  Br (!(isNil y4)) (
    R 0 y4 h1) (
    Ck s1 fun p6 =>
    LdI h1 (Addr.add p6 0) fun x8 =>
    seg_Seg_told r s1 1 x8 i2 j3 h1 fun y10 y11 y12 y13 y14 y15 y16 h2 =>
    New h2 (.cells #[(.int .i64 0), (.int .i64 0), (.int .i64 0), (.bool false), (.int .i64 0), (.int .i64 0)] 117) fun p17 h3 =>
    St h3 p17 6 [(.int .i64 y10), (.int .i64 y11), (.int .i64 y12), (.bool y13), (.int .i64 y14), (.int .i64 y15)] fun h4 =>
    LdI h4 (Addr.add p17 0) fun x22 =>
    R x22 .nilIface h4)

set_option maxRecDepth 100000 in
theorem seg_Seg_Sum_of {r : World} {s1 : Option Addr} {i2 : Int} {j3 : Int} {h : Heap} {R : Int → Value → Heap → Prop} (H : seg_Seg_Sum_F r s1 i2 j3 h R) : seg_Seg_Sum r s1 i2 j3 h R := by
  unfold seg_Seg_Sum_F at H
  refine calls_of 31 [.tmp 6, .tmp 7] Tryd.func43 rfl rfl rfl rfl rfl ?_
  refine W_seq ?_
  refine W_region (.pu 0 (.pu 1 .fin)) rfl rfl ?_
  refine s_pu (d := some 6) (v := (.int .i64 0)) rfl rfl rfl (r_assign rfl) ?_
  refine s_pu (d := some 7) (v := .nilIface) rfl rfl rfl (r_assign rfl) ?_
  refine s_fin ?_
  show W _ _ _ _ _ _ _ _
  refine W_seq ?_
  refine W_seq ?_
  refine W_region (.pu 0 (.pu 1 (.pu 2 (.ef 3 [] (.pu 4 .fin) .no)))) rfl rfl ?_
  refine s_pu (d := some 11) (v := (.pointer s1)) rfl rfl rfl (r_move rfl) ?_
  refine s_pu (d := some 12) (v := (.int .i64 i2)) rfl rfl rfl (r_move rfl) ?_
  refine s_pu (d := some 13) (v := (.int .i64 j3)) rfl rfl rfl (r_move rfl) ?_
  refine s_ef (d := some 14) rfl rfl rfl (fun dr => r_call Tryd.call82 rfl rfl H) ?_ trivial
  rintro y4 h1 H
  refine ⟨trivial, ?_⟩
  refine s_pu (d := some 8) (v := y4) rfl rfl rfl (r_assign rfl) ?_
  refine s_fin ?_
  show W _ _ _ _ _ _ _ _
  refine W_seq ?_
  refine W_region (.pu 0 (.pu 1 .fin)) rfl rfl ?_
  refine s_pu (d := some 15) (v := y4) rfl rfl rfl (r_move rfl) ?_
  obtain ⟨e5, H⟩ := H
  refine s_pu (d := some 16) (v := (.bool (!(isNil y4)))) rfl rfl rfl (r_notNilI Tryd.underlying26 rfl e5 rfl) ?_
  refine s_fin ?_
  show W _ _ _ _ _ _ _ _
  refine W_if (!(isNil y4)) rfl (fun g24 => ?_) (fun g24 => ?_)
  · have H := H.1 g24
    refine W_seq ?_
    refine W_region (.pu 0 (.pu 1 (.pu 2 .fin))) rfl rfl ?_
    refine s_pu (d := some 17) (v := y4) rfl rfl rfl (r_move rfl) ?_
    refine s_pu (d := some 6) (v := (.int .i64 0)) rfl rfl rfl (r_assign rfl) ?_
    refine s_pu (d := some 7) (v := y4) rfl rfl rfl (r_assign rfl) ?_
    refine s_fin ?_
    show W _ _ _ _ _ _ _ _
    refine W_ret ?_
    exact ⟨[(.int .i64 0), y4], ⟨_, _, rfl, rfl, ⟨_, _, rfl, rfl, rfl⟩⟩, 0, y4, rfl, H⟩
  · have H := H.2 g24
    refine W_skip ?_
    show W _ _ _ _ _ _ _ _
    refine W_seq ?_
    refine W_region (.pu 0 (.pu 1 (.pu 2 (.pu 3 (.rl 4 (.pu 5 (.pu 6 (.ef 7 [] (.pu 8 (.pu 9 (.pu 10 (.ef 11 [] (.ef 12 [] (.pu 13 .fin) .no) .no)))) .no)))))))) rfl rfl ?_
    refine s_pu (d := some 19) (v := (.pointer s1)) rfl rfl rfl (r_move rfl) ?_
    refine s_pu (d := some 20) (v := (.pointer s1)) rfl rfl rfl (r_move rfl) ?_
    obtain ⟨p6, e7, H⟩ := H
    refine s_pu (d := some 21) (v := (.pointer (some p6))) rfl rfl rfl (r_nilCheck rfl e7) ?_
    refine s_pu (d := some 22) (v := (.pointer (some (Addr.add p6 0)))) rfl rfl rfl (r_fieldAddr Tryd.underlying113 Tryd.sizeOf3 rfl rfl rfl) ?_
    obtain ⟨x8, e9, H⟩ := H
    refine s_rl (d := some 23) (v := (.int .i64 x8)) rfl rfl rfl (fun dr => r_load1 Tryd.isAgg3 rfl e9) ?_
    refine s_pu (d := some 24) (v := (.int .i64 i2)) rfl rfl rfl (r_move rfl) ?_
    refine s_pu (d := some 25) (v := (.int .i64 j3)) rfl rfl rfl (r_move rfl) ?_
    refine s_ef (d := some 26) rfl rfl rfl (fun dr => r_call Tryd.call84 rfl rfl H) ?_ trivial
    rintro _ h2 ⟨y10, y11, y12, y13, y14, y15, y16, rfl, H⟩
    refine ⟨trivial, ?_⟩
    refine s_pu (d := some 18) (v := (.tuple #[(.agg #[(.int .i64 y10), (.int .i64 y11), (.int .i64 y12), (.bool y13), (.int .i64 y14), (.int .i64 y15)]), (.bool y16)])) rfl rfl rfl (r_move rfl) ?_
    refine s_pu (d := some 27) (v := (.agg #[(.int .i64 y10), (.int .i64 y11), (.int .i64 y12), (.bool y13), (.int .i64 y14), (.int .i64 y15)])) rfl rfl rfl (r_extract rfl rfl) ?_
    refine s_pu (d := some 28) (v := (.bool y16)) rfl rfl rfl (r_extract rfl rfl) ?_
    obtain ⟨p17, e18⟩ : ∃ p : Addr, p = ⟨h2.size, 0, none⟩ := ⟨_, rfl⟩
    obtain ⟨h3, e19⟩ : ∃ hh : Heap, hh = h2.push (.cells #[(.int .i64 0), (.int .i64 0), (.int .i64 0), (.bool false), (.int .i64 0), (.int .i64 0)] 117) := ⟨_, rfl⟩
    have H := H p17 h3 e18 e19
    refine s_ef1 (d := some 9) (v := (.pointer (some p17))) (h' := h3) rfl rfl rfl (fun dr => (r_alloc Tryd.zeroValue117).trans (by rw [e18, e19]; rfl)) trivial ?_ trivial
    obtain ⟨e21, H⟩ := H
    obtain ⟨h4, e20⟩ : ∃ hh : Heap, hh = hsets h3 p17 0 [(.int .i64 y10), (.int .i64 y11), (.int .i64 y12), (.bool y13), (.int .i64 y14), (.int .i64 y15)] := ⟨_, rfl⟩
    have H := H h4 e20
    refine s_st (d := none) (h' := h4) rfl rfl rfl (fun dr => (r_store (v := (.agg #[(.int .i64 y10), (.int .i64 y11), (.int .i64 y12), (.bool y13), (.int .i64 y14), (.int .i64 y15)])) Tryd.sizeOf117 rfl rfl rfl (one_all rfl) e21).trans (by rw [e20]; rfl)) trivial ?_ trivial
    refine s_pu (d := some 10) (v := (.bool y16)) rfl rfl rfl (r_assign rfl) ?_
    refine s_fin ?_
    show W _ _ _ _ _ _ _ _
    refine W_seq ?_
    refine W_region (.pu 0 (.rl 1 (.pu 2 (.pu 3 .fin)))) rfl rfl ?_
    refine s_pu (d := some 29) (v := (.pointer (some (Addr.add p17 0)))) rfl rfl rfl (r_fieldAddr Tryd.underlying117 Tryd.sizeOf3 rfl rfl rfl) ?_
    obtain ⟨x22, e23, H⟩ := H
    refine s_rl (d := some 30) (v := (.int .i64 x22)) rfl rfl rfl (fun dr => r_load1 Tryd.isAgg3 rfl e23) ?_
    refine s_pu (d := some 6) (v := (.int .i64 x22)) rfl rfl rfl (r_assign rfl) ?_
    refine s_pu (d := some 7) (v := .nilIface) rfl rfl rfl (r_assign rfl) ?_
    refine s_fin ?_
    show W _ _ _ _ _ _ _ _
    refine W_ret ?_
    exact ⟨[(.int .i64 x22), .nilIface], ⟨_, _, rfl, rfl, ⟨_, _, rfl, rfl, rfl⟩⟩, x22, .nilIface, rfl, H⟩

/-! ### seg_Seg_Least -/

def seg_Seg_Least_F (r : World) (s1 : Option Addr) (i2 : Int) (j3 : Int) (h : Heap) (R : Int → Value → Heap → Prop) : Prop :=
  seg_Seg_some r s1 i2 j3 h fun y4 y5 y6 y7 y8 y9 y10 h1 =>
  New h1 (.cells #[(.int .i64 0), (.int .i64 0), (.int .i64 0), (.bool false), (.int .i64 0), (.int .i64 0)] 117) fun p11 h2 =>
  St h2 p11 6 [(.int .i64 y4), (.int .i64 y5), (.int .i64 y6), (.bool y7), (.int .i64 y8), (.int .i64 y9)] fun h3 =>
  LdI h3 (Addr.add p11 1) fun x16 =>
  R x16 y10 h3

set_option maxRecDepth 100000 in
theorem seg_Seg_Least_of {r : World} {s1 : Option Addr} {i2 : Int} {j3 : Int} {h : Heap} {R : Int → Value → Heap → Prop} (H : seg_Seg_Least_F r s1 i2 j3 h R) : seg_Seg_Least r s1 i2 j3 h R := by
  unfold seg_Seg_Least_F at H
  refine calls_of 20 [.tmp 6, .tmp 7] Tryd.func44 rfl rfl rfl rfl rfl ?_
  refine W_seq ?_
  refine W_region (.pu 0 (.pu 1 .fin)) rfl rfl ?_
  refine s_pu (d := some 6) (v := (.int .i64 0)) rfl rfl rfl (r_assign rfl) ?_
  refine s_pu (d := some 7) (v := .nilIface) rfl rfl rfl (r_assign rfl) ?_
  refine s_fin ?_
  show W _ _ _ _ _ _ _ _
  refine W_seq ?_
  refine W_region (.pu 0 (.pu 1 (.pu 2 (.ef 3 [] (.pu 4 (.pu 5 (.pu 6 (.ef 7 [] (.ef 8 [] (.pu 9 .fin) .no) .no)))) .no)))) rfl rfl ?_
  refine s_pu (d := some 11) (v := (.pointer s1)) rfl rfl rfl (r_move rfl) ?_
  refine s_pu (d := some 12) (v := (.int .i64 i2)) rfl rfl rfl (r_move rfl) ?_
  refine s_pu (d := some 13) (v := (.int .i64 j3)) rfl rfl rfl (r_move rfl) ?_
  refine s_ef (d := some 14) rfl rfl rfl (fun dr => r_call Tryd.call85 rfl rfl H) ?_ trivial
  rintro _ h1 ⟨y4, y5, y6, y7, y8, y9, y10, rfl, H⟩
  refine ⟨trivial, ?_⟩
  refine s_pu (d := some 10) (v := (.tuple #[(.agg #[(.int .i64 y4), (.int .i64 y5), (.int .i64 y6), (.bool y7), (.int .i64 y8), (.int .i64 y9)]), y10])) rfl rfl rfl (r_move rfl) ?_
  refine s_pu (d := some 15) (v := (.agg #[(.int .i64 y4), (.int .i64 y5), (.int .i64 y6), (.bool y7), (.int .i64 y8), (.int .i64 y9)])) rfl rfl rfl (r_extract rfl rfl) ?_
  refine s_pu (d := some 16) (v := y10) rfl rfl rfl (r_extract rfl rfl) ?_
  obtain ⟨p11, e12⟩ : ∃ p : Addr, p = ⟨h1.size, 0, none⟩ := ⟨_, rfl⟩
  obtain ⟨h2, e13⟩ : ∃ hh : Heap, hh = h1.push (.cells #[(.int .i64 0), (.int .i64 0), (.int .i64 0), (.bool false), (.int .i64 0), (.int .i64 0)] 117) := ⟨_, rfl⟩
  have H := H p11 h2 e12 e13
  refine s_ef1 (d := some 8) (v := (.pointer (some p11))) (h' := h2) rfl rfl rfl (fun dr => (r_alloc Tryd.zeroValue117).trans (by rw [e12, e13]; rfl)) trivial ?_ trivial
  obtain ⟨e15, H⟩ := H
  obtain ⟨h3, e14⟩ : ∃ hh : Heap, hh = hsets h2 p11 0 [(.int .i64 y4), (.int .i64 y5), (.int .i64 y6), (.bool y7), (.int .i64 y8), (.int .i64 y9)] := ⟨_, rfl⟩
  have H := H h3 e14
  refine s_st (d := none) (h' := h3) rfl rfl rfl (fun dr => (r_store (v := (.agg #[(.int .i64 y4), (.int .i64 y5), (.int .i64 y6), (.bool y7), (.int .i64 y8), (.int .i64 y9)])) Tryd.sizeOf117 rfl rfl rfl (one_all rfl) e15).trans (by rw [e14]; rfl)) trivial ?_ trivial
  refine s_pu (d := some 9) (v := y10) rfl rfl rfl (r_assign rfl) ?_
  refine s_fin ?_
  show W _ _ _ _ _ _ _ _
  refine W_seq ?_
  refine W_region (.pu 0 (.rl 1 (.pu 2 (.pu 3 (.pu 4 .fin))))) rfl rfl ?_
  refine s_pu (d := some 17) (v := (.pointer (some (Addr.add p11 1)))) rfl rfl rfl (r_fieldAddr Tryd.underlying117 Tryd.sizeOf3 rfl rfl rfl) ?_
  obtain ⟨x16, e17, H⟩ := H
  refine s_rl (d := some 18) (v := (.int .i64 x16)) rfl rfl rfl (fun dr => r_load1 Tryd.isAgg3 rfl e17) ?_
  refine s_pu (d := some 19) (v := y10) rfl rfl rfl (r_move rfl) ?_
  refine s_pu (d := some 6) (v := (.int .i64 x16)) rfl rfl rfl (r_assign rfl) ?_
  refine s_pu (d := some 7) (v := y10) rfl rfl rfl (r_assign rfl) ?_
  refine s_fin ?_
  show W _ _ _ _ _ _ _ _
  refine W_ret ?_
  exact ⟨[(.int .i64 x16), y10], ⟨_, _, rfl, rfl, ⟨_, _, rfl, rfl, rfl⟩⟩, x16, y10, rfl, H⟩

/-! ### seg_Seg_Most -/

def seg_Seg_Most_F (r : World) (s1 : Option Addr) (i2 : Int) (j3 : Int) (h : Heap) (R : Int → Value → Heap → Prop) : Prop :=
  seg_Seg_some r s1 i2 j3 h fun y4 y5 y6 y7 y8 y9 y10 h1 =>
  New h1 (.cells #[(.int .i64 0), (.int .i64 0), (.int .i64 0), (.bool false), (.int .i64 0), (.int .i64 0)] 117) fun p11 h2 =>
  St h2 p11 6 [(.int .i64 y4), (.int .i64 y5), (.int .i64 y6), (.bool y7), (.int .i64 y8), (.int .i64 y9)] fun h3 =>
  LdI h3 (Addr.add p11 2) fun x16 =>
  R x16 y10 h3

set_option maxRecDepth 100000 in
theorem seg_Seg_Most_of {r : World} {s1 : Option Addr} {i2 : Int} {j3 : Int} {h : Heap} {R : Int → Value → Heap → Prop} (H : seg_Seg_Most_F r s1 i2 j3 h R) : seg_Seg_Most r s1 i2 j3 h R := by
  unfold seg_Seg_Most_F at H
  refine calls_of 20 [.tmp 6, .tmp 7] Tryd.func45 rfl rfl rfl rfl rfl ?_
  refine W_seq ?_
  refine W_region (.pu 0 (.pu 1 .fin)) rfl rfl ?_
  refine s_pu (d := some 6) (v := (.int .i64 0)) rfl rfl rfl (r_assign rfl) ?_
  refine s_pu (d := some 7) (v := .nilIface) rfl rfl rfl (r_assign rfl) ?_
  refine s_fin ?_
  show W _ _ _ _ _ _ _ _
  refine W_seq ?_
  refine W_region (.pu 0 (.pu 1 (.pu 2 (.ef 3 [] (.pu 4 (.pu 5 (.pu 6 (.ef 7 [] (.ef 8 [] (.pu 9 .fin) .no) .no)))) .no)))) rfl rfl ?_
  refine s_pu (d := some 11) (v := (.pointer s1)) rfl rfl rfl (r_move rfl) ?_
  refine s_pu (d := some 12) (v := (.int .i64 i2)) rfl rfl rfl (r_move rfl) ?_
  refine s_pu (d := some 13) (v := (.int .i64 j3)) rfl rfl rfl (r_move rfl) ?_
  refine s_ef (d := some 14) rfl rfl rfl (fun dr => r_call Tryd.call85 rfl rfl H) ?_ trivial
  rintro _ h1 ⟨y4, y5, y6, y7, y8, y9, y10, rfl, H⟩
  refine ⟨trivial, ?_⟩
  refine s_pu (d := some 10) (v := (.tuple #[(.agg #[(.int .i64 y4), (.int .i64 y5), (.int .i64 y6), (.bool y7), (.int .i64 y8), (.int .i64 y9)]), y10])) rfl rfl rfl (r_move rfl) ?_
  refine s_pu (d := some 15) (v := (.agg #[(.int .i64 y4), (.int .i64 y5), (.int .i64 y6), (.bool y7), (.int .i64 y8), (.int .i64 y9)])) rfl rfl rfl (r_extract rfl rfl) ?_
  refine s_pu (d := some 16) (v := y10) rfl rfl rfl (r_extract rfl rfl) ?_
  obtain ⟨p11, e12⟩ : ∃ p : Addr, p = ⟨h1.size, 0, none⟩ := ⟨_, rfl⟩
  obtain ⟨h2, e13⟩ : ∃ hh : Heap, hh = h1.push (.cells #[(.int .i64 0), (.int .i64 0), (.int .i64 0), (.bool false), (.int .i64 0), (.int .i64 0)] 117) := ⟨_, rfl⟩
  have H := H p11 h2 e12 e13
  refine s_ef1 (d := some 8) (v := (.pointer (some p11))) (h' := h2) rfl rfl rfl (fun dr => (r_alloc Tryd.zeroValue117).trans (by rw [e12, e13]; rfl)) trivial ?_ trivial
  obtain ⟨e15, H⟩ := H
  obtain ⟨h3, e14⟩ : ∃ hh : Heap, hh = hsets h2 p11 0 [(.int .i64 y4), (.int .i64 y5), (.int .i64 y6), (.bool y7), (.int .i64 y8), (.int .i64 y9)] := ⟨_, rfl⟩
  have H := H h3 e14
  refine s_st (d := none) (h' := h3) rfl rfl rfl (fun dr => (r_store (v := (.agg #[(.int .i64 y4), (.int .i64 y5), (.int .i64 y6), (.bool y7), (.int .i64 y8), (.int .i64 y9)])) Tryd.sizeOf117 rfl rfl rfl (one_all rfl) e15).trans (by rw [e14]; rfl)) trivial ?_ trivial
  refine s_pu (d := some 9) (v := y10) rfl rfl rfl (r_assign rfl) ?_
  refine s_fin ?_
  show W _ _ _ _ _ _ _ _
  refine W_seq ?_
  refine W_region (.pu 0 (.rl 1 (.pu 2 (.pu 3 (.pu 4 .fin))))) rfl rfl ?_
  refine s_pu (d := some 17) (v := (.pointer (some (Addr.add p11 2)))) rfl rfl rfl (r_fieldAddr Tryd.underlying117 Tryd.sizeOf3 rfl rfl rfl) ?_
  obtain ⟨x16, e17, H⟩ := H
  refine s_rl (d := some 18) (v := (.int .i64 x16)) rfl rfl rfl (fun dr => r_load1 Tryd.isAgg3 rfl e17) ?_
  refine s_pu (d := some 19) (v := y10) rfl rfl rfl (r_move rfl) ?_
  refine s_pu (d := some 6) (v := (.int .i64 x16)) rfl rfl rfl (r_assign rfl) ?_
  refine s_pu (d := some 7) (v := y10) rfl rfl rfl (r_assign rfl) ?_
  refine s_fin ?_
  show W _ _ _ _ _ _ _ _
  refine W_ret ?_
  exact ⟨[(.int .i64 x16), y10], ⟨_, _, rfl, rfl, ⟨_, _, rfl, rfl, rfl⟩⟩, x16, y10, rfl, H⟩

/-! ### seg_Seg_Ints -/

def seg_Seg_Ints_F (r : World) (s1 : Option Addr) (h : Heap) (R : Sl → Heap → Prop) : Prop :=
  Ck s1 fun p2 =>
  LdI h (Addr.add p2 0) fun x4 =>
  ∀ X8 : Sl → Int → Heap → Prop, (∀ (out6 : Sl) (x7 : Int) (h1 : Heap),
    (Br (decide (x7 < x4)) (
      Ck s1 fun p9 =>
      LdI h1 (Addr.add p9 0) fun x11 =>
      seg_Seg_told r s1 1 x11 x7 (w64 (x7 + 1)) h1 fun y13 y14 y15 y16 y17 y18 y19 h2 =>
      New h2 (.cells #[(.int .i64 0), (.int .i64 0), (.int .i64 0), (.bool false), (.int .i64 0), (.int .i64 0)] 117) fun p20 h3 =>
      St h3 p20 6 [(.int .i64 y13), (.int .i64 y14), (.int .i64 y15), (.bool y16), (.int .i64 y17), (.int .i64 y18)] fun h4 =>
      LdI h4 (Addr.add p20 0) fun x25 =>
      New h4 (.cells #[(.int .i64 x25)] 3) fun p27 h5 =>
      App 3 1 8 (.int .i64 0) out6 ((⟨some p27, 1, 1⟩ : Sl)) h5 fun s30 h6 =>
      X8 s30 (w64 (x7 + 1)) h6) (
      R out6 h1)) →
    X8 out6 x7 h1) →
  X8 Sl.nil 0 h

set_option maxRecDepth 100000 in
theorem seg_Seg_Ints_of {r : World} {s1 : Option Addr} {h : Heap} {R : Sl → Heap → Prop} (H : seg_Seg_Ints_F r s1 h R) : seg_Seg_Ints r s1 h R := by
  unfold seg_Seg_Ints_F at H
  refine calls_of 33 [.tmp 2] Tryd.func46 rfl rfl rfl rfl rfl ?_
  refine W_seq ?_
  refine W_region (.pu 0 .fin) rfl rfl ?_
  refine s_pu (d := some 2) (v := (Sl.v Sl.nil)) rfl rfl rfl (r_assign rfl) ?_
  refine s_fin ?_
  show W _ _ _ _ _ _ _ _
  refine W_seq ?_
  refine W_region (.pu 0 .fin) rfl rfl ?_
  refine s_pu (d := some 3) (v := (Sl.v Sl.nil)) rfl rfl rfl (r_assign rfl) ?_
  refine s_fin ?_
  show W _ _ _ _ _ _ _ _
  refine W_seq ?_
  refine W_seq ?_
  refine W_region (.pu 0 (.pu 1 (.pu 2 (.rl 3 (.pu 4 .fin))))) rfl rfl ?_
  refine s_pu (d := some 7) (v := (.pointer s1)) rfl rfl rfl (r_move rfl) ?_
  obtain ⟨p2, e3, H⟩ := H
  refine s_pu (d := some 8) (v := (.pointer (some p2))) rfl rfl rfl (r_nilCheck rfl e3) ?_
  refine s_pu (d := some 9) (v := (.pointer (some (Addr.add p2 0)))) rfl rfl rfl (r_fieldAddr Tryd.underlying113 Tryd.sizeOf3 rfl rfl rfl) ?_
  obtain ⟨x4, e5, H⟩ := H
  refine s_rl (d := some 10) (v := (.int .i64 x4)) rfl rfl rfl (fun dr => r_load1 Tryd.isAgg3 rfl e5) ?_
  refine s_pu (d := some 11) (v := (.int .i64 0)) rfl rfl rfl (r_move rfl) ?_
  refine s_fin ?_
  show W _ _ _ _ _ _ _ _
  refine W_block ?_
  refine W_loop (WL_mk (l := [(0, (.pointer s1)), (3, (Sl.v Sl.nil)), (10, (.int .i64 x4)), (11, (.int .i64 0))]) ?_ ⟨rfl, rfl, rfl, rfl, trivial⟩)
  refine H (fun (out6 : Sl) (x7 : Int) (h1 : Heap) => ∀ b, WL _ _ _ _ _ _ (mkE [(0, (.pointer s1)), (3, (Sl.v out6)), (10, (.int .i64 x4)), (11, (.int .i64 x7))] b) h1) ?_
  intro out6 x7 h1 H b
  refine WL_round ?_
  refine W_seq ?_
  refine W_region (.pu 0 .fin) rfl rfl ?_
  refine s_pu (d := some 12) (v := (.bool (decide (x7 < x4)))) rfl rfl rfl (r_lss rfl rfl) ?_
  refine s_fin ?_
  show W _ _ _ _ _ _ _ _
  refine W_seq ?_
  refine W_if (decide (x7 < x4)) rfl (fun g31 => ?_) (fun g31 => ?_)
  · have H := H.1 g31
    refine W_skip ?_
    show W _ _ _ _ _ _ _ _
    refine W_seq ?_
    refine W_block ?_
    refine W_seq ?_
    refine W_region (.pu 0 (.pu 1 .fin)) rfl rfl ?_
    refine s_pu (d := some 13) (v := (.int .i64 x7)) rfl rfl rfl (r_move rfl) ?_
    refine s_pu (d := some 4) (v := (.int .i64 x7)) rfl rfl rfl (r_assign rfl) ?_
    refine s_fin ?_
    show W _ _ _ _ _ _ _ _
    refine W_seq ?_
    refine W_region (.pu 0 (.pu 1 (.pu 2 (.pu 3 (.rl 4 (.pu 5 (.pu 6 (.pu 7 (.ef 8 [] (.pu 9 (.pu 10 (.pu 11 (.ef 12 [] (.ef 13 [] (.pu 14 .fin) .no) .no)))) .no))))))))) rfl rfl ?_
    refine s_pu (d := some 15) (v := (.pointer s1)) rfl rfl rfl (r_move rfl) ?_
    refine s_pu (d := some 16) (v := (.pointer s1)) rfl rfl rfl (r_move rfl) ?_
    obtain ⟨p9, e10, H⟩ := H
    refine s_pu (d := some 17) (v := (.pointer (some p9))) rfl rfl rfl (r_nilCheck rfl e10) ?_
    refine s_pu (d := some 18) (v := (.pointer (some (Addr.add p9 0)))) rfl rfl rfl (r_fieldAddr Tryd.underlying113 Tryd.sizeOf3 rfl rfl rfl) ?_
    obtain ⟨x11, e12, H⟩ := H
    refine s_rl (d := some 19) (v := (.int .i64 x11)) rfl rfl rfl (fun dr => r_load1 Tryd.isAgg3 rfl e12) ?_
    refine s_pu (d := some 20) (v := (.int .i64 x7)) rfl rfl rfl (r_move rfl) ?_
    refine s_pu (d := some 21) (v := (.int .i64 x7)) rfl rfl rfl (r_move rfl) ?_
    refine s_pu (d := some 22) (v := (.int .i64 (w64 (x7 + 1)))) rfl rfl rfl (r_add rfl rfl) ?_
    refine s_ef (d := some 23) rfl rfl rfl (fun dr => r_call Tryd.call84 rfl rfl H) ?_ trivial
    rintro _ h2 ⟨y13, y14, y15, y16, y17, y18, y19, rfl, H⟩
    refine ⟨trivial, ?_⟩
    refine s_pu (d := some 14) (v := (.tuple #[(.agg #[(.int .i64 y13), (.int .i64 y14), (.int .i64 y15), (.bool y16), (.int .i64 y17), (.int .i64 y18)]), (.bool y19)])) rfl rfl rfl (r_move rfl) ?_
    refine s_pu (d := some 24) (v := (.agg #[(.int .i64 y13), (.int .i64 y14), (.int .i64 y15), (.bool y16), (.int .i64 y17), (.int .i64 y18)])) rfl rfl rfl (r_extract rfl rfl) ?_
    refine s_pu (d := some 25) (v := (.bool y19)) rfl rfl rfl (r_extract rfl rfl) ?_
    obtain ⟨p20, e21⟩ : ∃ p : Addr, p = ⟨h2.size, 0, none⟩ := ⟨_, rfl⟩
    obtain ⟨h3, e22⟩ : ∃ hh : Heap, hh = h2.push (.cells #[(.int .i64 0), (.int .i64 0), (.int .i64 0), (.bool false), (.int .i64 0), (.int .i64 0)] 117) := ⟨_, rfl⟩
    have H := H p20 h3 e21 e22
    refine s_ef1 (d := some 5) (v := (.pointer (some p20))) (h' := h3) rfl rfl rfl (fun dr => (r_alloc Tryd.zeroValue117).trans (by rw [e21, e22]; rfl)) trivial ?_ trivial
    obtain ⟨e24, H⟩ := H
    obtain ⟨h4, e23⟩ : ∃ hh : Heap, hh = hsets h3 p20 0 [(.int .i64 y13), (.int .i64 y14), (.int .i64 y15), (.bool y16), (.int .i64 y17), (.int .i64 y18)] := ⟨_, rfl⟩
    have H := H h4 e23
    refine s_st (d := none) (h' := h4) rfl rfl rfl (fun dr => (r_store (v := (.agg #[(.int .i64 y13), (.int .i64 y14), (.int .i64 y15), (.bool y16), (.int .i64 y17), (.int .i64 y18)])) Tryd.sizeOf117 rfl rfl rfl (one_all rfl) e24).trans (by rw [e23]; rfl)) trivial ?_ trivial
    refine s_pu (d := some 6) (v := (.bool y19)) rfl rfl rfl (r_assign rfl) ?_
    refine s_fin ?_
    show W _ _ _ _ _ _ _ _
    refine W_region (.pu 0 (.pu 1 (.rl 2 (.ef 3 [] (.ef 4 [] (.pu 5 .fin) .no) .no)))) rfl rfl ?_
    refine s_pu (d := some 26) (v := (Sl.v out6)) rfl rfl rfl (r_move rfl) ?_
    refine s_pu (d := some 27) (v := (.pointer (some (Addr.add p20 0)))) rfl rfl rfl (r_fieldAddr Tryd.underlying117 Tryd.sizeOf3 rfl rfl rfl) ?_
    obtain ⟨x25, e26, H⟩ := H
    refine s_rl (d := some 28) (v := (.int .i64 x25)) rfl rfl rfl (fun dr => r_load1 Tryd.isAgg3 rfl e26) ?_
    obtain ⟨p27, e28⟩ : ∃ p : Addr, p = ⟨h4.size, 0, none⟩ := ⟨_, rfl⟩
    obtain ⟨h5, e29⟩ : ∃ hh : Heap, hh = h4.push (.cells #[(.int .i64 x25)] 3) := ⟨_, rfl⟩
    have H := H p27 h5 e28 e29
    refine s_ef1 (d := some 29) (v := (Sl.v ((⟨some p27, 1, 1⟩ : Sl)))) (h' := h5) rfl rfl rfl (fun dr => (slFDSeg_22.build (cells := #[(.int .i64 x25)]) (by decide) rfl (by kernel_rfl)).trans (by rw [e28, e29]; rfl)) trivial ?_ trivial
    refine s_ef (d := some 30) rfl rfl rfl (fun dr => slFDSeg_22.append rfl rfl H) ?_ trivial
    rintro _ h6 ⟨s30, rfl, H⟩
    refine ⟨trivial, ?_⟩
    refine s_pu (d := some 3) (v := (Sl.v s30)) rfl rfl rfl (r_assign rfl) ?_
    refine s_fin ?_
    show W _ _ _ _ _ _ _ _
    refine W_region (.pu 0 (.pu 1 .fin)) rfl rfl ?_
    refine s_pu (d := some 31) (v := (.int .i64 (w64 (x7 + 1)))) rfl rfl rfl (r_add rfl rfl) ?_
    refine s_pu (d := some 11) (v := (.int .i64 (w64 (x7 + 1)))) rfl rfl rfl (r_move rfl) ?_
    refine s_fin ?_
    exact WL_mk (l := [(0, (.pointer s1)), (3, (Sl.v s30)), (10, (.int .i64 x4)), (11, (.int .i64 (w64 (x7 + 1))))]) H ⟨rfl, rfl, rfl, rfl, trivial⟩
  · have H := H.2 g31
    refine W_exit (inX_here ?_)
    show W _ _ _ _ _ _ _ _
    refine W_seq ?_
    refine W_region (.pu 0 (.pu 1 .fin)) rfl rfl ?_
    refine s_pu (d := some 32) (v := (Sl.v out6)) rfl rfl rfl (r_move rfl) ?_
    refine s_pu (d := some 2) (v := (Sl.v out6)) rfl rfl rfl (r_assign rfl) ?_
    refine s_fin ?_
    show W _ _ _ _ _ _ _ _
    refine W_ret ?_
    exact ⟨[(Sl.v out6)], ⟨_, _, rfl, rfl, rfl⟩, out6, rfl, H⟩

/-! ### seg_Seg_Put -/

def seg_Seg_Put_F (r : World) (s1 : Option Addr) (i2 : Int) (j3 : Int) (x4 : Int) (h : Heap) (R : Value → Heap → Prop) : Prop :=
  seg_Seg_within r s1 i2 j3 h fun y5 h1 =>
  (isIface y5 = true) ∧
  Br (!(isNil y5)) (
    R y5 h1) (
    Ck s1 fun p7 =>
    LdI h1 (Addr.add p7 0) fun x9 =>
    seg_Seg_change r s1 1 x9 i2 j3 true x4 h1 fun  h2 =>
    R .nilIface h2)

set_option maxRecDepth 100000 in
theorem seg_Seg_Put_of {r : World} {s1 : Option Addr} {i2 : Int} {j3 : Int} {x4 : Int} {h : Heap} {R : Value → Heap → Prop} (H : seg_Seg_Put_F r s1 i2 j3 x4 h R) : seg_Seg_Put r s1 i2 j3 x4 h R := by
  unfold seg_Seg_Put_F at H
  refine calls_of 26 [.tmp 8] Tryd.func42 rfl rfl rfl rfl rfl ?_
  refine W_seq ?_
  refine W_region (.pu 0 .fin) rfl rfl ?_
  refine s_pu (d := some 8) (v := .nilIface) rfl rfl rfl (r_assign rfl) ?_
  refine s_fin ?_
  show W _ _ _ _ _ _ _ _
  refine W_seq ?_
  refine W_seq ?_
  refine W_region (.pu 0 (.pu 1 (.pu 2 (.ef 3 [] (.pu 4 .fin) .no)))) rfl rfl ?_
  refine s_pu (d := some 10) (v := (.pointer s1)) rfl rfl rfl (r_move rfl) ?_
  refine s_pu (d := some 11) (v := (.int .i64 i2)) rfl rfl rfl (r_move rfl) ?_
  refine s_pu (d := some 12) (v := (.int .i64 j3)) rfl rfl rfl (r_move rfl) ?_
  refine s_ef (d := some 13) rfl rfl rfl (fun dr => r_call Tryd.call82 rfl rfl H) ?_ trivial
  rintro y5 h1 H
  refine ⟨trivial, ?_⟩
  refine s_pu (d := some 9) (v := y5) rfl rfl rfl (r_assign rfl) ?_
  refine s_fin ?_
  show W _ _ _ _ _ _ _ _
  refine W_seq ?_
  refine W_region (.pu 0 (.pu 1 .fin)) rfl rfl ?_
  refine s_pu (d := some 14) (v := y5) rfl rfl rfl (r_move rfl) ?_
  obtain ⟨e6, H⟩ := H
  refine s_pu (d := some 15) (v := (.bool (!(isNil y5)))) rfl rfl rfl (r_notNilI Tryd.underlying26 rfl e6 rfl) ?_
  refine s_fin ?_
  show W _ _ _ _ _ _ _ _
  refine W_if (!(isNil y5)) rfl (fun g11 => ?_) (fun g11 => ?_)
  · have H := H.1 g11
    refine W_seq ?_
    refine W_region (.pu 0 (.pu 1 .fin)) rfl rfl ?_
    refine s_pu (d := some 16) (v := y5) rfl rfl rfl (r_move rfl) ?_
    refine s_pu (d := some 8) (v := y5) rfl rfl rfl (r_assign rfl) ?_
    refine s_fin ?_
    show W _ _ _ _ _ _ _ _
    refine W_ret ?_
    exact ⟨[y5], ⟨_, _, rfl, rfl, rfl⟩, H⟩
  · have H := H.2 g11
    refine W_skip ?_
    show W _ _ _ _ _ _ _ _
    refine W_seq ?_
    refine W_region (.pu 0 (.pu 1 (.pu 2 (.pu 3 (.rl 4 (.pu 5 (.pu 6 (.pu 7 (.ef 8 [] .fin .no))))))))) rfl rfl ?_
    refine s_pu (d := some 17) (v := (.pointer s1)) rfl rfl rfl (r_move rfl) ?_
    refine s_pu (d := some 18) (v := (.pointer s1)) rfl rfl rfl (r_move rfl) ?_
    obtain ⟨p7, e8, H⟩ := H
    refine s_pu (d := some 19) (v := (.pointer (some p7))) rfl rfl rfl (r_nilCheck rfl e8) ?_
    refine s_pu (d := some 20) (v := (.pointer (some (Addr.add p7 0)))) rfl rfl rfl (r_fieldAddr Tryd.underlying113 Tryd.sizeOf3 rfl rfl rfl) ?_
    obtain ⟨x9, e10, H⟩ := H
    refine s_rl (d := some 21) (v := (.int .i64 x9)) rfl rfl rfl (fun dr => r_load1 Tryd.isAgg3 rfl e10) ?_
    refine s_pu (d := some 22) (v := (.int .i64 i2)) rfl rfl rfl (r_move rfl) ?_
    refine s_pu (d := some 23) (v := (.int .i64 j3)) rfl rfl rfl (r_move rfl) ?_
    refine s_pu (d := some 24) (v := (.int .i64 x4)) rfl rfl rfl (r_move rfl) ?_
    refine s_ef (d := some 25) rfl rfl rfl (fun dr => r_call Tryd.call83 rfl rfl H) ?_ trivial
    rintro _ h2 ⟨rfl, H⟩
    refine ⟨trivial, ?_⟩
    refine s_fin ?_
    show W _ _ _ _ _ _ _ _
    refine W_seq ?_
    refine W_region (.pu 0 .fin) rfl rfl ?_
    refine s_pu (d := some 8) (v := .nilIface) rfl rfl rfl (r_assign rfl) ?_
    refine s_fin ?_
    show W _ _ _ _ _ _ _ _
    refine W_ret ?_
    exact ⟨[.nilIface], ⟨_, _, rfl, rfl, rfl⟩, H⟩

/-! ### seg_Seg_build -/

def seg_Seg_build_F (r : World) (s1 : Option Addr) (va2 : Int) (l3 : Sl) (h : Heap) (R : Heap → Prop) : Prop :=
  Br (decide (((l3.len : Int)) = 1)) (
    Ck s1 fun p4 =>
    LdS h (Addr.add p4 1) fun x6 =>
    Ix l3 0 1 fun q12 =>
    LdI h q12 fun x14 =>
    Ix l3 0 1 fun q20 =>
    LdI h q20 fun x22 =>
    Ix l3 0 1 fun q28 =>
    LdI h q28 fun x30 =>
    Ix x6 va2 6 fun q36 =>
    St h q36 6 [(.int .i64 x14), (.int .i64 x22), (.int .i64 x30), (.bool false), (.int .i64 0), (.int .i64 0)] fun h1 =>
    R h1) (
    Sub l3 0 (w64 (Int.tdiv ((l3.len : Int)) 2)) ((l3.cap : Int)) 1 fun s40 =>
    seg_Seg_build r s1 (w64 (2 * va2)) s40 h fun  h2 =>
    Sub l3 (w64 (Int.tdiv ((l3.len : Int)) 2)) ((l3.len : Int)) ((l3.cap : Int)) 1 fun s46 =>
    seg_Seg_build r s1 (w64 ((w64 (2 * va2)) + 1)) s46 h2 fun  h3 =>
    seg_Seg_pull r s1 va2 h3 fun  h4 =>
    R h4)

set_option maxRecDepth 100000 in
theorem seg_Seg_build_of {r : World} {s1 : Option Addr} {va2 : Int} {l3 : Sl} {h : Heap} {R : Heap → Prop} (H : seg_Seg_build_F r s1 va2 l3 h R) : seg_Seg_build r s1 va2 l3 h R := by
  unfold seg_Seg_build_F at H
  refine calls_of 47 [] Tryd.func81 rfl rfl rfl rfl rfl ?_
  refine W_seq ?_
  refine W_seq ?_
  refine W_region (.pu 0 (.pu 1 (.pu 2 .fin))) rfl rfl ?_
  refine s_pu (d := some 7) (v := (Sl.v l3)) rfl rfl rfl (r_move rfl) ?_
  refine s_pu (d := some 8) (v := (.int .i64 ((l3.len : Int)))) rfl rfl rfl (r_len Tryd.underlying22 rfl) ?_
  refine s_pu (d := some 9) (v := (.bool (decide (((l3.len : Int)) = 1)))) rfl rfl rfl (r_eql rfl rfl) ?_
  refine s_fin ?_
  show W _ _ _ _ _ _ _ _
  refine W_if (decide (((l3.len : Int)) = 1)) rfl (fun g52 => ?_) (fun g52 => ?_)
  · have H := H.1 g52
    refine W_seq ?_
    refine W_draw [0, 1, 3, 7, 0, 0, 32, 96, 0, 256, 768, 0, 2048, 6144, 16352, 32767, 65535] (.pu 0 (.pu 1 (.pu 2 (.rd 3 (.pu 4 (.pu 5 (.pu 6 (.rd 7 (.pu 8 (.pu 9 (.rd 10 (.pu 11 (.pu 12 (.rd 13 (.pu 14 (.pu 15 (.ef 16 [3, 7, 10, 13] .fin .no))))))))))))))))) (by kernel_rfl) (by kernel_rfl) ?_
    refine s_pu (d := some 10) (v := (.pointer s1)) rfl rfl rfl (r_move rfl) ?_
    obtain ⟨p4, e5, H⟩ := H
    refine s_pu (d := some 11) (v := (.pointer (some p4))) rfl rfl rfl (r_nilCheck rfl e5) ?_
    refine s_pu (d := some 12) (v := (.pointer (some (Addr.add p4 1)))) rfl rfl rfl (r_fieldAddr Tryd.underlying113 Tryd.sizeOf111 rfl rfl rfl) ?_
    obtain ⟨x6, e7, H⟩ := H
    refine s_rd (d := some 13) (v := (Sl.v x6)) rfl rfl rfl (fun dr => r_load1 Tryd.isAgg111 rfl e7) ?_
    refine s_pu (d := some 14) (v := (.int .i64 va2)) rfl rfl rfl (r_move rfl) ?_
    refine s_pu (d := some 15) (v := (Sl.v l3)) rfl rfl rfl (r_move rfl) ?_
    obtain ⟨p8, e9, e10, e11, H⟩ := H
    obtain ⟨q12, e13⟩ : ∃ q : Addr, q = Addr.add p8 (Int.toNat 0 * 1) := ⟨_, rfl⟩
    rw [← e13] at H
    refine s_pu (d := some 16) (v := (.pointer (some q12))) rfl rfl rfl (fun w => (r_indexAddr Tryd.underlying22 Tryd.sizeOf3 rfl rfl e9 e10 e11 w).trans (by rw [e13])) ?_
    obtain ⟨x14, e15, H⟩ := H
    refine s_rd (d := some 17) (v := (.int .i64 x14)) rfl rfl rfl (fun dr => r_load1 Tryd.isAgg3 rfl e15) ?_
    refine s_pu (d := some 18) (v := (Sl.v l3)) rfl rfl rfl (r_move rfl) ?_
    obtain ⟨p16, e17, e18, e19, H⟩ := H
    obtain ⟨q20, e21⟩ : ∃ q : Addr, q = Addr.add p16 (Int.toNat 0 * 1) := ⟨_, rfl⟩
    rw [← e21] at H
    refine s_pu (d := some 19) (v := (.pointer (some q20))) rfl rfl rfl (fun w => (r_indexAddr Tryd.underlying22 Tryd.sizeOf3 rfl rfl e17 e18 e19 w).trans (by rw [e21])) ?_
    obtain ⟨x22, e23, H⟩ := H
    refine s_rd (d := some 20) (v := (.int .i64 x22)) rfl rfl rfl (fun dr => r_load1 Tryd.isAgg3 rfl e23) ?_
    refine s_pu (d := some 21) (v := (Sl.v l3)) rfl rfl rfl (r_move rfl) ?_
    obtain ⟨p24, e25, e26, e27, H⟩ := H
    obtain ⟨q28, e29⟩ : ∃ q : Addr, q = Addr.add p24 (Int.toNat 0 * 1) := ⟨_, rfl⟩
    rw [← e29] at H
    refine s_pu (d := some 22) (v := (.pointer (some q28))) rfl rfl rfl (fun w => (r_indexAddr Tryd.underlying22 Tryd.sizeOf3 rfl rfl e25 e26 e27 w).trans (by rw [e29])) ?_
    obtain ⟨x30, e31, H⟩ := H
    refine s_rd (d := some 23) (v := (.int .i64 x30)) rfl rfl rfl (fun dr => r_load1 Tryd.isAgg3 rfl e31) ?_
    refine s_pu (d := some 24) (v := (.agg #[(.int .i64 x14), (.int .i64 x22), (.int .i64 x30), (.bool false), (.int .i64 0), (.int .i64 0)])) rfl rfl rfl (fun w => by kernel_rfl) ?_
    obtain ⟨p32, e33, e34, e35, H⟩ := H
    obtain ⟨q36, e37⟩ : ∃ q : Addr, q = Addr.add p32 (Int.toNat va2 * 6) := ⟨_, rfl⟩
    rw [← e37] at H
    refine s_pu (d := some 25) (v := (.pointer (some q36))) rfl rfl rfl (fun w => (r_indexAddr Tryd.underlying111 Tryd.sizeOf117 rfl rfl e33 e34 e35 w).trans (by rw [e37])) ?_
    obtain ⟨e39, H⟩ := H
    obtain ⟨h1, e38⟩ : ∃ hh : Heap, hh = hsets h q36 0 [(.int .i64 x14), (.int .i64 x22), (.int .i64 x30), (.bool false), (.int .i64 0), (.int .i64 0)] := ⟨_, rfl⟩
    have H := H h1 e38
    refine s_st (d := none) (h' := h1) rfl rfl rfl (fun dr => (r_store (v := (.agg #[(.int .i64 x14), (.int .i64 x22), (.int .i64 x30), (.bool false), (.int .i64 0), (.int .i64 0)])) Tryd.sizeOf117 rfl rfl rfl (one_all rfl) e39).trans (by rw [e38]; rfl)) ⟨trivial, trivial, trivial, trivial, trivial⟩ ?_ trivial
    refine s_fin ?_
    show W _ _ _ _ _ _ _ _
    refine W_ret ?_
    exact ⟨[], rfl, rfl, H⟩
  · have H := H.2 g52
    refine W_skip ?_
    show W _ _ _ _ _ _ _ _
    refine W_seq ?_
    refine W_region (.pu 0 (.pu 1 (.pu 2 (.pu 3 .fin)))) rfl rfl ?_
    refine s_pu (d := some 26) (v := (Sl.v l3)) rfl rfl rfl (r_move rfl) ?_
    refine s_pu (d := some 27) (v := (.int .i64 ((l3.len : Int)))) rfl rfl rfl (r_len Tryd.underlying22 rfl) ?_
    refine s_pu (d := some 28) (v := (.int .i64 (w64 (Int.tdiv ((l3.len : Int)) 2)))) rfl rfl rfl (r_quo rfl rfl (by decide)) ?_
    refine s_pu (d := some 6) (v := (.int .i64 (w64 (Int.tdiv ((l3.len : Int)) 2)))) rfl rfl rfl (r_assign rfl) ?_
    refine s_fin ?_
    show W _ _ _ _ _ _ _ _
    refine W_seq ?_
    refine W_region (.pu 0 (.pu 1 (.pu 2 (.pu 3 (.pu 4 (.pu 5 (.ef 6 [] .fin .no))))))) rfl rfl ?_
    refine s_pu (d := some 29) (v := (.pointer s1)) rfl rfl rfl (r_move rfl) ?_
    refine s_pu (d := some 30) (v := (.int .i64 va2)) rfl rfl rfl (r_move rfl) ?_
    refine s_pu (d := some 31) (v := (.int .i64 (w64 (2 * va2)))) rfl rfl rfl (r_mul rfl rfl) ?_
    refine s_pu (d := some 32) (v := (Sl.v l3)) rfl rfl rfl (r_move rfl) ?_
    refine s_pu (d := some 33) (v := (.int .i64 (w64 (Int.tdiv ((l3.len : Int)) 2)))) rfl rfl rfl (r_move rfl) ?_
    obtain ⟨e41, e42, e43, e44, H⟩ := H
    obtain ⟨s40, e45⟩ : ∃ t : Sl, t = ⟨sliceA l3.a (Int.toNat ((l3.cap : Int))) (Int.toNat 0) 1, Int.toNat (w64 (Int.tdiv ((l3.len : Int)) 2)) - Int.toNat 0, Int.toNat ((l3.cap : Int)) - Int.toNat 0⟩ := ⟨_, rfl⟩
    have H := H s40 e45
    refine s_pu (d := some 34) (v := (Sl.v s40)) rfl rfl rfl (fun w => (r_slice (lo := .none) (hi := (.some (.tmp 33))) (mx := .none) Tryd.underlying22 Tryd.sizeOf3 rfl ((l3.cap : Int)) (w64 (Int.tdiv ((l3.len : Int)) 2)) 0 rfl ⟨_, rfl⟩ rfl e41 e42 (.inr e43) e44 w).trans (by rw [e45]; rfl)) ?_
    refine s_ef (d := some 35) rfl rfl rfl (fun dr => r_call Tryd.call81 rfl rfl H) ?_ trivial
    rintro _ h2 ⟨rfl, H⟩
    refine ⟨trivial, ?_⟩
    refine s_fin ?_
    show W _ _ _ _ _ _ _ _
    refine W_seq ?_
    refine W_region (.pu 0 (.pu 1 (.pu 2 (.pu 3 (.pu 4 (.pu 5 (.pu 6 (.ef 7 [] .fin .no)))))))) rfl rfl ?_
    refine s_pu (d := some 36) (v := (.pointer s1)) rfl rfl rfl (r_move rfl) ?_
    refine s_pu (d := some 37) (v := (.int .i64 va2)) rfl rfl rfl (r_move rfl) ?_
    refine s_pu (d := some 38) (v := (.int .i64 (w64 (2 * va2)))) rfl rfl rfl (r_mul rfl rfl) ?_
    refine s_pu (d := some 39) (v := (.int .i64 (w64 ((w64 (2 * va2)) + 1)))) rfl rfl rfl (r_add rfl rfl) ?_
    refine s_pu (d := some 40) (v := (Sl.v l3)) rfl rfl rfl (r_move rfl) ?_
    refine s_pu (d := some 41) (v := (.int .i64 (w64 (Int.tdiv ((l3.len : Int)) 2)))) rfl rfl rfl (r_move rfl) ?_
    obtain ⟨e47, e48, e49, e50, H⟩ := H
    obtain ⟨s46, e51⟩ : ∃ t : Sl, t = ⟨sliceA l3.a (Int.toNat ((l3.cap : Int))) (Int.toNat (w64 (Int.tdiv ((l3.len : Int)) 2))) 1, Int.toNat ((l3.len : Int)) - Int.toNat (w64 (Int.tdiv ((l3.len : Int)) 2)), Int.toNat ((l3.cap : Int)) - Int.toNat (w64 (Int.tdiv ((l3.len : Int)) 2))⟩ := ⟨_, rfl⟩
    have H := H s46 e51
    refine s_pu (d := some 42) (v := (Sl.v s46)) rfl rfl rfl (fun w => (r_slice (lo := (.some (.tmp 41))) (hi := .none) (mx := .none) Tryd.underlying22 Tryd.sizeOf3 rfl ((l3.cap : Int)) ((l3.len : Int)) (w64 (Int.tdiv ((l3.len : Int)) 2)) rfl ⟨rfl, rfl⟩ ⟨_, rfl⟩ e47 e48 (.inl rfl) e50 w).trans (by rw [e51]; rfl)) ?_
    refine s_ef (d := some 43) rfl rfl rfl (fun dr => r_call Tryd.call81 rfl rfl H) ?_ trivial
    rintro _ h3 ⟨rfl, H⟩
    refine ⟨trivial, ?_⟩
    refine s_fin ?_
    show W _ _ _ _ _ _ _ _
    refine W_region (.pu 0 (.pu 1 (.ef 2 [] .fin .no))) rfl rfl ?_
    refine s_pu (d := some 44) (v := (.pointer s1)) rfl rfl rfl (r_move rfl) ?_
    refine s_pu (d := some 45) (v := (.int .i64 va2)) rfl rfl rfl (r_move rfl) ?_
    refine s_ef (d := some 46) rfl rfl rfl (fun dr => r_call Tryd.call113 rfl rfl H) ?_ trivial
    rintro _ h4 ⟨rfl, H⟩
    refine ⟨trivial, ?_⟩
    refine s_fin ?_
    exact ⟨[], rfl, rfl, H⟩

/-! ### seg_Seg_within -/

def seg_Seg_within_F (r : World) (s1 : Option Addr) (i2 : Int) (j3 : Int) (h : Heap) (R : Value → Heap → Prop) : Prop :=
  ∀ J5 : Bool → Prop, (∀ (x4 : Bool),
    (Br x4 (
      R ((.iface 29 (.int .i64 1))) h) (
      R .nilIface h)) →
    J5 x4) →
  Br (decide (i2 < 0)) (
    J5 true) (
    Br (decide (j3 < i2)) (
      J5 true) (
      Ck s1 fun p10 =>
      LdI h (Addr.add p10 0) fun x12 =>
      J5 (decide (x12 < j3))))

set_option maxRecDepth 100000 in
theorem seg_Seg_within_of {r : World} {s1 : Option Addr} {i2 : Int} {j3 : Int} {h : Heap} {R : Value → Heap → Prop} (H : seg_Seg_within_F r s1 i2 j3 h R) : seg_Seg_within r s1 i2 j3 h R := by
  unfold seg_Seg_within_F at H
  refine calls_of 23 [.tmp 6] Tryd.func82 rfl rfl rfl rfl rfl ?_
  refine W_seq ?_
  refine W_region (.pu 0 .fin) rfl rfl ?_
  refine s_pu (d := some 6) (v := .nilIface) rfl rfl rfl (r_assign rfl) ?_
  refine s_fin ?_
  show W _ _ _ _ _ _ _ _
  refine W_seq ?_
  refine W_seq ?_
  refine W_set ?_
  intro N6 eN6
  have H := H (fun (x4 : Bool) => ∀ b, N6 [] (mkE [(21, (.bool x4))] b) h) (by
    intro x4 H b
    rw [eN6]
    show W _ _ _ _ _ _ _ _
    refine W_if x4 rfl (fun g7 => ?_) (fun g7 => ?_)
    · have H := H.1 g7
      refine W_seq ?_
      refine W_region (.pu 0 (.pu 1 .fin)) rfl rfl ?_
      refine s_pu (d := some 22) (v := ((.iface 29 (.int .i64 1)))) rfl rfl rfl (r_iface Tryd.underlying29 rfl rfl) ?_
      refine s_pu (d := some 6) (v := ((.iface 29 (.int .i64 1)))) rfl rfl rfl (r_assign rfl) ?_
      refine s_fin ?_
      show W _ _ _ _ _ _ _ _
      refine W_ret ?_
      exact ⟨[((.iface 29 (.int .i64 1)))], ⟨_, _, rfl, rfl, rfl⟩, H⟩
    · have H := H.2 g7
      refine W_skip ?_
      show W _ _ _ _ _ _ _ _
      refine W_seq ?_
      refine W_region (.pu 0 .fin) rfl rfl ?_
      refine s_pu (d := some 6) (v := .nilIface) rfl rfl rfl (r_assign rfl) ?_
      refine s_fin ?_
      show W _ _ _ _ _ _ _ _
      refine W_ret ?_
      exact ⟨[.nilIface], ⟨_, _, rfl, rfl, rfl⟩, H⟩)
  clear eN6
  refine W_region (.pu 0 (.pu 1 (.pu 2 (.pu 3 (.pu 4 (.pu 5 (.pu 6 (.pu 7 (.pu 8 (.pu 9 (.pu 10 (.pu 11 (.rl 12 (.pu 13 (.pu 14 .fin))))))))))))))) rfl rfl ?_
  refine s_pu (d := some 7) (v := (.int .i64 i2)) rfl rfl rfl (r_move rfl) ?_
  refine s_pu (d := some 8) (v := (.bool (decide (i2 < 0)))) rfl rfl rfl (r_lss rfl rfl) ?_
  refine s_pu (d := some 9) (v := (.bool (decide (i2 < 0)))) rfl rfl rfl (r_move rfl) ?_
  rcases Bool.eq_false_or_eq_true (decide (i2 < 0)) with g8 | g8
  · have H := H.1 g8
    refine s_sk (d := some 10) rfl rfl (wants_no rfl rfl rfl rfl g8) ?_
    refine s_sk (d := some 11) rfl rfl (wants_no rfl rfl rfl rfl g8) ?_
    refine s_sk (d := some 12) rfl rfl (wants_no rfl rfl rfl rfl g8) ?_
    refine s_pu (d := some 13) (v := (.bool true)) rfl rfl rfl (r_pick1 rfl g8 rfl) ?_
    refine s_pu (d := some 14) (v := (.bool true)) rfl rfl rfl (r_move rfl) ?_
    refine s_sk (d := some 15) rfl rfl (wants_no rfl rfl rfl rfl rfl) ?_
    refine s_sk (d := some 16) rfl rfl (wants_no rfl rfl rfl rfl rfl) ?_
    refine s_sk (d := some 17) rfl rfl (wants_no rfl rfl rfl rfl rfl) ?_
    refine s_sk (d := some 18) rfl rfl (wants_no rfl rfl rfl rfl rfl) ?_
    refine s_skl (d := some 19) rfl rfl (wants_no rfl rfl rfl rfl rfl) ?_
    refine s_sk (d := some 20) rfl rfl (wants_no rfl rfl rfl rfl rfl) ?_
    refine s_pu (d := some 21) (v := (.bool true)) rfl rfl rfl (r_pick1 rfl rfl rfl) ?_
    refine s_fin ?_
    exact N_mk (l := [(21, (.bool true))]) H ⟨rfl, trivial⟩
  · have H := H.2 g8
    refine s_pu (d := some 10) (v := (.int .i64 j3)) rfl rfl (wants_yes rfl rfl rfl rfl g8) (r_move rfl) ?_
    refine s_pu (d := some 11) (v := (.int .i64 i2)) rfl rfl (wants_yes rfl rfl rfl rfl g8) (r_move rfl) ?_
    refine s_pu (d := some 12) (v := (.bool (decide (j3 < i2)))) rfl rfl (wants_yes rfl rfl rfl rfl g8) (r_lss rfl rfl) ?_
    refine s_pu (d := some 13) (v := (.bool (decide (j3 < i2)))) rfl rfl rfl (r_pick0 rfl g8 rfl) ?_
    refine s_pu (d := some 14) (v := (.bool (decide (j3 < i2)))) rfl rfl rfl (r_move rfl) ?_
    rcases Bool.eq_false_or_eq_true (decide (j3 < i2)) with g9 | g9
    · have H := H.1 g9
      refine s_sk (d := some 15) rfl rfl (wants_no rfl rfl rfl rfl g9) ?_
      refine s_sk (d := some 16) rfl rfl (wants_no rfl rfl rfl rfl g9) ?_
      refine s_sk (d := some 17) rfl rfl (wants_no rfl rfl rfl rfl g9) ?_
      refine s_sk (d := some 18) rfl rfl (wants_no rfl rfl rfl rfl g9) ?_
      refine s_skl (d := some 19) rfl rfl (wants_no rfl rfl rfl rfl g9) ?_
      refine s_sk (d := some 20) rfl rfl (wants_no rfl rfl rfl rfl g9) ?_
      refine s_pu (d := some 21) (v := (.bool true)) rfl rfl rfl (r_pick1 rfl g9 rfl) ?_
      refine s_fin ?_
      exact N_mk (l := [(21, (.bool true))]) H ⟨rfl, trivial⟩
    · have H := H.2 g9
      refine s_pu (d := some 15) (v := (.int .i64 j3)) rfl rfl (wants_yes rfl rfl rfl rfl g9) (r_move rfl) ?_
      refine s_pu (d := some 16) (v := (.pointer s1)) rfl rfl (wants_yes rfl rfl rfl rfl g9) (r_move rfl) ?_
      obtain ⟨p10, e11, H⟩ := H
      refine s_pu (d := some 17) (v := (.pointer (some p10))) rfl rfl (wants_yes rfl rfl rfl rfl g9) (r_nilCheck rfl e11) ?_
      refine s_pu (d := some 18) (v := (.pointer (some (Addr.add p10 0)))) rfl rfl (wants_yes rfl rfl rfl rfl g9) (r_fieldAddr Tryd.underlying113 Tryd.sizeOf3 rfl rfl rfl) ?_
      obtain ⟨x12, e13, H⟩ := H
      refine s_rl (d := some 19) (v := (.int .i64 x12)) rfl rfl (wants_yes rfl rfl rfl rfl g9) (fun dr => r_load1 Tryd.isAgg3 rfl e13) ?_
      refine s_pu (d := some 20) (v := (.bool (decide (x12 < j3)))) rfl rfl (wants_yes rfl rfl rfl rfl g9) (r_gtr rfl rfl) ?_
      refine s_pu (d := some 21) (v := (.bool (decide (x12 < j3)))) rfl rfl rfl (r_pick0 rfl g9 rfl) ?_
      refine s_fin ?_
      exact N_mk (l := [(21, (.bool (decide (x12 < j3))))]) H ⟨rfl, trivial⟩

/-! ### seg_Seg_change -/

def seg_Seg_change_F (r : World) (s1 : Option Addr) (va2 : Int) (n3 : Int) (i4 : Int) (j5 : Int) (put6 : Bool) (x7 : Int) (h : Heap) (R : Heap → Prop) : Prop :=
  Br (decide (j5 ≤ i4)) (
    R h) (
    ∀ x14 : Bool, x14 = (((decide (i4 = 0)) && (decide (j5 = n3))) && put6) →
    Br x14 (
      seg_Seg_all r s1 va2 n3 true x7 0 h fun  h1 =>
      R h1) (
      ∀ J17 : Bool → Heap → Prop, (∀ (x16 : Bool) (h2 : Heap),
        (Br x16 (
          seg_Seg_all r s1 va2 n3 false 0 x7 h2 fun  h3 =>
          R h3) (
          Br (decide (n3 = 1)) (
            Ck s1 fun p19 =>
            LdS h2 (Addr.add p19 1) fun x21 =>
            Ix x21 va2 6 fun q27 =>
            LdI h2 (Addr.add q27 0) fun x29 =>
            Ck s1 fun p31 =>
            LdS h2 (Addr.add p31 1) fun x33 =>
            Ix x33 va2 6 fun q39 =>
            St h2 q39 6 [(.int .i64 (w64 (x29 + x7))), (.int .i64 (w64 (x29 + x7))), (.int .i64 (w64 (x29 + x7))), (.bool false), (.int .i64 0), (.int .i64 0)] fun h4 =>
            R h4) (
            seg_Seg_push r s1 va2 n3 h2 fun  h5 =>
            seg_Seg_change r s1 (w64 (2 * va2)) (w64 (Int.tdiv n3 2)) (min i4 (w64 (Int.tdiv n3 2))) (min j5 (w64 (Int.tdiv n3 2))) put6 x7 h5 fun  h6 =>
            seg_Seg_change r s1 (w64 ((w64 (2 * va2)) + 1)) (w64 (n3 - (w64 (Int.tdiv n3 2)))) (w64 ((max i4 (w64 (Int.tdiv n3 2))) - (w64 (Int.tdiv n3 2)))) (w64 ((max j5 (w64 (Int.tdiv n3 2))) - (w64 (Int.tdiv n3 2)))) put6 x7 h6 fun  h7 =>
            seg_Seg_pull r s1 va2 h7 fun  h8 =>
            R h8))) →
        J17 x16 h2) →
      Br (decide (i4 = 0)) (
        Br (decide (j5 = n3)) (
          seg_Seg_safe r s1 va2 x7 h fun y47 h9 =>
          J17 y47 h9) (
          J17 false h)) (
        J17 false h)))

set_option maxRecDepth 100000 in
theorem seg_Seg_change_of {r : World} {s1 : Option Addr} {va2 : Int} {n3 : Int} {i4 : Int} {j5 : Int} {put6 : Bool} {x7 : Int} {h : Heap} {R : Heap → Prop} (H : seg_Seg_change_F r s1 va2 n3 i4 j5 put6 x7 h R) : seg_Seg_change r s1 va2 n3 i4 j5 put6 x7 h R := by
  unfold seg_Seg_change_F at H
  refine calls_of 120 [] Tryd.func83 rfl rfl rfl rfl rfl ?_
  refine W_seq ?_
  refine W_block ?_
  refine W_seq ?_
  refine W_region (.pu 0 (.pu 1 (.pu 2 (.pu 3 .fin)))) rfl rfl ?_
  refine s_pu (d := some 17) (v := (.int .i64 i4)) rfl rfl rfl (r_move rfl) ?_
  refine s_pu (d := some 18) (v := (.int .i64 j5)) rfl rfl rfl (r_move rfl) ?_
  refine s_pu (d := some 19) (v := (.bool (decide (j5 ≤ i4)))) rfl rfl rfl (r_geq rfl rfl) ?_
  refine s_pu (d := some 16) (v := (.bool (decide (j5 ≤ i4)))) rfl rfl rfl (r_assign rfl) ?_
  refine s_fin ?_
  show W _ _ _ _ _ _ _ _
  refine W_if (decide (j5 ≤ i4)) rfl (fun g51 => ?_) (fun g51 => ?_)
  · have H := H.1 g51
    refine W_ret ?_
    exact ⟨[], rfl, rfl, H⟩
  · have H := H.2 g51
    refine W_seq ?_
    refine W_region (.pu 0 (.pu 1 (.pu 2 (.pu 3 (.pu 4 (.pu 5 (.pu 6 (.pu 7 (.pu 8 (.pu 9 (.pu 10 .fin))))))))))) rfl rfl ?_
    refine s_pu (d := some 21) (v := (.int .i64 i4)) rfl rfl rfl (r_move rfl) ?_
    refine s_pu (d := some 22) (v := (.bool (decide (i4 = 0)))) rfl rfl rfl (r_eql rfl rfl) ?_
    refine s_pu (d := some 23) (v := (.bool (decide (i4 = 0)))) rfl rfl rfl (r_move rfl) ?_
    refine S_meet (l := [(0, (.pointer s1)), (1, (.int .i64 va2)), (2, (.int .i64 n3)), (3, (.int .i64 i4)), (4, (.int .i64 j5)), (5, (.bool put6)), (6, (.int .i64 x7)), (27, (.bool ((decide (i4 = 0)) && (decide (j5 = n3)))))]) (i := 4) ?_ (fun HJ => ?_)
    · intro b
      show S _ _ _ _ _ _
      refine s_pu (d := some 28) (v := (.bool ((decide (i4 = 0)) && (decide (j5 = n3))))) rfl rfl rfl (r_move rfl) ?_
      refine S_meet (l := [(0, (.pointer s1)), (1, (.int .i64 va2)), (2, (.int .i64 n3)), (3, (.int .i64 i4)), (4, (.int .i64 j5)), (5, (.bool put6)), (6, (.int .i64 x7)), (30, (.bool (((decide (i4 = 0)) && (decide (j5 = n3))) && put6)))]) (i := 2) ?_ (fun HJ => ?_)
      · intro b
        show S _ _ _ _ _ _
        obtain ⟨x14, e15⟩ : ∃ x : Bool, x = (((decide (i4 = 0)) && (decide (j5 = n3))) && put6) := ⟨_, rfl⟩
        have H := H x14 e15
        refine s_pu (d := some 20) (v := (.bool x14)) rfl rfl rfl (r_assign (congrArg Value.bool e15.symm)) ?_
        refine s_fin ?_
        show W _ _ _ _ _ _ _ _
        refine W_if x14 rfl (fun g48 => ?_) (fun g48 => ?_)
        · have H := H.1 g48
          refine W_seq ?_
          refine W_region (.pu 0 (.pu 1 (.pu 2 (.pu 3 (.ef 4 [] .fin .no))))) rfl rfl ?_
          refine s_pu (d := some 31) (v := (.pointer s1)) rfl rfl rfl (r_move rfl) ?_
          refine s_pu (d := some 32) (v := (.int .i64 va2)) rfl rfl rfl (r_move rfl) ?_
          refine s_pu (d := some 33) (v := (.int .i64 n3)) rfl rfl rfl (r_move rfl) ?_
          refine s_pu (d := some 34) (v := (.int .i64 x7)) rfl rfl rfl (r_move rfl) ?_
          refine s_ef (d := some 35) rfl rfl rfl (fun dr => r_call Tryd.call114 rfl rfl H) ?_ trivial
          rintro _ h1 ⟨rfl, H⟩
          refine ⟨trivial, ?_⟩
          refine s_fin ?_
          show W _ _ _ _ _ _ _ _
          refine W_ret ?_
          exact ⟨[], rfl, rfl, H⟩
        · have H := H.2 g48
          refine W_seq ?_
          refine W_set ?_
          intro N18 eN18
          have H := H (fun (x16 : Bool) (h2 : Heap) => ∀ b, N18 [] (mkE [(0, (.pointer s1)), (1, (.int .i64 va2)), (2, (.int .i64 n3)), (3, (.int .i64 i4)), (4, (.int .i64 j5)), (5, (.bool put6)), (6, (.int .i64 x7)), (36, (.bool x16))] b) h2) (by
            intro x16 h2 H b
            rw [eN18]
            show W _ _ _ _ _ _ _ _
            refine W_if x16 rfl (fun g44 => ?_) (fun g44 => ?_)
            · have H := H.1 g44
              refine W_seq ?_
              refine W_region (.pu 0 (.pu 1 (.pu 2 (.pu 3 (.ef 4 [] .fin .no))))) rfl rfl ?_
              refine s_pu (d := some 50) (v := (.pointer s1)) rfl rfl rfl (r_move rfl) ?_
              refine s_pu (d := some 51) (v := (.int .i64 va2)) rfl rfl rfl (r_move rfl) ?_
              refine s_pu (d := some 52) (v := (.int .i64 n3)) rfl rfl rfl (r_move rfl) ?_
              refine s_pu (d := some 53) (v := (.int .i64 x7)) rfl rfl rfl (r_move rfl) ?_
              refine s_ef (d := some 54) rfl rfl rfl (fun dr => r_call Tryd.call114 rfl rfl H) ?_ trivial
              rintro _ h3 ⟨rfl, H⟩
              refine ⟨trivial, ?_⟩
              refine s_fin ?_
              show W _ _ _ _ _ _ _ _
              refine W_ret ?_
              exact ⟨[], rfl, rfl, H⟩
            · have H := H.2 g44
              refine W_seq ?_
              refine W_region (.pu 0 (.pu 1 (.pu 2 .fin))) rfl rfl ?_
              refine s_pu (d := some 56) (v := (.int .i64 n3)) rfl rfl rfl (r_move rfl) ?_
              refine s_pu (d := some 57) (v := (.bool (decide (n3 = 1)))) rfl rfl rfl (r_eql rfl rfl) ?_
              refine s_pu (d := some 55) (v := (.bool (decide (n3 = 1)))) rfl rfl rfl (r_assign rfl) ?_
              refine s_fin ?_
              show W _ _ _ _ _ _ _ _
              refine W_if (decide (n3 = 1)) rfl (fun g43 => ?_) (fun g43 => ?_)
              · have H := H.1 g43
                refine W_seq ?_
                refine W_region (.pu 0 (.pu 1 (.pu 2 (.rl 3 (.pu 4 (.pu 5 (.pu 6 (.rl 7 (.pu 8 (.pu 9 (.pu 10 .fin))))))))))) rfl rfl ?_
                refine s_pu (d := some 58) (v := (.pointer s1)) rfl rfl rfl (r_move rfl) ?_
                obtain ⟨p19, e20, H⟩ := H
                refine s_pu (d := some 59) (v := (.pointer (some p19))) rfl rfl rfl (r_nilCheck rfl e20) ?_
                refine s_pu (d := some 60) (v := (.pointer (some (Addr.add p19 1)))) rfl rfl rfl (r_fieldAddr Tryd.underlying113 Tryd.sizeOf111 rfl rfl rfl) ?_
                obtain ⟨x21, e22, H⟩ := H
                refine s_rl (d := some 61) (v := (Sl.v x21)) rfl rfl rfl (fun dr => r_load1 Tryd.isAgg111 rfl e22) ?_
                refine s_pu (d := some 62) (v := (.int .i64 va2)) rfl rfl rfl (r_move rfl) ?_
                obtain ⟨p23, e24, e25, e26, H⟩ := H
                obtain ⟨q27, e28⟩ : ∃ q : Addr, q = Addr.add p23 (Int.toNat va2 * 6) := ⟨_, rfl⟩
                rw [← e28] at H
                refine s_pu (d := some 63) (v := (.pointer (some q27))) rfl rfl rfl (fun w => (r_indexAddr Tryd.underlying111 Tryd.sizeOf117 rfl rfl e24 e25 e26 w).trans (by rw [e28])) ?_
                refine s_pu (d := some 64) (v := (.pointer (some (Addr.add q27 0)))) rfl rfl rfl (r_fieldAddr Tryd.underlying117 Tryd.sizeOf3 rfl rfl rfl) ?_
                obtain ⟨x29, e30, H⟩ := H
                refine s_rl (d := some 65) (v := (.int .i64 x29)) rfl rfl rfl (fun dr => r_load1 Tryd.isAgg3 rfl e30) ?_
                refine s_pu (d := some 66) (v := (.int .i64 x7)) rfl rfl rfl (r_move rfl) ?_
                refine s_pu (d := some 67) (v := (.int .i64 (w64 (x29 + x7)))) rfl rfl rfl (r_add rfl rfl) ?_
                refine s_pu (d := some 14) (v := (.int .i64 (w64 (x29 + x7)))) rfl rfl rfl (r_assign rfl) ?_
                refine s_fin ?_
                show W _ _ _ _ _ _ _ _
                refine W_seq ?_
                refine W_region (.pu 0 (.pu 1 (.pu 2 (.rl 3 (.pu 4 (.pu 5 (.pu 6 (.pu 7 (.pu 8 (.pu 9 (.ef 10 [] .fin .no))))))))))) rfl rfl ?_
                refine s_pu (d := some 68) (v := (.pointer s1)) rfl rfl rfl (r_move rfl) ?_
                obtain ⟨p31, e32, H⟩ := H
                refine s_pu (d := some 69) (v := (.pointer (some p31))) rfl rfl rfl (r_nilCheck rfl e32) ?_
                refine s_pu (d := some 70) (v := (.pointer (some (Addr.add p31 1)))) rfl rfl rfl (r_fieldAddr Tryd.underlying113 Tryd.sizeOf111 rfl rfl rfl) ?_
                obtain ⟨x33, e34, H⟩ := H
                refine s_rl (d := some 71) (v := (Sl.v x33)) rfl rfl rfl (fun dr => r_load1 Tryd.isAgg111 rfl e34) ?_
                refine s_pu (d := some 72) (v := (.int .i64 va2)) rfl rfl rfl (r_move rfl) ?_
                refine s_pu (d := some 73) (v := (.int .i64 (w64 (x29 + x7)))) rfl rfl rfl (r_move rfl) ?_
                refine s_pu (d := some 74) (v := (.int .i64 (w64 (x29 + x7)))) rfl rfl rfl (r_move rfl) ?_
                refine s_pu (d := some 75) (v := (.int .i64 (w64 (x29 + x7)))) rfl rfl rfl (r_move rfl) ?_
                refine s_pu (d := some 76) (v := (.agg #[(.int .i64 (w64 (x29 + x7))), (.int .i64 (w64 (x29 + x7))), (.int .i64 (w64 (x29 + x7))), (.bool false), (.int .i64 0), (.int .i64 0)])) rfl rfl rfl (fun w => by kernel_rfl) ?_
                obtain ⟨p35, e36, e37, e38, H⟩ := H
                obtain ⟨q39, e40⟩ : ∃ q : Addr, q = Addr.add p35 (Int.toNat va2 * 6) := ⟨_, rfl⟩
                rw [← e40] at H
                refine s_pu (d := some 77) (v := (.pointer (some q39))) rfl rfl rfl (fun w => (r_indexAddr Tryd.underlying111 Tryd.sizeOf117 rfl rfl e36 e37 e38 w).trans (by rw [e40])) ?_
                obtain ⟨e42, H⟩ := H
                obtain ⟨h4, e41⟩ : ∃ hh : Heap, hh = hsets h2 q39 0 [(.int .i64 (w64 (x29 + x7))), (.int .i64 (w64 (x29 + x7))), (.int .i64 (w64 (x29 + x7))), (.bool false), (.int .i64 0), (.int .i64 0)] := ⟨_, rfl⟩
                have H := H h4 e41
                refine s_st (d := none) (h' := h4) rfl rfl rfl (fun dr => (r_store (v := (.agg #[(.int .i64 (w64 (x29 + x7))), (.int .i64 (w64 (x29 + x7))), (.int .i64 (w64 (x29 + x7))), (.bool false), (.int .i64 0), (.int .i64 0)])) Tryd.sizeOf117 rfl rfl rfl (one_all rfl) e42).trans (by rw [e41]; rfl)) trivial ?_ trivial
                refine s_fin ?_
                show W _ _ _ _ _ _ _ _
                refine W_ret ?_
                exact ⟨[], rfl, rfl, H⟩
              · have H := H.2 g43
                refine W_skip ?_
                show W _ _ _ _ _ _ _ _
                refine W_seq ?_
                refine W_region (.pu 0 (.pu 1 (.pu 2 (.ef 3 [] .fin .no)))) rfl rfl ?_
                refine s_pu (d := some 78) (v := (.pointer s1)) rfl rfl rfl (r_move rfl) ?_
                refine s_pu (d := some 79) (v := (.int .i64 va2)) rfl rfl rfl (r_move rfl) ?_
                refine s_pu (d := some 80) (v := (.int .i64 n3)) rfl rfl rfl (r_move rfl) ?_
                refine s_ef (d := some 81) rfl rfl rfl (fun dr => r_call Tryd.call116 rfl rfl H) ?_ trivial
                rintro _ h5 ⟨rfl, H⟩
                refine ⟨trivial, ?_⟩
                refine s_fin ?_
                show W _ _ _ _ _ _ _ _
                refine W_seq ?_
                refine W_region (.pu 0 (.pu 1 (.pu 2 .fin))) rfl rfl ?_
                refine s_pu (d := some 82) (v := (.int .i64 n3)) rfl rfl rfl (r_move rfl) ?_
                refine s_pu (d := some 83) (v := (.int .i64 (w64 (Int.tdiv n3 2)))) rfl rfl rfl (r_quo rfl rfl (by decide)) ?_
                refine s_pu (d := some 15) (v := (.int .i64 (w64 (Int.tdiv n3 2)))) rfl rfl rfl (r_assign rfl) ?_
                refine s_fin ?_
                show W _ _ _ _ _ _ _ _
                refine W_seq ?_
                refine W_region (.pu 0 (.pu 1 (.pu 2 (.pu 3 (.pu 4 (.pu 5 (.pu 6 (.pu 7 (.pu 8 (.pu 9 (.pu 10 (.pu 11 (.ef 12 [] .fin .no))))))))))))) rfl rfl ?_
                refine s_pu (d := some 84) (v := (.pointer s1)) rfl rfl rfl (r_move rfl) ?_
                refine s_pu (d := some 85) (v := (.int .i64 va2)) rfl rfl rfl (r_move rfl) ?_
                refine s_pu (d := some 86) (v := (.int .i64 (w64 (2 * va2)))) rfl rfl rfl (r_mul rfl rfl) ?_
                refine s_pu (d := some 87) (v := (.int .i64 (w64 (Int.tdiv n3 2)))) rfl rfl rfl (r_move rfl) ?_
                refine s_pu (d := some 88) (v := (.int .i64 i4)) rfl rfl rfl (r_move rfl) ?_
                refine s_pu (d := some 89) (v := (.int .i64 (w64 (Int.tdiv n3 2)))) rfl rfl rfl (r_move rfl) ?_
                refine s_pu (d := some 90) (v := (.int .i64 (min i4 (w64 (Int.tdiv n3 2))))) rfl rfl rfl (r_min rfl rfl) ?_
                refine s_pu (d := some 91) (v := (.int .i64 j5)) rfl rfl rfl (r_move rfl) ?_
                refine s_pu (d := some 92) (v := (.int .i64 (w64 (Int.tdiv n3 2)))) rfl rfl rfl (r_move rfl) ?_
                refine s_pu (d := some 93) (v := (.int .i64 (min j5 (w64 (Int.tdiv n3 2))))) rfl rfl rfl (r_min rfl rfl) ?_
                refine s_pu (d := some 94) (v := (.bool put6)) rfl rfl rfl (r_move rfl) ?_
                refine s_pu (d := some 95) (v := (.int .i64 x7)) rfl rfl rfl (r_move rfl) ?_
                refine s_ef (d := some 96) rfl rfl rfl (fun dr => r_call Tryd.call83 rfl rfl H) ?_ trivial
                rintro _ h6 ⟨rfl, H⟩
                refine ⟨trivial, ?_⟩
                refine s_fin ?_
                show W _ _ _ _ _ _ _ _
                refine W_seq ?_
                refine W_region (.pu 0 (.pu 1 (.pu 2 (.pu 3 (.pu 4 (.pu 5 (.pu 6 (.pu 7 (.pu 8 (.pu 9 (.pu 10 (.pu 11 (.pu 12 (.pu 13 (.pu 14 (.pu 15 (.pu 16 (.pu 17 (.pu 18 (.ef 19 [] .fin .no)))))))))))))))))))) rfl rfl ?_
                refine s_pu (d := some 97) (v := (.pointer s1)) rfl rfl rfl (r_move rfl) ?_
                refine s_pu (d := some 98) (v := (.int .i64 va2)) rfl rfl rfl (r_move rfl) ?_
                refine s_pu (d := some 99) (v := (.int .i64 (w64 (2 * va2)))) rfl rfl rfl (r_mul rfl rfl) ?_
                refine s_pu (d := some 100) (v := (.int .i64 (w64 ((w64 (2 * va2)) + 1)))) rfl rfl rfl (r_add rfl rfl) ?_
                refine s_pu (d := some 101) (v := (.int .i64 n3)) rfl rfl rfl (r_move rfl) ?_
                refine s_pu (d := some 102) (v := (.int .i64 (w64 (Int.tdiv n3 2)))) rfl rfl rfl (r_move rfl) ?_
                refine s_pu (d := some 103) (v := (.int .i64 (w64 (n3 - (w64 (Int.tdiv n3 2)))))) rfl rfl rfl (r_sub rfl rfl) ?_
                refine s_pu (d := some 104) (v := (.int .i64 i4)) rfl rfl rfl (r_move rfl) ?_
                refine s_pu (d := some 105) (v := (.int .i64 (w64 (Int.tdiv n3 2)))) rfl rfl rfl (r_move rfl) ?_
                refine s_pu (d := some 106) (v := (.int .i64 (max i4 (w64 (Int.tdiv n3 2))))) rfl rfl rfl (r_max rfl rfl) ?_
                refine s_pu (d := some 107) (v := (.int .i64 (w64 (Int.tdiv n3 2)))) rfl rfl rfl (r_move rfl) ?_
                refine s_pu (d := some 108) (v := (.int .i64 (w64 ((max i4 (w64 (Int.tdiv n3 2))) - (w64 (Int.tdiv n3 2)))))) rfl rfl rfl (r_sub rfl rfl) ?_
                refine s_pu (d := some 109) (v := (.int .i64 j5)) rfl rfl rfl (r_move rfl) ?_
                refine s_pu (d := some 110) (v := (.int .i64 (w64 (Int.tdiv n3 2)))) rfl rfl rfl (r_move rfl) ?_
                refine s_pu (d := some 111) (v := (.int .i64 (max j5 (w64 (Int.tdiv n3 2))))) rfl rfl rfl (r_max rfl rfl) ?_
                refine s_pu (d := some 112) (v := (.int .i64 (w64 (Int.tdiv n3 2)))) rfl rfl rfl (r_move rfl) ?_
                refine s_pu (d := some 113) (v := (.int .i64 (w64 ((max j5 (w64 (Int.tdiv n3 2))) - (w64 (Int.tdiv n3 2)))))) rfl rfl rfl (r_sub rfl rfl) ?_
                refine s_pu (d := some 114) (v := (.bool put6)) rfl rfl rfl (r_move rfl) ?_
                refine s_pu (d := some 115) (v := (.int .i64 x7)) rfl rfl rfl (r_move rfl) ?_
                refine s_ef (d := some 116) rfl rfl rfl (fun dr => r_call Tryd.call83 rfl rfl H) ?_ trivial
                rintro _ h7 ⟨rfl, H⟩
                refine ⟨trivial, ?_⟩
                refine s_fin ?_
                show W _ _ _ _ _ _ _ _
                refine W_region (.pu 0 (.pu 1 (.ef 2 [] .fin .no))) rfl rfl ?_
                refine s_pu (d := some 117) (v := (.pointer s1)) rfl rfl rfl (r_move rfl) ?_
                refine s_pu (d := some 118) (v := (.int .i64 va2)) rfl rfl rfl (r_move rfl) ?_
                refine s_ef (d := some 119) rfl rfl rfl (fun dr => r_call Tryd.call113 rfl rfl H) ?_ trivial
                rintro _ h8 ⟨rfl, H⟩
                refine ⟨trivial, ?_⟩
                refine s_fin ?_
                exact ⟨[], rfl, rfl, H⟩)
          clear eN18
          refine W_region (.pu 0 (.pu 1 (.pu 2 (.pu 3 (.pu 4 (.pu 5 (.pu 6 (.pu 7 (.pu 8 (.pu 9 (.pu 10 (.ef 11 [] (.pu 12 (.pu 13 .fin)) .no)))))))))))) rfl rfl ?_
          refine s_pu (d := some 37) (v := (.int .i64 i4)) rfl rfl rfl (r_move rfl) ?_
          refine s_pu (d := some 38) (v := (.bool (decide (i4 = 0)))) rfl rfl rfl (r_eql rfl rfl) ?_
          refine s_pu (d := some 39) (v := (.bool (decide (i4 = 0)))) rfl rfl rfl (r_move rfl) ?_
          rcases Bool.eq_false_or_eq_true (decide (i4 = 0)) with g45 | g45
          · have H := H.1 g45
            refine s_pu (d := some 40) (v := (.int .i64 j5)) rfl rfl (wants_yes rfl rfl rfl rfl g45) (r_move rfl) ?_
            refine s_pu (d := some 41) (v := (.int .i64 n3)) rfl rfl (wants_yes rfl rfl rfl rfl g45) (r_move rfl) ?_
            refine s_pu (d := some 42) (v := (.bool (decide (j5 = n3)))) rfl rfl (wants_yes rfl rfl rfl rfl g45) (r_eql rfl rfl) ?_
            refine s_pu (d := some 43) (v := (.bool (decide (j5 = n3)))) rfl rfl rfl (r_pick1 rfl g45 rfl) ?_
            refine s_pu (d := some 44) (v := (.bool (decide (j5 = n3)))) rfl rfl rfl (r_move rfl) ?_
            rcases Bool.eq_false_or_eq_true (decide (j5 = n3)) with g46 | g46
            · have H := H.1 g46
              refine s_pu (d := some 45) (v := (.pointer s1)) rfl rfl (wants_yes rfl rfl rfl rfl g46) (r_move rfl) ?_
              refine s_pu (d := some 46) (v := (.int .i64 va2)) rfl rfl (wants_yes rfl rfl rfl rfl g46) (r_move rfl) ?_
              refine s_pu (d := some 47) (v := (.int .i64 x7)) rfl rfl (wants_yes rfl rfl rfl rfl g46) (r_move rfl) ?_
              refine s_ef (d := some 48) rfl rfl (wants_yes rfl rfl rfl rfl g46) (fun dr => r_call Tryd.call115 rfl rfl H) ?_ trivial
              rintro _ h9 ⟨y47, rfl, H⟩
              refine ⟨trivial, ?_⟩
              refine s_pu (d := some 49) (v := (.bool y47)) rfl rfl rfl (r_pick1 rfl g46 rfl) ?_
              refine s_pu (d := some 36) (v := (.bool y47)) rfl rfl rfl (r_assign rfl) ?_
              refine s_fin ?_
              exact N_mk (l := [(0, (.pointer s1)), (1, (.int .i64 va2)), (2, (.int .i64 n3)), (3, (.int .i64 i4)), (4, (.int .i64 j5)), (5, (.bool put6)), (6, (.int .i64 x7)), (36, (.bool y47))]) H ⟨rfl, rfl, rfl, rfl, rfl, rfl, rfl, rfl, trivial⟩
            · have H := H.2 g46
              refine s_sk (d := some 45) rfl rfl (wants_no rfl rfl rfl rfl g46) ?_
              refine s_sk (d := some 46) rfl rfl (wants_no rfl rfl rfl rfl g46) ?_
              refine s_sk (d := some 47) rfl rfl (wants_no rfl rfl rfl rfl g46) ?_
              refine s_skf (d := some 48) rfl rfl (wants_no rfl rfl rfl rfl g46) trivial ?_ trivial
              refine s_pu (d := some 49) (v := (.bool false)) rfl rfl rfl (r_pick0 rfl g46 rfl) ?_
              refine s_pu (d := some 36) (v := (.bool false)) rfl rfl rfl (r_assign rfl) ?_
              refine s_fin ?_
              exact N_mk (l := [(0, (.pointer s1)), (1, (.int .i64 va2)), (2, (.int .i64 n3)), (3, (.int .i64 i4)), (4, (.int .i64 j5)), (5, (.bool put6)), (6, (.int .i64 x7)), (36, (.bool false))]) H ⟨rfl, rfl, rfl, rfl, rfl, rfl, rfl, rfl, trivial⟩
          · have H := H.2 g45
            refine s_sk (d := some 40) rfl rfl (wants_no rfl rfl rfl rfl g45) ?_
            refine s_sk (d := some 41) rfl rfl (wants_no rfl rfl rfl rfl g45) ?_
            refine s_sk (d := some 42) rfl rfl (wants_no rfl rfl rfl rfl g45) ?_
            refine s_pu (d := some 43) (v := (.bool false)) rfl rfl rfl (r_pick0 rfl g45 rfl) ?_
            refine s_pu (d := some 44) (v := (.bool false)) rfl rfl rfl (r_move rfl) ?_
            refine s_sk (d := some 45) rfl rfl (wants_no rfl rfl rfl rfl rfl) ?_
            refine s_sk (d := some 46) rfl rfl (wants_no rfl rfl rfl rfl rfl) ?_
            refine s_sk (d := some 47) rfl rfl (wants_no rfl rfl rfl rfl rfl) ?_
            refine s_skf (d := some 48) rfl rfl (wants_no rfl rfl rfl rfl rfl) trivial ?_ trivial
            refine s_pu (d := some 49) (v := (.bool false)) rfl rfl rfl (r_pick0 rfl rfl rfl) ?_
            refine s_pu (d := some 36) (v := (.bool false)) rfl rfl rfl (r_assign rfl) ?_
            refine s_fin ?_
            exact N_mk (l := [(0, (.pointer s1)), (1, (.int .i64 va2)), (2, (.int .i64 n3)), (3, (.int .i64 i4)), (4, (.int .i64 j5)), (5, (.bool put6)), (6, (.int .i64 x7)), (36, (.bool false))]) H ⟨rfl, rfl, rfl, rfl, rfl, rfl, rfl, rfl, trivial⟩
      · rcases Bool.eq_false_or_eq_true ((decide (i4 = 0)) && (decide (j5 = n3))) with g11 | g11
        · refine s_pu (d := some 29) (v := (.bool put6)) rfl rfl (wants_yes rfl rfl rfl rfl g11) (r_move rfl) ?_
          refine s_pu (d := some 30) (v := (.bool put6)) rfl rfl rfl (r_pick1 rfl g11 rfl) ?_
          exact S_mk (l := [(0, (.pointer s1)), (1, (.int .i64 va2)), (2, (.int .i64 n3)), (3, (.int .i64 i4)), (4, (.int .i64 j5)), (5, (.bool put6)), (6, (.int .i64 x7)), (30, (.bool (((decide (i4 = 0)) && (decide (j5 = n3))) && put6)))]) HJ ⟨rfl, rfl, rfl, rfl, rfl, rfl, rfl, (by rw [g11]; rfl), trivial⟩
        · refine s_sk (d := some 29) rfl rfl (wants_no rfl rfl rfl rfl g11) ?_
          refine s_pu (d := some 30) (v := (.bool false)) rfl rfl rfl (r_pick0 rfl g11 rfl) ?_
          exact S_mk (l := [(0, (.pointer s1)), (1, (.int .i64 va2)), (2, (.int .i64 n3)), (3, (.int .i64 i4)), (4, (.int .i64 j5)), (5, (.bool put6)), (6, (.int .i64 x7)), (30, (.bool (((decide (i4 = 0)) && (decide (j5 = n3))) && put6)))]) HJ ⟨rfl, rfl, rfl, rfl, rfl, rfl, rfl, (by rw [g11]; rfl), trivial⟩
    · rcases Bool.eq_false_or_eq_true (decide (i4 = 0)) with g8 | g8
      · refine s_pu (d := some 24) (v := (.int .i64 j5)) rfl rfl (wants_yes rfl rfl rfl rfl g8) (r_move rfl) ?_
        refine s_pu (d := some 25) (v := (.int .i64 n3)) rfl rfl (wants_yes rfl rfl rfl rfl g8) (r_move rfl) ?_
        refine s_pu (d := some 26) (v := (.bool (decide (j5 = n3)))) rfl rfl (wants_yes rfl rfl rfl rfl g8) (r_eql rfl rfl) ?_
        refine s_pu (d := some 27) (v := (.bool (decide (j5 = n3)))) rfl rfl rfl (r_pick1 rfl g8 rfl) ?_
        exact S_mk (l := [(0, (.pointer s1)), (1, (.int .i64 va2)), (2, (.int .i64 n3)), (3, (.int .i64 i4)), (4, (.int .i64 j5)), (5, (.bool put6)), (6, (.int .i64 x7)), (27, (.bool ((decide (i4 = 0)) && (decide (j5 = n3)))))]) HJ ⟨rfl, rfl, rfl, rfl, rfl, rfl, rfl, (by rw [g8]; rfl), trivial⟩
      · refine s_sk (d := some 24) rfl rfl (wants_no rfl rfl rfl rfl g8) ?_
        refine s_sk (d := some 25) rfl rfl (wants_no rfl rfl rfl rfl g8) ?_
        refine s_sk (d := some 26) rfl rfl (wants_no rfl rfl rfl rfl g8) ?_
        refine s_pu (d := some 27) (v := (.bool false)) rfl rfl rfl (r_pick0 rfl g8 rfl) ?_
        exact S_mk (l := [(0, (.pointer s1)), (1, (.int .i64 va2)), (2, (.int .i64 n3)), (3, (.int .i64 i4)), (4, (.int .i64 j5)), (5, (.bool put6)), (6, (.int .i64 x7)), (27, (.bool ((decide (i4 = 0)) && (decide (j5 = n3)))))]) HJ ⟨rfl, rfl, rfl, rfl, rfl, rfl, rfl, (by rw [g8]; rfl), trivial⟩

/-! ### seg_Seg_told -/

def seg_Seg_told_F (r : World) (s1 : Option Addr) (va2 : Int) (n3 : Int) (i4 : Int) (j5 : Int) (h : Heap) (R : Int → Int → Int → Bool → Int → Int → Bool → Heap → Prop) : Prop :=
  New h (.cells #[(.int .i64 0), (.int .i64 0), (.int .i64 0), (.bool false), (.int .i64 0), (.int .i64 0)] 117) fun p6 h1 =>
  Br (decide (j5 ≤ i4)) (
    St h1 p6 6 [(.int .i64 0), (.int .i64 0), (.int .i64 0), (.bool false), (.int .i64 0), (.int .i64 0)] fun h2 =>
    LdI h2 (Addr.add p6 0) fun x11 =>
    LdI h2 (Addr.add p6 1) fun x13 =>
    LdI h2 (Addr.add p6 2) fun x15 =>
    LdB h2 (Addr.add p6 3) fun x17 =>
    LdI h2 (Addr.add p6 4) fun x19 =>
    LdI h2 (Addr.add p6 5) fun x21 =>
    R x11 x13 x15 x17 x19 x21 false h2) (
    Br ((decide (i4 = 0)) && (decide (j5 = n3))) (
      Ck s1 fun p26 =>
      LdS h1 (Addr.add p26 1) fun x28 =>
      Ix x28 va2 6 fun q34 =>
      LdI h1 (Addr.add q34 0) fun x36 =>
      LdI h1 (Addr.add q34 1) fun x38 =>
      LdI h1 (Addr.add q34 2) fun x40 =>
      LdB h1 (Addr.add q34 3) fun x42 =>
      LdI h1 (Addr.add q34 4) fun x44 =>
      LdI h1 (Addr.add q34 5) fun x46 =>
      St h1 p6 6 [(.int .i64 x36), (.int .i64 x38), (.int .i64 x40), (.bool x42), (.int .i64 x44), (.int .i64 x46)] fun h3 =>
      LdI h3 (Addr.add p6 0) fun x50 =>
      LdI h3 (Addr.add p6 1) fun x52 =>
      LdI h3 (Addr.add p6 2) fun x54 =>
      LdB h3 (Addr.add p6 3) fun x56 =>
      LdI h3 (Addr.add p6 4) fun x58 =>
      LdI h3 (Addr.add p6 5) fun x60 =>
      R x50 x52 x54 x56 x58 x60 true h3) (
      seg_Seg_push r s1 va2 n3 h1 fun  h4 =>
      seg_Seg_told r s1 (w64 (2 * va2)) (w64 (Int.tdiv n3 2)) (min i4 (w64 (Int.tdiv n3 2))) (min j5 (w64 (Int.tdiv n3 2))) h4 fun y62 y63 y64 y65 y66 y67 y68 h5 =>
      New h5 (.cells #[(.int .i64 0), (.int .i64 0), (.int .i64 0), (.bool false), (.int .i64 0), (.int .i64 0)] 117) fun p69 h6 =>
      St h6 p69 6 [(.int .i64 y62), (.int .i64 y63), (.int .i64 y64), (.bool y65), (.int .i64 y66), (.int .i64 y67)] fun h7 =>
      seg_Seg_told r s1 (w64 ((w64 (2 * va2)) + 1)) (w64 (n3 - (w64 (Int.tdiv n3 2)))) (w64 ((max i4 (w64 (Int.tdiv n3 2))) - (w64 (Int.tdiv n3 2)))) (w64 ((max j5 (w64 (Int.tdiv n3 2))) - (w64 (Int.tdiv n3 2)))) h7 fun y74 y75 y76 y77 y78 y79 y80 h8 =>
      New h8 (.cells #[(.int .i64 0), (.int .i64 0), (.int .i64 0), (.bool false), (.int .i64 0), (.int .i64 0)] 117) fun p81 h9 =>
      St h9 p81 6 [(.int .i64 y74), (.int .i64 y75), (.int .i64 y76), (.bool y77), (.int .i64 y78), (.int .i64 y79)] fun h10 =>
      Br (!y68) (
        LdI h10 (Addr.add p81 0) fun x86 =>
        LdI h10 (Addr.add p81 1) fun x88 =>
        LdI h10 (Addr.add p81 2) fun x90 =>
        LdB h10 (Addr.add p81 3) fun x92 =>
        LdI h10 (Addr.add p81 4) fun x94 =>
        LdI h10 (Addr.add p81 5) fun x96 =>
        St h10 p6 6 [(.int .i64 x86), (.int .i64 x88), (.int .i64 x90), (.bool x92), (.int .i64 x94), (.int .i64 x96)] fun h11 =>
        LdI h11 (Addr.add p6 0) fun x100 =>
        LdI h11 (Addr.add p6 1) fun x102 =>
        LdI h11 (Addr.add p6 2) fun x104 =>
        LdB h11 (Addr.add p6 3) fun x106 =>
        LdI h11 (Addr.add p6 4) fun x108 =>
        LdI h11 (Addr.add p6 5) fun x110 =>
        R x100 x102 x104 x106 x108 x110 y80 h11) (
        Br (!y80) (
          LdI h10 (Addr.add p69 0) fun x112 =>
          LdI h10 (Addr.add p69 1) fun x114 =>
          LdI h10 (Addr.add p69 2) fun x116 =>
          LdB h10 (Addr.add p69 3) fun x118 =>
          LdI h10 (Addr.add p69 4) fun x120 =>
          LdI h10 (Addr.add p69 5) fun x122 =>
          St h10 p6 6 [(.int .i64 x112), (.int .i64 x114), (.int .i64 x116), (.bool x118), (.int .i64 x120), (.int .i64 x122)] fun h12 =>
          LdI h12 (Addr.add p6 0) fun x126 =>
          LdI h12 (Addr.add p6 1) fun x128 =>
          LdI h12 (Addr.add p6 2) fun x130 =>
          LdB h12 (Addr.add p6 3) fun x132 =>
          LdI h12 (Addr.add p6 4) fun x134 =>
          LdI h12 (Addr.add p6 5) fun x136 =>
          R x126 x128 x130 x132 x134 x136 true h12) (
          LdI h10 (Addr.add p69 0) fun x138 =>
          LdI h10 (Addr.add p81 0) fun x140 =>
          LdI h10 (Addr.add p69 1) fun x142 =>
          LdI h10 (Addr.add p81 1) fun x144 =>
          LdI h10 (Addr.add p69 2) fun x146 =>
          LdI h10 (Addr.add p81 2) fun x148 =>
          St h10 p6 6 [(.int .i64 (w64 (x138 + x140))), (.int .i64 (min x142 x144)), (.int .i64 (max x146 x148)), (.bool false), (.int .i64 0), (.int .i64 0)] fun h13 =>
          LdI h13 (Addr.add p6 0) fun x152 =>
          LdI h13 (Addr.add p6 1) fun x154 =>
          LdI h13 (Addr.add p6 2) fun x156 =>
          LdB h13 (Addr.add p6 3) fun x158 =>
          LdI h13 (Addr.add p6 4) fun x160 =>
          LdI h13 (Addr.add p6 5) fun x162 =>
          R x152 x154 x156 x158 x160 x162 true h13))))

set_option maxRecDepth 100000 in
theorem seg_Seg_told_of {r : World} {s1 : Option Addr} {va2 : Int} {n3 : Int} {i4 : Int} {j5 : Int} {h : Heap} {R : Int → Int → Int → Bool → Int → Int → Bool → Heap → Prop} (H : seg_Seg_told_F r s1 va2 n3 i4 j5 h R) : seg_Seg_told r s1 va2 n3 i4 j5 h R := by
  unfold seg_Seg_told_F at H
  refine calls_of 101 [.cell 10 117, .tmp 11] Tryd.func84 rfl rfl rfl rfl rfl ?_
  refine W_seq ?_
  refine W_region (.ef 0 [] (.pu 1 .fin) .no) rfl rfl ?_
  obtain ⟨p6, e7⟩ : ∃ p : Addr, p = ⟨h.size, 0, none⟩ := ⟨_, rfl⟩
  obtain ⟨h1, e8⟩ : ∃ hh : Heap, hh = h.push (.cells #[(.int .i64 0), (.int .i64 0), (.int .i64 0), (.bool false), (.int .i64 0), (.int .i64 0)] 117) := ⟨_, rfl⟩
  have H := H p6 h1 e7 e8
  refine s_ef1 (d := some 10) (v := (.pointer (some p6))) (h' := h1) rfl rfl rfl (fun dr => (r_alloc Tryd.zeroValue117).trans (by rw [e7, e8]; rfl)) trivial ?_ trivial
  refine s_pu (d := some 11) (v := (.bool false)) rfl rfl rfl (r_assign rfl) ?_
  refine s_fin ?_
  show W _ _ _ _ _ _ _ _
  refine W_seq ?_
  refine W_seq ?_
  refine W_region (.pu 0 (.pu 1 (.pu 2 .fin))) rfl rfl ?_
  refine s_pu (d := some 17) (v := (.int .i64 i4)) rfl rfl rfl (r_move rfl) ?_
  refine s_pu (d := some 18) (v := (.int .i64 j5)) rfl rfl rfl (r_move rfl) ?_
  refine s_pu (d := some 19) (v := (.bool (decide (j5 ≤ i4)))) rfl rfl rfl (r_geq rfl rfl) ?_
  refine s_fin ?_
  show W _ _ _ _ _ _ _ _
  refine W_if (decide (j5 ≤ i4)) rfl (fun g168 => ?_) (fun g168 => ?_)
  · have H := H.1 g168
    refine W_seq ?_
    refine W_region (.pu 0 (.ef 1 [] (.pu 2 .fin) .no)) rfl rfl ?_
    refine s_pu (d := some 20) (v := (.agg #[(.int .i64 0), (.int .i64 0), (.int .i64 0), (.bool false), (.int .i64 0), (.int .i64 0)])) rfl rfl rfl (fun w => by kernel_rfl) ?_
    obtain ⟨e10, H⟩ := H
    obtain ⟨h2, e9⟩ : ∃ hh : Heap, hh = hsets h1 p6 0 [(.int .i64 0), (.int .i64 0), (.int .i64 0), (.bool false), (.int .i64 0), (.int .i64 0)] := ⟨_, rfl⟩
    have H := H h2 e9
    refine s_st (d := none) (h' := h2) rfl rfl rfl (fun dr => (r_store (v := (.agg #[(.int .i64 0), (.int .i64 0), (.int .i64 0), (.bool false), (.int .i64 0), (.int .i64 0)])) Tryd.sizeOf117 rfl rfl rfl (one_all rfl) e10).trans (by rw [e9]; rfl)) trivial ?_ trivial
    refine s_pu (d := some 11) (v := (.bool false)) rfl rfl rfl (r_assign rfl) ?_
    refine s_fin ?_
    show W _ _ _ _ _ _ _ _
    refine W_ret ?_
    obtain ⟨x11, e12, H⟩ := H
    obtain ⟨x13, e14, H⟩ := H
    obtain ⟨x15, e16, H⟩ := H
    obtain ⟨x17, e18, H⟩ := H
    obtain ⟨x19, e20, H⟩ := H
    obtain ⟨x21, e22, H⟩ := H
    exact ⟨[(.agg #[(.int .i64 x11), (.int .i64 x13), (.int .i64 x15), (.bool x17), (.int .i64 x19), (.int .i64 x21)]), (.bool false)], ⟨_, _, _, rfl, rfl, fun dr => run_loadVarN Tryd.isAgg117 Tryd.sizeOf117 (vs := [(.int .i64 x11), (.int .i64 x13), (.int .i64 x15), (.bool x17), (.int .i64 x19), (.int .i64 x21)]) rfl ⟨e12, e14, e16, e18, e20, e22, trivial⟩, ⟨_, _, rfl, rfl, rfl⟩⟩, x11, x13, x15, x17, x19, x21, false, rfl, H⟩
  · have H := H.2 g168
    refine W_skip ?_
    show W _ _ _ _ _ _ _ _
    refine W_seq ?_
    refine W_seq ?_
    refine W_region (.pu 0 (.pu 1 (.pu 2 (.pu 3 (.pu 4 (.pu 5 (.pu 6 .fin))))))) rfl rfl ?_
    refine s_pu (d := some 21) (v := (.int .i64 i4)) rfl rfl rfl (r_move rfl) ?_
    refine s_pu (d := some 22) (v := (.bool (decide (i4 = 0)))) rfl rfl rfl (r_eql rfl rfl) ?_
    refine s_pu (d := some 23) (v := (.bool (decide (i4 = 0)))) rfl rfl rfl (r_move rfl) ?_
    refine S_meet (l := [(0, (.pointer s1)), (1, (.int .i64 va2)), (2, (.int .i64 n3)), (3, (.int .i64 i4)), (4, (.int .i64 j5)), (10, (.pointer (some p6))), (27, (.bool ((decide (i4 = 0)) && (decide (j5 = n3)))))]) (i := 4) ?_ (fun HJ => ?_)
    · intro b
      show S _ _ _ _ _ _
      refine s_fin ?_
      show W _ _ _ _ _ _ _ _
      refine W_if ((decide (i4 = 0)) && (decide (j5 = n3))) rfl (fun g166 => ?_) (fun g166 => ?_)
      · have H := H.1 g166
        refine W_seq ?_
        refine W_region (.pu 0 (.pu 1 (.pu 2 (.rl 3 (.pu 4 (.pu 5 (.rl 6 (.ef 7 [] (.pu 8 .fin) .no)))))))) rfl rfl ?_
        refine s_pu (d := some 28) (v := (.pointer s1)) rfl rfl rfl (r_move rfl) ?_
        obtain ⟨p26, e27, H⟩ := H
        refine s_pu (d := some 29) (v := (.pointer (some p26))) rfl rfl rfl (r_nilCheck rfl e27) ?_
        refine s_pu (d := some 30) (v := (.pointer (some (Addr.add p26 1)))) rfl rfl rfl (r_fieldAddr Tryd.underlying113 Tryd.sizeOf111 rfl rfl rfl) ?_
        obtain ⟨x28, e29, H⟩ := H
        refine s_rl (d := some 31) (v := (Sl.v x28)) rfl rfl rfl (fun dr => r_load1 Tryd.isAgg111 rfl e29) ?_
        refine s_pu (d := some 32) (v := (.int .i64 va2)) rfl rfl rfl (r_move rfl) ?_
        obtain ⟨p30, e31, e32, e33, H⟩ := H
        obtain ⟨q34, e35⟩ : ∃ q : Addr, q = Addr.add p30 (Int.toNat va2 * 6) := ⟨_, rfl⟩
        rw [← e35] at H
        refine s_pu (d := some 33) (v := (.pointer (some q34))) rfl rfl rfl (fun w => (r_indexAddr Tryd.underlying111 Tryd.sizeOf117 rfl rfl e31 e32 e33 w).trans (by rw [e35])) ?_
        obtain ⟨x36, e37, H⟩ := H
        obtain ⟨x38, e39, H⟩ := H
        obtain ⟨x40, e41, H⟩ := H
        obtain ⟨x42, e43, H⟩ := H
        obtain ⟨x44, e45, H⟩ := H
        obtain ⟨x46, e47, H⟩ := H
        refine s_rl (d := some 34) (v := (.agg #[(.int .i64 x36), (.int .i64 x38), (.int .i64 x40), (.bool x42), (.int .i64 x44), (.int .i64 x46)])) rfl rfl rfl (fun dr => r_loadN Tryd.isAgg117 Tryd.sizeOf117 (vs := [(.int .i64 x36), (.int .i64 x38), (.int .i64 x40), (.bool x42), (.int .i64 x44), (.int .i64 x46)]) rfl rfl ⟨e37, e39, e41, e43, e45, e47, trivial⟩) ?_
        obtain ⟨e49, H⟩ := H
        obtain ⟨h3, e48⟩ : ∃ hh : Heap, hh = hsets h1 p6 0 [(.int .i64 x36), (.int .i64 x38), (.int .i64 x40), (.bool x42), (.int .i64 x44), (.int .i64 x46)] := ⟨_, rfl⟩
        have H := H h3 e48
        refine s_st (d := none) (h' := h3) rfl rfl rfl (fun dr => (r_store (v := (.agg #[(.int .i64 x36), (.int .i64 x38), (.int .i64 x40), (.bool x42), (.int .i64 x44), (.int .i64 x46)])) Tryd.sizeOf117 rfl rfl rfl (one_all rfl) e49).trans (by rw [e48]; rfl)) trivial ?_ trivial
        refine s_pu (d := some 11) (v := (.bool true)) rfl rfl rfl (r_assign rfl) ?_
        refine s_fin ?_
        show W _ _ _ _ _ _ _ _
        refine W_ret ?_
        obtain ⟨x50, e51, H⟩ := H
        obtain ⟨x52, e53, H⟩ := H
        obtain ⟨x54, e55, H⟩ := H
        obtain ⟨x56, e57, H⟩ := H
        obtain ⟨x58, e59, H⟩ := H
        obtain ⟨x60, e61, H⟩ := H
        exact ⟨[(.agg #[(.int .i64 x50), (.int .i64 x52), (.int .i64 x54), (.bool x56), (.int .i64 x58), (.int .i64 x60)]), (.bool true)], ⟨_, _, _, rfl, rfl, fun dr => run_loadVarN Tryd.isAgg117 Tryd.sizeOf117 (vs := [(.int .i64 x50), (.int .i64 x52), (.int .i64 x54), (.bool x56), (.int .i64 x58), (.int .i64 x60)]) rfl ⟨e51, e53, e55, e57, e59, e61, trivial⟩, ⟨_, _, rfl, rfl, rfl⟩⟩, x50, x52, x54, x56, x58, x60, true, rfl, H⟩
      · have H := H.2 g166
        refine W_skip ?_
        show W _ _ _ _ _ _ _ _
        refine W_seq ?_
        refine W_region (.pu 0 (.pu 1 (.pu 2 (.ef 3 [] .fin .no)))) rfl rfl ?_
        refine s_pu (d := some 35) (v := (.pointer s1)) rfl rfl rfl (r_move rfl) ?_
        refine s_pu (d := some 36) (v := (.int .i64 va2)) rfl rfl rfl (r_move rfl) ?_
        refine s_pu (d := some 37) (v := (.int .i64 n3)) rfl rfl rfl (r_move rfl) ?_
        refine s_ef (d := some 38) rfl rfl rfl (fun dr => r_call Tryd.call116 rfl rfl H) ?_ trivial
        rintro _ h4 ⟨rfl, H⟩
        refine ⟨trivial, ?_⟩
        refine s_fin ?_
        show W _ _ _ _ _ _ _ _
        refine W_seq ?_
        refine W_region (.pu 0 (.pu 1 (.pu 2 .fin))) rfl rfl ?_
        refine s_pu (d := some 39) (v := (.int .i64 n3)) rfl rfl rfl (r_move rfl) ?_
        refine s_pu (d := some 40) (v := (.int .i64 (w64 (Int.tdiv n3 2)))) rfl rfl rfl (r_quo rfl rfl (by decide)) ?_
        refine s_pu (d := some 12) (v := (.int .i64 (w64 (Int.tdiv n3 2)))) rfl rfl rfl (r_assign rfl) ?_
        refine s_fin ?_
        show W _ _ _ _ _ _ _ _
        refine W_seq ?_
        refine W_region (.pu 0 (.pu 1 (.pu 2 (.pu 3 (.pu 4 (.pu 5 (.pu 6 (.pu 7 (.pu 8 (.pu 9 (.ef 10 [] (.pu 11 (.pu 12 (.pu 13 (.ef 14 [] (.ef 15 [] (.pu 16 .fin) .no) .no)))) .no))))))))))) rfl rfl ?_
        refine s_pu (d := some 42) (v := (.pointer s1)) rfl rfl rfl (r_move rfl) ?_
        refine s_pu (d := some 43) (v := (.int .i64 va2)) rfl rfl rfl (r_move rfl) ?_
        refine s_pu (d := some 44) (v := (.int .i64 (w64 (2 * va2)))) rfl rfl rfl (r_mul rfl rfl) ?_
        refine s_pu (d := some 45) (v := (.int .i64 (w64 (Int.tdiv n3 2)))) rfl rfl rfl (r_move rfl) ?_
        refine s_pu (d := some 46) (v := (.int .i64 i4)) rfl rfl rfl (r_move rfl) ?_
        refine s_pu (d := some 47) (v := (.int .i64 (w64 (Int.tdiv n3 2)))) rfl rfl rfl (r_move rfl) ?_
        refine s_pu (d := some 48) (v := (.int .i64 (min i4 (w64 (Int.tdiv n3 2))))) rfl rfl rfl (r_min rfl rfl) ?_
        refine s_pu (d := some 49) (v := (.int .i64 j5)) rfl rfl rfl (r_move rfl) ?_
        refine s_pu (d := some 50) (v := (.int .i64 (w64 (Int.tdiv n3 2)))) rfl rfl rfl (r_move rfl) ?_
        refine s_pu (d := some 51) (v := (.int .i64 (min j5 (w64 (Int.tdiv n3 2))))) rfl rfl rfl (r_min rfl rfl) ?_
        refine s_ef (d := some 52) rfl rfl rfl (fun dr => r_call Tryd.call84 rfl rfl H) ?_ trivial
        rintro _ h5 ⟨y62, y63, y64, y65, y66, y67, y68, rfl, H⟩
        refine ⟨trivial, ?_⟩
        refine s_pu (d := some 41) (v := (.tuple #[(.agg #[(.int .i64 y62), (.int .i64 y63), (.int .i64 y64), (.bool y65), (.int .i64 y66), (.int .i64 y67)]), (.bool y68)])) rfl rfl rfl (r_move rfl) ?_
        refine s_pu (d := some 53) (v := (.agg #[(.int .i64 y62), (.int .i64 y63), (.int .i64 y64), (.bool y65), (.int .i64 y66), (.int .i64 y67)])) rfl rfl rfl (r_extract rfl rfl) ?_
        refine s_pu (d := some 54) (v := (.bool y68)) rfl rfl rfl (r_extract rfl rfl) ?_
        obtain ⟨p69, e70⟩ : ∃ p : Addr, p = ⟨h5.size, 0, none⟩ := ⟨_, rfl⟩
        obtain ⟨h6, e71⟩ : ∃ hh : Heap, hh = h5.push (.cells #[(.int .i64 0), (.int .i64 0), (.int .i64 0), (.bool false), (.int .i64 0), (.int .i64 0)] 117) := ⟨_, rfl⟩
        have H := H p69 h6 e70 e71
        refine s_ef1 (d := some 13) (v := (.pointer (some p69))) (h' := h6) rfl rfl rfl (fun dr => (r_alloc Tryd.zeroValue117).trans (by rw [e70, e71]; rfl)) trivial ?_ trivial
        obtain ⟨e73, H⟩ := H
        obtain ⟨h7, e72⟩ : ∃ hh : Heap, hh = hsets h6 p69 0 [(.int .i64 y62), (.int .i64 y63), (.int .i64 y64), (.bool y65), (.int .i64 y66), (.int .i64 y67)] := ⟨_, rfl⟩
        have H := H h7 e72
        refine s_st (d := none) (h' := h7) rfl rfl rfl (fun dr => (r_store (v := (.agg #[(.int .i64 y62), (.int .i64 y63), (.int .i64 y64), (.bool y65), (.int .i64 y66), (.int .i64 y67)])) Tryd.sizeOf117 rfl rfl rfl (one_all rfl) e73).trans (by rw [e72]; rfl)) trivial ?_ trivial
        refine s_pu (d := some 14) (v := (.bool y68)) rfl rfl rfl (r_assign rfl) ?_
        refine s_fin ?_
        show W _ _ _ _ _ _ _ _
        refine W_seq ?_
        refine W_region (.pu 0 (.pu 1 (.pu 2 (.pu 3 (.pu 4 (.pu 5 (.pu 6 (.pu 7 (.pu 8 (.pu 9 (.pu 10 (.pu 11 (.pu 12 (.pu 13 (.pu 14 (.pu 15 (.pu 16 (.ef 17 [] (.pu 18 (.pu 19 (.pu 20 (.ef 21 [] (.ef 22 [] (.pu 23 .fin) .no) .no)))) .no)))))))))))))))))) rfl rfl ?_
        refine s_pu (d := some 56) (v := (.pointer s1)) rfl rfl rfl (r_move rfl) ?_
        refine s_pu (d := some 57) (v := (.int .i64 va2)) rfl rfl rfl (r_move rfl) ?_
        refine s_pu (d := some 58) (v := (.int .i64 (w64 (2 * va2)))) rfl rfl rfl (r_mul rfl rfl) ?_
        refine s_pu (d := some 59) (v := (.int .i64 (w64 ((w64 (2 * va2)) + 1)))) rfl rfl rfl (r_add rfl rfl) ?_
        refine s_pu (d := some 60) (v := (.int .i64 n3)) rfl rfl rfl (r_move rfl) ?_
        refine s_pu (d := some 61) (v := (.int .i64 (w64 (Int.tdiv n3 2)))) rfl rfl rfl (r_move rfl) ?_
        refine s_pu (d := some 62) (v := (.int .i64 (w64 (n3 - (w64 (Int.tdiv n3 2)))))) rfl rfl rfl (r_sub rfl rfl) ?_
        refine s_pu (d := some 63) (v := (.int .i64 i4)) rfl rfl rfl (r_move rfl) ?_
        refine s_pu (d := some 64) (v := (.int .i64 (w64 (Int.tdiv n3 2)))) rfl rfl rfl (r_move rfl) ?_
        refine s_pu (d := some 65) (v := (.int .i64 (max i4 (w64 (Int.tdiv n3 2))))) rfl rfl rfl (r_max rfl rfl) ?_
        refine s_pu (d := some 66) (v := (.int .i64 (w64 (Int.tdiv n3 2)))) rfl rfl rfl (r_move rfl) ?_
        refine s_pu (d := some 67) (v := (.int .i64 (w64 ((max i4 (w64 (Int.tdiv n3 2))) - (w64 (Int.tdiv n3 2)))))) rfl rfl rfl (r_sub rfl rfl) ?_
        refine s_pu (d := some 68) (v := (.int .i64 j5)) rfl rfl rfl (r_move rfl) ?_
        refine s_pu (d := some 69) (v := (.int .i64 (w64 (Int.tdiv n3 2)))) rfl rfl rfl (r_move rfl) ?_
        refine s_pu (d := some 70) (v := (.int .i64 (max j5 (w64 (Int.tdiv n3 2))))) rfl rfl rfl (r_max rfl rfl) ?_
        refine s_pu (d := some 71) (v := (.int .i64 (w64 (Int.tdiv n3 2)))) rfl rfl rfl (r_move rfl) ?_
        refine s_pu (d := some 72) (v := (.int .i64 (w64 ((max j5 (w64 (Int.tdiv n3 2))) - (w64 (Int.tdiv n3 2)))))) rfl rfl rfl (r_sub rfl rfl) ?_
        refine s_ef (d := some 73) rfl rfl rfl (fun dr => r_call Tryd.call84 rfl rfl H) ?_ trivial
        rintro _ h8 ⟨y74, y75, y76, y77, y78, y79, y80, rfl, H⟩
        refine ⟨trivial, ?_⟩
        refine s_pu (d := some 55) (v := (.tuple #[(.agg #[(.int .i64 y74), (.int .i64 y75), (.int .i64 y76), (.bool y77), (.int .i64 y78), (.int .i64 y79)]), (.bool y80)])) rfl rfl rfl (r_move rfl) ?_
        refine s_pu (d := some 74) (v := (.agg #[(.int .i64 y74), (.int .i64 y75), (.int .i64 y76), (.bool y77), (.int .i64 y78), (.int .i64 y79)])) rfl rfl rfl (r_extract rfl rfl) ?_
        refine s_pu (d := some 75) (v := (.bool y80)) rfl rfl rfl (r_extract rfl rfl) ?_
        obtain ⟨p81, e82⟩ : ∃ p : Addr, p = ⟨h8.size, 0, none⟩ := ⟨_, rfl⟩
        obtain ⟨h9, e83⟩ : ∃ hh : Heap, hh = h8.push (.cells #[(.int .i64 0), (.int .i64 0), (.int .i64 0), (.bool false), (.int .i64 0), (.int .i64 0)] 117) := ⟨_, rfl⟩
        have H := H p81 h9 e82 e83
        refine s_ef1 (d := some 15) (v := (.pointer (some p81))) (h' := h9) rfl rfl rfl (fun dr => (r_alloc Tryd.zeroValue117).trans (by rw [e82, e83]; rfl)) trivial ?_ trivial
        obtain ⟨e85, H⟩ := H
        obtain ⟨h10, e84⟩ : ∃ hh : Heap, hh = hsets h9 p81 0 [(.int .i64 y74), (.int .i64 y75), (.int .i64 y76), (.bool y77), (.int .i64 y78), (.int .i64 y79)] := ⟨_, rfl⟩
        have H := H h10 e84
        refine s_st (d := none) (h' := h10) rfl rfl rfl (fun dr => (r_store (v := (.agg #[(.int .i64 y74), (.int .i64 y75), (.int .i64 y76), (.bool y77), (.int .i64 y78), (.int .i64 y79)])) Tryd.sizeOf117 rfl rfl rfl (one_all rfl) e85).trans (by rw [e84]; rfl)) trivial ?_ trivial
        refine s_pu (d := some 16) (v := (.bool y80)) rfl rfl rfl (r_assign rfl) ?_
        refine s_fin ?_
        show W _ _ _ _ _ _ _ _
        refine W_seq ?_
        refine W_block ?_
        refine W_seq ?_
        refine W_region (.pu 0 (.pu 1 (.pu 2 .fin))) rfl rfl ?_
        refine s_pu (d := some 77) (v := (.bool y68)) rfl rfl rfl (r_move rfl) ?_
        refine s_pu (d := some 78) (v := (.bool (!y68))) rfl rfl rfl (r_not rfl) ?_
        refine s_pu (d := some 76) (v := (.bool (!y68))) rfl rfl rfl (r_assign rfl) ?_
        refine s_fin ?_
        show W _ _ _ _ _ _ _ _
        refine W_if (!y68) rfl (fun g165 => ?_) (fun g165 => ?_)
        · have H := H.1 g165
          refine W_seq ?_
          refine W_region (.rl 0 (.pu 1 (.ef 2 [] (.pu 3 .fin) .no))) rfl rfl ?_
          obtain ⟨x86, e87, H⟩ := H
          obtain ⟨x88, e89, H⟩ := H
          obtain ⟨x90, e91, H⟩ := H
          obtain ⟨x92, e93, H⟩ := H
          obtain ⟨x94, e95, H⟩ := H
          obtain ⟨x96, e97, H⟩ := H
          refine s_rl (d := some 79) (v := (.agg #[(.int .i64 x86), (.int .i64 x88), (.int .i64 x90), (.bool x92), (.int .i64 x94), (.int .i64 x96)])) rfl rfl rfl (fun dr => r_loadN Tryd.isAgg117 Tryd.sizeOf117 (vs := [(.int .i64 x86), (.int .i64 x88), (.int .i64 x90), (.bool x92), (.int .i64 x94), (.int .i64 x96)]) rfl rfl ⟨e87, e89, e91, e93, e95, e97, trivial⟩) ?_
          refine s_pu (d := some 80) (v := (.bool y80)) rfl rfl rfl (r_move rfl) ?_
          obtain ⟨e99, H⟩ := H
          obtain ⟨h11, e98⟩ : ∃ hh : Heap, hh = hsets h10 p6 0 [(.int .i64 x86), (.int .i64 x88), (.int .i64 x90), (.bool x92), (.int .i64 x94), (.int .i64 x96)] := ⟨_, rfl⟩
          have H := H h11 e98
          refine s_st (d := none) (h' := h11) rfl rfl rfl (fun dr => (r_store (v := (.agg #[(.int .i64 x86), (.int .i64 x88), (.int .i64 x90), (.bool x92), (.int .i64 x94), (.int .i64 x96)])) Tryd.sizeOf117 rfl rfl rfl (one_all rfl) e99).trans (by rw [e98]; rfl)) trivial ?_ trivial
          refine s_pu (d := some 11) (v := (.bool y80)) rfl rfl rfl (r_assign rfl) ?_
          refine s_fin ?_
          show W _ _ _ _ _ _ _ _
          refine W_ret ?_
          obtain ⟨x100, e101, H⟩ := H
          obtain ⟨x102, e103, H⟩ := H
          obtain ⟨x104, e105, H⟩ := H
          obtain ⟨x106, e107, H⟩ := H
          obtain ⟨x108, e109, H⟩ := H
          obtain ⟨x110, e111, H⟩ := H
          exact ⟨[(.agg #[(.int .i64 x100), (.int .i64 x102), (.int .i64 x104), (.bool x106), (.int .i64 x108), (.int .i64 x110)]), (.bool y80)], ⟨_, _, _, rfl, rfl, fun dr => run_loadVarN Tryd.isAgg117 Tryd.sizeOf117 (vs := [(.int .i64 x100), (.int .i64 x102), (.int .i64 x104), (.bool x106), (.int .i64 x108), (.int .i64 x110)]) rfl ⟨e101, e103, e105, e107, e109, e111, trivial⟩, ⟨_, _, rfl, rfl, rfl⟩⟩, x100, x102, x104, x106, x108, x110, y80, rfl, H⟩
        · have H := H.2 g165
          refine W_seq ?_
          refine W_region (.pu 0 (.pu 1 (.pu 2 .fin))) rfl rfl ?_
          refine s_pu (d := some 82) (v := (.bool y80)) rfl rfl rfl (r_move rfl) ?_
          refine s_pu (d := some 83) (v := (.bool (!y80))) rfl rfl rfl (r_not rfl) ?_
          refine s_pu (d := some 81) (v := (.bool (!y80))) rfl rfl rfl (r_assign rfl) ?_
          refine s_fin ?_
          show W _ _ _ _ _ _ _ _
          refine W_if (!y80) rfl (fun g164 => ?_) (fun g164 => ?_)
          · have H := H.1 g164
            refine W_seq ?_
            refine W_region (.rl 0 (.ef 1 [] (.pu 2 .fin) .no)) rfl rfl ?_
            obtain ⟨x112, e113, H⟩ := H
            obtain ⟨x114, e115, H⟩ := H
            obtain ⟨x116, e117, H⟩ := H
            obtain ⟨x118, e119, H⟩ := H
            obtain ⟨x120, e121, H⟩ := H
            obtain ⟨x122, e123, H⟩ := H
            refine s_rl (d := some 84) (v := (.agg #[(.int .i64 x112), (.int .i64 x114), (.int .i64 x116), (.bool x118), (.int .i64 x120), (.int .i64 x122)])) rfl rfl rfl (fun dr => r_loadN Tryd.isAgg117 Tryd.sizeOf117 (vs := [(.int .i64 x112), (.int .i64 x114), (.int .i64 x116), (.bool x118), (.int .i64 x120), (.int .i64 x122)]) rfl rfl ⟨e113, e115, e117, e119, e121, e123, trivial⟩) ?_
            obtain ⟨e125, H⟩ := H
            obtain ⟨h12, e124⟩ : ∃ hh : Heap, hh = hsets h10 p6 0 [(.int .i64 x112), (.int .i64 x114), (.int .i64 x116), (.bool x118), (.int .i64 x120), (.int .i64 x122)] := ⟨_, rfl⟩
            have H := H h12 e124
            refine s_st (d := none) (h' := h12) rfl rfl rfl (fun dr => (r_store (v := (.agg #[(.int .i64 x112), (.int .i64 x114), (.int .i64 x116), (.bool x118), (.int .i64 x120), (.int .i64 x122)])) Tryd.sizeOf117 rfl rfl rfl (one_all rfl) e125).trans (by rw [e124]; rfl)) trivial ?_ trivial
            refine s_pu (d := some 11) (v := (.bool true)) rfl rfl rfl (r_assign rfl) ?_
            refine s_fin ?_
            show W _ _ _ _ _ _ _ _
            refine W_ret ?_
            obtain ⟨x126, e127, H⟩ := H
            obtain ⟨x128, e129, H⟩ := H
            obtain ⟨x130, e131, H⟩ := H
            obtain ⟨x132, e133, H⟩ := H
            obtain ⟨x134, e135, H⟩ := H
            obtain ⟨x136, e137, H⟩ := H
            exact ⟨[(.agg #[(.int .i64 x126), (.int .i64 x128), (.int .i64 x130), (.bool x132), (.int .i64 x134), (.int .i64 x136)]), (.bool true)], ⟨_, _, _, rfl, rfl, fun dr => run_loadVarN Tryd.isAgg117 Tryd.sizeOf117 (vs := [(.int .i64 x126), (.int .i64 x128), (.int .i64 x130), (.bool x132), (.int .i64 x134), (.int .i64 x136)]) rfl ⟨e127, e129, e131, e133, e135, e137, trivial⟩, ⟨_, _, rfl, rfl, rfl⟩⟩, x126, x128, x130, x132, x134, x136, true, rfl, H⟩
          · have H := H.2 g164
            refine W_skip ?_
            show W _ _ _ _ _ _ _ _
            refine W_seq ?_
            refine W_region (.pu 0 (.rl 1 (.pu 2 (.rl 3 (.pu 4 (.pu 5 (.rl 6 (.pu 7 (.rl 8 (.pu 9 (.pu 10 (.rl 11 (.pu 12 (.rl 13 (.pu 14 (.pu 15 (.ef 16 [] (.pu 17 .fin) .no))))))))))))))))) rfl rfl ?_
            refine s_pu (d := some 85) (v := (.pointer (some (Addr.add p69 0)))) rfl rfl rfl (r_fieldAddr Tryd.underlying117 Tryd.sizeOf3 rfl rfl rfl) ?_
            obtain ⟨x138, e139, H⟩ := H
            refine s_rl (d := some 86) (v := (.int .i64 x138)) rfl rfl rfl (fun dr => r_load1 Tryd.isAgg3 rfl e139) ?_
            refine s_pu (d := some 87) (v := (.pointer (some (Addr.add p81 0)))) rfl rfl rfl (r_fieldAddr Tryd.underlying117 Tryd.sizeOf3 rfl rfl rfl) ?_
            obtain ⟨x140, e141, H⟩ := H
            refine s_rl (d := some 88) (v := (.int .i64 x140)) rfl rfl rfl (fun dr => r_load1 Tryd.isAgg3 rfl e141) ?_
            refine s_pu (d := some 89) (v := (.int .i64 (w64 (x138 + x140)))) rfl rfl rfl (r_add rfl rfl) ?_
            refine s_pu (d := some 90) (v := (.pointer (some (Addr.add p69 1)))) rfl rfl rfl (r_fieldAddr Tryd.underlying117 Tryd.sizeOf3 rfl rfl rfl) ?_
            obtain ⟨x142, e143, H⟩ := H
            refine s_rl (d := some 91) (v := (.int .i64 x142)) rfl rfl rfl (fun dr => r_load1 Tryd.isAgg3 rfl e143) ?_
            refine s_pu (d := some 92) (v := (.pointer (some (Addr.add p81 1)))) rfl rfl rfl (r_fieldAddr Tryd.underlying117 Tryd.sizeOf3 rfl rfl rfl) ?_
            obtain ⟨x144, e145, H⟩ := H
            refine s_rl (d := some 93) (v := (.int .i64 x144)) rfl rfl rfl (fun dr => r_load1 Tryd.isAgg3 rfl e145) ?_
            refine s_pu (d := some 94) (v := (.int .i64 (min x142 x144))) rfl rfl rfl (r_min rfl rfl) ?_
            refine s_pu (d := some 95) (v := (.pointer (some (Addr.add p69 2)))) rfl rfl rfl (r_fieldAddr Tryd.underlying117 Tryd.sizeOf3 rfl rfl rfl) ?_
            obtain ⟨x146, e147, H⟩ := H
            refine s_rl (d := some 96) (v := (.int .i64 x146)) rfl rfl rfl (fun dr => r_load1 Tryd.isAgg3 rfl e147) ?_
            refine s_pu (d := some 97) (v := (.pointer (some (Addr.add p81 2)))) rfl rfl rfl (r_fieldAddr Tryd.underlying117 Tryd.sizeOf3 rfl rfl rfl) ?_
            obtain ⟨x148, e149, H⟩ := H
            refine s_rl (d := some 98) (v := (.int .i64 x148)) rfl rfl rfl (fun dr => r_load1 Tryd.isAgg3 rfl e149) ?_
            refine s_pu (d := some 99) (v := (.int .i64 (max x146 x148))) rfl rfl rfl (r_max rfl rfl) ?_
            refine s_pu (d := some 100) (v := (.agg #[(.int .i64 (w64 (x138 + x140))), (.int .i64 (min x142 x144)), (.int .i64 (max x146 x148)), (.bool false), (.int .i64 0), (.int .i64 0)])) rfl rfl rfl (fun w => by kernel_rfl) ?_
            obtain ⟨e151, H⟩ := H
            obtain ⟨h13, e150⟩ : ∃ hh : Heap, hh = hsets h10 p6 0 [(.int .i64 (w64 (x138 + x140))), (.int .i64 (min x142 x144)), (.int .i64 (max x146 x148)), (.bool false), (.int .i64 0), (.int .i64 0)] := ⟨_, rfl⟩
            have H := H h13 e150
            refine s_st (d := none) (h' := h13) rfl rfl rfl (fun dr => (r_store (v := (.agg #[(.int .i64 (w64 (x138 + x140))), (.int .i64 (min x142 x144)), (.int .i64 (max x146 x148)), (.bool false), (.int .i64 0), (.int .i64 0)])) Tryd.sizeOf117 rfl rfl rfl (one_all rfl) e151).trans (by rw [e150]; rfl)) trivial ?_ trivial
            refine s_pu (d := some 11) (v := (.bool true)) rfl rfl rfl (r_assign rfl) ?_
            refine s_fin ?_
            show W _ _ _ _ _ _ _ _
            refine W_ret ?_
            obtain ⟨x152, e153, H⟩ := H
            obtain ⟨x154, e155, H⟩ := H
            obtain ⟨x156, e157, H⟩ := H
            obtain ⟨x158, e159, H⟩ := H
            obtain ⟨x160, e161, H⟩ := H
            obtain ⟨x162, e163, H⟩ := H
            exact ⟨[(.agg #[(.int .i64 x152), (.int .i64 x154), (.int .i64 x156), (.bool x158), (.int .i64 x160), (.int .i64 x162)]), (.bool true)], ⟨_, _, _, rfl, rfl, fun dr => run_loadVarN Tryd.isAgg117 Tryd.sizeOf117 (vs := [(.int .i64 x152), (.int .i64 x154), (.int .i64 x156), (.bool x158), (.int .i64 x160), (.int .i64 x162)]) rfl ⟨e153, e155, e157, e159, e161, e163, trivial⟩, ⟨_, _, rfl, rfl, rfl⟩⟩, x152, x154, x156, x158, x160, x162, true, rfl, H⟩
    · rcases Bool.eq_false_or_eq_true (decide (i4 = 0)) with g23 | g23
      · refine s_pu (d := some 24) (v := (.int .i64 j5)) rfl rfl (wants_yes rfl rfl rfl rfl g23) (r_move rfl) ?_
        refine s_pu (d := some 25) (v := (.int .i64 n3)) rfl rfl (wants_yes rfl rfl rfl rfl g23) (r_move rfl) ?_
        refine s_pu (d := some 26) (v := (.bool (decide (j5 = n3)))) rfl rfl (wants_yes rfl rfl rfl rfl g23) (r_eql rfl rfl) ?_
        refine s_pu (d := some 27) (v := (.bool (decide (j5 = n3)))) rfl rfl rfl (r_pick1 rfl g23 rfl) ?_
        exact S_mk (l := [(0, (.pointer s1)), (1, (.int .i64 va2)), (2, (.int .i64 n3)), (3, (.int .i64 i4)), (4, (.int .i64 j5)), (10, (.pointer (some p6))), (27, (.bool ((decide (i4 = 0)) && (decide (j5 = n3)))))]) HJ ⟨rfl, rfl, rfl, rfl, rfl, rfl, (by rw [g23]; rfl), trivial⟩
      · refine s_sk (d := some 24) rfl rfl (wants_no rfl rfl rfl rfl g23) ?_
        refine s_sk (d := some 25) rfl rfl (wants_no rfl rfl rfl rfl g23) ?_
        refine s_sk (d := some 26) rfl rfl (wants_no rfl rfl rfl rfl g23) ?_
        refine s_pu (d := some 27) (v := (.bool false)) rfl rfl rfl (r_pick0 rfl g23 rfl) ?_
        exact S_mk (l := [(0, (.pointer s1)), (1, (.int .i64 va2)), (2, (.int .i64 n3)), (3, (.int .i64 i4)), (4, (.int .i64 j5)), (10, (.pointer (some p6))), (27, (.bool ((decide (i4 = 0)) && (decide (j5 = n3)))))]) HJ ⟨rfl, rfl, rfl, rfl, rfl, rfl, (by rw [g23]; rfl), trivial⟩

/-! ### seg_Seg_some -/

def seg_Seg_some_F (r : World) (s1 : Option Addr) (i2 : Int) (j3 : Int) (h : Heap) (R : Int → Int → Int → Bool → Int → Int → Value → Heap → Prop) : Prop :=
  New h (.cells #[(.int .i64 0), (.int .i64 0), (.int .i64 0), (.bool false), (.int .i64 0), (.int .i64 0)] 117) fun p4 h1 =>
  seg_Seg_within r s1 i2 j3 h1 fun y7 h2 =>
  (isIface y7 = true) ∧
  Br (!(isNil y7)) (
    St h2 p4 6 [(.int .i64 0), (.int .i64 0), (.int .i64 0), (.bool false), (.int .i64 0), (.int .i64 0)] fun h3 =>
    LdI h3 (Addr.add p4 0) fun x11 =>
    LdI h3 (Addr.add p4 1) fun x13 =>
    LdI h3 (Addr.add p4 2) fun x15 =>
    LdB h3 (Addr.add p4 3) fun x17 =>
    LdI h3 (Addr.add p4 4) fun x19 =>
    LdI h3 (Addr.add p4 5) fun x21 =>
    R x11 x13 x15 x17 x19 x21 y7 h3) (
    Ck s1 fun p23 =>
    LdI h2 (Addr.add p23 0) fun x25 =>
    seg_Seg_told r s1 1 x25 i2 j3 h2 fun y27 y28 y29 y30 y31 y32 y33 h4 =>
    New h4 (.cells #[(.int .i64 0), (.int .i64 0), (.int .i64 0), (.bool false), (.int .i64 0), (.int .i64 0)] 117) fun p34 h5 =>
    St h5 p34 6 [(.int .i64 y27), (.int .i64 y28), (.int .i64 y29), (.bool y30), (.int .i64 y31), (.int .i64 y32)] fun h6 =>
    Br (!y33) (
      St h6 p4 6 [(.int .i64 0), (.int .i64 0), (.int .i64 0), (.bool false), (.int .i64 0), (.int .i64 0)] fun h7 =>
      LdI h7 (Addr.add p4 0) fun x41 =>
      LdI h7 (Addr.add p4 1) fun x43 =>
      LdI h7 (Addr.add p4 2) fun x45 =>
      LdB h7 (Addr.add p4 3) fun x47 =>
      LdI h7 (Addr.add p4 4) fun x49 =>
      LdI h7 (Addr.add p4 5) fun x51 =>
      R x41 x43 x45 x47 x49 x51 ((.iface 29 (.int .i64 2))) h7) (
      LdI h6 (Addr.add p34 0) fun x53 =>
      LdI h6 (Addr.add p34 1) fun x55 =>
      LdI h6 (Addr.add p34 2) fun x57 =>
      LdB h6 (Addr.add p34 3) fun x59 =>
      LdI h6 (Addr.add p34 4) fun x61 =>
      LdI h6 (Addr.add p34 5) fun x63 =>
      St h6 p4 6 [(.int .i64 x53), (.int .i64 x55), (.int .i64 x57), (.bool x59), (.int .i64 x61), (.int .i64 x63)] fun h8 =>
      LdI h8 (Addr.add p4 0) fun x67 =>
      LdI h8 (Addr.add p4 1) fun x69 =>
      LdI h8 (Addr.add p4 2) fun x71 =>
      LdB h8 (Addr.add p4 3) fun x73 =>
      LdI h8 (Addr.add p4 4) fun x75 =>
      LdI h8 (Addr.add p4 5) fun x77 =>
      R x67 x69 x71 x73 x75 x77 .nilIface h8))

set_option maxRecDepth 100000 in
theorem seg_Seg_some_of {r : World} {s1 : Option Addr} {i2 : Int} {j3 : Int} {h : Heap} {R : Int → Int → Int → Bool → Int → Int → Value → Heap → Prop} (H : seg_Seg_some_F r s1 i2 j3 h R) : seg_Seg_some r s1 i2 j3 h R := by
  unfold seg_Seg_some_F at H
  refine calls_of 35 [.cell 6 117, .tmp 7] Tryd.func85 rfl rfl rfl rfl rfl ?_
  refine W_seq ?_
  refine W_region (.ef 0 [] (.pu 1 .fin) .no) rfl rfl ?_
  obtain ⟨p4, e5⟩ : ∃ p : Addr, p = ⟨h.size, 0, none⟩ := ⟨_, rfl⟩
  obtain ⟨h1, e6⟩ : ∃ hh : Heap, hh = h.push (.cells #[(.int .i64 0), (.int .i64 0), (.int .i64 0), (.bool false), (.int .i64 0), (.int .i64 0)] 117) := ⟨_, rfl⟩
  have H := H p4 h1 e5 e6
  refine s_ef1 (d := some 6) (v := (.pointer (some p4))) (h' := h1) rfl rfl rfl (fun dr => (r_alloc Tryd.zeroValue117).trans (by rw [e5, e6]; rfl)) trivial ?_ trivial
  refine s_pu (d := some 7) (v := .nilIface) rfl rfl rfl (r_assign rfl) ?_
  refine s_fin ?_
  show W _ _ _ _ _ _ _ _
  refine W_seq ?_
  refine W_seq ?_
  refine W_region (.pu 0 (.pu 1 (.pu 2 (.ef 3 [] (.pu 4 .fin) .no)))) rfl rfl ?_
  refine s_pu (d := some 11) (v := (.pointer s1)) rfl rfl rfl (r_move rfl) ?_
  refine s_pu (d := some 12) (v := (.int .i64 i2)) rfl rfl rfl (r_move rfl) ?_
  refine s_pu (d := some 13) (v := (.int .i64 j3)) rfl rfl rfl (r_move rfl) ?_
  refine s_ef (d := some 14) rfl rfl rfl (fun dr => r_call Tryd.call82 rfl rfl H) ?_ trivial
  rintro y7 h2 H
  refine ⟨trivial, ?_⟩
  refine s_pu (d := some 8) (v := y7) rfl rfl rfl (r_assign rfl) ?_
  refine s_fin ?_
  show W _ _ _ _ _ _ _ _
  refine W_seq ?_
  refine W_region (.pu 0 (.pu 1 .fin)) rfl rfl ?_
  refine s_pu (d := some 15) (v := y7) rfl rfl rfl (r_move rfl) ?_
  obtain ⟨e8, H⟩ := H
  refine s_pu (d := some 16) (v := (.bool (!(isNil y7)))) rfl rfl rfl (r_notNilI Tryd.underlying26 rfl e8 rfl) ?_
  refine s_fin ?_
  show W _ _ _ _ _ _ _ _
  refine W_if (!(isNil y7)) rfl (fun g80 => ?_) (fun g80 => ?_)
  · have H := H.1 g80
    refine W_seq ?_
    refine W_region (.pu 0 (.pu 1 (.ef 2 [] (.pu 3 .fin) .no))) rfl rfl ?_
    refine s_pu (d := some 17) (v := (.agg #[(.int .i64 0), (.int .i64 0), (.int .i64 0), (.bool false), (.int .i64 0), (.int .i64 0)])) rfl rfl rfl (fun w => by kernel_rfl) ?_
    refine s_pu (d := some 18) (v := y7) rfl rfl rfl (r_move rfl) ?_
    obtain ⟨e10, H⟩ := H
    obtain ⟨h3, e9⟩ : ∃ hh : Heap, hh = hsets h2 p4 0 [(.int .i64 0), (.int .i64 0), (.int .i64 0), (.bool false), (.int .i64 0), (.int .i64 0)] := ⟨_, rfl⟩
    have H := H h3 e9
    refine s_st (d := none) (h' := h3) rfl rfl rfl (fun dr => (r_store (v := (.agg #[(.int .i64 0), (.int .i64 0), (.int .i64 0), (.bool false), (.int .i64 0), (.int .i64 0)])) Tryd.sizeOf117 rfl rfl rfl (one_all rfl) e10).trans (by rw [e9]; rfl)) trivial ?_ trivial
    refine s_pu (d := some 7) (v := y7) rfl rfl rfl (r_assign rfl) ?_
    refine s_fin ?_
    show W _ _ _ _ _ _ _ _
    refine W_ret ?_
    obtain ⟨x11, e12, H⟩ := H
    obtain ⟨x13, e14, H⟩ := H
    obtain ⟨x15, e16, H⟩ := H
    obtain ⟨x17, e18, H⟩ := H
    obtain ⟨x19, e20, H⟩ := H
    obtain ⟨x21, e22, H⟩ := H
    exact ⟨[(.agg #[(.int .i64 x11), (.int .i64 x13), (.int .i64 x15), (.bool x17), (.int .i64 x19), (.int .i64 x21)]), y7], ⟨_, _, _, rfl, rfl, fun dr => run_loadVarN Tryd.isAgg117 Tryd.sizeOf117 (vs := [(.int .i64 x11), (.int .i64 x13), (.int .i64 x15), (.bool x17), (.int .i64 x19), (.int .i64 x21)]) rfl ⟨e12, e14, e16, e18, e20, e22, trivial⟩, ⟨_, _, rfl, rfl, rfl⟩⟩, x11, x13, x15, x17, x19, x21, y7, rfl, H⟩
  · have H := H.2 g80
    refine W_skip ?_
    show W _ _ _ _ _ _ _ _
    refine W_seq ?_
    refine W_region (.pu 0 (.pu 1 (.pu 2 (.pu 3 (.rl 4 (.pu 5 (.pu 6 (.ef 7 [] (.pu 8 (.pu 9 (.pu 10 (.ef 11 [] (.ef 12 [] (.pu 13 .fin) .no) .no)))) .no)))))))) rfl rfl ?_
    refine s_pu (d := some 20) (v := (.pointer s1)) rfl rfl rfl (r_move rfl) ?_
    refine s_pu (d := some 21) (v := (.pointer s1)) rfl rfl rfl (r_move rfl) ?_
    obtain ⟨p23, e24, H⟩ := H
    refine s_pu (d := some 22) (v := (.pointer (some p23))) rfl rfl rfl (r_nilCheck rfl e24) ?_
    refine s_pu (d := some 23) (v := (.pointer (some (Addr.add p23 0)))) rfl rfl rfl (r_fieldAddr Tryd.underlying113 Tryd.sizeOf3 rfl rfl rfl) ?_
    obtain ⟨x25, e26, H⟩ := H
    refine s_rl (d := some 24) (v := (.int .i64 x25)) rfl rfl rfl (fun dr => r_load1 Tryd.isAgg3 rfl e26) ?_
    refine s_pu (d := some 25) (v := (.int .i64 i2)) rfl rfl rfl (r_move rfl) ?_
    refine s_pu (d := some 26) (v := (.int .i64 j3)) rfl rfl rfl (r_move rfl) ?_
    refine s_ef (d := some 27) rfl rfl rfl (fun dr => r_call Tryd.call84 rfl rfl H) ?_ trivial
    rintro _ h4 ⟨y27, y28, y29, y30, y31, y32, y33, rfl, H⟩
    refine ⟨trivial, ?_⟩
    refine s_pu (d := some 19) (v := (.tuple #[(.agg #[(.int .i64 y27), (.int .i64 y28), (.int .i64 y29), (.bool y30), (.int .i64 y31), (.int .i64 y32)]), (.bool y33)])) rfl rfl rfl (r_move rfl) ?_
    refine s_pu (d := some 28) (v := (.agg #[(.int .i64 y27), (.int .i64 y28), (.int .i64 y29), (.bool y30), (.int .i64 y31), (.int .i64 y32)])) rfl rfl rfl (r_extract rfl rfl) ?_
    refine s_pu (d := some 29) (v := (.bool y33)) rfl rfl rfl (r_extract rfl rfl) ?_
    obtain ⟨p34, e35⟩ : ∃ p : Addr, p = ⟨h4.size, 0, none⟩ := ⟨_, rfl⟩
    obtain ⟨h5, e36⟩ : ∃ hh : Heap, hh = h4.push (.cells #[(.int .i64 0), (.int .i64 0), (.int .i64 0), (.bool false), (.int .i64 0), (.int .i64 0)] 117) := ⟨_, rfl⟩
    have H := H p34 h5 e35 e36
    refine s_ef1 (d := some 9) (v := (.pointer (some p34))) (h' := h5) rfl rfl rfl (fun dr => (r_alloc Tryd.zeroValue117).trans (by rw [e35, e36]; rfl)) trivial ?_ trivial
    obtain ⟨e38, H⟩ := H
    obtain ⟨h6, e37⟩ : ∃ hh : Heap, hh = hsets h5 p34 0 [(.int .i64 y27), (.int .i64 y28), (.int .i64 y29), (.bool y30), (.int .i64 y31), (.int .i64 y32)] := ⟨_, rfl⟩
    have H := H h6 e37
    refine s_st (d := none) (h' := h6) rfl rfl rfl (fun dr => (r_store (v := (.agg #[(.int .i64 y27), (.int .i64 y28), (.int .i64 y29), (.bool y30), (.int .i64 y31), (.int .i64 y32)])) Tryd.sizeOf117 rfl rfl rfl (one_all rfl) e38).trans (by rw [e37]; rfl)) trivial ?_ trivial
    refine s_pu (d := some 10) (v := (.bool y33)) rfl rfl rfl (r_assign rfl) ?_
    refine s_fin ?_
    show W _ _ _ _ _ _ _ _
    refine W_seq ?_
    refine W_seq ?_
    refine W_region (.pu 0 (.pu 1 .fin)) rfl rfl ?_
    refine s_pu (d := some 30) (v := (.bool y33)) rfl rfl rfl (r_move rfl) ?_
    refine s_pu (d := some 31) (v := (.bool (!y33))) rfl rfl rfl (r_not rfl) ?_
    refine s_fin ?_
    show W _ _ _ _ _ _ _ _
    refine W_if (!y33) rfl (fun g79 => ?_) (fun g79 => ?_)
    · have H := H.1 g79
      refine W_seq ?_
      refine W_region (.pu 0 (.pu 1 (.ef 2 [] (.pu 3 .fin) .no))) rfl rfl ?_
      refine s_pu (d := some 32) (v := (.agg #[(.int .i64 0), (.int .i64 0), (.int .i64 0), (.bool false), (.int .i64 0), (.int .i64 0)])) rfl rfl rfl (fun w => by kernel_rfl) ?_
      refine s_pu (d := some 33) (v := ((.iface 29 (.int .i64 2)))) rfl rfl rfl (r_iface Tryd.underlying29 rfl rfl) ?_
      obtain ⟨e40, H⟩ := H
      obtain ⟨h7, e39⟩ : ∃ hh : Heap, hh = hsets h6 p4 0 [(.int .i64 0), (.int .i64 0), (.int .i64 0), (.bool false), (.int .i64 0), (.int .i64 0)] := ⟨_, rfl⟩
      have H := H h7 e39
      refine s_st (d := none) (h' := h7) rfl rfl rfl (fun dr => (r_store (v := (.agg #[(.int .i64 0), (.int .i64 0), (.int .i64 0), (.bool false), (.int .i64 0), (.int .i64 0)])) Tryd.sizeOf117 rfl rfl rfl (one_all rfl) e40).trans (by rw [e39]; rfl)) trivial ?_ trivial
      refine s_pu (d := some 7) (v := ((.iface 29 (.int .i64 2)))) rfl rfl rfl (r_assign rfl) ?_
      refine s_fin ?_
      show W _ _ _ _ _ _ _ _
      refine W_ret ?_
      obtain ⟨x41, e42, H⟩ := H
      obtain ⟨x43, e44, H⟩ := H
      obtain ⟨x45, e46, H⟩ := H
      obtain ⟨x47, e48, H⟩ := H
      obtain ⟨x49, e50, H⟩ := H
      obtain ⟨x51, e52, H⟩ := H
      exact ⟨[(.agg #[(.int .i64 x41), (.int .i64 x43), (.int .i64 x45), (.bool x47), (.int .i64 x49), (.int .i64 x51)]), ((.iface 29 (.int .i64 2)))], ⟨_, _, _, rfl, rfl, fun dr => run_loadVarN Tryd.isAgg117 Tryd.sizeOf117 (vs := [(.int .i64 x41), (.int .i64 x43), (.int .i64 x45), (.bool x47), (.int .i64 x49), (.int .i64 x51)]) rfl ⟨e42, e44, e46, e48, e50, e52, trivial⟩, ⟨_, _, rfl, rfl, rfl⟩⟩, x41, x43, x45, x47, x49, x51, ((.iface 29 (.int .i64 2))), rfl, H⟩
    · have H := H.2 g79
      refine W_skip ?_
      show W _ _ _ _ _ _ _ _
      refine W_seq ?_
      refine W_region (.rl 0 (.ef 1 [] (.pu 2 .fin) .no)) rfl rfl ?_
      obtain ⟨x53, e54, H⟩ := H
      obtain ⟨x55, e56, H⟩ := H
      obtain ⟨x57, e58, H⟩ := H
      obtain ⟨x59, e60, H⟩ := H
      obtain ⟨x61, e62, H⟩ := H
      obtain ⟨x63, e64, H⟩ := H
      refine s_rl (d := some 34) (v := (.agg #[(.int .i64 x53), (.int .i64 x55), (.int .i64 x57), (.bool x59), (.int .i64 x61), (.int .i64 x63)])) rfl rfl rfl (fun dr => r_loadN Tryd.isAgg117 Tryd.sizeOf117 (vs := [(.int .i64 x53), (.int .i64 x55), (.int .i64 x57), (.bool x59), (.int .i64 x61), (.int .i64 x63)]) rfl rfl ⟨e54, e56, e58, e60, e62, e64, trivial⟩) ?_
      obtain ⟨e66, H⟩ := H
      obtain ⟨h8, e65⟩ : ∃ hh : Heap, hh = hsets h6 p4 0 [(.int .i64 x53), (.int .i64 x55), (.int .i64 x57), (.bool x59), (.int .i64 x61), (.int .i64 x63)] := ⟨_, rfl⟩
      have H := H h8 e65
      refine s_st (d := none) (h' := h8) rfl rfl rfl (fun dr => (r_store (v := (.agg #[(.int .i64 x53), (.int .i64 x55), (.int .i64 x57), (.bool x59), (.int .i64 x61), (.int .i64 x63)])) Tryd.sizeOf117 rfl rfl rfl (one_all rfl) e66).trans (by rw [e65]; rfl)) trivial ?_ trivial
      refine s_pu (d := some 7) (v := .nilIface) rfl rfl rfl (r_assign rfl) ?_
      refine s_fin ?_
      show W _ _ _ _ _ _ _ _
      refine W_ret ?_
      obtain ⟨x67, e68, H⟩ := H
      obtain ⟨x69, e70, H⟩ := H
      obtain ⟨x71, e72, H⟩ := H
      obtain ⟨x73, e74, H⟩ := H
      obtain ⟨x75, e76, H⟩ := H
      obtain ⟨x77, e78, H⟩ := H
      exact ⟨[(.agg #[(.int .i64 x67), (.int .i64 x69), (.int .i64 x71), (.bool x73), (.int .i64 x75), (.int .i64 x77)]), .nilIface], ⟨_, _, _, rfl, rfl, fun dr => run_loadVarN Tryd.isAgg117 Tryd.sizeOf117 (vs := [(.int .i64 x67), (.int .i64 x69), (.int .i64 x71), (.bool x73), (.int .i64 x75), (.int .i64 x77)]) rfl ⟨e68, e70, e72, e74, e76, e78, trivial⟩, ⟨_, _, rfl, rfl, rfl⟩⟩, x67, x69, x71, x73, x75, x77, .nilIface, rfl, H⟩

/-! ### seg_Seg_pull -/

def seg_Seg_pull_F (r : World) (s1 : Option Addr) (va2 : Int) (h : Heap) (R : Heap → Prop) : Prop :=
  ∀ J5 : Addr → Addr → Heap → Prop, (∀ (p3 : Addr) (p4 : Addr) (h1 : Heap),
    (Ck s1 fun p7 =>
    LdS h1 (Addr.add p7 1) fun x9 =>
    Ix x9 va2 6 fun q15 =>
    LdI h1 (Addr.add p3 0) fun x17 =>
    LdI h1 (Addr.add p4 0) fun x19 =>
    LdI h1 (Addr.add p3 1) fun x21 =>
    LdI h1 (Addr.add p4 1) fun x23 =>
    LdI h1 (Addr.add p3 2) fun x25 =>
    LdI h1 (Addr.add p4 2) fun x27 =>
    St h1 (Addr.add q15 0) 1 [(.int .i64 (w64 (x17 + x19)))] fun h2 =>
    (hcell h2 (Addr.add p4 2) = some (.int .i64 x27)) ∧
    (hcell h2 (Addr.add p3 2) = some (.int .i64 x25)) ∧
    (hcell h2 (Addr.add p4 1) = some (.int .i64 x23)) ∧
    (hcell h2 (Addr.add p3 1) = some (.int .i64 x21)) ∧
    St h2 (Addr.add q15 1) 1 [(.int .i64 (min x21 x23))] fun h3 =>
    (hcell h3 (Addr.add p4 2) = some (.int .i64 x27)) ∧
    (hcell h3 (Addr.add p3 2) = some (.int .i64 x25)) ∧
    St h3 (Addr.add q15 2) 1 [(.int .i64 (max x25 x27))] fun h4 =>
    R h4) →
    J5 p3 p4 h1) →
  Ck s1 fun p41 =>
  LdS h (Addr.add p41 1) fun x43 =>
  Ix x43 (w64 (2 * va2)) 6 fun q49 =>
  LdI h (Addr.add q49 0) fun x51 =>
  LdI h (Addr.add q49 1) fun x53 =>
  LdI h (Addr.add q49 2) fun x55 =>
  LdB h (Addr.add q49 3) fun x57 =>
  LdI h (Addr.add q49 4) fun x59 =>
  LdI h (Addr.add q49 5) fun x61 =>
  Ck s1 fun p63 =>
  LdS h (Addr.add p63 1) fun x65 =>
  Ix x65 (w64 ((w64 (2 * va2)) + 1)) 6 fun q71 =>
  LdI h (Addr.add q71 0) fun x73 =>
  LdI h (Addr.add q71 1) fun x75 =>
  LdI h (Addr.add q71 2) fun x77 =>
  LdB h (Addr.add q71 3) fun x79 =>
  LdI h (Addr.add q71 4) fun x81 =>
  LdI h (Addr.add q71 5) fun x83 =>
  (New h (.cells #[(.int .i64 0), (.int .i64 0), (.int .i64 0), (.bool false), (.int .i64 0), (.int .i64 0)] 117) fun p85 h5 =>
  (hcell h5 (Addr.add q71 0) = some (.int .i64 x73)) ∧
  (hcell h5 (Addr.add q71 1) = some (.int .i64 x75)) ∧
  (hcell h5 (Addr.add q71 2) = some (.int .i64 x77)) ∧
  (hcell h5 (Addr.add q71 3) = some (.bool x79)) ∧
  (hcell h5 (Addr.add q71 4) = some (.int .i64 x81)) ∧
  (hcell h5 (Addr.add q71 5) = some (.int .i64 x83)) ∧
  (hcell h5 (Addr.add p63 1) = some (Sl.v x65)) ∧
  (hcell h5 (Addr.add q49 0) = some (.int .i64 x51)) ∧
  (hcell h5 (Addr.add q49 1) = some (.int .i64 x53)) ∧
  (hcell h5 (Addr.add q49 2) = some (.int .i64 x55)) ∧
  (hcell h5 (Addr.add q49 3) = some (.bool x57)) ∧
  (hcell h5 (Addr.add q49 4) = some (.int .i64 x59)) ∧
  (hcell h5 (Addr.add q49 5) = some (.int .i64 x61)) ∧
  (hcell h5 (Addr.add p41 1) = some (Sl.v x43)) ∧
  New h5 (.cells #[(.int .i64 0), (.int .i64 0), (.int .i64 0), (.bool false), (.int .i64 0), (.int .i64 0)] 117) fun p102 h6 =>
  (hcell h6 (Addr.add q71 0) = some (.int .i64 x73)) ∧
  (hcell h6 (Addr.add q71 1) = some (.int .i64 x75)) ∧
  (hcell h6 (Addr.add q71 2) = some (.int .i64 x77)) ∧
  (hcell h6 (Addr.add q71 3) = some (.bool x79)) ∧
  (hcell h6 (Addr.add q71 4) = some (.int .i64 x81)) ∧
  (hcell h6 (Addr.add q71 5) = some (.int .i64 x83)) ∧
  (hcell h6 (Addr.add p63 1) = some (Sl.v x65)) ∧
  (hcell h6 (Addr.add q49 0) = some (.int .i64 x51)) ∧
  (hcell h6 (Addr.add q49 1) = some (.int .i64 x53)) ∧
  (hcell h6 (Addr.add q49 2) = some (.int .i64 x55)) ∧
  (hcell h6 (Addr.add q49 3) = some (.bool x57)) ∧
  (hcell h6 (Addr.add q49 4) = some (.int .i64 x59)) ∧
  (hcell h6 (Addr.add q49 5) = some (.int .i64 x61)) ∧
  (hcell h6 (Addr.add p41 1) = some (Sl.v x43)) ∧
  St h6 p85 6 [(.int .i64 x51), (.int .i64 x53), (.int .i64 x55), (.bool x57), (.int .i64 x59), (.int .i64 x61)] fun h7 =>
  (hcell h7 (Addr.add q71 0) = some (.int .i64 x73)) ∧
  (hcell h7 (Addr.add q71 1) = some (.int .i64 x75)) ∧
  (hcell h7 (Addr.add q71 2) = some (.int .i64 x77)) ∧
  (hcell h7 (Addr.add q71 3) = some (.bool x79)) ∧
  (hcell h7 (Addr.add q71 4) = some (.int .i64 x81)) ∧
  (hcell h7 (Addr.add q71 5) = some (.int .i64 x83)) ∧
  (hcell h7 (Addr.add p63 1) = some (Sl.v x65)) ∧
  St h7 p102 6 [(.int .i64 x73), (.int .i64 x75), (.int .i64 x77), (.bool x79), (.int .i64 x81), (.int .i64 x83)] fun h8 =>
  J5 p85 p102 h8) ∧
  (New h (.cells #[(.int .i64 0), (.int .i64 0), (.int .i64 0), (.bool false), (.int .i64 0), (.int .i64 0)] 117) fun p130 h9 =>
  (hcell h9 (Addr.add q71 0) = some (.int .i64 x73)) ∧
  (hcell h9 (Addr.add q71 1) = some (.int .i64 x75)) ∧
  (hcell h9 (Addr.add q71 2) = some (.int .i64 x77)) ∧
  (hcell h9 (Addr.add q71 3) = some (.bool x79)) ∧
  (hcell h9 (Addr.add q71 4) = some (.int .i64 x81)) ∧
  (hcell h9 (Addr.add q71 5) = some (.int .i64 x83)) ∧
  (hcell h9 (Addr.add p63 1) = some (Sl.v x65)) ∧
  (hcell h9 (Addr.add q49 0) = some (.int .i64 x51)) ∧
  (hcell h9 (Addr.add q49 1) = some (.int .i64 x53)) ∧
  (hcell h9 (Addr.add q49 2) = some (.int .i64 x55)) ∧
  (hcell h9 (Addr.add q49 3) = some (.bool x57)) ∧
  (hcell h9 (Addr.add q49 4) = some (.int .i64 x59)) ∧
  (hcell h9 (Addr.add q49 5) = some (.int .i64 x61)) ∧
  (hcell h9 (Addr.add p41 1) = some (Sl.v x43)) ∧
  New h9 (.cells #[(.int .i64 0), (.int .i64 0), (.int .i64 0), (.bool false), (.int .i64 0), (.int .i64 0)] 117) fun p147 h10 =>
  (hcell h10 (Addr.add q71 0) = some (.int .i64 x73)) ∧
  (hcell h10 (Addr.add q71 1) = some (.int .i64 x75)) ∧
  (hcell h10 (Addr.add q71 2) = some (.int .i64 x77)) ∧
  (hcell h10 (Addr.add q71 3) = some (.bool x79)) ∧
  (hcell h10 (Addr.add q71 4) = some (.int .i64 x81)) ∧
  (hcell h10 (Addr.add q71 5) = some (.int .i64 x83)) ∧
  (hcell h10 (Addr.add p63 1) = some (Sl.v x65)) ∧
  (hcell h10 (Addr.add q49 0) = some (.int .i64 x51)) ∧
  (hcell h10 (Addr.add q49 1) = some (.int .i64 x53)) ∧
  (hcell h10 (Addr.add q49 2) = some (.int .i64 x55)) ∧
  (hcell h10 (Addr.add q49 3) = some (.bool x57)) ∧
  (hcell h10 (Addr.add q49 4) = some (.int .i64 x59)) ∧
  (hcell h10 (Addr.add q49 5) = some (.int .i64 x61)) ∧
  (hcell h10 (Addr.add p41 1) = some (Sl.v x43)) ∧
  St h10 p147 6 [(.int .i64 x51), (.int .i64 x53), (.int .i64 x55), (.bool x57), (.int .i64 x59), (.int .i64 x61)] fun h11 =>
  (hcell h11 (Addr.add q71 0) = some (.int .i64 x73)) ∧
  (hcell h11 (Addr.add q71 1) = some (.int .i64 x75)) ∧
  (hcell h11 (Addr.add q71 2) = some (.int .i64 x77)) ∧
  (hcell h11 (Addr.add q71 3) = some (.bool x79)) ∧
  (hcell h11 (Addr.add q71 4) = some (.int .i64 x81)) ∧
  (hcell h11 (Addr.add q71 5) = some (.int .i64 x83)) ∧
  (hcell h11 (Addr.add p63 1) = some (Sl.v x65)) ∧
  St h11 p130 6 [(.int .i64 x73), (.int .i64 x75), (.int .i64 x77), (.bool x79), (.int .i64 x81), (.int .i64 x83)] fun h12 =>
  J5 p147 p130 h12)

set_option maxRecDepth 100000 in
theorem seg_Seg_pull_of {r : World} {s1 : Option Addr} {va2 : Int} {h : Heap} {R : Heap → Prop} (H : seg_Seg_pull_F r s1 va2 h R) : seg_Seg_pull r s1 va2 h R := by
  unfold seg_Seg_pull_F at H
  refine calls_of 54 [] Tryd.func113 rfl rfl rfl rfl rfl ?_
  refine W_seq ?_
  refine W_set ?_
  intro N6 eN6
  have H := H (fun (p3 : Addr) (p4 : Addr) (h1 : Heap) => ∀ b, N6 [] (mkE [(0, (.pointer s1)), (1, (.int .i64 va2)), (4, (.pointer (some p3))), (5, (.pointer (some p4)))] b) h1) (by
    intro p3 p4 h1 H b
    rw [eN6]
    show W _ _ _ _ _ _ _ _
    refine W_seq ?_
    refine W_region (.pu 0 (.pu 1 (.pu 2 (.rl 3 (.pu 4 (.pu 5 (.pu 6 .fin))))))) rfl rfl ?_
    refine s_pu (d := some 24) (v := (.pointer s1)) rfl rfl rfl (r_move rfl) ?_
    obtain ⟨p7, e8, H⟩ := H
    refine s_pu (d := some 25) (v := (.pointer (some p7))) rfl rfl rfl (r_nilCheck rfl e8) ?_
    refine s_pu (d := some 26) (v := (.pointer (some (Addr.add p7 1)))) rfl rfl rfl (r_fieldAddr Tryd.underlying113 Tryd.sizeOf111 rfl rfl rfl) ?_
    obtain ⟨x9, e10, H⟩ := H
    refine s_rl (d := some 27) (v := (Sl.v x9)) rfl rfl rfl (fun dr => r_load1 Tryd.isAgg111 rfl e10) ?_
    refine s_pu (d := some 28) (v := (.int .i64 va2)) rfl rfl rfl (r_move rfl) ?_
    obtain ⟨p11, e12, e13, e14, H⟩ := H
    obtain ⟨q15, e16⟩ : ∃ q : Addr, q = Addr.add p11 (Int.toNat va2 * 6) := ⟨_, rfl⟩
    rw [← e16] at H
    refine s_pu (d := some 29) (v := (.pointer (some q15))) rfl rfl rfl (fun w => (r_indexAddr Tryd.underlying111 Tryd.sizeOf117 rfl rfl e12 e13 e14 w).trans (by rw [e16])) ?_
    refine s_pu (d := some 6) (v := (.pointer (some q15))) rfl rfl rfl (r_assign rfl) ?_
    refine s_fin ?_
    show W _ _ _ _ _ _ _ _
    refine W_draw [0, 0, 0, 0, 8, 0, 32, 120, 0, 256, 0, 1024, 3840, 0, 8192, 0, 32768, 122880, 249, 262393, 786681, 1843195, 3940347, 8134651, 16777215, 33554431, 67108863] (.pu 0 (.pu 1 (.pu 2 (.pu 3 (.rd 4 (.pu 5 (.rd 6 (.pu 7 (.pu 8 (.rd 9 (.pu 10 (.rd 11 (.pu 12 (.pu 13 (.rd 14 (.pu 15 (.rd 16 (.pu 17 (.pu 18 (.pu 19 (.ef 20 [4, 6] (.pu 21 (.pu 22 (.ef 23 [4, 6, 9, 11] (.pu 24 (.pu 25 (.ef 26 [4, 6, 9, 11, 14, 16] .fin .no))) .no))) .no))))))))))))))))))))) (by kernel_rfl) (by kernel_rfl) ?_
    refine s_pu (d := some 30) (v := (.pointer (some q15))) rfl rfl rfl (r_move rfl) ?_
    refine s_pu (d := some 31) (v := (.pointer (some q15))) rfl rfl rfl (r_move rfl) ?_
    refine s_pu (d := some 32) (v := (.pointer (some q15))) rfl rfl rfl (r_move rfl) ?_
    refine s_pu (d := some 33) (v := (.pointer (some (Addr.add p3 0)))) rfl rfl rfl (r_fieldAddr Tryd.underlying117 Tryd.sizeOf3 rfl rfl rfl) ?_
    obtain ⟨x17, e18, H⟩ := H
    refine s_rd (d := some 34) (v := (.int .i64 x17)) rfl rfl rfl (fun dr => r_load1 Tryd.isAgg3 rfl e18) ?_
    refine s_pu (d := some 35) (v := (.pointer (some (Addr.add p4 0)))) rfl rfl rfl (r_fieldAddr Tryd.underlying117 Tryd.sizeOf3 rfl rfl rfl) ?_
    obtain ⟨x19, e20, H⟩ := H
    refine s_rd (d := some 36) (v := (.int .i64 x19)) rfl rfl rfl (fun dr => r_load1 Tryd.isAgg3 rfl e20) ?_
    refine s_pu (d := some 37) (v := (.int .i64 (w64 (x17 + x19)))) rfl rfl rfl (r_add rfl rfl) ?_
    refine s_pu (d := some 38) (v := (.pointer (some (Addr.add p3 1)))) rfl rfl rfl (r_fieldAddr Tryd.underlying117 Tryd.sizeOf3 rfl rfl rfl) ?_
    obtain ⟨x21, e22, H⟩ := H
    refine s_rd (d := some 39) (v := (.int .i64 x21)) rfl rfl rfl (fun dr => r_load1 Tryd.isAgg3 rfl e22) ?_
    refine s_pu (d := some 40) (v := (.pointer (some (Addr.add p4 1)))) rfl rfl rfl (r_fieldAddr Tryd.underlying117 Tryd.sizeOf3 rfl rfl rfl) ?_
    obtain ⟨x23, e24, H⟩ := H
    refine s_rd (d := some 41) (v := (.int .i64 x23)) rfl rfl rfl (fun dr => r_load1 Tryd.isAgg3 rfl e24) ?_
    refine s_pu (d := some 42) (v := (.int .i64 (min x21 x23))) rfl rfl rfl (r_min rfl rfl) ?_
    refine s_pu (d := some 43) (v := (.pointer (some (Addr.add p3 2)))) rfl rfl rfl (r_fieldAddr Tryd.underlying117 Tryd.sizeOf3 rfl rfl rfl) ?_
    obtain ⟨x25, e26, H⟩ := H
    refine s_rd (d := some 44) (v := (.int .i64 x25)) rfl rfl rfl (fun dr => r_load1 Tryd.isAgg3 rfl e26) ?_
    refine s_pu (d := some 45) (v := (.pointer (some (Addr.add p4 2)))) rfl rfl rfl (r_fieldAddr Tryd.underlying117 Tryd.sizeOf3 rfl rfl rfl) ?_
    obtain ⟨x27, e28, H⟩ := H
    refine s_rd (d := some 46) (v := (.int .i64 x27)) rfl rfl rfl (fun dr => r_load1 Tryd.isAgg3 rfl e28) ?_
    refine s_pu (d := some 47) (v := (.int .i64 (max x25 x27))) rfl rfl rfl (r_max rfl rfl) ?_
    refine s_pu (d := some 48) (v := (.pointer (some q15))) rfl rfl rfl (r_nilCheck rfl rfl) ?_
    refine s_pu (d := some 49) (v := (.pointer (some (Addr.add q15 0)))) rfl rfl rfl (r_fieldAddr Tryd.underlying117 Tryd.sizeOf3 rfl rfl rfl) ?_
    obtain ⟨e30, H⟩ := H
    obtain ⟨h2, e29⟩ : ∃ hh : Heap, hh = hsets h1 (Addr.add q15 0) 0 [(.int .i64 (w64 (x17 + x19)))] := ⟨_, rfl⟩
    have H := H h2 e29
    obtain ⟨e31, H⟩ := H
    obtain ⟨e32, H⟩ := H
    obtain ⟨e33, H⟩ := H
    obtain ⟨e34, H⟩ := H
    refine s_st (d := none) (h' := h2) rfl rfl rfl (fun dr => (r_store (v := (.int .i64 (w64 (x17 + x19)))) Tryd.sizeOf3 rfl rfl rfl (one_all rfl) e30).trans (by rw [e29]; rfl)) ⟨(.inl ⟨rfl, fun dr => r_load1 Tryd.isAgg3 rfl e31⟩), (.inl ⟨rfl, fun dr => r_load1 Tryd.isAgg3 rfl e32⟩), (.inl ⟨rfl, fun dr => r_load1 Tryd.isAgg3 rfl e33⟩), (.inl ⟨rfl, fun dr => r_load1 Tryd.isAgg3 rfl e34⟩), trivial, trivial, trivial⟩ ?_ trivial
    refine s_pu (d := some 50) (v := (.pointer (some q15))) rfl rfl rfl (r_nilCheck rfl rfl) ?_
    refine s_pu (d := some 51) (v := (.pointer (some (Addr.add q15 1)))) rfl rfl rfl (r_fieldAddr Tryd.underlying117 Tryd.sizeOf3 rfl rfl rfl) ?_
    obtain ⟨e36, H⟩ := H
    obtain ⟨h3, e35⟩ : ∃ hh : Heap, hh = hsets h2 (Addr.add q15 1) 0 [(.int .i64 (min x21 x23))] := ⟨_, rfl⟩
    have H := H h3 e35
    obtain ⟨e37, H⟩ := H
    obtain ⟨e38, H⟩ := H
    refine s_st (d := none) (h' := h3) rfl rfl rfl (fun dr => (r_store (v := (.int .i64 (min x21 x23))) Tryd.sizeOf3 rfl rfl rfl (one_all rfl) e36).trans (by rw [e35]; rfl)) ⟨(.inl ⟨rfl, fun dr => r_load1 Tryd.isAgg3 rfl e37⟩), (.inl ⟨rfl, fun dr => r_load1 Tryd.isAgg3 rfl e38⟩), trivial, trivial, trivial, trivial, trivial⟩ ?_ trivial
    refine s_pu (d := some 52) (v := (.pointer (some q15))) rfl rfl rfl (r_nilCheck rfl rfl) ?_
    refine s_pu (d := some 53) (v := (.pointer (some (Addr.add q15 2)))) rfl rfl rfl (r_fieldAddr Tryd.underlying117 Tryd.sizeOf3 rfl rfl rfl) ?_
    obtain ⟨e40, H⟩ := H
    obtain ⟨h4, e39⟩ : ∃ hh : Heap, hh = hsets h3 (Addr.add q15 2) 0 [(.int .i64 (max x25 x27))] := ⟨_, rfl⟩
    have H := H h4 e39
    refine s_st (d := none) (h' := h4) rfl rfl rfl (fun dr => (r_store (v := (.int .i64 (max x25 x27))) Tryd.sizeOf3 rfl rfl rfl (one_all rfl) e40).trans (by rw [e39]; rfl)) ⟨trivial, trivial, trivial, trivial, trivial, trivial, trivial⟩ ?_ trivial
    refine s_fin ?_
    exact ⟨[], rfl, rfl, H⟩)
  clear eN6
  refine W_draw [0, 1, 3, 7, 0, 16, 63, 127, 0, 256, 768, 1792, 0, 4096, 12288, 32512, 65280, 0, 0, 393471, 1048575] (.pu 0 (.pu 1 (.pu 2 (.rd 3 (.pu 4 (.pu 5 (.pu 6 (.rd 7 (.pu 8 (.pu 9 (.pu 10 (.rd 11 (.pu 12 (.pu 13 (.pu 14 (.pu 15 (.rd 16 (.ef 17 [] (.ef 18 [] (.ef 19 [3, 7] (.ef 20 [3, 7, 11, 16] .fin .no) .no) .no) (.ef 18 [] (.ef 17 [] (.ef 19 [3, 7] (.ef 20 [3, 7, 11, 16] .fin .no) .no) .no) .no))))))))))))))))))) (by kernel_rfl) (by kernel_rfl) ?_
  refine s_pu (d := some 7) (v := (.pointer s1)) rfl rfl rfl (r_move rfl) ?_
  obtain ⟨p41, e42, H⟩ := H
  refine s_pu (d := some 8) (v := (.pointer (some p41))) rfl rfl rfl (r_nilCheck rfl e42) ?_
  refine s_pu (d := some 9) (v := (.pointer (some (Addr.add p41 1)))) rfl rfl rfl (r_fieldAddr Tryd.underlying113 Tryd.sizeOf111 rfl rfl rfl) ?_
  obtain ⟨x43, e44, H⟩ := H
  refine s_rd (d := some 10) (v := (Sl.v x43)) rfl rfl rfl (fun dr => r_load1 Tryd.isAgg111 rfl e44) ?_
  refine s_pu (d := some 11) (v := (.int .i64 va2)) rfl rfl rfl (r_move rfl) ?_
  refine s_pu (d := some 12) (v := (.int .i64 (w64 (2 * va2)))) rfl rfl rfl (r_mul rfl rfl) ?_
  obtain ⟨p45, e46, e47, e48, H⟩ := H
  obtain ⟨q49, e50⟩ : ∃ q : Addr, q = Addr.add p45 (Int.toNat (w64 (2 * va2)) * 6) := ⟨_, rfl⟩
  rw [← e50] at H
  refine s_pu (d := some 13) (v := (.pointer (some q49))) rfl rfl rfl (fun w => (r_indexAddr Tryd.underlying111 Tryd.sizeOf117 rfl rfl e46 e47 e48 w).trans (by rw [e50])) ?_
  obtain ⟨x51, e52, H⟩ := H
  obtain ⟨x53, e54, H⟩ := H
  obtain ⟨x55, e56, H⟩ := H
  obtain ⟨x57, e58, H⟩ := H
  obtain ⟨x59, e60, H⟩ := H
  obtain ⟨x61, e62, H⟩ := H
  refine s_rd (d := some 14) (v := (.agg #[(.int .i64 x51), (.int .i64 x53), (.int .i64 x55), (.bool x57), (.int .i64 x59), (.int .i64 x61)])) rfl rfl rfl (fun dr => r_loadN Tryd.isAgg117 Tryd.sizeOf117 (vs := [(.int .i64 x51), (.int .i64 x53), (.int .i64 x55), (.bool x57), (.int .i64 x59), (.int .i64 x61)]) rfl rfl ⟨e52, e54, e56, e58, e60, e62, trivial⟩) ?_
  refine s_pu (d := some 15) (v := (.pointer s1)) rfl rfl rfl (r_move rfl) ?_
  obtain ⟨p63, e64, H⟩ := H
  refine s_pu (d := some 16) (v := (.pointer (some p63))) rfl rfl rfl (r_nilCheck rfl e64) ?_
  refine s_pu (d := some 17) (v := (.pointer (some (Addr.add p63 1)))) rfl rfl rfl (r_fieldAddr Tryd.underlying113 Tryd.sizeOf111 rfl rfl rfl) ?_
  obtain ⟨x65, e66, H⟩ := H
  refine s_rd (d := some 18) (v := (Sl.v x65)) rfl rfl rfl (fun dr => r_load1 Tryd.isAgg111 rfl e66) ?_
  refine s_pu (d := some 19) (v := (.int .i64 va2)) rfl rfl rfl (r_move rfl) ?_
  refine s_pu (d := some 20) (v := (.int .i64 (w64 (2 * va2)))) rfl rfl rfl (r_mul rfl rfl) ?_
  refine s_pu (d := some 21) (v := (.int .i64 (w64 ((w64 (2 * va2)) + 1)))) rfl rfl rfl (r_add rfl rfl) ?_
  obtain ⟨p67, e68, e69, e70, H⟩ := H
  obtain ⟨q71, e72⟩ : ∃ q : Addr, q = Addr.add p67 (Int.toNat (w64 ((w64 (2 * va2)) + 1)) * 6) := ⟨_, rfl⟩
  rw [← e72] at H
  refine s_pu (d := some 22) (v := (.pointer (some q71))) rfl rfl rfl (fun w => (r_indexAddr Tryd.underlying111 Tryd.sizeOf117 rfl rfl e68 e69 e70 w).trans (by rw [e72])) ?_
  obtain ⟨x73, e74, H⟩ := H
  obtain ⟨x75, e76, H⟩ := H
  obtain ⟨x77, e78, H⟩ := H
  obtain ⟨x79, e80, H⟩ := H
  obtain ⟨x81, e82, H⟩ := H
  obtain ⟨x83, e84, H⟩ := H
  refine s_rd (d := some 23) (v := (.agg #[(.int .i64 x73), (.int .i64 x75), (.int .i64 x77), (.bool x79), (.int .i64 x81), (.int .i64 x83)])) rfl rfl rfl (fun dr => r_loadN Tryd.isAgg117 Tryd.sizeOf117 (vs := [(.int .i64 x73), (.int .i64 x75), (.int .i64 x77), (.bool x79), (.int .i64 x81), (.int .i64 x83)]) rfl rfl ⟨e74, e76, e78, e80, e82, e84, trivial⟩) ?_
  refine s_or ?_ ?_
  · have H := H.1
    obtain ⟨p85, e86⟩ : ∃ p : Addr, p = ⟨h.size, 0, none⟩ := ⟨_, rfl⟩
    obtain ⟨h5, e87⟩ : ∃ hh : Heap, hh = h.push (.cells #[(.int .i64 0), (.int .i64 0), (.int .i64 0), (.bool false), (.int .i64 0), (.int .i64 0)] 117) := ⟨_, rfl⟩
    have H := H p85 h5 e86 e87
    obtain ⟨e88, H⟩ := H
    obtain ⟨e89, H⟩ := H
    obtain ⟨e90, H⟩ := H
    obtain ⟨e91, H⟩ := H
    obtain ⟨e92, H⟩ := H
    obtain ⟨e93, H⟩ := H
    obtain ⟨e94, H⟩ := H
    obtain ⟨e95, H⟩ := H
    obtain ⟨e96, H⟩ := H
    obtain ⟨e97, H⟩ := H
    obtain ⟨e98, H⟩ := H
    obtain ⟨e99, H⟩ := H
    obtain ⟨e100, H⟩ := H
    obtain ⟨e101, H⟩ := H
    refine s_ef1 (d := some 4) (v := (.pointer (some p85))) (h' := h5) rfl rfl rfl (fun dr => (r_alloc Tryd.zeroValue117).trans (by rw [e86, e87]; rfl)) ⟨(.inl ⟨rfl, fun dr => r_loadN Tryd.isAgg117 Tryd.sizeOf117 (vs := [(.int .i64 x73), (.int .i64 x75), (.int .i64 x77), (.bool x79), (.int .i64 x81), (.int .i64 x83)]) rfl rfl ⟨e88, e89, e90, e91, e92, e93, trivial⟩⟩), (.inl ⟨rfl, fun dr => r_load1 Tryd.isAgg111 rfl e94⟩), (.inl ⟨rfl, fun dr => r_loadN Tryd.isAgg117 Tryd.sizeOf117 (vs := [(.int .i64 x51), (.int .i64 x53), (.int .i64 x55), (.bool x57), (.int .i64 x59), (.int .i64 x61)]) rfl rfl ⟨e95, e96, e97, e98, e99, e100, trivial⟩⟩), (.inl ⟨rfl, fun dr => r_load1 Tryd.isAgg111 rfl e101⟩), trivial⟩ ?_ trivial
    obtain ⟨p102, e103⟩ : ∃ p : Addr, p = ⟨h5.size, 0, none⟩ := ⟨_, rfl⟩
    obtain ⟨h6, e104⟩ : ∃ hh : Heap, hh = h5.push (.cells #[(.int .i64 0), (.int .i64 0), (.int .i64 0), (.bool false), (.int .i64 0), (.int .i64 0)] 117) := ⟨_, rfl⟩
    have H := H p102 h6 e103 e104
    obtain ⟨e105, H⟩ := H
    obtain ⟨e106, H⟩ := H
    obtain ⟨e107, H⟩ := H
    obtain ⟨e108, H⟩ := H
    obtain ⟨e109, H⟩ := H
    obtain ⟨e110, H⟩ := H
    obtain ⟨e111, H⟩ := H
    obtain ⟨e112, H⟩ := H
    obtain ⟨e113, H⟩ := H
    obtain ⟨e114, H⟩ := H
    obtain ⟨e115, H⟩ := H
    obtain ⟨e116, H⟩ := H
    obtain ⟨e117, H⟩ := H
    obtain ⟨e118, H⟩ := H
    refine s_ef1 (d := some 5) (v := (.pointer (some p102))) (h' := h6) rfl rfl rfl (fun dr => (r_alloc Tryd.zeroValue117).trans (by rw [e103, e104]; rfl)) ⟨(.inl ⟨rfl, fun dr => r_loadN Tryd.isAgg117 Tryd.sizeOf117 (vs := [(.int .i64 x73), (.int .i64 x75), (.int .i64 x77), (.bool x79), (.int .i64 x81), (.int .i64 x83)]) rfl rfl ⟨e105, e106, e107, e108, e109, e110, trivial⟩⟩), (.inl ⟨rfl, fun dr => r_load1 Tryd.isAgg111 rfl e111⟩), (.inl ⟨rfl, fun dr => r_loadN Tryd.isAgg117 Tryd.sizeOf117 (vs := [(.int .i64 x51), (.int .i64 x53), (.int .i64 x55), (.bool x57), (.int .i64 x59), (.int .i64 x61)]) rfl rfl ⟨e112, e113, e114, e115, e116, e117, trivial⟩⟩), (.inl ⟨rfl, fun dr => r_load1 Tryd.isAgg111 rfl e118⟩), trivial⟩ ?_ trivial
    obtain ⟨e120, H⟩ := H
    obtain ⟨h7, e119⟩ : ∃ hh : Heap, hh = hsets h6 p85 0 [(.int .i64 x51), (.int .i64 x53), (.int .i64 x55), (.bool x57), (.int .i64 x59), (.int .i64 x61)] := ⟨_, rfl⟩
    have H := H h7 e119
    obtain ⟨e121, H⟩ := H
    obtain ⟨e122, H⟩ := H
    obtain ⟨e123, H⟩ := H
    obtain ⟨e124, H⟩ := H
    obtain ⟨e125, H⟩ := H
    obtain ⟨e126, H⟩ := H
    obtain ⟨e127, H⟩ := H
    refine s_st (d := none) (h' := h7) rfl rfl rfl (fun dr => (r_store (v := (.agg #[(.int .i64 x51), (.int .i64 x53), (.int .i64 x55), (.bool x57), (.int .i64 x59), (.int .i64 x61)])) Tryd.sizeOf117 rfl rfl rfl (one_all rfl) e120).trans (by rw [e119]; rfl)) ⟨(.inl ⟨rfl, fun dr => r_loadN Tryd.isAgg117 Tryd.sizeOf117 (vs := [(.int .i64 x73), (.int .i64 x75), (.int .i64 x77), (.bool x79), (.int .i64 x81), (.int .i64 x83)]) rfl rfl ⟨e121, e122, e123, e124, e125, e126, trivial⟩⟩), (.inl ⟨rfl, fun dr => r_load1 Tryd.isAgg111 rfl e127⟩), trivial, trivial, trivial⟩ ?_ trivial
    obtain ⟨e129, H⟩ := H
    obtain ⟨h8, e128⟩ : ∃ hh : Heap, hh = hsets h7 p102 0 [(.int .i64 x73), (.int .i64 x75), (.int .i64 x77), (.bool x79), (.int .i64 x81), (.int .i64 x83)] := ⟨_, rfl⟩
    have H := H h8 e128
    refine s_st (d := none) (h' := h8) rfl rfl rfl (fun dr => (r_store (v := (.agg #[(.int .i64 x73), (.int .i64 x75), (.int .i64 x77), (.bool x79), (.int .i64 x81), (.int .i64 x83)])) Tryd.sizeOf117 rfl rfl rfl (one_all rfl) e129).trans (by rw [e128]; rfl)) ⟨trivial, trivial, trivial, trivial, trivial⟩ ?_ trivial
    refine s_fin ?_
    exact N_mk (l := [(0, (.pointer s1)), (1, (.int .i64 va2)), (4, (.pointer (some p85))), (5, (.pointer (some p102)))]) H ⟨rfl, rfl, rfl, rfl, trivial⟩
  · have H := H.2
    obtain ⟨p130, e131⟩ : ∃ p : Addr, p = ⟨h.size, 0, none⟩ := ⟨_, rfl⟩
    obtain ⟨h9, e132⟩ : ∃ hh : Heap, hh = h.push (.cells #[(.int .i64 0), (.int .i64 0), (.int .i64 0), (.bool false), (.int .i64 0), (.int .i64 0)] 117) := ⟨_, rfl⟩
    have H := H p130 h9 e131 e132
    obtain ⟨e133, H⟩ := H
    obtain ⟨e134, H⟩ := H
    obtain ⟨e135, H⟩ := H
    obtain ⟨e136, H⟩ := H
    obtain ⟨e137, H⟩ := H
    obtain ⟨e138, H⟩ := H
    obtain ⟨e139, H⟩ := H
    obtain ⟨e140, H⟩ := H
    obtain ⟨e141, H⟩ := H
    obtain ⟨e142, H⟩ := H
    obtain ⟨e143, H⟩ := H
    obtain ⟨e144, H⟩ := H
    obtain ⟨e145, H⟩ := H
    obtain ⟨e146, H⟩ := H
    refine s_ef1 (d := some 5) (v := (.pointer (some p130))) (h' := h9) rfl rfl rfl (fun dr => (r_alloc Tryd.zeroValue117).trans (by rw [e131, e132]; rfl)) ⟨(.inl ⟨rfl, fun dr => r_loadN Tryd.isAgg117 Tryd.sizeOf117 (vs := [(.int .i64 x73), (.int .i64 x75), (.int .i64 x77), (.bool x79), (.int .i64 x81), (.int .i64 x83)]) rfl rfl ⟨e133, e134, e135, e136, e137, e138, trivial⟩⟩), (.inl ⟨rfl, fun dr => r_load1 Tryd.isAgg111 rfl e139⟩), (.inl ⟨rfl, fun dr => r_loadN Tryd.isAgg117 Tryd.sizeOf117 (vs := [(.int .i64 x51), (.int .i64 x53), (.int .i64 x55), (.bool x57), (.int .i64 x59), (.int .i64 x61)]) rfl rfl ⟨e140, e141, e142, e143, e144, e145, trivial⟩⟩), (.inl ⟨rfl, fun dr => r_load1 Tryd.isAgg111 rfl e146⟩), trivial⟩ ?_ trivial
    obtain ⟨p147, e148⟩ : ∃ p : Addr, p = ⟨h9.size, 0, none⟩ := ⟨_, rfl⟩
    obtain ⟨h10, e149⟩ : ∃ hh : Heap, hh = h9.push (.cells #[(.int .i64 0), (.int .i64 0), (.int .i64 0), (.bool false), (.int .i64 0), (.int .i64 0)] 117) := ⟨_, rfl⟩
    have H := H p147 h10 e148 e149
    obtain ⟨e150, H⟩ := H
    obtain ⟨e151, H⟩ := H
    obtain ⟨e152, H⟩ := H
    obtain ⟨e153, H⟩ := H
    obtain ⟨e154, H⟩ := H
    obtain ⟨e155, H⟩ := H
    obtain ⟨e156, H⟩ := H
    obtain ⟨e157, H⟩ := H
    obtain ⟨e158, H⟩ := H
    obtain ⟨e159, H⟩ := H
    obtain ⟨e160, H⟩ := H
    obtain ⟨e161, H⟩ := H
    obtain ⟨e162, H⟩ := H
    obtain ⟨e163, H⟩ := H
    refine s_ef1 (d := some 4) (v := (.pointer (some p147))) (h' := h10) rfl rfl rfl (fun dr => (r_alloc Tryd.zeroValue117).trans (by rw [e148, e149]; rfl)) ⟨(.inl ⟨rfl, fun dr => r_loadN Tryd.isAgg117 Tryd.sizeOf117 (vs := [(.int .i64 x73), (.int .i64 x75), (.int .i64 x77), (.bool x79), (.int .i64 x81), (.int .i64 x83)]) rfl rfl ⟨e150, e151, e152, e153, e154, e155, trivial⟩⟩), (.inl ⟨rfl, fun dr => r_load1 Tryd.isAgg111 rfl e156⟩), (.inl ⟨rfl, fun dr => r_loadN Tryd.isAgg117 Tryd.sizeOf117 (vs := [(.int .i64 x51), (.int .i64 x53), (.int .i64 x55), (.bool x57), (.int .i64 x59), (.int .i64 x61)]) rfl rfl ⟨e157, e158, e159, e160, e161, e162, trivial⟩⟩), (.inl ⟨rfl, fun dr => r_load1 Tryd.isAgg111 rfl e163⟩), trivial⟩ ?_ trivial
    obtain ⟨e165, H⟩ := H
    obtain ⟨h11, e164⟩ : ∃ hh : Heap, hh = hsets h10 p147 0 [(.int .i64 x51), (.int .i64 x53), (.int .i64 x55), (.bool x57), (.int .i64 x59), (.int .i64 x61)] := ⟨_, rfl⟩
    have H := H h11 e164
    obtain ⟨e166, H⟩ := H
    obtain ⟨e167, H⟩ := H
    obtain ⟨e168, H⟩ := H
    obtain ⟨e169, H⟩ := H
    obtain ⟨e170, H⟩ := H
    obtain ⟨e171, H⟩ := H
    obtain ⟨e172, H⟩ := H
    refine s_st (d := none) (h' := h11) rfl rfl rfl (fun dr => (r_store (v := (.agg #[(.int .i64 x51), (.int .i64 x53), (.int .i64 x55), (.bool x57), (.int .i64 x59), (.int .i64 x61)])) Tryd.sizeOf117 rfl rfl rfl (one_all rfl) e165).trans (by rw [e164]; rfl)) ⟨(.inl ⟨rfl, fun dr => r_loadN Tryd.isAgg117 Tryd.sizeOf117 (vs := [(.int .i64 x73), (.int .i64 x75), (.int .i64 x77), (.bool x79), (.int .i64 x81), (.int .i64 x83)]) rfl rfl ⟨e166, e167, e168, e169, e170, e171, trivial⟩⟩), (.inl ⟨rfl, fun dr => r_load1 Tryd.isAgg111 rfl e172⟩), trivial, trivial, trivial⟩ ?_ trivial
    obtain ⟨e174, H⟩ := H
    obtain ⟨h12, e173⟩ : ∃ hh : Heap, hh = hsets h11 p130 0 [(.int .i64 x73), (.int .i64 x75), (.int .i64 x77), (.bool x79), (.int .i64 x81), (.int .i64 x83)] := ⟨_, rfl⟩
    have H := H h12 e173
    refine s_st (d := none) (h' := h12) rfl rfl rfl (fun dr => (r_store (v := (.agg #[(.int .i64 x73), (.int .i64 x75), (.int .i64 x77), (.bool x79), (.int .i64 x81), (.int .i64 x83)])) Tryd.sizeOf117 rfl rfl rfl (one_all rfl) e174).trans (by rw [e173]; rfl)) ⟨trivial, trivial, trivial, trivial, trivial⟩ ?_ trivial
    refine s_fin ?_
    exact N_mk (l := [(0, (.pointer s1)), (1, (.int .i64 va2)), (4, (.pointer (some p147))), (5, (.pointer (some p130)))]) H ⟨rfl, rfl, rfl, rfl, trivial⟩

/-! ### seg_Seg_all -/

def seg_Seg_all_F (r : World) (s1 : Option Addr) (va2 : Int) (n3 : Int) (put4 : Bool) (what5 : Int) (more6 : Int) (h : Heap) (R : Heap → Prop) : Prop :=
  Ck s1 fun p7 =>
  LdS h (Addr.add p7 1) fun x9 =>
  Ix x9 va2 6 fun q15 =>
  ∀ J17 : Heap → Prop, (∀ (h1 : Heap),
    (LdI h1 (Addr.add q15 0) fun x19 =>
    St h1 (Addr.add q15 0) 1 [(.int .i64 (w64 (x19 + (w64 (n3 * more6)))))] fun h2 =>
    LdI h2 (Addr.add q15 1) fun x23 =>
    St h2 (Addr.add q15 1) 1 [(.int .i64 (w64 (x23 + more6)))] fun h3 =>
    LdI h3 (Addr.add q15 2) fun x27 =>
    St h3 (Addr.add q15 2) 1 [(.int .i64 (w64 (x27 + more6)))] fun h4 =>
    LdI h4 (Addr.add q15 5) fun x31 =>
    St h4 (Addr.add q15 5) 1 [(.int .i64 (w64 (x31 + more6)))] fun h5 =>
    R h5) →
    J17 h1) →
  Br put4 (
    St h (Addr.add q15 0) 1 [(.int .i64 (w64 (n3 * what5)))] fun h6 =>
    St h6 (Addr.add q15 1) 1 [(.int .i64 what5)] fun h7 =>
    St h7 (Addr.add q15 2) 1 [(.int .i64 what5)] fun h8 =>
    St h8 (Addr.add q15 3) 1 [(.bool true)] fun h9 =>
    St h9 (Addr.add q15 4) 1 [(.int .i64 what5)] fun h10 =>
    St h10 (Addr.add q15 5) 1 [(.int .i64 0)] fun h11 =>
    J17 h11) (
    J17 h)

set_option maxRecDepth 100000 in
theorem seg_Seg_all_of {r : World} {s1 : Option Addr} {va2 : Int} {n3 : Int} {put4 : Bool} {what5 : Int} {more6 : Int} {h : Heap} {R : Heap → Prop} (H : seg_Seg_all_F r s1 va2 n3 put4 what5 more6 h R) : seg_Seg_all r s1 va2 n3 put4 what5 more6 h R := by
  unfold seg_Seg_all_F at H
  refine calls_of 78 [] Tryd.func114 rfl rfl rfl rfl rfl ?_
  refine W_seq ?_
  refine W_region (.pu 0 (.pu 1 (.pu 2 (.rl 3 (.pu 4 (.pu 5 (.pu 6 .fin))))))) rfl rfl ?_
  refine s_pu (d := some 13) (v := (.pointer s1)) rfl rfl rfl (r_move rfl) ?_
  obtain ⟨p7, e8, H⟩ := H
  refine s_pu (d := some 14) (v := (.pointer (some p7))) rfl rfl rfl (r_nilCheck rfl e8) ?_
  refine s_pu (d := some 15) (v := (.pointer (some (Addr.add p7 1)))) rfl rfl rfl (r_fieldAddr Tryd.underlying113 Tryd.sizeOf111 rfl rfl rfl) ?_
  obtain ⟨x9, e10, H⟩ := H
  refine s_rl (d := some 16) (v := (Sl.v x9)) rfl rfl rfl (fun dr => r_load1 Tryd.isAgg111 rfl e10) ?_
  refine s_pu (d := some 17) (v := (.int .i64 va2)) rfl rfl rfl (r_move rfl) ?_
  obtain ⟨p11, e12, e13, e14, H⟩ := H
  obtain ⟨q15, e16⟩ : ∃ q : Addr, q = Addr.add p11 (Int.toNat va2 * 6) := ⟨_, rfl⟩
  rw [← e16] at H
  refine s_pu (d := some 18) (v := (.pointer (some q15))) rfl rfl rfl (fun w => (r_indexAddr Tryd.underlying111 Tryd.sizeOf117 rfl rfl e12 e13 e14 w).trans (by rw [e16])) ?_
  refine s_pu (d := some 12) (v := (.pointer (some q15))) rfl rfl rfl (r_assign rfl) ?_
  refine s_fin ?_
  show W _ _ _ _ _ _ _ _
  refine W_seq ?_
  refine W_seq ?_
  refine W_region (.pu 0 .fin) rfl rfl ?_
  refine s_pu (d := some 19) (v := (.bool put4)) rfl rfl rfl (r_move rfl) ?_
  refine s_fin ?_
  show W _ _ _ _ _ _ _ _
  refine W_set ?_
  intro N18 eN18
  have H := H (fun (h1 : Heap) => ∀ b, N18 [] (mkE [(2, (.int .i64 n3)), (5, (.int .i64 more6)), (12, (.pointer (some q15)))] b) h1) (by
    intro h1 H b
    rw [eN18]
    show W _ _ _ _ _ _ _ _
    refine W_seq ?_
    refine W_region (.pu 0 (.pu 1 (.pu 2 (.rl 3 (.pu 4 (.pu 5 (.pu 6 (.pu 7 (.pu 8 (.pu 9 (.ef 10 [] .fin .no))))))))))) rfl rfl ?_
    refine s_pu (d := some 44) (v := (.pointer (some q15))) rfl rfl rfl (r_move rfl) ?_
    refine s_pu (d := some 45) (v := (.pointer (some q15))) rfl rfl rfl (r_nilCheck rfl rfl) ?_
    refine s_pu (d := some 46) (v := (.pointer (some (Addr.add q15 0)))) rfl rfl rfl (r_fieldAddr Tryd.underlying117 Tryd.sizeOf3 rfl rfl rfl) ?_
    obtain ⟨x19, e20, H⟩ := H
    refine s_rl (d := some 47) (v := (.int .i64 x19)) rfl rfl rfl (fun dr => r_load1 Tryd.isAgg3 rfl e20) ?_
    refine s_pu (d := some 48) (v := (.int .i64 n3)) rfl rfl rfl (r_move rfl) ?_
    refine s_pu (d := some 49) (v := (.int .i64 more6)) rfl rfl rfl (r_move rfl) ?_
    refine s_pu (d := some 50) (v := (.int .i64 (w64 (n3 * more6)))) rfl rfl rfl (r_mul rfl rfl) ?_
    refine s_pu (d := some 51) (v := (.int .i64 (w64 (x19 + (w64 (n3 * more6)))))) rfl rfl rfl (r_add rfl rfl) ?_
    refine s_pu (d := some 52) (v := (.pointer (some q15))) rfl rfl rfl (r_nilCheck rfl rfl) ?_
    refine s_pu (d := some 53) (v := (.pointer (some (Addr.add q15 0)))) rfl rfl rfl (r_fieldAddr Tryd.underlying117 Tryd.sizeOf3 rfl rfl rfl) ?_
    obtain ⟨e22, H⟩ := H
    obtain ⟨h2, e21⟩ : ∃ hh : Heap, hh = hsets h1 (Addr.add q15 0) 0 [(.int .i64 (w64 (x19 + (w64 (n3 * more6)))))] := ⟨_, rfl⟩
    have H := H h2 e21
    refine s_st (d := none) (h' := h2) rfl rfl rfl (fun dr => (r_store (v := (.int .i64 (w64 (x19 + (w64 (n3 * more6)))))) Tryd.sizeOf3 rfl rfl rfl (one_all rfl) e22).trans (by rw [e21]; rfl)) trivial ?_ trivial
    refine s_fin ?_
    show W _ _ _ _ _ _ _ _
    refine W_seq ?_
    refine W_region (.pu 0 (.pu 1 (.pu 2 (.rl 3 (.pu 4 (.pu 5 (.pu 6 (.pu 7 (.ef 8 [] .fin .no))))))))) rfl rfl ?_
    refine s_pu (d := some 54) (v := (.pointer (some q15))) rfl rfl rfl (r_move rfl) ?_
    refine s_pu (d := some 55) (v := (.pointer (some q15))) rfl rfl rfl (r_nilCheck rfl rfl) ?_
    refine s_pu (d := some 56) (v := (.pointer (some (Addr.add q15 1)))) rfl rfl rfl (r_fieldAddr Tryd.underlying117 Tryd.sizeOf3 rfl rfl rfl) ?_
    obtain ⟨x23, e24, H⟩ := H
    refine s_rl (d := some 57) (v := (.int .i64 x23)) rfl rfl rfl (fun dr => r_load1 Tryd.isAgg3 rfl e24) ?_
    refine s_pu (d := some 58) (v := (.int .i64 more6)) rfl rfl rfl (r_move rfl) ?_
    refine s_pu (d := some 59) (v := (.int .i64 (w64 (x23 + more6)))) rfl rfl rfl (r_add rfl rfl) ?_
    refine s_pu (d := some 60) (v := (.pointer (some q15))) rfl rfl rfl (r_nilCheck rfl rfl) ?_
    refine s_pu (d := some 61) (v := (.pointer (some (Addr.add q15 1)))) rfl rfl rfl (r_fieldAddr Tryd.underlying117 Tryd.sizeOf3 rfl rfl rfl) ?_
    obtain ⟨e26, H⟩ := H
    obtain ⟨h3, e25⟩ : ∃ hh : Heap, hh = hsets h2 (Addr.add q15 1) 0 [(.int .i64 (w64 (x23 + more6)))] := ⟨_, rfl⟩
    have H := H h3 e25
    refine s_st (d := none) (h' := h3) rfl rfl rfl (fun dr => (r_store (v := (.int .i64 (w64 (x23 + more6)))) Tryd.sizeOf3 rfl rfl rfl (one_all rfl) e26).trans (by rw [e25]; rfl)) trivial ?_ trivial
    refine s_fin ?_
    show W _ _ _ _ _ _ _ _
    refine W_seq ?_
    refine W_region (.pu 0 (.pu 1 (.pu 2 (.rl 3 (.pu 4 (.pu 5 (.pu 6 (.pu 7 (.ef 8 [] .fin .no))))))))) rfl rfl ?_
    refine s_pu (d := some 62) (v := (.pointer (some q15))) rfl rfl rfl (r_move rfl) ?_
    refine s_pu (d := some 63) (v := (.pointer (some q15))) rfl rfl rfl (r_nilCheck rfl rfl) ?_
    refine s_pu (d := some 64) (v := (.pointer (some (Addr.add q15 2)))) rfl rfl rfl (r_fieldAddr Tryd.underlying117 Tryd.sizeOf3 rfl rfl rfl) ?_
    obtain ⟨x27, e28, H⟩ := H
    refine s_rl (d := some 65) (v := (.int .i64 x27)) rfl rfl rfl (fun dr => r_load1 Tryd.isAgg3 rfl e28) ?_
    refine s_pu (d := some 66) (v := (.int .i64 more6)) rfl rfl rfl (r_move rfl) ?_
    refine s_pu (d := some 67) (v := (.int .i64 (w64 (x27 + more6)))) rfl rfl rfl (r_add rfl rfl) ?_
    refine s_pu (d := some 68) (v := (.pointer (some q15))) rfl rfl rfl (r_nilCheck rfl rfl) ?_
    refine s_pu (d := some 69) (v := (.pointer (some (Addr.add q15 2)))) rfl rfl rfl (r_fieldAddr Tryd.underlying117 Tryd.sizeOf3 rfl rfl rfl) ?_
    obtain ⟨e30, H⟩ := H
    obtain ⟨h4, e29⟩ : ∃ hh : Heap, hh = hsets h3 (Addr.add q15 2) 0 [(.int .i64 (w64 (x27 + more6)))] := ⟨_, rfl⟩
    have H := H h4 e29
    refine s_st (d := none) (h' := h4) rfl rfl rfl (fun dr => (r_store (v := (.int .i64 (w64 (x27 + more6)))) Tryd.sizeOf3 rfl rfl rfl (one_all rfl) e30).trans (by rw [e29]; rfl)) trivial ?_ trivial
    refine s_fin ?_
    show W _ _ _ _ _ _ _ _
    refine W_region (.pu 0 (.pu 1 (.pu 2 (.rl 3 (.pu 4 (.pu 5 (.pu 6 (.pu 7 (.ef 8 [] .fin .no))))))))) rfl rfl ?_
    refine s_pu (d := some 70) (v := (.pointer (some q15))) rfl rfl rfl (r_move rfl) ?_
    refine s_pu (d := some 71) (v := (.pointer (some q15))) rfl rfl rfl (r_nilCheck rfl rfl) ?_
    refine s_pu (d := some 72) (v := (.pointer (some (Addr.add q15 5)))) rfl rfl rfl (r_fieldAddr Tryd.underlying117 Tryd.sizeOf3 rfl rfl rfl) ?_
    obtain ⟨x31, e32, H⟩ := H
    refine s_rl (d := some 73) (v := (.int .i64 x31)) rfl rfl rfl (fun dr => r_load1 Tryd.isAgg3 rfl e32) ?_
    refine s_pu (d := some 74) (v := (.int .i64 more6)) rfl rfl rfl (r_move rfl) ?_
    refine s_pu (d := some 75) (v := (.int .i64 (w64 (x31 + more6)))) rfl rfl rfl (r_add rfl rfl) ?_
    refine s_pu (d := some 76) (v := (.pointer (some q15))) rfl rfl rfl (r_nilCheck rfl rfl) ?_
    refine s_pu (d := some 77) (v := (.pointer (some (Addr.add q15 5)))) rfl rfl rfl (r_fieldAddr Tryd.underlying117 Tryd.sizeOf3 rfl rfl rfl) ?_
    obtain ⟨e34, H⟩ := H
    obtain ⟨h5, e33⟩ : ∃ hh : Heap, hh = hsets h4 (Addr.add q15 5) 0 [(.int .i64 (w64 (x31 + more6)))] := ⟨_, rfl⟩
    have H := H h5 e33
    refine s_st (d := none) (h' := h5) rfl rfl rfl (fun dr => (r_store (v := (.int .i64 (w64 (x31 + more6)))) Tryd.sizeOf3 rfl rfl rfl (one_all rfl) e34).trans (by rw [e33]; rfl)) trivial ?_ trivial
    refine s_fin ?_
    exact ⟨[], rfl, rfl, H⟩)
  clear eN18
  refine W_if put4 rfl (fun g47 => ?_) (fun g47 => ?_)
  · have H := H.1 g47
    refine W_seq ?_
    refine W_region (.pu 0 (.pu 1 (.pu 2 (.pu 3 (.pu 4 (.pu 5 (.pu 6 (.pu 7 (.pu 8 (.pu 9 (.ef 10 [] (.pu 11 (.pu 12 (.ef 13 [] (.pu 14 (.pu 15 (.ef 16 [] .fin .no))) .no))) .no))))))))))) rfl rfl ?_
    refine s_pu (d := some 20) (v := (.pointer (some q15))) rfl rfl rfl (r_move rfl) ?_
    refine s_pu (d := some 21) (v := (.pointer (some q15))) rfl rfl rfl (r_move rfl) ?_
    refine s_pu (d := some 22) (v := (.pointer (some q15))) rfl rfl rfl (r_move rfl) ?_
    refine s_pu (d := some 23) (v := (.int .i64 n3)) rfl rfl rfl (r_move rfl) ?_
    refine s_pu (d := some 24) (v := (.int .i64 what5)) rfl rfl rfl (r_move rfl) ?_
    refine s_pu (d := some 25) (v := (.int .i64 (w64 (n3 * what5)))) rfl rfl rfl (r_mul rfl rfl) ?_
    refine s_pu (d := some 26) (v := (.int .i64 what5)) rfl rfl rfl (r_move rfl) ?_
    refine s_pu (d := some 27) (v := (.int .i64 what5)) rfl rfl rfl (r_move rfl) ?_
    refine s_pu (d := some 28) (v := (.pointer (some q15))) rfl rfl rfl (r_nilCheck rfl rfl) ?_
    refine s_pu (d := some 29) (v := (.pointer (some (Addr.add q15 0)))) rfl rfl rfl (r_fieldAddr Tryd.underlying117 Tryd.sizeOf3 rfl rfl rfl) ?_
    obtain ⟨e36, H⟩ := H
    obtain ⟨h6, e35⟩ : ∃ hh : Heap, hh = hsets h (Addr.add q15 0) 0 [(.int .i64 (w64 (n3 * what5)))] := ⟨_, rfl⟩
    have H := H h6 e35
    refine s_st (d := none) (h' := h6) rfl rfl rfl (fun dr => (r_store (v := (.int .i64 (w64 (n3 * what5)))) Tryd.sizeOf3 rfl rfl rfl (one_all rfl) e36).trans (by rw [e35]; rfl)) trivial ?_ trivial
    refine s_pu (d := some 30) (v := (.pointer (some q15))) rfl rfl rfl (r_nilCheck rfl rfl) ?_
    refine s_pu (d := some 31) (v := (.pointer (some (Addr.add q15 1)))) rfl rfl rfl (r_fieldAddr Tryd.underlying117 Tryd.sizeOf3 rfl rfl rfl) ?_
    obtain ⟨e38, H⟩ := H
    obtain ⟨h7, e37⟩ : ∃ hh : Heap, hh = hsets h6 (Addr.add q15 1) 0 [(.int .i64 what5)] := ⟨_, rfl⟩
    have H := H h7 e37
    refine s_st (d := none) (h' := h7) rfl rfl rfl (fun dr => (r_store (v := (.int .i64 what5)) Tryd.sizeOf3 rfl rfl rfl (one_all rfl) e38).trans (by rw [e37]; rfl)) trivial ?_ trivial
    refine s_pu (d := some 32) (v := (.pointer (some q15))) rfl rfl rfl (r_nilCheck rfl rfl) ?_
    refine s_pu (d := some 33) (v := (.pointer (some (Addr.add q15 2)))) rfl rfl rfl (r_fieldAddr Tryd.underlying117 Tryd.sizeOf3 rfl rfl rfl) ?_
    obtain ⟨e40, H⟩ := H
    obtain ⟨h8, e39⟩ : ∃ hh : Heap, hh = hsets h7 (Addr.add q15 2) 0 [(.int .i64 what5)] := ⟨_, rfl⟩
    have H := H h8 e39
    refine s_st (d := none) (h' := h8) rfl rfl rfl (fun dr => (r_store (v := (.int .i64 what5)) Tryd.sizeOf3 rfl rfl rfl (one_all rfl) e40).trans (by rw [e39]; rfl)) trivial ?_ trivial
    refine s_fin ?_
    show W _ _ _ _ _ _ _ _
    refine W_region (.pu 0 (.pu 1 (.pu 2 (.pu 3 (.pu 4 (.pu 5 (.ef 6 [] (.pu 7 (.pu 8 (.ef 9 [] (.pu 10 (.pu 11 (.ef 12 [] .fin .no))) .no))) .no))))))) rfl rfl ?_
    refine s_pu (d := some 34) (v := (.pointer (some q15))) rfl rfl rfl (r_move rfl) ?_
    refine s_pu (d := some 35) (v := (.pointer (some q15))) rfl rfl rfl (r_move rfl) ?_
    refine s_pu (d := some 36) (v := (.pointer (some q15))) rfl rfl rfl (r_move rfl) ?_
    refine s_pu (d := some 37) (v := (.int .i64 what5)) rfl rfl rfl (r_move rfl) ?_
    refine s_pu (d := some 38) (v := (.pointer (some q15))) rfl rfl rfl (r_nilCheck rfl rfl) ?_
    refine s_pu (d := some 39) (v := (.pointer (some (Addr.add q15 3)))) rfl rfl rfl (r_fieldAddr Tryd.underlying117 Tryd.sizeOf4 rfl rfl rfl) ?_
    obtain ⟨e42, H⟩ := H
    obtain ⟨h9, e41⟩ : ∃ hh : Heap, hh = hsets h8 (Addr.add q15 3) 0 [(.bool true)] := ⟨_, rfl⟩
    have H := H h9 e41
    refine s_st (d := none) (h' := h9) rfl rfl rfl (fun dr => (r_store (v := (.bool true)) Tryd.sizeOf4 rfl rfl rfl (one_all rfl) e42).trans (by rw [e41]; rfl)) trivial ?_ trivial
    refine s_pu (d := some 40) (v := (.pointer (some q15))) rfl rfl rfl (r_nilCheck rfl rfl) ?_
    refine s_pu (d := some 41) (v := (.pointer (some (Addr.add q15 4)))) rfl rfl rfl (r_fieldAddr Tryd.underlying117 Tryd.sizeOf3 rfl rfl rfl) ?_
    obtain ⟨e44, H⟩ := H
    obtain ⟨h10, e43⟩ : ∃ hh : Heap, hh = hsets h9 (Addr.add q15 4) 0 [(.int .i64 what5)] := ⟨_, rfl⟩
    have H := H h10 e43
    refine s_st (d := none) (h' := h10) rfl rfl rfl (fun dr => (r_store (v := (.int .i64 what5)) Tryd.sizeOf3 rfl rfl rfl (one_all rfl) e44).trans (by rw [e43]; rfl)) trivial ?_ trivial
    refine s_pu (d := some 42) (v := (.pointer (some q15))) rfl rfl rfl (r_nilCheck rfl rfl) ?_
    refine s_pu (d := some 43) (v := (.pointer (some (Addr.add q15 5)))) rfl rfl rfl (r_fieldAddr Tryd.underlying117 Tryd.sizeOf3 rfl rfl rfl) ?_
    obtain ⟨e46, H⟩ := H
    obtain ⟨h11, e45⟩ : ∃ hh : Heap, hh = hsets h10 (Addr.add q15 5) 0 [(.int .i64 0)] := ⟨_, rfl⟩
    have H := H h11 e45
    refine s_st (d := none) (h' := h11) rfl rfl rfl (fun dr => (r_store (v := (.int .i64 0)) Tryd.sizeOf3 rfl rfl rfl (one_all rfl) e46).trans (by rw [e45]; rfl)) trivial ?_ trivial
    refine s_fin ?_
    exact N_mk (l := [(2, (.int .i64 n3)), (5, (.int .i64 more6)), (12, (.pointer (some q15)))]) H ⟨rfl, rfl, rfl, trivial⟩
  · have H := H.2 g47
    refine W_skip ?_
    exact N_mk (l := [(2, (.int .i64 n3)), (5, (.int .i64 more6)), (12, (.pointer (some q15)))]) H ⟨rfl, rfl, rfl, trivial⟩

/-! ### seg_Seg_safe -/

def seg_Seg_safe_F (r : World) (s1 : Option Addr) (va2 : Int) (x3 : Int) (h : Heap) (R : Bool → Heap → Prop) : Prop :=
  Ck s1 fun p4 =>
  LdS h (Addr.add p4 1) fun x6 =>
  Ix x6 va2 6 fun q12 =>
  LdI h (Addr.add q12 0) fun x14 =>
  LdI h (Addr.add q12 1) fun x16 =>
  LdI h (Addr.add q12 2) fun x18 =>
  LdB h (Addr.add q12 3) fun x20 =>
  LdI h (Addr.add q12 4) fun x22 =>
  LdI h (Addr.add q12 5) fun x24 =>
  New h (.cells #[(.int .i64 0), (.int .i64 0), (.int .i64 0), (.bool false), (.int .i64 0), (.int .i64 0)] 117) fun p26 h1 =>
  St h1 p26 6 [(.int .i64 x14), (.int .i64 x16), (.int .i64 x18), (.bool x20), (.int .i64 x22), (.int .i64 x24)] fun h2 =>
  ∀ J32 : Bool → Prop, (∀ (x31 : Bool),
    (R x31 h2) →
    J32 x31) →
  LdI h2 (Addr.add p26 1) fun x34 =>
  LdI h2 (Addr.add p26 1) fun x36 =>
  Br ((decide (0 ≤ x3)) == (decide (x36 ≤ (w64 (x34 + x3))))) (
    LdI h2 (Addr.add p26 2) fun x39 =>
    LdI h2 (Addr.add p26 2) fun x41 =>
    ∀ x43 : Bool, x43 = ((decide (0 ≤ x3)) == (decide (x41 ≤ (w64 (x39 + x3))))) →
    J32 x43) (
    J32 false)

set_option maxRecDepth 100000 in
theorem seg_Seg_safe_of {r : World} {s1 : Option Addr} {va2 : Int} {x3 : Int} {h : Heap} {R : Bool → Heap → Prop} (H : seg_Seg_safe_F r s1 va2 x3 h R) : seg_Seg_safe r s1 va2 x3 h R := by
  unfold seg_Seg_safe_F at H
  refine calls_of 37 [.tmp 6] Tryd.func115 rfl rfl rfl rfl rfl ?_
  refine W_seq ?_
  refine W_region (.pu 0 .fin) rfl rfl ?_
  refine s_pu (d := some 6) (v := (.bool false)) rfl rfl rfl (r_assign rfl) ?_
  refine s_fin ?_
  show W _ _ _ _ _ _ _ _
  refine W_seq ?_
  refine W_region (.pu 0 (.pu 1 (.pu 2 (.rl 3 (.pu 4 (.pu 5 (.rl 6 (.ef 7 [] (.ef 8 [] .fin .no) .no)))))))) rfl rfl ?_
  refine s_pu (d := some 8) (v := (.pointer s1)) rfl rfl rfl (r_move rfl) ?_
  obtain ⟨p4, e5, H⟩ := H
  refine s_pu (d := some 9) (v := (.pointer (some p4))) rfl rfl rfl (r_nilCheck rfl e5) ?_
  refine s_pu (d := some 10) (v := (.pointer (some (Addr.add p4 1)))) rfl rfl rfl (r_fieldAddr Tryd.underlying113 Tryd.sizeOf111 rfl rfl rfl) ?_
  obtain ⟨x6, e7, H⟩ := H
  refine s_rl (d := some 11) (v := (Sl.v x6)) rfl rfl rfl (fun dr => r_load1 Tryd.isAgg111 rfl e7) ?_
  refine s_pu (d := some 12) (v := (.int .i64 va2)) rfl rfl rfl (r_move rfl) ?_
  obtain ⟨p8, e9, e10, e11, H⟩ := H
  obtain ⟨q12, e13⟩ : ∃ q : Addr, q = Addr.add p8 (Int.toNat va2 * 6) := ⟨_, rfl⟩
  rw [← e13] at H
  refine s_pu (d := some 13) (v := (.pointer (some q12))) rfl rfl rfl (fun w => (r_indexAddr Tryd.underlying111 Tryd.sizeOf117 rfl rfl e9 e10 e11 w).trans (by rw [e13])) ?_
  obtain ⟨x14, e15, H⟩ := H
  obtain ⟨x16, e17, H⟩ := H
  obtain ⟨x18, e19, H⟩ := H
  obtain ⟨x20, e21, H⟩ := H
  obtain ⟨x22, e23, H⟩ := H
  obtain ⟨x24, e25, H⟩ := H
  refine s_rl (d := some 14) (v := (.agg #[(.int .i64 x14), (.int .i64 x16), (.int .i64 x18), (.bool x20), (.int .i64 x22), (.int .i64 x24)])) rfl rfl rfl (fun dr => r_loadN Tryd.isAgg117 Tryd.sizeOf117 (vs := [(.int .i64 x14), (.int .i64 x16), (.int .i64 x18), (.bool x20), (.int .i64 x22), (.int .i64 x24)]) rfl rfl ⟨e15, e17, e19, e21, e23, e25, trivial⟩) ?_
  obtain ⟨p26, e27⟩ : ∃ p : Addr, p = ⟨h.size, 0, none⟩ := ⟨_, rfl⟩
  obtain ⟨h1, e28⟩ : ∃ hh : Heap, hh = h.push (.cells #[(.int .i64 0), (.int .i64 0), (.int .i64 0), (.bool false), (.int .i64 0), (.int .i64 0)] 117) := ⟨_, rfl⟩
  have H := H p26 h1 e27 e28
  refine s_ef1 (d := some 7) (v := (.pointer (some p26))) (h' := h1) rfl rfl rfl (fun dr => (r_alloc Tryd.zeroValue117).trans (by rw [e27, e28]; rfl)) trivial ?_ trivial
  obtain ⟨e30, H⟩ := H
  obtain ⟨h2, e29⟩ : ∃ hh : Heap, hh = hsets h1 p26 0 [(.int .i64 x14), (.int .i64 x16), (.int .i64 x18), (.bool x20), (.int .i64 x22), (.int .i64 x24)] := ⟨_, rfl⟩
  have H := H h2 e29
  refine s_st (d := none) (h' := h2) rfl rfl rfl (fun dr => (r_store (v := (.agg #[(.int .i64 x14), (.int .i64 x16), (.int .i64 x18), (.bool x20), (.int .i64 x22), (.int .i64 x24)])) Tryd.sizeOf117 rfl rfl rfl (one_all rfl) e30).trans (by rw [e29]; rfl)) trivial ?_ trivial
  refine s_fin ?_
  show W _ _ _ _ _ _ _ _
  refine W_seq ?_
  refine W_set ?_
  intro N33 eN33
  have H := H (fun (x31 : Bool) => ∀ b, N33 [] (mkE [(6, (.bool x31))] b) h2) (by
    intro x31 H b
    rw [eN33]
    show W _ _ _ _ _ _ _ _
    refine W_ret ?_
    exact ⟨[(.bool x31)], ⟨_, _, rfl, rfl, rfl⟩, x31, rfl, H⟩)
  clear eN33
  refine W_region (.pu 0 (.pu 1 (.pu 2 (.rl 3 (.pu 4 (.pu 5 (.pu 6 (.rl 7 (.pu 8 (.pu 9 (.pu 10 (.pu 11 (.pu 12 (.pu 13 (.rl 14 (.pu 15 (.pu 16 (.pu 17 (.rl 18 (.pu 19 (.pu 20 (.pu 21 (.pu 22 .fin))))))))))))))))))))))) rfl rfl ?_
  refine s_pu (d := some 15) (v := (.int .i64 x3)) rfl rfl rfl (r_move rfl) ?_
  refine s_pu (d := some 16) (v := (.bool (decide (0 ≤ x3)))) rfl rfl rfl (r_geq rfl rfl) ?_
  refine s_pu (d := some 17) (v := (.pointer (some (Addr.add p26 1)))) rfl rfl rfl (r_fieldAddr Tryd.underlying117 Tryd.sizeOf3 rfl rfl rfl) ?_
  obtain ⟨x34, e35, H⟩ := H
  refine s_rl (d := some 18) (v := (.int .i64 x34)) rfl rfl rfl (fun dr => r_load1 Tryd.isAgg3 rfl e35) ?_
  refine s_pu (d := some 19) (v := (.int .i64 x3)) rfl rfl rfl (r_move rfl) ?_
  refine s_pu (d := some 20) (v := (.int .i64 (w64 (x34 + x3)))) rfl rfl rfl (r_add rfl rfl) ?_
  refine s_pu (d := some 21) (v := (.pointer (some (Addr.add p26 1)))) rfl rfl rfl (r_fieldAddr Tryd.underlying117 Tryd.sizeOf3 rfl rfl rfl) ?_
  obtain ⟨x36, e37, H⟩ := H
  refine s_rl (d := some 22) (v := (.int .i64 x36)) rfl rfl rfl (fun dr => r_load1 Tryd.isAgg3 rfl e37) ?_
  refine s_pu (d := some 23) (v := (.bool (decide (x36 ≤ (w64 (x34 + x3)))))) rfl rfl rfl (r_geq rfl rfl) ?_
  refine s_pu (d := some 24) (v := (.bool ((decide (0 ≤ x3)) == (decide (x36 ≤ (w64 (x34 + x3))))))) rfl rfl rfl (r_eqlB Tryd.underlying4 rfl rfl) ?_
  refine s_pu (d := some 25) (v := (.bool ((decide (0 ≤ x3)) == (decide (x36 ≤ (w64 (x34 + x3))))))) rfl rfl rfl (r_move rfl) ?_
  rcases Bool.eq_false_or_eq_true ((decide (0 ≤ x3)) == (decide (x36 ≤ (w64 (x34 + x3))))) with g38 | g38
  · have H := H.1 g38
    refine s_pu (d := some 26) (v := (.int .i64 x3)) rfl rfl (wants_yes rfl rfl rfl rfl g38) (r_move rfl) ?_
    refine s_pu (d := some 27) (v := (.bool (decide (0 ≤ x3)))) rfl rfl (wants_yes rfl rfl rfl rfl g38) (r_geq rfl rfl) ?_
    refine s_pu (d := some 28) (v := (.pointer (some (Addr.add p26 2)))) rfl rfl (wants_yes rfl rfl rfl rfl g38) (r_fieldAddr Tryd.underlying117 Tryd.sizeOf3 rfl rfl rfl) ?_
    obtain ⟨x39, e40, H⟩ := H
    refine s_rl (d := some 29) (v := (.int .i64 x39)) rfl rfl (wants_yes rfl rfl rfl rfl g38) (fun dr => r_load1 Tryd.isAgg3 rfl e40) ?_
    refine s_pu (d := some 30) (v := (.int .i64 x3)) rfl rfl (wants_yes rfl rfl rfl rfl g38) (r_move rfl) ?_
    refine s_pu (d := some 31) (v := (.int .i64 (w64 (x39 + x3)))) rfl rfl (wants_yes rfl rfl rfl rfl g38) (r_add rfl rfl) ?_
    refine s_pu (d := some 32) (v := (.pointer (some (Addr.add p26 2)))) rfl rfl (wants_yes rfl rfl rfl rfl g38) (r_fieldAddr Tryd.underlying117 Tryd.sizeOf3 rfl rfl rfl) ?_
    obtain ⟨x41, e42, H⟩ := H
    refine s_rl (d := some 33) (v := (.int .i64 x41)) rfl rfl (wants_yes rfl rfl rfl rfl g38) (fun dr => r_load1 Tryd.isAgg3 rfl e42) ?_
    refine s_pu (d := some 34) (v := (.bool (decide (x41 ≤ (w64 (x39 + x3)))))) rfl rfl (wants_yes rfl rfl rfl rfl g38) (r_geq rfl rfl) ?_
    refine s_pu (d := some 35) (v := (.bool ((decide (0 ≤ x3)) == (decide (x41 ≤ (w64 (x39 + x3))))))) rfl rfl (wants_yes rfl rfl rfl rfl g38) (r_eqlB Tryd.underlying4 rfl rfl) ?_
    refine s_pu (d := some 36) (v := (.bool ((decide (0 ≤ x3)) == (decide (x41 ≤ (w64 (x39 + x3))))))) rfl rfl rfl (r_pick1 rfl g38 rfl) ?_
    obtain ⟨x43, e44⟩ : ∃ x : Bool, x = ((decide (0 ≤ x3)) == (decide (x41 ≤ (w64 (x39 + x3))))) := ⟨_, rfl⟩
    have H := H x43 e44
    refine s_pu (d := some 6) (v := (.bool x43)) rfl rfl rfl (r_assign (congrArg Value.bool e44.symm)) ?_
    refine s_fin ?_
    exact N_mk (l := [(6, (.bool x43))]) H ⟨rfl, trivial⟩
  · have H := H.2 g38
    refine s_sk (d := some 26) rfl rfl (wants_no rfl rfl rfl rfl g38) ?_
    refine s_sk (d := some 27) rfl rfl (wants_no rfl rfl rfl rfl g38) ?_
    refine s_sk (d := some 28) rfl rfl (wants_no rfl rfl rfl rfl g38) ?_
    refine s_skl (d := some 29) rfl rfl (wants_no rfl rfl rfl rfl g38) ?_
    refine s_sk (d := some 30) rfl rfl (wants_no rfl rfl rfl rfl g38) ?_
    refine s_sk (d := some 31) rfl rfl (wants_no rfl rfl rfl rfl g38) ?_
    refine s_sk (d := some 32) rfl rfl (wants_no rfl rfl rfl rfl g38) ?_
    refine s_skl (d := some 33) rfl rfl (wants_no rfl rfl rfl rfl g38) ?_
    refine s_sk (d := some 34) rfl rfl (wants_no rfl rfl rfl rfl g38) ?_
    refine s_sk (d := some 35) rfl rfl (wants_no rfl rfl rfl rfl g38) ?_
    refine s_pu (d := some 36) (v := (.bool false)) rfl rfl rfl (r_pick0 rfl g38 rfl) ?_
    refine s_pu (d := some 6) (v := (.bool false)) rfl rfl rfl (r_assign rfl) ?_
    refine s_fin ?_
    exact N_mk (l := [(6, (.bool false))]) H ⟨rfl, trivial⟩

/-! ### seg_Seg_push -/

def seg_Seg_push_F (r : World) (s1 : Option Addr) (va2 : Int) (n3 : Int) (h : Heap) (R : Heap → Prop) : Prop :=
  Ck s1 fun p4 =>
  LdS h (Addr.add p4 1) fun x6 =>
  Ix x6 va2 6 fun q12 =>
  LdB h (Addr.add q12 3) fun x14 =>
  LdI h (Addr.add q12 4) fun x16 =>
  LdI h (Addr.add q12 5) fun x18 =>
  seg_Seg_all r s1 (w64 (2 * va2)) (w64 (Int.tdiv n3 2)) x14 x16 x18 h fun  h1 =>
  LdB h1 (Addr.add q12 3) fun x20 =>
  LdI h1 (Addr.add q12 4) fun x22 =>
  LdI h1 (Addr.add q12 5) fun x24 =>
  seg_Seg_all r s1 (w64 ((w64 (2 * va2)) + 1)) (w64 (n3 - (w64 (Int.tdiv n3 2)))) x20 x22 x24 h1 fun  h2 =>
  St h2 (Addr.add q12 3) 1 [(.bool false)] fun h3 =>
  St h3 (Addr.add q12 4) 1 [(.int .i64 0)] fun h4 =>
  St h4 (Addr.add q12 5) 1 [(.int .i64 0)] fun h5 =>
  R h5

set_option maxRecDepth 100000 in
theorem seg_Seg_push_of {r : World} {s1 : Option Addr} {va2 : Int} {n3 : Int} {h : Heap} {R : Heap → Prop} (H : seg_Seg_push_F r s1 va2 n3 h R) : seg_Seg_push r s1 va2 n3 h R := by
  unfold seg_Seg_push_F at H
  refine calls_of 61 [] Tryd.func116 rfl rfl rfl rfl rfl ?_
  refine W_seq ?_
  refine W_region (.pu 0 (.pu 1 (.pu 2 (.rl 3 (.pu 4 (.pu 5 (.pu 6 .fin))))))) rfl rfl ?_
  refine s_pu (d := some 7) (v := (.pointer s1)) rfl rfl rfl (r_move rfl) ?_
  obtain ⟨p4, e5, H⟩ := H
  refine s_pu (d := some 8) (v := (.pointer (some p4))) rfl rfl rfl (r_nilCheck rfl e5) ?_
  refine s_pu (d := some 9) (v := (.pointer (some (Addr.add p4 1)))) rfl rfl rfl (r_fieldAddr Tryd.underlying113 Tryd.sizeOf111 rfl rfl rfl) ?_
  obtain ⟨x6, e7, H⟩ := H
  refine s_rl (d := some 10) (v := (Sl.v x6)) rfl rfl rfl (fun dr => r_load1 Tryd.isAgg111 rfl e7) ?_
  refine s_pu (d := some 11) (v := (.int .i64 va2)) rfl rfl rfl (r_move rfl) ?_
  obtain ⟨p8, e9, e10, e11, H⟩ := H
  obtain ⟨q12, e13⟩ : ∃ q : Addr, q = Addr.add p8 (Int.toNat va2 * 6) := ⟨_, rfl⟩
  rw [← e13] at H
  refine s_pu (d := some 12) (v := (.pointer (some q12))) rfl rfl rfl (fun w => (r_indexAddr Tryd.underlying111 Tryd.sizeOf117 rfl rfl e9 e10 e11 w).trans (by rw [e13])) ?_
  refine s_pu (d := some 6) (v := (.pointer (some q12))) rfl rfl rfl (r_assign rfl) ?_
  refine s_fin ?_
  show W _ _ _ _ _ _ _ _
  refine W_seq ?_
  refine W_draw [0, 0, 2, 0, 8, 0, 32, 96, 224, 0, 512, 1536, 3584, 0, 8192, 24576, 57344, 131071] (.pu 0 (.pu 1 (.pu 2 (.pu 3 (.pu 4 (.pu 5 (.pu 6 (.pu 7 (.rd 8 (.pu 9 (.pu 10 (.pu 11 (.rd 12 (.pu 13 (.pu 14 (.pu 15 (.rd 16 (.ef 17 [8, 12, 16] .fin .no)))))))))))))))))) (by kernel_rfl) (by kernel_rfl) ?_
  refine s_pu (d := some 13) (v := (.pointer s1)) rfl rfl rfl (r_move rfl) ?_
  refine s_pu (d := some 14) (v := (.int .i64 va2)) rfl rfl rfl (r_move rfl) ?_
  refine s_pu (d := some 15) (v := (.int .i64 (w64 (2 * va2)))) rfl rfl rfl (r_mul rfl rfl) ?_
  refine s_pu (d := some 16) (v := (.int .i64 n3)) rfl rfl rfl (r_move rfl) ?_
  refine s_pu (d := some 17) (v := (.int .i64 (w64 (Int.tdiv n3 2)))) rfl rfl rfl (r_quo rfl rfl (by decide)) ?_
  refine s_pu (d := some 18) (v := (.pointer (some q12))) rfl rfl rfl (r_move rfl) ?_
  refine s_pu (d := some 19) (v := (.pointer (some q12))) rfl rfl rfl (r_nilCheck rfl rfl) ?_
  refine s_pu (d := some 20) (v := (.pointer (some (Addr.add q12 3)))) rfl rfl rfl (r_fieldAddr Tryd.underlying117 Tryd.sizeOf4 rfl rfl rfl) ?_
  obtain ⟨x14, e15, H⟩ := H
  refine s_rd (d := some 21) (v := (.bool x14)) rfl rfl rfl (fun dr => r_load1 Tryd.isAgg4 rfl e15) ?_
  refine s_pu (d := some 22) (v := (.pointer (some q12))) rfl rfl rfl (r_move rfl) ?_
  refine s_pu (d := some 23) (v := (.pointer (some q12))) rfl rfl rfl (r_nilCheck rfl rfl) ?_
  refine s_pu (d := some 24) (v := (.pointer (some (Addr.add q12 4)))) rfl rfl rfl (r_fieldAddr Tryd.underlying117 Tryd.sizeOf3 rfl rfl rfl) ?_
  obtain ⟨x16, e17, H⟩ := H
  refine s_rd (d := some 25) (v := (.int .i64 x16)) rfl rfl rfl (fun dr => r_load1 Tryd.isAgg3 rfl e17) ?_
  refine s_pu (d := some 26) (v := (.pointer (some q12))) rfl rfl rfl (r_move rfl) ?_
  refine s_pu (d := some 27) (v := (.pointer (some q12))) rfl rfl rfl (r_nilCheck rfl rfl) ?_
  refine s_pu (d := some 28) (v := (.pointer (some (Addr.add q12 5)))) rfl rfl rfl (r_fieldAddr Tryd.underlying117 Tryd.sizeOf3 rfl rfl rfl) ?_
  obtain ⟨x18, e19, H⟩ := H
  refine s_rd (d := some 29) (v := (.int .i64 x18)) rfl rfl rfl (fun dr => r_load1 Tryd.isAgg3 rfl e19) ?_
  refine s_ef (d := some 30) rfl rfl rfl (fun dr => r_call Tryd.call114 rfl rfl H) ?_ trivial
  rintro _ h1 ⟨rfl, H⟩
  refine ⟨⟨trivial, trivial, trivial, trivial⟩, ?_⟩
  refine s_fin ?_
  show W _ _ _ _ _ _ _ _
  refine W_seq ?_
  refine W_draw [0, 0, 2, 6, 0, 0, 32, 112, 0, 256, 768, 1792, 0, 4096, 12288, 28672, 0, 65536, 196608, 458752, 1048575] (.pu 0 (.pu 1 (.pu 2 (.pu 3 (.pu 4 (.pu 5 (.pu 6 (.pu 7 (.pu 8 (.pu 9 (.pu 10 (.rd 11 (.pu 12 (.pu 13 (.pu 14 (.rd 15 (.pu 16 (.pu 17 (.pu 18 (.rd 19 (.ef 20 [11, 15, 19] .fin .no))))))))))))))))))))) (by kernel_rfl) (by kernel_rfl) ?_
  refine s_pu (d := some 31) (v := (.pointer s1)) rfl rfl rfl (r_move rfl) ?_
  refine s_pu (d := some 32) (v := (.int .i64 va2)) rfl rfl rfl (r_move rfl) ?_
  refine s_pu (d := some 33) (v := (.int .i64 (w64 (2 * va2)))) rfl rfl rfl (r_mul rfl rfl) ?_
  refine s_pu (d := some 34) (v := (.int .i64 (w64 ((w64 (2 * va2)) + 1)))) rfl rfl rfl (r_add rfl rfl) ?_
  refine s_pu (d := some 35) (v := (.int .i64 n3)) rfl rfl rfl (r_move rfl) ?_
  refine s_pu (d := some 36) (v := (.int .i64 n3)) rfl rfl rfl (r_move rfl) ?_
  refine s_pu (d := some 37) (v := (.int .i64 (w64 (Int.tdiv n3 2)))) rfl rfl rfl (r_quo rfl rfl (by decide)) ?_
  refine s_pu (d := some 38) (v := (.int .i64 (w64 (n3 - (w64 (Int.tdiv n3 2)))))) rfl rfl rfl (r_sub rfl rfl) ?_
  refine s_pu (d := some 39) (v := (.pointer (some q12))) rfl rfl rfl (r_move rfl) ?_
  refine s_pu (d := some 40) (v := (.pointer (some q12))) rfl rfl rfl (r_nilCheck rfl rfl) ?_
  refine s_pu (d := some 41) (v := (.pointer (some (Addr.add q12 3)))) rfl rfl rfl (r_fieldAddr Tryd.underlying117 Tryd.sizeOf4 rfl rfl rfl) ?_
  obtain ⟨x20, e21, H⟩ := H
  refine s_rd (d := some 42) (v := (.bool x20)) rfl rfl rfl (fun dr => r_load1 Tryd.isAgg4 rfl e21) ?_
  refine s_pu (d := some 43) (v := (.pointer (some q12))) rfl rfl rfl (r_move rfl) ?_
  refine s_pu (d := some 44) (v := (.pointer (some q12))) rfl rfl rfl (r_nilCheck rfl rfl) ?_
  refine s_pu (d := some 45) (v := (.pointer (some (Addr.add q12 4)))) rfl rfl rfl (r_fieldAddr Tryd.underlying117 Tryd.sizeOf3 rfl rfl rfl) ?_
  obtain ⟨x22, e23, H⟩ := H
  refine s_rd (d := some 46) (v := (.int .i64 x22)) rfl rfl rfl (fun dr => r_load1 Tryd.isAgg3 rfl e23) ?_
  refine s_pu (d := some 47) (v := (.pointer (some q12))) rfl rfl rfl (r_move rfl) ?_
  refine s_pu (d := some 48) (v := (.pointer (some q12))) rfl rfl rfl (r_nilCheck rfl rfl) ?_
  refine s_pu (d := some 49) (v := (.pointer (some (Addr.add q12 5)))) rfl rfl rfl (r_fieldAddr Tryd.underlying117 Tryd.sizeOf3 rfl rfl rfl) ?_
  obtain ⟨x24, e25, H⟩ := H
  refine s_rd (d := some 50) (v := (.int .i64 x24)) rfl rfl rfl (fun dr => r_load1 Tryd.isAgg3 rfl e25) ?_
  refine s_ef (d := some 51) rfl rfl rfl (fun dr => r_call Tryd.call114 rfl rfl H) ?_ trivial
  rintro _ h2 ⟨rfl, H⟩
  refine ⟨⟨trivial, trivial, trivial, trivial⟩, ?_⟩
  refine s_fin ?_
  show W _ _ _ _ _ _ _ _
  refine W_region (.pu 0 (.pu 1 (.pu 2 (.pu 3 (.pu 4 (.ef 5 [] (.pu 6 (.pu 7 (.ef 8 [] (.pu 9 (.pu 10 (.ef 11 [] .fin .no))) .no))) .no)))))) rfl rfl ?_
  refine s_pu (d := some 52) (v := (.pointer (some q12))) rfl rfl rfl (r_move rfl) ?_
  refine s_pu (d := some 53) (v := (.pointer (some q12))) rfl rfl rfl (r_move rfl) ?_
  refine s_pu (d := some 54) (v := (.pointer (some q12))) rfl rfl rfl (r_move rfl) ?_
  refine s_pu (d := some 55) (v := (.pointer (some q12))) rfl rfl rfl (r_nilCheck rfl rfl) ?_
  refine s_pu (d := some 56) (v := (.pointer (some (Addr.add q12 3)))) rfl rfl rfl (r_fieldAddr Tryd.underlying117 Tryd.sizeOf4 rfl rfl rfl) ?_
  obtain ⟨e27, H⟩ := H
  obtain ⟨h3, e26⟩ : ∃ hh : Heap, hh = hsets h2 (Addr.add q12 3) 0 [(.bool false)] := ⟨_, rfl⟩
  have H := H h3 e26
  refine s_st (d := none) (h' := h3) rfl rfl rfl (fun dr => (r_store (v := (.bool false)) Tryd.sizeOf4 rfl rfl rfl (one_all rfl) e27).trans (by rw [e26]; rfl)) trivial ?_ trivial
  refine s_pu (d := some 57) (v := (.pointer (some q12))) rfl rfl rfl (r_nilCheck rfl rfl) ?_
  refine s_pu (d := some 58) (v := (.pointer (some (Addr.add q12 4)))) rfl rfl rfl (r_fieldAddr Tryd.underlying117 Tryd.sizeOf3 rfl rfl rfl) ?_
  obtain ⟨e29, H⟩ := H
  obtain ⟨h4, e28⟩ : ∃ hh : Heap, hh = hsets h3 (Addr.add q12 4) 0 [(.int .i64 0)] := ⟨_, rfl⟩
  have H := H h4 e28
  refine s_st (d := none) (h' := h4) rfl rfl rfl (fun dr => (r_store (v := (.int .i64 0)) Tryd.sizeOf3 rfl rfl rfl (one_all rfl) e29).trans (by rw [e28]; rfl)) trivial ?_ trivial
  refine s_pu (d := some 59) (v := (.pointer (some q12))) rfl rfl rfl (r_nilCheck rfl rfl) ?_
  refine s_pu (d := some 60) (v := (.pointer (some (Addr.add q12 5)))) rfl rfl rfl (r_fieldAddr Tryd.underlying117 Tryd.sizeOf3 rfl rfl rfl) ?_
  obtain ⟨e31, H⟩ := H
  obtain ⟨h5, e30⟩ : ∃ hh : Heap, hh = hsets h4 (Addr.add q12 5) 0 [(.int .i64 0)] := ⟨_, rfl⟩
  have H := H h5 e30
  refine s_st (d := none) (h' := h5) rfl rfl rfl (fun dr => (r_store (v := (.int .i64 0)) Tryd.sizeOf3 rfl rfl rfl (one_all rfl) e31).trans (by rw [e30]; rfl)) trivial ?_ trivial
  refine s_fin ?_
  exact ⟨[], rfl, rfl, H⟩

end Go.Proofs.YtcafckgflpmfgaaDoor
