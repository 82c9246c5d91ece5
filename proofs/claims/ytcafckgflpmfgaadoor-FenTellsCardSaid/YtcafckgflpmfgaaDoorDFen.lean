/- Typed words of functions, and that they hold: printed by gen.py (an own tool of this claim) off the model's own form of each function. -/
import Derived.Test.YtcafckgflpmfgaaDoorProg
import Derived.Test.YtcafckgflpmfgaaDoorDBas
import Derived.Test.YtcafckgflpmfgaaDoorDErr
namespace Go.Proofs.YtcafckgflpmfgaaDoor
open Go Go.RowKit Go.Tw
set_option linter.unusedVariables false

theorem slFDFen_22 : SlF Tryd.prog 22 3 1 8 (.int .i64 0) := ⟨Tryd.underlying22, ⟨Tryd.t3, by kernel_rfl, rfl, rfl, rfl⟩, rfl, Tryd.sizeOf3, Tryd.zeroValue3⟩

/-! ### the calls -/

abbrev fen_New (r : World) (n1 : Int) (h : Heap) (R : Option Addr → Value → Heap → Prop) : Prop :=
  CallsH Tryd.prog r 11 [(.int .i64 n1)] h fun v h' => ∃ (y2 : Option Addr) (y3 : Value), v = (.tuple #[(.pointer y2), y3]) ∧ R y2 y3 h'

theorem fen_New.mono {r : World} {n1 : Int} {h : Heap} {R R' : Option Addr → Value → Heap → Prop} (H : fen_New r n1 h R) (hr : ∀ y2 y3 h, R y2 y3 h → R' y2 y3 h) : fen_New r n1 h R' :=
  CallsH.mono H fun _ _ hx => by
    obtain ⟨y2, y3, hv, hR⟩ := hx
    exact ⟨y2, y3, hv, hr _ _ _ hR⟩

abbrev fen_Fen_Add (r : World) (f1 : Option Addr) (i2 : Int) (x3 : Int) (h : Heap) (R : Value → Heap → Prop) : Prop :=
  CallsH Tryd.prog r 13 [(.pointer f1), (.int .i64 i2), (.int .i64 x3)] h R

theorem fen_Fen_Add.mono {r : World} {f1 : Option Addr} {i2 : Int} {x3 : Int} {h : Heap} {R R' : Value → Heap → Prop} (H : fen_Fen_Add r f1 i2 x3 h R) (hr : ∀ y h, R y h → R' y h) : fen_Fen_Add r f1 i2 x3 h R' := CallsH.mono H hr

abbrev fen_Fen_Sum (r : World) (f1 : Option Addr) (i2 : Int) (h : Heap) (R : Int → Value → Heap → Prop) : Prop :=
  CallsH Tryd.prog r 15 [(.pointer f1), (.int .i64 i2)] h fun v h' => ∃ (y3 : Int) (y4 : Value), v = (.tuple #[(.int .i64 y3), y4]) ∧ R y3 y4 h'

theorem fen_Fen_Sum.mono {r : World} {f1 : Option Addr} {i2 : Int} {h : Heap} {R R' : Int → Value → Heap → Prop} (H : fen_Fen_Sum r f1 i2 h R) (hr : ∀ y3 y4 h, R y3 y4 h → R' y3 y4 h) : fen_Fen_Sum r f1 i2 h R' :=
  CallsH.mono H fun _ _ hx => by
    obtain ⟨y3, y4, hv, hR⟩ := hx
    exact ⟨y3, y4, hv, hr _ _ _ hR⟩

abbrev fen_Fen_Find (r : World) (f1 : Option Addr) (k2 : Int) (h : Heap) (R : Int → Value → Heap → Prop) : Prop :=
  CallsH Tryd.prog r 16 [(.pointer f1), (.int .i64 k2)] h fun v h' => ∃ (y3 : Int) (y4 : Value), v = (.tuple #[(.int .i64 y3), y4]) ∧ R y3 y4 h'

theorem fen_Fen_Find.mono {r : World} {f1 : Option Addr} {k2 : Int} {h : Heap} {R R' : Int → Value → Heap → Prop} (H : fen_Fen_Find r f1 k2 h R) (hr : ∀ y3 y4 h, R y3 y4 h → R' y3 y4 h) : fen_Fen_Find r f1 k2 h R' :=
  CallsH.mono H fun _ _ hx => by
    obtain ⟨y3, y4, hv, hR⟩ := hx
    exact ⟨y3, y4, hv, hr _ _ _ hR⟩

abbrev fen_Fen_Ints (r : World) (f1 : Option Addr) (h : Heap) (R : Sl → Heap → Prop) : Prop :=
  CallsH Tryd.prog r 18 [(.pointer f1)] h fun v h' => ∃ (y2 : Sl), v = (Sl.v y2) ∧ R y2 h'

theorem fen_Fen_Ints.mono {r : World} {f1 : Option Addr} {h : Heap} {R R' : Sl → Heap → Prop} (H : fen_Fen_Ints r f1 h R) (hr : ∀ y2 h, R y2 h → R' y2 h) : fen_Fen_Ints r f1 h R' :=
  CallsH.mono H fun _ _ hx => by
    obtain ⟨y2, hv, hR⟩ := hx
    exact ⟨y2, hv, hr _ _ hR⟩

abbrev law5_fenned (r : World)  (h : Heap) (R : Bool → Heap → Prop) : Prop :=
  CallsH Tryd.prog r 10 [] h fun v h' => ∃ (y1 : Bool), v = (.bool y1) ∧ R y1 h'

theorem law5_fenned.mono {r : World}  {h : Heap} {R R' : Bool → Heap → Prop} (H : law5_fenned r  h R) (hr : ∀ y1 h, R y1 h → R' y1 h) : law5_fenned r  h R' :=
  CallsH.mono H fun _ _ hx => by
    obtain ⟨y1, hv, hR⟩ := hx
    exact ⟨y1, hv, hr _ _ hR⟩

abbrev law5_FenTells (r : World) (n1 : Int) (is2 : Sl) (xs3 : Sl) (i4 : Int) (k5 : Int) (h : Heap) (R : Bool → Heap → Prop) : Prop :=
  CallsH Tryd.prog r 3 [(.int .i64 n1), (Sl.v is2), (Sl.v xs3), (.int .i64 i4), (.int .i64 k5)] h fun v h' => ∃ (y6 : Bool), v = (.bool y6) ∧ R y6 h'

theorem law5_FenTells.mono {r : World} {n1 : Int} {is2 : Sl} {xs3 : Sl} {i4 : Int} {k5 : Int} {h : Heap} {R R' : Bool → Heap → Prop} (H : law5_FenTells r n1 is2 xs3 i4 k5 h R) (hr : ∀ y6 h, R y6 h → R' y6 h) : law5_FenTells r n1 is2 xs3 i4 k5 h R' :=
  CallsH.mono H fun _ _ hx => by
    obtain ⟨y6, hv, hR⟩ := hx
    exact ⟨y6, hv, hr _ _ hR⟩

/-! ### fen_New -/

def fen_New_F (r : World) (n1 : Int) (h : Heap) (R : Option Addr → Value → Heap → Prop) : Prop :=
  Br ((decide (n1 < 0)) || (decide (5000 < n1))) (
    R none ((.iface 29 (.int .i64 1))) h) (
    MkS 3 1 8 (.int .i64 0) (w64 (n1 + 1)) h fun s5 h1 =>
    New h1 (.cells #[(Sl.v s5)] 96) fun p11 h2 =>
    R (some p11) .nilIface h2)

set_option maxRecDepth 100000 in
theorem fen_New_of {r : World} {n1 : Int} {h : Heap} {R : Option Addr → Value → Heap → Prop} (H : fen_New_F r n1 h R) : fen_New r n1 h R := by
  unfold fen_New_F at H
  refine calls_of 16 [.tmp 2, .tmp 3] Tryd.func11 rfl rfl rfl rfl rfl ?_
  refine W_seq ?_
  refine W_region (.pu 0 (.pu 1 .fin)) rfl rfl ?_
  refine s_pu (d := some 2) (v := (.pointer none)) rfl rfl rfl (r_assign rfl) ?_
  refine s_pu (d := some 3) (v := .nilIface) rfl rfl rfl (r_assign rfl) ?_
  refine s_fin ?_
  show W _ _ _ _ _ _ _ _
  refine W_seq ?_
  refine W_seq ?_
  refine W_region (.pu 0 (.pu 1 (.pu 2 (.pu 3 (.pu 4 (.pu 5 .fin)))))) rfl rfl ?_
  refine s_pu (d := some 4) (v := (.int .i64 n1)) rfl rfl rfl (r_move rfl) ?_
  refine s_pu (d := some 5) (v := (.bool (decide (n1 < 0)))) rfl rfl rfl (r_lss rfl rfl) ?_
  refine s_pu (d := some 6) (v := (.bool (decide (n1 < 0)))) rfl rfl rfl (r_move rfl) ?_
  refine S_meet (l := [(0, (.int .i64 n1)), (9, (.bool ((decide (n1 < 0)) || (decide (5000 < n1)))))]) (i := 3) ?_ (fun HJ => ?_)
  · intro b
    show S _ _ _ _ _ _
    refine s_fin ?_
    show W _ _ _ _ _ _ _ _
    refine W_if ((decide (n1 < 0)) || (decide (5000 < n1))) rfl (fun g14 => ?_) (fun g14 => ?_)
    · have H := H.1 g14
      refine W_seq ?_
      refine W_region (.pu 0 (.pu 1 (.pu 2 .fin))) rfl rfl ?_
      refine s_pu (d := some 10) (v := ((.iface 29 (.int .i64 1)))) rfl rfl rfl (r_iface Tryd.underlying29 rfl rfl) ?_
      refine s_pu (d := some 2) (v := (.pointer none)) rfl rfl rfl (r_assign rfl) ?_
      refine s_pu (d := some 3) (v := ((.iface 29 (.int .i64 1)))) rfl rfl rfl (r_assign rfl) ?_
      refine s_fin ?_
      show W _ _ _ _ _ _ _ _
      refine W_ret ?_
      exact ⟨[(.pointer none), ((.iface 29 (.int .i64 1)))], ⟨_, _, rfl, rfl, ⟨_, _, rfl, rfl, rfl⟩⟩, none, ((.iface 29 (.int .i64 1))), rfl, H⟩
    · have H := H.2 g14
      refine W_skip ?_
      show W _ _ _ _ _ _ _ _
      refine W_seq ?_
      refine W_region (.pu 0 (.pu 1 (.ef 2 [] (.pu 3 (.ef 4 [] (.pu 5 (.pu 6 .fin)) .no)) .no))) rfl rfl ?_
      refine s_pu (d := some 11) (v := (.int .i64 n1)) rfl rfl rfl (r_move rfl) ?_
      refine s_pu (d := some 12) (v := (.int .i64 (w64 (n1 + 1)))) rfl rfl rfl (r_add rfl rfl) ?_
      obtain ⟨e6, e7, e8, H⟩ := H
      obtain ⟨s5, e9⟩ : ∃ s : Sl, s = ⟨some ⟨h.size, 0, none⟩, Int.toNat (w64 (n1 + 1)), Int.toNat (w64 (n1 + 1))⟩ := ⟨_, rfl⟩
      obtain ⟨h1, e10⟩ : ∃ hh : Heap, hh = _ := ⟨_, rfl⟩
      have H := H s5 h1 e9 e10
      refine s_ef1 (d := some 13) (v := (Sl.v s5)) (h' := h1) rfl rfl rfl (fun dr => (slFDFen_22.make rfl rfl e6 e7 e8).trans (by rw [e9, e10]; rfl)) trivial ?_ trivial
      refine s_pu (d := some 14) (v := (.agg #[(Sl.v s5)])) rfl rfl rfl (fun w => by kernel_rfl) ?_
      obtain ⟨p11, e12⟩ : ∃ p : Addr, p = ⟨h1.size, 0, none⟩ := ⟨_, rfl⟩
      obtain ⟨h2, e13⟩ : ∃ hh : Heap, hh = h1.push (.cells #[(Sl.v s5)] 96) := ⟨_, rfl⟩
      have H := H p11 h2 e12 e13
      refine s_ef1 (d := some 15) (v := (.pointer (some p11))) (h' := h2) rfl rfl rfl (fun dr => (r_box (v := (.agg #[(Sl.v s5)])) rfl).trans (by rw [e12, e13]; rfl)) trivial ?_ trivial
      refine s_pu (d := some 2) (v := (.pointer (some p11))) rfl rfl rfl (r_assign rfl) ?_
      refine s_pu (d := some 3) (v := .nilIface) rfl rfl rfl (r_assign rfl) ?_
      refine s_fin ?_
      show W _ _ _ _ _ _ _ _
      refine W_ret ?_
      exact ⟨[(.pointer (some p11)), .nilIface], ⟨_, _, rfl, rfl, ⟨_, _, rfl, rfl, rfl⟩⟩, (some p11), .nilIface, rfl, H⟩
  · rcases Bool.eq_false_or_eq_true (decide (n1 < 0)) with g2 | g2
    · refine s_sk (d := some 7) rfl rfl (wants_no rfl rfl rfl rfl g2) ?_
      refine s_sk (d := some 8) rfl rfl (wants_no rfl rfl rfl rfl g2) ?_
      refine s_pu (d := some 9) (v := (.bool true)) rfl rfl rfl (r_pick1 rfl g2 rfl) ?_
      exact S_mk (l := [(0, (.int .i64 n1)), (9, (.bool ((decide (n1 < 0)) || (decide (5000 < n1)))))]) HJ ⟨rfl, (by rw [g2]; rfl), trivial⟩
    · refine s_pu (d := some 7) (v := (.int .i64 n1)) rfl rfl (wants_yes rfl rfl rfl rfl g2) (r_move rfl) ?_
      refine s_pu (d := some 8) (v := (.bool (decide (5000 < n1)))) rfl rfl (wants_yes rfl rfl rfl rfl g2) (r_gtr rfl rfl) ?_
      refine s_pu (d := some 9) (v := (.bool (decide (5000 < n1)))) rfl rfl rfl (r_pick0 rfl g2 rfl) ?_
      exact S_mk (l := [(0, (.int .i64 n1)), (9, (.bool ((decide (n1 < 0)) || (decide (5000 < n1)))))]) HJ ⟨rfl, (by rw [g2]; rfl), trivial⟩

/-! ### fen_Fen_Add -/

def fen_Fen_Add_F (r : World) (f1 : Option Addr) (i2 : Int) (x3 : Int) (h : Heap) (R : Value → Heap → Prop) : Prop :=
  ∀ J5 : Bool → Prop, (∀ (x4 : Bool),
    (Br x4 (
      R ((.iface 29 (.int .i64 1))) h) (
      ∀ X8 : Int → Heap → Prop, (∀ (i7 : Int) (h1 : Heap),
        (Ck f1 fun p9 =>
        LdS h1 (Addr.add p9 0) fun x11 =>
        Br (decide (i7 < ((x11.len : Int)))) (
          Ck f1 fun p13 =>
          LdS h1 (Addr.add p13 0) fun x15 =>
          Ix x15 i7 1 fun q21 =>
          LdI h1 q21 fun x23 =>
          Ix x15 i7 1 fun q29 =>
          St h1 q29 1 [(.int .i64 (w64 (x23 + x3)))] fun h2 =>
          X8 (w64 (i7 + (bAnd .i64 i7 (w64 (0 - i7))))) h2) (
          R .nilIface h1)) →
        X8 i7 h1) →
      X8 (w64 (i2 + 1)) h)) →
    J5 x4) →
  Br (decide (i2 < 0)) (
    J5 true) (
    Ck f1 fun p36 =>
    LdS h (Addr.add p36 0) fun x38 =>
    Br (decide ((w64 (((x38.len : Int)) - 1)) ≤ i2)) (
      J5 true) (
      Br (decide (x3 < 0)) (
        J5 true) (
        J5 (decide (1073741824 < x3)))))

set_option maxRecDepth 100000 in
theorem fen_Fen_Add_of {r : World} {f1 : Option Addr} {i2 : Int} {x3 : Int} {h : Heap} {R : Value → Heap → Prop} (H : fen_Fen_Add_F r f1 i2 x3 h R) : fen_Fen_Add r f1 i2 x3 h R := by
  unfold fen_Fen_Add_F at H
  refine calls_of 53 [.tmp 6] Tryd.func13 rfl rfl rfl rfl rfl ?_
  refine W_seq ?_
  refine W_region (.pu 0 .fin) rfl rfl ?_
  refine s_pu (d := some 6) (v := .nilIface) rfl rfl rfl (r_assign rfl) ?_
  refine s_fin ?_
  show W _ _ _ _ _ _ _ _
  refine W_seq ?_
  refine W_seq ?_
  refine W_set ?_
  intro N6 eN6
  have H := H (fun (x4 : Bool) => ∀ b, N6 [] (mkE [(0, (.pointer f1)), (1, (.int .i64 i2)), (2, (.int .i64 x3)), (26, (.bool x4))] b) h) (by
    intro x4 H b
    rw [eN6]
    show W _ _ _ _ _ _ _ _
    refine W_if x4 rfl (fun g34 => ?_) (fun g34 => ?_)
    · have H := H.1 g34
      refine W_seq ?_
      refine W_region (.pu 0 (.pu 1 .fin)) rfl rfl ?_
      refine s_pu (d := some 27) (v := ((.iface 29 (.int .i64 1)))) rfl rfl rfl (r_iface Tryd.underlying29 rfl rfl) ?_
      refine s_pu (d := some 6) (v := ((.iface 29 (.int .i64 1)))) rfl rfl rfl (r_assign rfl) ?_
      refine s_fin ?_
      show W _ _ _ _ _ _ _ _
      refine W_ret ?_
      exact ⟨[((.iface 29 (.int .i64 1)))], ⟨_, _, rfl, rfl, rfl⟩, H⟩
    · have H := H.2 g34
      refine W_skip ?_
      show W _ _ _ _ _ _ _ _
      refine W_seq ?_
      refine W_seq ?_
      refine W_region (.pu 0 (.pu 1 (.pu 2 .fin))) rfl rfl ?_
      refine s_pu (d := some 28) (v := (.int .i64 i2)) rfl rfl rfl (r_move rfl) ?_
      refine s_pu (d := some 29) (v := (.int .i64 (w64 (i2 + 1)))) rfl rfl rfl (r_add rfl rfl) ?_
      refine s_pu (d := some 1) (v := (.int .i64 (w64 (i2 + 1)))) rfl rfl rfl (r_assign rfl) ?_
      refine s_fin ?_
      show W _ _ _ _ _ _ _ _
      refine W_block ?_
      refine W_loop (WL_mk (l := [(0, (.pointer f1)), (1, (.int .i64 (w64 (i2 + 1)))), (2, (.int .i64 x3))]) ?_ ⟨rfl, rfl, rfl, trivial⟩)
      refine H (fun (i7 : Int) (h1 : Heap) => ∀ b, WL _ _ _ _ _ _ (mkE [(0, (.pointer f1)), (1, (.int .i64 i7)), (2, (.int .i64 x3))] b) h1) ?_
      intro i7 h1 H b
      refine WL_round ?_
      refine W_seq ?_
      refine W_seq ?_
      refine W_region (.pu 0 (.pu 1 (.pu 2 (.pu 3 (.rl 4 (.pu 5 (.pu 6 .fin))))))) rfl rfl ?_
      refine s_pu (d := some 30) (v := (.int .i64 i7)) rfl rfl rfl (r_move rfl) ?_
      refine s_pu (d := some 31) (v := (.pointer f1)) rfl rfl rfl (r_move rfl) ?_
      obtain ⟨p9, e10, H⟩ := H
      refine s_pu (d := some 32) (v := (.pointer (some p9))) rfl rfl rfl (r_nilCheck rfl e10) ?_
      refine s_pu (d := some 33) (v := (.pointer (some (Addr.add p9 0)))) rfl rfl rfl (r_fieldAddr Tryd.underlying96 Tryd.sizeOf22 rfl rfl rfl) ?_
      obtain ⟨x11, e12, H⟩ := H
      refine s_rl (d := some 34) (v := (Sl.v x11)) rfl rfl rfl (fun dr => r_load1 Tryd.isAgg22 rfl e12) ?_
      refine s_pu (d := some 35) (v := (.int .i64 ((x11.len : Int)))) rfl rfl rfl (r_len Tryd.underlying22 rfl) ?_
      refine s_pu (d := some 36) (v := (.bool (decide (i7 < ((x11.len : Int)))))) rfl rfl rfl (r_lss rfl rfl) ?_
      refine s_fin ?_
      show W _ _ _ _ _ _ _ _
      refine W_if (decide (i7 < ((x11.len : Int)))) rfl (fun g33 => ?_) (fun g33 => ?_)
      · have H := H.1 g33
        refine W_skip ?_
        show W _ _ _ _ _ _ _ _
        refine W_seq ?_
        refine W_block ?_
        refine W_region (.pu 0 (.pu 1 (.pu 2 (.rl 3 (.pu 4 (.pu 5 (.rl 6 (.pu 7 (.pu 8 (.pu 9 (.ef 10 [] .fin .no))))))))))) rfl rfl ?_
        refine s_pu (d := some 43) (v := (.pointer f1)) rfl rfl rfl (r_move rfl) ?_
        obtain ⟨p13, e14, H⟩ := H
        refine s_pu (d := some 44) (v := (.pointer (some p13))) rfl rfl rfl (r_nilCheck rfl e14) ?_
        refine s_pu (d := some 45) (v := (.pointer (some (Addr.add p13 0)))) rfl rfl rfl (r_fieldAddr Tryd.underlying96 Tryd.sizeOf22 rfl rfl rfl) ?_
        obtain ⟨x15, e16, H⟩ := H
        refine s_rl (d := some 46) (v := (Sl.v x15)) rfl rfl rfl (fun dr => r_load1 Tryd.isAgg22 rfl e16) ?_
        refine s_pu (d := some 47) (v := (.int .i64 i7)) rfl rfl rfl (r_move rfl) ?_
        obtain ⟨p17, e18, e19, e20, H⟩ := H
        obtain ⟨q21, e22⟩ : ∃ q : Addr, q = Addr.add p17 (Int.toNat i7 * 1) := ⟨_, rfl⟩
        rw [← e22] at H
        refine s_pu (d := some 48) (v := (.pointer (some q21))) rfl rfl rfl (fun w => (r_indexAddr Tryd.underlying22 Tryd.sizeOf3 rfl rfl e18 e19 e20 w).trans (by rw [e22])) ?_
        obtain ⟨x23, e24, H⟩ := H
        refine s_rl (d := some 49) (v := (.int .i64 x23)) rfl rfl rfl (fun dr => r_load1 Tryd.isAgg3 rfl e24) ?_
        refine s_pu (d := some 50) (v := (.int .i64 x3)) rfl rfl rfl (r_move rfl) ?_
        refine s_pu (d := some 51) (v := (.int .i64 (w64 (x23 + x3)))) rfl rfl rfl (r_add rfl rfl) ?_
        obtain ⟨p25, e26, e27, e28, H⟩ := H
        obtain ⟨q29, e30⟩ : ∃ q : Addr, q = Addr.add p25 (Int.toNat i7 * 1) := ⟨_, rfl⟩
        rw [← e30] at H
        refine s_pu (d := some 52) (v := (.pointer (some q29))) rfl rfl rfl (fun w => (r_indexAddr Tryd.underlying22 Tryd.sizeOf3 rfl rfl e26 e27 e28 w).trans (by rw [e30])) ?_
        obtain ⟨e32, H⟩ := H
        obtain ⟨h2, e31⟩ : ∃ hh : Heap, hh = hsets h1 q29 0 [(.int .i64 (w64 (x23 + x3)))] := ⟨_, rfl⟩
        have H := H h2 e31
        refine s_st (d := none) (h' := h2) rfl rfl rfl (fun dr => (r_store (v := (.int .i64 (w64 (x23 + x3)))) Tryd.sizeOf3 rfl rfl rfl (one_all rfl) e32).trans (by rw [e31]; rfl)) trivial ?_ trivial
        refine s_fin ?_
        show W _ _ _ _ _ _ _ _
        refine W_region (.pu 0 (.pu 1 (.pu 2 (.pu 3 (.pu 4 (.pu 5 (.pu 6 .fin))))))) rfl rfl ?_
        refine s_pu (d := some 37) (v := (.int .i64 i7)) rfl rfl rfl (r_move rfl) ?_
        refine s_pu (d := some 38) (v := (.int .i64 i7)) rfl rfl rfl (r_move rfl) ?_
        refine s_pu (d := some 39) (v := (.int .i64 i7)) rfl rfl rfl (r_move rfl) ?_
        refine s_pu (d := some 40) (v := (.int .i64 (w64 (0 - i7)))) rfl rfl rfl (r_neg rfl) ?_
        refine s_pu (d := some 41) (v := (.int .i64 (bAnd .i64 i7 (w64 (0 - i7))))) rfl rfl rfl (r_and rfl rfl) ?_
        refine s_pu (d := some 42) (v := (.int .i64 (w64 (i7 + (bAnd .i64 i7 (w64 (0 - i7))))))) rfl rfl rfl (r_add rfl rfl) ?_
        refine s_pu (d := some 1) (v := (.int .i64 (w64 (i7 + (bAnd .i64 i7 (w64 (0 - i7))))))) rfl rfl rfl (r_assign rfl) ?_
        refine s_fin ?_
        exact WL_mk (l := [(0, (.pointer f1)), (1, (.int .i64 (w64 (i7 + (bAnd .i64 i7 (w64 (0 - i7))))))), (2, (.int .i64 x3))]) H ⟨rfl, rfl, rfl, trivial⟩
      · have H := H.2 g33
        refine W_exit (inX_here ?_)
        show W _ _ _ _ _ _ _ _
        refine W_seq ?_
        refine W_region (.pu 0 .fin) rfl rfl ?_
        refine s_pu (d := some 6) (v := .nilIface) rfl rfl rfl (r_assign rfl) ?_
        refine s_fin ?_
        show W _ _ _ _ _ _ _ _
        refine W_ret ?_
        exact ⟨[.nilIface], ⟨_, _, rfl, rfl, rfl⟩, H⟩)
  clear eN6
  refine W_region (.pu 0 (.pu 1 (.pu 2 (.pu 3 (.pu 4 (.pu 5 (.pu 6 (.rl 7 (.pu 8 (.pu 9 (.pu 10 (.pu 11 (.pu 12 (.pu 13 (.pu 14 (.pu 15 (.pu 16 (.pu 17 (.pu 18 (.pu 19 .fin)))))))))))))))))))) rfl rfl ?_
  refine s_pu (d := some 7) (v := (.int .i64 i2)) rfl rfl rfl (r_move rfl) ?_
  refine s_pu (d := some 8) (v := (.bool (decide (i2 < 0)))) rfl rfl rfl (r_lss rfl rfl) ?_
  refine s_pu (d := some 9) (v := (.bool (decide (i2 < 0)))) rfl rfl rfl (r_move rfl) ?_
  rcases Bool.eq_false_or_eq_true (decide (i2 < 0)) with g35 | g35
  · have H := H.1 g35
    refine s_sk (d := some 10) rfl rfl (wants_no rfl rfl rfl rfl g35) ?_
    refine s_sk (d := some 11) rfl rfl (wants_no rfl rfl rfl rfl g35) ?_
    refine s_sk (d := some 12) rfl rfl (wants_no rfl rfl rfl rfl g35) ?_
    refine s_sk (d := some 13) rfl rfl (wants_no rfl rfl rfl rfl g35) ?_
    refine s_skl (d := some 14) rfl rfl (wants_no rfl rfl rfl rfl g35) ?_
    refine s_sk (d := some 15) rfl rfl (wants_no rfl rfl rfl rfl g35) ?_
    refine s_sk (d := some 16) rfl rfl (wants_no rfl rfl rfl rfl g35) ?_
    refine s_sk (d := some 17) rfl rfl (wants_no rfl rfl rfl rfl g35) ?_
    refine s_pu (d := some 18) (v := (.bool true)) rfl rfl rfl (r_pick1 rfl g35 rfl) ?_
    refine s_pu (d := some 19) (v := (.bool true)) rfl rfl rfl (r_move rfl) ?_
    refine s_sk (d := some 20) rfl rfl (wants_no rfl rfl rfl rfl rfl) ?_
    refine s_sk (d := some 21) rfl rfl (wants_no rfl rfl rfl rfl rfl) ?_
    refine s_pu (d := some 22) (v := (.bool true)) rfl rfl rfl (r_pick1 rfl rfl rfl) ?_
    refine s_pu (d := some 23) (v := (.bool true)) rfl rfl rfl (r_move rfl) ?_
    refine s_sk (d := some 24) rfl rfl (wants_no rfl rfl rfl rfl rfl) ?_
    refine s_sk (d := some 25) rfl rfl (wants_no rfl rfl rfl rfl rfl) ?_
    refine s_pu (d := some 26) (v := (.bool true)) rfl rfl rfl (r_pick1 rfl rfl rfl) ?_
    refine s_fin ?_
    exact N_mk (l := [(0, (.pointer f1)), (1, (.int .i64 i2)), (2, (.int .i64 x3)), (26, (.bool true))]) H ⟨rfl, rfl, rfl, rfl, trivial⟩
  · have H := H.2 g35
    refine s_pu (d := some 10) (v := (.int .i64 i2)) rfl rfl (wants_yes rfl rfl rfl rfl g35) (r_move rfl) ?_
    refine s_pu (d := some 11) (v := (.pointer f1)) rfl rfl (wants_yes rfl rfl rfl rfl g35) (r_move rfl) ?_
    obtain ⟨p36, e37, H⟩ := H
    refine s_pu (d := some 12) (v := (.pointer (some p36))) rfl rfl (wants_yes rfl rfl rfl rfl g35) (r_nilCheck rfl e37) ?_
    refine s_pu (d := some 13) (v := (.pointer (some (Addr.add p36 0)))) rfl rfl (wants_yes rfl rfl rfl rfl g35) (r_fieldAddr Tryd.underlying96 Tryd.sizeOf22 rfl rfl rfl) ?_
    obtain ⟨x38, e39, H⟩ := H
    refine s_rl (d := some 14) (v := (Sl.v x38)) rfl rfl (wants_yes rfl rfl rfl rfl g35) (fun dr => r_load1 Tryd.isAgg22 rfl e39) ?_
    refine s_pu (d := some 15) (v := (.int .i64 ((x38.len : Int)))) rfl rfl (wants_yes rfl rfl rfl rfl g35) (r_len Tryd.underlying22 rfl) ?_
    refine s_pu (d := some 16) (v := (.int .i64 (w64 (((x38.len : Int)) - 1)))) rfl rfl (wants_yes rfl rfl rfl rfl g35) (r_sub rfl rfl) ?_
    refine s_pu (d := some 17) (v := (.bool (decide ((w64 (((x38.len : Int)) - 1)) ≤ i2)))) rfl rfl (wants_yes rfl rfl rfl rfl g35) (r_geq rfl rfl) ?_
    refine s_pu (d := some 18) (v := (.bool (decide ((w64 (((x38.len : Int)) - 1)) ≤ i2)))) rfl rfl rfl (r_pick0 rfl g35 rfl) ?_
    refine s_pu (d := some 19) (v := (.bool (decide ((w64 (((x38.len : Int)) - 1)) ≤ i2)))) rfl rfl rfl (r_move rfl) ?_
    rcases Bool.eq_false_or_eq_true (decide ((w64 (((x38.len : Int)) - 1)) ≤ i2)) with g40 | g40
    · have H := H.1 g40
      refine s_sk (d := some 20) rfl rfl (wants_no rfl rfl rfl rfl g40) ?_
      refine s_sk (d := some 21) rfl rfl (wants_no rfl rfl rfl rfl g40) ?_
      refine s_pu (d := some 22) (v := (.bool true)) rfl rfl rfl (r_pick1 rfl g40 rfl) ?_
      refine s_pu (d := some 23) (v := (.bool true)) rfl rfl rfl (r_move rfl) ?_
      refine s_sk (d := some 24) rfl rfl (wants_no rfl rfl rfl rfl rfl) ?_
      refine s_sk (d := some 25) rfl rfl (wants_no rfl rfl rfl rfl rfl) ?_
      refine s_pu (d := some 26) (v := (.bool true)) rfl rfl rfl (r_pick1 rfl rfl rfl) ?_
      refine s_fin ?_
      exact N_mk (l := [(0, (.pointer f1)), (1, (.int .i64 i2)), (2, (.int .i64 x3)), (26, (.bool true))]) H ⟨rfl, rfl, rfl, rfl, trivial⟩
    · have H := H.2 g40
      refine s_pu (d := some 20) (v := (.int .i64 x3)) rfl rfl (wants_yes rfl rfl rfl rfl g40) (r_move rfl) ?_
      refine s_pu (d := some 21) (v := (.bool (decide (x3 < 0)))) rfl rfl (wants_yes rfl rfl rfl rfl g40) (r_lss rfl rfl) ?_
      refine s_pu (d := some 22) (v := (.bool (decide (x3 < 0)))) rfl rfl rfl (r_pick0 rfl g40 rfl) ?_
      refine s_pu (d := some 23) (v := (.bool (decide (x3 < 0)))) rfl rfl rfl (r_move rfl) ?_
      rcases Bool.eq_false_or_eq_true (decide (x3 < 0)) with g41 | g41
      · have H := H.1 g41
        refine s_sk (d := some 24) rfl rfl (wants_no rfl rfl rfl rfl g41) ?_
        refine s_sk (d := some 25) rfl rfl (wants_no rfl rfl rfl rfl g41) ?_
        refine s_pu (d := some 26) (v := (.bool true)) rfl rfl rfl (r_pick1 rfl g41 rfl) ?_
        refine s_fin ?_
        exact N_mk (l := [(0, (.pointer f1)), (1, (.int .i64 i2)), (2, (.int .i64 x3)), (26, (.bool true))]) H ⟨rfl, rfl, rfl, rfl, trivial⟩
      · have H := H.2 g41
        refine s_pu (d := some 24) (v := (.int .i64 x3)) rfl rfl (wants_yes rfl rfl rfl rfl g41) (r_move rfl) ?_
        refine s_pu (d := some 25) (v := (.bool (decide (1073741824 < x3)))) rfl rfl (wants_yes rfl rfl rfl rfl g41) (r_gtr rfl rfl) ?_
        refine s_pu (d := some 26) (v := (.bool (decide (1073741824 < x3)))) rfl rfl rfl (r_pick0 rfl g41 rfl) ?_
        refine s_fin ?_
        exact N_mk (l := [(0, (.pointer f1)), (1, (.int .i64 i2)), (2, (.int .i64 x3)), (26, (.bool (decide (1073741824 < x3))))]) H ⟨rfl, rfl, rfl, rfl, trivial⟩

/-! ### fen_Fen_Sum -/

def fen_Fen_Sum_F (r : World) (f1 : Option Addr) (i2 : Int) (h : Heap) (R : Int → Value → Heap → Prop) : Prop :=
  ∀ J4 : Bool → Prop, (∀ (x3 : Bool),
    (Br x3 (
      R 0 ((.iface 29 (.int .i64 1))) h) (
      ∀ X8 : Int → Int → Prop, (∀ (i6 : Int) (n7 : Int),
        (Br (decide (0 < i6)) (
          Ck f1 fun p9 =>
          LdS h (Addr.add p9 0) fun x11 =>
          Ix x11 i6 1 fun q17 =>
          LdI h q17 fun x19 =>
          X8 (bAnd .i64 i6 (w64 (i6 - 1))) (w64 (n7 + x19))) (
          R n7 .nilIface h)) →
        X8 i6 n7) →
      X8 i2 0)) →
    J4 x3) →
  Br (decide (i2 < 0)) (
    J4 true) (
    Ck f1 fun p24 =>
    LdS h (Addr.add p24 0) fun x26 =>
    J4 (decide (((x26.len : Int)) ≤ i2)))

set_option maxRecDepth 100000 in
theorem fen_Fen_Sum_of {r : World} {f1 : Option Addr} {i2 : Int} {h : Heap} {R : Int → Value → Heap → Prop} (H : fen_Fen_Sum_F r f1 i2 h R) : fen_Fen_Sum r f1 i2 h R := by
  unfold fen_Fen_Sum_F at H
  refine calls_of 35 [.tmp 4, .tmp 5] Tryd.func15 rfl rfl rfl rfl rfl ?_
  refine W_seq ?_
  refine W_region (.pu 0 (.pu 1 .fin)) rfl rfl ?_
  refine s_pu (d := some 4) (v := (.int .i64 0)) rfl rfl rfl (r_assign rfl) ?_
  refine s_pu (d := some 5) (v := .nilIface) rfl rfl rfl (r_assign rfl) ?_
  refine s_fin ?_
  show W _ _ _ _ _ _ _ _
  refine W_seq ?_
  refine W_seq ?_
  refine W_set ?_
  intro N5 eN5
  have H := H (fun (x3 : Bool) => ∀ b, N5 [] (mkE [(0, (.pointer f1)), (1, (.int .i64 i2)), (17, (.bool x3))] b) h) (by
    intro x3 H b
    rw [eN5]
    show W _ _ _ _ _ _ _ _
    refine W_if x3 rfl (fun g22 => ?_) (fun g22 => ?_)
    · have H := H.1 g22
      refine W_seq ?_
      refine W_region (.pu 0 (.pu 1 (.pu 2 .fin))) rfl rfl ?_
      refine s_pu (d := some 18) (v := ((.iface 29 (.int .i64 1)))) rfl rfl rfl (r_iface Tryd.underlying29 rfl rfl) ?_
      refine s_pu (d := some 4) (v := (.int .i64 0)) rfl rfl rfl (r_assign rfl) ?_
      refine s_pu (d := some 5) (v := ((.iface 29 (.int .i64 1)))) rfl rfl rfl (r_assign rfl) ?_
      refine s_fin ?_
      show W _ _ _ _ _ _ _ _
      refine W_ret ?_
      exact ⟨[(.int .i64 0), ((.iface 29 (.int .i64 1)))], ⟨_, _, rfl, rfl, ⟨_, _, rfl, rfl, rfl⟩⟩, 0, ((.iface 29 (.int .i64 1))), rfl, H⟩
    · have H := H.2 g22
      refine W_skip ?_
      show W _ _ _ _ _ _ _ _
      refine W_seq ?_
      refine W_region (.pu 0 .fin) rfl rfl ?_
      refine s_pu (d := some 6) (v := (.int .i64 0)) rfl rfl rfl (r_assign rfl) ?_
      refine s_fin ?_
      show W _ _ _ _ _ _ _ _
      refine W_seq ?_
      refine W_block ?_
      refine W_loop (WL_mk (l := [(0, (.pointer f1)), (1, (.int .i64 i2)), (6, (.int .i64 0))]) ?_ ⟨rfl, rfl, rfl, trivial⟩)
      refine H (fun (i6 : Int) (n7 : Int) => ∀ b, WL _ _ _ _ _ _ (mkE [(0, (.pointer f1)), (1, (.int .i64 i6)), (6, (.int .i64 n7))] b) h) ?_
      intro i6 n7 H b
      refine WL_round ?_
      refine W_seq ?_
      refine W_seq ?_
      refine W_region (.pu 0 (.pu 1 .fin)) rfl rfl ?_
      refine s_pu (d := some 19) (v := (.int .i64 i6)) rfl rfl rfl (r_move rfl) ?_
      refine s_pu (d := some 20) (v := (.bool (decide (0 < i6)))) rfl rfl rfl (r_gtr rfl rfl) ?_
      refine s_fin ?_
      show W _ _ _ _ _ _ _ _
      refine W_if (decide (0 < i6)) rfl (fun g21 => ?_) (fun g21 => ?_)
      · have H := H.1 g21
        refine W_skip ?_
        show W _ _ _ _ _ _ _ _
        refine W_seq ?_
        refine W_block ?_
        refine W_region (.pu 0 (.pu 1 (.pu 2 (.pu 3 (.rl 4 (.pu 5 (.pu 6 (.rl 7 (.pu 8 (.pu 9 .fin)))))))))) rfl rfl ?_
        refine s_pu (d := some 25) (v := (.int .i64 n7)) rfl rfl rfl (r_move rfl) ?_
        refine s_pu (d := some 26) (v := (.pointer f1)) rfl rfl rfl (r_move rfl) ?_
        obtain ⟨p9, e10, H⟩ := H
        refine s_pu (d := some 27) (v := (.pointer (some p9))) rfl rfl rfl (r_nilCheck rfl e10) ?_
        refine s_pu (d := some 28) (v := (.pointer (some (Addr.add p9 0)))) rfl rfl rfl (r_fieldAddr Tryd.underlying96 Tryd.sizeOf22 rfl rfl rfl) ?_
        obtain ⟨x11, e12, H⟩ := H
        refine s_rl (d := some 29) (v := (Sl.v x11)) rfl rfl rfl (fun dr => r_load1 Tryd.isAgg22 rfl e12) ?_
        refine s_pu (d := some 30) (v := (.int .i64 i6)) rfl rfl rfl (r_move rfl) ?_
        obtain ⟨p13, e14, e15, e16, H⟩ := H
        obtain ⟨q17, e18⟩ : ∃ q : Addr, q = Addr.add p13 (Int.toNat i6 * 1) := ⟨_, rfl⟩
        rw [← e18] at H
        refine s_pu (d := some 31) (v := (.pointer (some q17))) rfl rfl rfl (fun w => (r_indexAddr Tryd.underlying22 Tryd.sizeOf3 rfl rfl e14 e15 e16 w).trans (by rw [e18])) ?_
        obtain ⟨x19, e20, H⟩ := H
        refine s_rl (d := some 32) (v := (.int .i64 x19)) rfl rfl rfl (fun dr => r_load1 Tryd.isAgg3 rfl e20) ?_
        refine s_pu (d := some 33) (v := (.int .i64 (w64 (n7 + x19)))) rfl rfl rfl (r_add rfl rfl) ?_
        refine s_pu (d := some 6) (v := (.int .i64 (w64 (n7 + x19)))) rfl rfl rfl (r_assign rfl) ?_
        refine s_fin ?_
        show W _ _ _ _ _ _ _ _
        refine W_region (.pu 0 (.pu 1 (.pu 2 (.pu 3 (.pu 4 .fin))))) rfl rfl ?_
        refine s_pu (d := some 21) (v := (.int .i64 i6)) rfl rfl rfl (r_move rfl) ?_
        refine s_pu (d := some 22) (v := (.int .i64 i6)) rfl rfl rfl (r_move rfl) ?_
        refine s_pu (d := some 23) (v := (.int .i64 (w64 (i6 - 1)))) rfl rfl rfl (r_sub rfl rfl) ?_
        refine s_pu (d := some 24) (v := (.int .i64 (bAnd .i64 i6 (w64 (i6 - 1))))) rfl rfl rfl (r_and rfl rfl) ?_
        refine s_pu (d := some 1) (v := (.int .i64 (bAnd .i64 i6 (w64 (i6 - 1))))) rfl rfl rfl (r_assign rfl) ?_
        refine s_fin ?_
        exact WL_mk (l := [(0, (.pointer f1)), (1, (.int .i64 (bAnd .i64 i6 (w64 (i6 - 1))))), (6, (.int .i64 (w64 (n7 + x19))))]) H ⟨rfl, rfl, rfl, trivial⟩
      · have H := H.2 g21
        refine W_exit (inX_here ?_)
        show W _ _ _ _ _ _ _ _
        refine W_seq ?_
        refine W_region (.pu 0 (.pu 1 (.pu 2 .fin))) rfl rfl ?_
        refine s_pu (d := some 34) (v := (.int .i64 n7)) rfl rfl rfl (r_move rfl) ?_
        refine s_pu (d := some 4) (v := (.int .i64 n7)) rfl rfl rfl (r_assign rfl) ?_
        refine s_pu (d := some 5) (v := .nilIface) rfl rfl rfl (r_assign rfl) ?_
        refine s_fin ?_
        show W _ _ _ _ _ _ _ _
        refine W_ret ?_
        exact ⟨[(.int .i64 n7), .nilIface], ⟨_, _, rfl, rfl, ⟨_, _, rfl, rfl, rfl⟩⟩, n7, .nilIface, rfl, H⟩)
  clear eN5
  refine W_region (.pu 0 (.pu 1 (.pu 2 (.pu 3 (.pu 4 (.pu 5 (.pu 6 (.rl 7 (.pu 8 (.pu 9 (.pu 10 .fin))))))))))) rfl rfl ?_
  refine s_pu (d := some 7) (v := (.int .i64 i2)) rfl rfl rfl (r_move rfl) ?_
  refine s_pu (d := some 8) (v := (.bool (decide (i2 < 0)))) rfl rfl rfl (r_lss rfl rfl) ?_
  refine s_pu (d := some 9) (v := (.bool (decide (i2 < 0)))) rfl rfl rfl (r_move rfl) ?_
  rcases Bool.eq_false_or_eq_true (decide (i2 < 0)) with g23 | g23
  · have H := H.1 g23
    refine s_sk (d := some 10) rfl rfl (wants_no rfl rfl rfl rfl g23) ?_
    refine s_sk (d := some 11) rfl rfl (wants_no rfl rfl rfl rfl g23) ?_
    refine s_sk (d := some 12) rfl rfl (wants_no rfl rfl rfl rfl g23) ?_
    refine s_sk (d := some 13) rfl rfl (wants_no rfl rfl rfl rfl g23) ?_
    refine s_skl (d := some 14) rfl rfl (wants_no rfl rfl rfl rfl g23) ?_
    refine s_sk (d := some 15) rfl rfl (wants_no rfl rfl rfl rfl g23) ?_
    refine s_sk (d := some 16) rfl rfl (wants_no rfl rfl rfl rfl g23) ?_
    refine s_pu (d := some 17) (v := (.bool true)) rfl rfl rfl (r_pick1 rfl g23 rfl) ?_
    refine s_fin ?_
    exact N_mk (l := [(0, (.pointer f1)), (1, (.int .i64 i2)), (17, (.bool true))]) H ⟨rfl, rfl, rfl, trivial⟩
  · have H := H.2 g23
    refine s_pu (d := some 10) (v := (.int .i64 i2)) rfl rfl (wants_yes rfl rfl rfl rfl g23) (r_move rfl) ?_
    refine s_pu (d := some 11) (v := (.pointer f1)) rfl rfl (wants_yes rfl rfl rfl rfl g23) (r_move rfl) ?_
    obtain ⟨p24, e25, H⟩ := H
    refine s_pu (d := some 12) (v := (.pointer (some p24))) rfl rfl (wants_yes rfl rfl rfl rfl g23) (r_nilCheck rfl e25) ?_
    refine s_pu (d := some 13) (v := (.pointer (some (Addr.add p24 0)))) rfl rfl (wants_yes rfl rfl rfl rfl g23) (r_fieldAddr Tryd.underlying96 Tryd.sizeOf22 rfl rfl rfl) ?_
    obtain ⟨x26, e27, H⟩ := H
    refine s_rl (d := some 14) (v := (Sl.v x26)) rfl rfl (wants_yes rfl rfl rfl rfl g23) (fun dr => r_load1 Tryd.isAgg22 rfl e27) ?_
    refine s_pu (d := some 15) (v := (.int .i64 ((x26.len : Int)))) rfl rfl (wants_yes rfl rfl rfl rfl g23) (r_len Tryd.underlying22 rfl) ?_
    refine s_pu (d := some 16) (v := (.bool (decide (((x26.len : Int)) ≤ i2)))) rfl rfl (wants_yes rfl rfl rfl rfl g23) (r_geq rfl rfl) ?_
    refine s_pu (d := some 17) (v := (.bool (decide (((x26.len : Int)) ≤ i2)))) rfl rfl rfl (r_pick0 rfl g23 rfl) ?_
    refine s_fin ?_
    exact N_mk (l := [(0, (.pointer f1)), (1, (.int .i64 i2)), (17, (.bool (decide (((x26.len : Int)) ≤ i2))))]) H ⟨rfl, rfl, rfl, trivial⟩

/-! ### fen_Fen_Find -/

def fen_Fen_Find_F (r : World) (f1 : Option Addr) (k2 : Int) (h : Heap) (R : Int → Value → Heap → Prop) : Prop :=
  Br (decide (k2 ≤ 0)) (
    R 0 .nilIface h) (
    Ck f1 fun p3 =>
    LdS h (Addr.add p3 0) fun x5 =>
    math_bits_Len r (IntKind.wrap .u64 ((x5.len : Int))) h fun y7 h1 =>
    (0 ≤ y7) ∧
    ∀ X12 : Int → Int → Int → Prop, (∀ (k9 : Int) (va10 : Int) (step11 : Int),
      (Br (decide (0 < step11)) (
        ∀ J15 : Int → Int → Prop, (∀ (k13 : Int) (va14 : Int),
          (X12 k13 va14 (sShr .i64 step11 1)) →
          J15 k13 va14) →
        ∀ J18 : Bool → Prop, (∀ (x17 : Bool),
          (Br x17 (
            Ck f1 fun p20 =>
            LdS h1 (Addr.add p20 0) fun x22 =>
            Ix x22 (w64 (va10 + step11)) 1 fun q28 =>
            LdI h1 q28 fun x30 =>
            J15 (w64 (k9 - x30)) (w64 (va10 + step11))) (
            J15 k9 va10)) →
          J18 x17) →
        Ck f1 fun p33 =>
        LdS h1 (Addr.add p33 0) fun x35 =>
        Br (decide ((w64 (va10 + step11)) < ((x35.len : Int)))) (
          Ck f1 fun p38 =>
          LdS h1 (Addr.add p38 0) fun x40 =>
          Ix x40 (w64 (va10 + step11)) 1 fun q46 =>
          LdI h1 q46 fun x48 =>
          J18 (decide (x48 < k9))) (
          J18 false)) (
        Ck f1 fun p50 =>
        LdS h1 (Addr.add p50 0) fun x52 =>
        Br (decide (va10 = (w64 (((x52.len : Int)) - 1)))) (
          R 0 ((.iface 29 (.int .i64 2))) h1) (
          R (w64 (va10 + 1)) .nilIface h1))) →
      X12 k9 va10 step11) →
    X12 k2 0 (sShl .i64 1 y7))

set_option maxRecDepth 100000 in
theorem fen_Fen_Find_of {r : World} {f1 : Option Addr} {k2 : Int} {h : Heap} {R : Int → Value → Heap → Prop} (H : fen_Fen_Find_F r f1 k2 h R) : fen_Fen_Find r f1 k2 h R := by
  unfold fen_Fen_Find_F at H
  refine calls_of 67 [.tmp 4, .tmp 5] Tryd.func16 rfl rfl rfl rfl rfl ?_
  refine W_seq ?_
  refine W_region (.pu 0 (.pu 1 .fin)) rfl rfl ?_
  refine s_pu (d := some 4) (v := (.int .i64 0)) rfl rfl rfl (r_assign rfl) ?_
  refine s_pu (d := some 5) (v := .nilIface) rfl rfl rfl (r_assign rfl) ?_
  refine s_fin ?_
  show W _ _ _ _ _ _ _ _
  refine W_seq ?_
  refine W_seq ?_
  refine W_region (.pu 0 (.pu 1 .fin)) rfl rfl ?_
  refine s_pu (d := some 8) (v := (.int .i64 k2)) rfl rfl rfl (r_move rfl) ?_
  refine s_pu (d := some 9) (v := (.bool (decide (k2 ≤ 0)))) rfl rfl rfl (r_leq rfl rfl) ?_
  refine s_fin ?_
  show W _ _ _ _ _ _ _ _
  refine W_if (decide (k2 ≤ 0)) rfl (fun g56 => ?_) (fun g56 => ?_)
  · have H := H.1 g56
    refine W_seq ?_
    refine W_region (.pu 0 (.pu 1 .fin)) rfl rfl ?_
    refine s_pu (d := some 4) (v := (.int .i64 0)) rfl rfl rfl (r_assign rfl) ?_
    refine s_pu (d := some 5) (v := .nilIface) rfl rfl rfl (r_assign rfl) ?_
    refine s_fin ?_
    show W _ _ _ _ _ _ _ _
    refine W_ret ?_
    exact ⟨[(.int .i64 0), .nilIface], ⟨_, _, rfl, rfl, ⟨_, _, rfl, rfl, rfl⟩⟩, 0, .nilIface, rfl, H⟩
  · have H := H.2 g56
    refine W_skip ?_
    show W _ _ _ _ _ _ _ _
    refine W_seq ?_
    refine W_region (.pu 0 .fin) rfl rfl ?_
    refine s_pu (d := some 6) (v := (.int .i64 0)) rfl rfl rfl (r_assign rfl) ?_
    refine s_fin ?_
    show W _ _ _ _ _ _ _ _
    refine W_seq ?_
    refine W_seq ?_
    refine W_region (.pu 0 (.pu 1 (.pu 2 (.rl 3 (.pu 4 (.pu 5 (.ef 6 [] (.pu 7 (.pu 8 .fin)) .no))))))) rfl rfl ?_
    refine s_pu (d := some 10) (v := (.pointer f1)) rfl rfl rfl (r_move rfl) ?_
    obtain ⟨p3, e4, H⟩ := H
    refine s_pu (d := some 11) (v := (.pointer (some p3))) rfl rfl rfl (r_nilCheck rfl e4) ?_
    refine s_pu (d := some 12) (v := (.pointer (some (Addr.add p3 0)))) rfl rfl rfl (r_fieldAddr Tryd.underlying96 Tryd.sizeOf22 rfl rfl rfl) ?_
    obtain ⟨x5, e6, H⟩ := H
    refine s_rl (d := some 13) (v := (Sl.v x5)) rfl rfl rfl (fun dr => r_load1 Tryd.isAgg22 rfl e6) ?_
    refine s_pu (d := some 14) (v := (.int .i64 ((x5.len : Int)))) rfl rfl rfl (r_len Tryd.underlying22 rfl) ?_
    refine s_pu (d := some 15) (v := (.int .u64 (IntKind.wrap .u64 ((x5.len : Int))))) rfl rfl rfl (r_conv Tryd.underlying3 Tryd.underlying99 rfl) ?_
    refine s_ef (d := some 16) rfl rfl rfl (fun dr => r_call Tryd.call72 rfl rfl H) ?_ trivial
    rintro _ h1 ⟨y7, rfl, H⟩
    refine ⟨trivial, ?_⟩
    obtain ⟨e8, H⟩ := H
    refine s_pu (d := some 17) (v := (.int .i64 (sShl .i64 1 y7))) rfl rfl rfl (r_shl rfl rfl e8) ?_
    refine s_pu (d := some 7) (v := (.int .i64 (sShl .i64 1 y7))) rfl rfl rfl (r_assign rfl) ?_
    refine s_fin ?_
    show W _ _ _ _ _ _ _ _
    refine W_block ?_
    refine W_loop (WL_mk (l := [(0, (.pointer f1)), (1, (.int .i64 k2)), (6, (.int .i64 0)), (7, (.int .i64 (sShl .i64 1 y7)))]) ?_ ⟨rfl, rfl, rfl, rfl, trivial⟩)
    refine H (fun (k9 : Int) (va10 : Int) (step11 : Int) => ∀ b, WL _ _ _ _ _ _ (mkE [(0, (.pointer f1)), (1, (.int .i64 k9)), (6, (.int .i64 va10)), (7, (.int .i64 step11))] b) h1) ?_
    intro k9 va10 step11 H b
    refine WL_round ?_
    refine W_seq ?_
    refine W_seq ?_
    refine W_region (.pu 0 (.pu 1 .fin)) rfl rfl ?_
    refine s_pu (d := some 18) (v := (.int .i64 step11)) rfl rfl rfl (r_move rfl) ?_
    refine s_pu (d := some 19) (v := (.bool (decide (0 < step11)))) rfl rfl rfl (r_gtr rfl rfl) ?_
    refine s_fin ?_
    show W _ _ _ _ _ _ _ _
    refine W_if (decide (0 < step11)) rfl (fun g55 => ?_) (fun g55 => ?_)
    · have H := H.1 g55
      refine W_skip ?_
      show W _ _ _ _ _ _ _ _
      refine W_seq ?_
      refine W_set ?_
      intro N16 eN16
      have H := H (fun (k13 : Int) (va14 : Int) => ∀ b, N16 [] (mkE [(0, (.pointer f1)), (1, (.int .i64 k13)), (6, (.int .i64 va14)), (7, (.int .i64 step11))] b) h1) (by
        intro k13 va14 H b
        rw [eN16]
        show W _ _ _ _ _ _ _ _
        refine W_region (.pu 0 (.pu 1 (.pu 2 .fin))) rfl rfl ?_
        refine s_pu (d := some 20) (v := (.int .i64 step11)) rfl rfl rfl (r_move rfl) ?_
        refine s_pu (d := some 21) (v := (.int .i64 (sShr .i64 step11 1))) rfl rfl rfl (r_shr rfl rfl (by decide)) ?_
        refine s_pu (d := some 7) (v := (.int .i64 (sShr .i64 step11 1))) rfl rfl rfl (r_assign rfl) ?_
        refine s_fin ?_
        exact WL_mk (l := [(0, (.pointer f1)), (1, (.int .i64 k13)), (6, (.int .i64 va14)), (7, (.int .i64 (sShr .i64 step11 1)))]) H ⟨rfl, rfl, rfl, rfl, trivial⟩)
      clear eN16
      refine W_block ?_
      refine W_seq ?_
      refine W_set ?_
      intro N19 eN19
      have H := H (fun (x17 : Bool) => ∀ b, N19 [] (mkE [(0, (.pointer f1)), (1, (.int .i64 k9)), (6, (.int .i64 va10)), (7, (.int .i64 step11)), (43, (.bool x17))] b) h1) (by
        intro x17 H b
        rw [eN19]
        show W _ _ _ _ _ _ _ _
        refine W_if x17 rfl (fun g32 => ?_) (fun g32 => ?_)
        · have H := H.1 g32
          refine W_seq ?_
          refine W_region (.pu 0 (.pu 1 (.pu 2 (.pu 3 .fin)))) rfl rfl ?_
          refine s_pu (d := some 44) (v := (.int .i64 va10)) rfl rfl rfl (r_move rfl) ?_
          refine s_pu (d := some 45) (v := (.int .i64 step11)) rfl rfl rfl (r_move rfl) ?_
          refine s_pu (d := some 46) (v := (.int .i64 (w64 (va10 + step11)))) rfl rfl rfl (r_add rfl rfl) ?_
          refine s_pu (d := some 6) (v := (.int .i64 (w64 (va10 + step11)))) rfl rfl rfl (r_assign rfl) ?_
          refine s_fin ?_
          show W _ _ _ _ _ _ _ _
          refine W_region (.pu 0 (.pu 1 (.pu 2 (.pu 3 (.rl 4 (.pu 5 (.pu 6 (.rl 7 (.pu 8 (.pu 9 .fin)))))))))) rfl rfl ?_
          refine s_pu (d := some 47) (v := (.int .i64 k9)) rfl rfl rfl (r_move rfl) ?_
          refine s_pu (d := some 48) (v := (.pointer f1)) rfl rfl rfl (r_move rfl) ?_
          obtain ⟨p20, e21, H⟩ := H
          refine s_pu (d := some 49) (v := (.pointer (some p20))) rfl rfl rfl (r_nilCheck rfl e21) ?_
          refine s_pu (d := some 50) (v := (.pointer (some (Addr.add p20 0)))) rfl rfl rfl (r_fieldAddr Tryd.underlying96 Tryd.sizeOf22 rfl rfl rfl) ?_
          obtain ⟨x22, e23, H⟩ := H
          refine s_rl (d := some 51) (v := (Sl.v x22)) rfl rfl rfl (fun dr => r_load1 Tryd.isAgg22 rfl e23) ?_
          refine s_pu (d := some 52) (v := (.int .i64 (w64 (va10 + step11)))) rfl rfl rfl (r_move rfl) ?_
          obtain ⟨p24, e25, e26, e27, H⟩ := H
          obtain ⟨q28, e29⟩ : ∃ q : Addr, q = Addr.add p24 (Int.toNat (w64 (va10 + step11)) * 1) := ⟨_, rfl⟩
          rw [← e29] at H
          refine s_pu (d := some 53) (v := (.pointer (some q28))) rfl rfl rfl (fun w => (r_indexAddr Tryd.underlying22 Tryd.sizeOf3 rfl rfl e25 e26 e27 w).trans (by rw [e29])) ?_
          obtain ⟨x30, e31, H⟩ := H
          refine s_rl (d := some 54) (v := (.int .i64 x30)) rfl rfl rfl (fun dr => r_load1 Tryd.isAgg3 rfl e31) ?_
          refine s_pu (d := some 55) (v := (.int .i64 (w64 (k9 - x30)))) rfl rfl rfl (r_sub rfl rfl) ?_
          refine s_pu (d := some 1) (v := (.int .i64 (w64 (k9 - x30)))) rfl rfl rfl (r_assign rfl) ?_
          refine s_fin ?_
          exact N_mk (l := [(0, (.pointer f1)), (1, (.int .i64 (w64 (k9 - x30)))), (6, (.int .i64 (w64 (va10 + step11)))), (7, (.int .i64 step11))]) H ⟨rfl, rfl, rfl, rfl, trivial⟩
        · have H := H.2 g32
          refine W_skip ?_
          exact N_mk (l := [(0, (.pointer f1)), (1, (.int .i64 k9)), (6, (.int .i64 va10)), (7, (.int .i64 step11))]) H ⟨rfl, rfl, rfl, rfl, trivial⟩)
      clear eN19
      refine W_region (.pu 0 (.pu 1 (.pu 2 (.pu 3 (.pu 4 (.pu 5 (.rl 6 (.pu 7 (.pu 8 (.pu 9 (.pu 10 (.pu 11 (.pu 12 (.rl 13 (.pu 14 (.pu 15 (.pu 16 (.pu 17 (.rl 18 (.pu 19 (.pu 20 (.pu 21 .fin)))))))))))))))))))))) rfl rfl ?_
      refine s_pu (d := some 22) (v := (.int .i64 va10)) rfl rfl rfl (r_move rfl) ?_
      refine s_pu (d := some 23) (v := (.int .i64 step11)) rfl rfl rfl (r_move rfl) ?_
      refine s_pu (d := some 24) (v := (.int .i64 (w64 (va10 + step11)))) rfl rfl rfl (r_add rfl rfl) ?_
      refine s_pu (d := some 25) (v := (.pointer f1)) rfl rfl rfl (r_move rfl) ?_
      obtain ⟨p33, e34, H⟩ := H
      refine s_pu (d := some 26) (v := (.pointer (some p33))) rfl rfl rfl (r_nilCheck rfl e34) ?_
      refine s_pu (d := some 27) (v := (.pointer (some (Addr.add p33 0)))) rfl rfl rfl (r_fieldAddr Tryd.underlying96 Tryd.sizeOf22 rfl rfl rfl) ?_
      obtain ⟨x35, e36, H⟩ := H
      refine s_rl (d := some 28) (v := (Sl.v x35)) rfl rfl rfl (fun dr => r_load1 Tryd.isAgg22 rfl e36) ?_
      refine s_pu (d := some 29) (v := (.int .i64 ((x35.len : Int)))) rfl rfl rfl (r_len Tryd.underlying22 rfl) ?_
      refine s_pu (d := some 30) (v := (.bool (decide ((w64 (va10 + step11)) < ((x35.len : Int)))))) rfl rfl rfl (r_lss rfl rfl) ?_
      refine s_pu (d := some 31) (v := (.bool (decide ((w64 (va10 + step11)) < ((x35.len : Int)))))) rfl rfl rfl (r_move rfl) ?_
      rcases Bool.eq_false_or_eq_true (decide ((w64 (va10 + step11)) < ((x35.len : Int)))) with g37 | g37
      · have H := H.1 g37
        refine s_pu (d := some 32) (v := (.pointer f1)) rfl rfl (wants_yes rfl rfl rfl rfl g37) (r_move rfl) ?_
        obtain ⟨p38, e39, H⟩ := H
        refine s_pu (d := some 33) (v := (.pointer (some p38))) rfl rfl (wants_yes rfl rfl rfl rfl g37) (r_nilCheck rfl e39) ?_
        refine s_pu (d := some 34) (v := (.pointer (some (Addr.add p38 0)))) rfl rfl (wants_yes rfl rfl rfl rfl g37) (r_fieldAddr Tryd.underlying96 Tryd.sizeOf22 rfl rfl rfl) ?_
        obtain ⟨x40, e41, H⟩ := H
        refine s_rl (d := some 35) (v := (Sl.v x40)) rfl rfl (wants_yes rfl rfl rfl rfl g37) (fun dr => r_load1 Tryd.isAgg22 rfl e41) ?_
        refine s_pu (d := some 36) (v := (.int .i64 va10)) rfl rfl (wants_yes rfl rfl rfl rfl g37) (r_move rfl) ?_
        refine s_pu (d := some 37) (v := (.int .i64 step11)) rfl rfl (wants_yes rfl rfl rfl rfl g37) (r_move rfl) ?_
        refine s_pu (d := some 38) (v := (.int .i64 (w64 (va10 + step11)))) rfl rfl (wants_yes rfl rfl rfl rfl g37) (r_add rfl rfl) ?_
        obtain ⟨p42, e43, e44, e45, H⟩ := H
        obtain ⟨q46, e47⟩ : ∃ q : Addr, q = Addr.add p42 (Int.toNat (w64 (va10 + step11)) * 1) := ⟨_, rfl⟩
        rw [← e47] at H
        refine s_pu (d := some 39) (v := (.pointer (some q46))) rfl rfl (wants_yes rfl rfl rfl rfl g37) (fun w => (r_indexAddr Tryd.underlying22 Tryd.sizeOf3 rfl rfl e43 e44 e45 w).trans (by rw [e47])) ?_
        obtain ⟨x48, e49, H⟩ := H
        refine s_rl (d := some 40) (v := (.int .i64 x48)) rfl rfl (wants_yes rfl rfl rfl rfl g37) (fun dr => r_load1 Tryd.isAgg3 rfl e49) ?_
        refine s_pu (d := some 41) (v := (.int .i64 k9)) rfl rfl (wants_yes rfl rfl rfl rfl g37) (r_move rfl) ?_
        refine s_pu (d := some 42) (v := (.bool (decide (x48 < k9)))) rfl rfl (wants_yes rfl rfl rfl rfl g37) (r_lss rfl rfl) ?_
        refine s_pu (d := some 43) (v := (.bool (decide (x48 < k9)))) rfl rfl rfl (r_pick1 rfl g37 rfl) ?_
        refine s_fin ?_
        exact N_mk (l := [(0, (.pointer f1)), (1, (.int .i64 k9)), (6, (.int .i64 va10)), (7, (.int .i64 step11)), (43, (.bool (decide (x48 < k9))))]) H ⟨rfl, rfl, rfl, rfl, rfl, trivial⟩
      · have H := H.2 g37
        refine s_sk (d := some 32) rfl rfl (wants_no rfl rfl rfl rfl g37) ?_
        refine s_sk (d := some 33) rfl rfl (wants_no rfl rfl rfl rfl g37) ?_
        refine s_sk (d := some 34) rfl rfl (wants_no rfl rfl rfl rfl g37) ?_
        refine s_skl (d := some 35) rfl rfl (wants_no rfl rfl rfl rfl g37) ?_
        refine s_sk (d := some 36) rfl rfl (wants_no rfl rfl rfl rfl g37) ?_
        refine s_sk (d := some 37) rfl rfl (wants_no rfl rfl rfl rfl g37) ?_
        refine s_sk (d := some 38) rfl rfl (wants_no rfl rfl rfl rfl g37) ?_
        refine s_sk (d := some 39) rfl rfl (wants_no rfl rfl rfl rfl g37) ?_
        refine s_skl (d := some 40) rfl rfl (wants_no rfl rfl rfl rfl g37) ?_
        refine s_sk (d := some 41) rfl rfl (wants_no rfl rfl rfl rfl g37) ?_
        refine s_sk (d := some 42) rfl rfl (wants_no rfl rfl rfl rfl g37) ?_
        refine s_pu (d := some 43) (v := (.bool false)) rfl rfl rfl (r_pick0 rfl g37 rfl) ?_
        refine s_fin ?_
        exact N_mk (l := [(0, (.pointer f1)), (1, (.int .i64 k9)), (6, (.int .i64 va10)), (7, (.int .i64 step11)), (43, (.bool false))]) H ⟨rfl, rfl, rfl, rfl, rfl, trivial⟩
    · have H := H.2 g55
      refine W_exit (inX_here ?_)
      show W _ _ _ _ _ _ _ _
      refine W_seq ?_
      refine W_seq ?_
      refine W_region (.pu 0 (.pu 1 (.pu 2 (.pu 3 (.rl 4 (.pu 5 (.pu 6 (.pu 7 .fin)))))))) rfl rfl ?_
      refine s_pu (d := some 56) (v := (.int .i64 va10)) rfl rfl rfl (r_move rfl) ?_
      refine s_pu (d := some 57) (v := (.pointer f1)) rfl rfl rfl (r_move rfl) ?_
      obtain ⟨p50, e51, H⟩ := H
      refine s_pu (d := some 58) (v := (.pointer (some p50))) rfl rfl rfl (r_nilCheck rfl e51) ?_
      refine s_pu (d := some 59) (v := (.pointer (some (Addr.add p50 0)))) rfl rfl rfl (r_fieldAddr Tryd.underlying96 Tryd.sizeOf22 rfl rfl rfl) ?_
      obtain ⟨x52, e53, H⟩ := H
      refine s_rl (d := some 60) (v := (Sl.v x52)) rfl rfl rfl (fun dr => r_load1 Tryd.isAgg22 rfl e53) ?_
      refine s_pu (d := some 61) (v := (.int .i64 ((x52.len : Int)))) rfl rfl rfl (r_len Tryd.underlying22 rfl) ?_
      refine s_pu (d := some 62) (v := (.int .i64 (w64 (((x52.len : Int)) - 1)))) rfl rfl rfl (r_sub rfl rfl) ?_
      refine s_pu (d := some 63) (v := (.bool (decide (va10 = (w64 (((x52.len : Int)) - 1)))))) rfl rfl rfl (r_eql rfl rfl) ?_
      refine s_fin ?_
      show W _ _ _ _ _ _ _ _
      refine W_if (decide (va10 = (w64 (((x52.len : Int)) - 1)))) rfl (fun g54 => ?_) (fun g54 => ?_)
      · have H := H.1 g54
        refine W_seq ?_
        refine W_region (.pu 0 (.pu 1 (.pu 2 .fin))) rfl rfl ?_
        refine s_pu (d := some 64) (v := ((.iface 29 (.int .i64 2)))) rfl rfl rfl (r_iface Tryd.underlying29 rfl rfl) ?_
        refine s_pu (d := some 4) (v := (.int .i64 0)) rfl rfl rfl (r_assign rfl) ?_
        refine s_pu (d := some 5) (v := ((.iface 29 (.int .i64 2)))) rfl rfl rfl (r_assign rfl) ?_
        refine s_fin ?_
        show W _ _ _ _ _ _ _ _
        refine W_ret ?_
        exact ⟨[(.int .i64 0), ((.iface 29 (.int .i64 2)))], ⟨_, _, rfl, rfl, ⟨_, _, rfl, rfl, rfl⟩⟩, 0, ((.iface 29 (.int .i64 2))), rfl, H⟩
      · have H := H.2 g54
        refine W_skip ?_
        show W _ _ _ _ _ _ _ _
        refine W_seq ?_
        refine W_region (.pu 0 (.pu 1 (.pu 2 (.pu 3 .fin)))) rfl rfl ?_
        refine s_pu (d := some 65) (v := (.int .i64 va10)) rfl rfl rfl (r_move rfl) ?_
        refine s_pu (d := some 66) (v := (.int .i64 (w64 (va10 + 1)))) rfl rfl rfl (r_add rfl rfl) ?_
        refine s_pu (d := some 4) (v := (.int .i64 (w64 (va10 + 1)))) rfl rfl rfl (r_assign rfl) ?_
        refine s_pu (d := some 5) (v := .nilIface) rfl rfl rfl (r_assign rfl) ?_
        refine s_fin ?_
        show W _ _ _ _ _ _ _ _
        refine W_ret ?_
        exact ⟨[(.int .i64 (w64 (va10 + 1))), .nilIface], ⟨_, _, rfl, rfl, ⟨_, _, rfl, rfl, rfl⟩⟩, (w64 (va10 + 1)), .nilIface, rfl, H⟩

/-! ### fen_Fen_Ints -/

def fen_Fen_Ints_F (r : World) (f1 : Option Addr) (h : Heap) (R : Sl → Heap → Prop) : Prop :=
  Ck f1 fun p2 =>
  LdS h (Addr.add p2 0) fun x4 =>
  ∀ X8 : Sl → Int → Heap → Prop, (∀ (out6 : Sl) (x7 : Int) (h1 : Heap),
    (Br (decide (x7 < (w64 (((x4.len : Int)) - 1)))) (
      fen_Fen_Sum r f1 x7 h1 fun y9 y10 h2 =>
      fen_Fen_Sum r f1 (w64 (x7 + 1)) h2 fun y11 y12 h3 =>
      New h3 (.cells #[(.int .i64 (w64 (y11 - y9)))] 3) fun p13 h4 =>
      App 3 1 8 (.int .i64 0) out6 ((⟨some p13, 1, 1⟩ : Sl)) h4 fun s16 h5 =>
      X8 s16 (w64 (x7 + 1)) h5) (
      R out6 h1)) →
    X8 out6 x7 h1) →
  X8 Sl.nil 0 h

set_option maxRecDepth 100000 in
theorem fen_Fen_Ints_of {r : World} {f1 : Option Addr} {h : Heap} {R : Sl → Heap → Prop} (H : fen_Fen_Ints_F r f1 h R) : fen_Fen_Ints r f1 h R := by
  unfold fen_Fen_Ints_F at H
  refine calls_of 39 [.tmp 2] Tryd.func18 rfl rfl rfl rfl rfl ?_
  refine W_seq ?_
  refine W_region (.pu 0 .fin) rfl rfl ?_
  refine s_pu (d := some 2) (v := (Sl.v Sl.nil)) rfl rfl rfl (r_assign rfl) ?_
  refine s_fin ?_
  show W _ _ _ _ _ _ _ _
  refine W_seq ?_
  refine W_region (.pu 0 .fin) rfl rfl ?_
  refine s_pu (d := some 3) (v := (Sl.v Sl.nil)) rfl rfl rfl (r_assign rfl) ?_
  refine s_fin ?_
  show W _ _ _ _ _ _ _ _
  refine W_seq ?_
  refine W_seq ?_
  refine W_region (.pu 0 (.pu 1 (.pu 2 (.rl 3 (.pu 4 (.pu 5 (.pu 6 .fin))))))) rfl rfl ?_
  refine s_pu (d := some 9) (v := (.pointer f1)) rfl rfl rfl (r_move rfl) ?_
  obtain ⟨p2, e3, H⟩ := H
  refine s_pu (d := some 10) (v := (.pointer (some p2))) rfl rfl rfl (r_nilCheck rfl e3) ?_
  refine s_pu (d := some 11) (v := (.pointer (some (Addr.add p2 0)))) rfl rfl rfl (r_fieldAddr Tryd.underlying96 Tryd.sizeOf22 rfl rfl rfl) ?_
  obtain ⟨x4, e5, H⟩ := H
  refine s_rl (d := some 12) (v := (Sl.v x4)) rfl rfl rfl (fun dr => r_load1 Tryd.isAgg22 rfl e5) ?_
  refine s_pu (d := some 13) (v := (.int .i64 ((x4.len : Int)))) rfl rfl rfl (r_len Tryd.underlying22 rfl) ?_
  refine s_pu (d := some 14) (v := (.int .i64 (w64 (((x4.len : Int)) - 1)))) rfl rfl rfl (r_sub rfl rfl) ?_
  refine s_pu (d := some 15) (v := (.int .i64 0)) rfl rfl rfl (r_move rfl) ?_
  refine s_fin ?_
  show W _ _ _ _ _ _ _ _
  refine W_block ?_
  refine W_loop (WL_mk (l := [(0, (.pointer f1)), (3, (Sl.v Sl.nil)), (14, (.int .i64 (w64 (((x4.len : Int)) - 1)))), (15, (.int .i64 0))]) ?_ ⟨rfl, rfl, rfl, rfl, trivial⟩)
  refine H (fun (out6 : Sl) (x7 : Int) (h1 : Heap) => ∀ b, WL _ _ _ _ _ _ (mkE [(0, (.pointer f1)), (3, (Sl.v out6)), (14, (.int .i64 (w64 (((x4.len : Int)) - 1)))), (15, (.int .i64 x7))] b) h1) ?_
  intro out6 x7 h1 H b
  refine WL_round ?_
  refine W_seq ?_
  refine W_region (.pu 0 .fin) rfl rfl ?_
  refine s_pu (d := some 16) (v := (.bool (decide (x7 < (w64 (((x4.len : Int)) - 1)))))) rfl rfl rfl (r_lss rfl rfl) ?_
  refine s_fin ?_
  show W _ _ _ _ _ _ _ _
  refine W_seq ?_
  refine W_if (decide (x7 < (w64 (((x4.len : Int)) - 1)))) rfl (fun g17 => ?_) (fun g17 => ?_)
  · have H := H.1 g17
    refine W_skip ?_
    show W _ _ _ _ _ _ _ _
    refine W_seq ?_
    refine W_block ?_
    refine W_seq ?_
    refine W_region (.pu 0 (.pu 1 .fin)) rfl rfl ?_
    refine s_pu (d := some 17) (v := (.int .i64 x7)) rfl rfl rfl (r_move rfl) ?_
    refine s_pu (d := some 4) (v := (.int .i64 x7)) rfl rfl rfl (r_assign rfl) ?_
    refine s_fin ?_
    show W _ _ _ _ _ _ _ _
    refine W_seq ?_
    refine W_region (.pu 0 (.pu 1 (.ef 2 [] (.pu 3 (.pu 4 (.pu 5 (.pu 6 (.pu 7 .fin))))) .no))) rfl rfl ?_
    refine s_pu (d := some 19) (v := (.pointer f1)) rfl rfl rfl (r_move rfl) ?_
    refine s_pu (d := some 20) (v := (.int .i64 x7)) rfl rfl rfl (r_move rfl) ?_
    refine s_ef (d := some 21) rfl rfl rfl (fun dr => r_call Tryd.call15 rfl rfl H) ?_ trivial
    rintro _ h2 ⟨y9, y10, rfl, H⟩
    refine ⟨trivial, ?_⟩
    refine s_pu (d := some 18) (v := (.tuple #[(.int .i64 y9), y10])) rfl rfl rfl (r_move rfl) ?_
    refine s_pu (d := some 22) (v := (.int .i64 y9)) rfl rfl rfl (r_extract rfl rfl) ?_
    refine s_pu (d := some 23) (v := y10) rfl rfl rfl (r_extract rfl rfl) ?_
    refine s_pu (d := some 5) (v := (.int .i64 y9)) rfl rfl rfl (r_assign rfl) ?_
    refine s_pu (d := some 6) (v := y10) rfl rfl rfl (r_assign rfl) ?_
    refine s_fin ?_
    show W _ _ _ _ _ _ _ _
    refine W_seq ?_
    refine W_region (.pu 0 (.pu 1 (.pu 2 (.ef 3 [] (.pu 4 (.pu 5 (.pu 6 (.pu 7 (.pu 8 .fin))))) .no)))) rfl rfl ?_
    refine s_pu (d := some 25) (v := (.pointer f1)) rfl rfl rfl (r_move rfl) ?_
    refine s_pu (d := some 26) (v := (.int .i64 x7)) rfl rfl rfl (r_move rfl) ?_
    refine s_pu (d := some 27) (v := (.int .i64 (w64 (x7 + 1)))) rfl rfl rfl (r_add rfl rfl) ?_
    refine s_ef (d := some 28) rfl rfl rfl (fun dr => r_call Tryd.call15 rfl rfl H) ?_ trivial
    rintro _ h3 ⟨y11, y12, rfl, H⟩
    refine ⟨trivial, ?_⟩
    refine s_pu (d := some 24) (v := (.tuple #[(.int .i64 y11), y12])) rfl rfl rfl (r_move rfl) ?_
    refine s_pu (d := some 29) (v := (.int .i64 y11)) rfl rfl rfl (r_extract rfl rfl) ?_
    refine s_pu (d := some 30) (v := y12) rfl rfl rfl (r_extract rfl rfl) ?_
    refine s_pu (d := some 7) (v := (.int .i64 y11)) rfl rfl rfl (r_assign rfl) ?_
    refine s_pu (d := some 8) (v := y12) rfl rfl rfl (r_assign rfl) ?_
    refine s_fin ?_
    show W _ _ _ _ _ _ _ _
    refine W_region (.pu 0 (.pu 1 (.pu 2 (.pu 3 (.ef 4 [] (.ef 5 [] (.pu 6 .fin) .no) .no))))) rfl rfl ?_
    refine s_pu (d := some 31) (v := (Sl.v out6)) rfl rfl rfl (r_move rfl) ?_
    refine s_pu (d := some 32) (v := (.int .i64 y11)) rfl rfl rfl (r_move rfl) ?_
    refine s_pu (d := some 33) (v := (.int .i64 y9)) rfl rfl rfl (r_move rfl) ?_
    refine s_pu (d := some 34) (v := (.int .i64 (w64 (y11 - y9)))) rfl rfl rfl (r_sub rfl rfl) ?_
    obtain ⟨p13, e14⟩ : ∃ p : Addr, p = ⟨h3.size, 0, none⟩ := ⟨_, rfl⟩
    obtain ⟨h4, e15⟩ : ∃ hh : Heap, hh = h3.push (.cells #[(.int .i64 (w64 (y11 - y9)))] 3) := ⟨_, rfl⟩
    have H := H p13 h4 e14 e15
    refine s_ef1 (d := some 35) (v := (Sl.v ((⟨some p13, 1, 1⟩ : Sl)))) (h' := h4) rfl rfl rfl (fun dr => (slFDFen_22.build (cells := #[(.int .i64 (w64 (y11 - y9)))]) (by decide) rfl (by kernel_rfl)).trans (by rw [e14, e15]; rfl)) trivial ?_ trivial
    refine s_ef (d := some 36) rfl rfl rfl (fun dr => slFDFen_22.append rfl rfl H) ?_ trivial
    rintro _ h5 ⟨s16, rfl, H⟩
    refine ⟨trivial, ?_⟩
    refine s_pu (d := some 3) (v := (Sl.v s16)) rfl rfl rfl (r_assign rfl) ?_
    refine s_fin ?_
    show W _ _ _ _ _ _ _ _
    refine W_region (.pu 0 (.pu 1 .fin)) rfl rfl ?_
    refine s_pu (d := some 37) (v := (.int .i64 (w64 (x7 + 1)))) rfl rfl rfl (r_add rfl rfl) ?_
    refine s_pu (d := some 15) (v := (.int .i64 (w64 (x7 + 1)))) rfl rfl rfl (r_move rfl) ?_
    refine s_fin ?_
    exact WL_mk (l := [(0, (.pointer f1)), (3, (Sl.v s16)), (14, (.int .i64 (w64 (((x4.len : Int)) - 1)))), (15, (.int .i64 (w64 (x7 + 1))))]) H ⟨rfl, rfl, rfl, rfl, trivial⟩
  · have H := H.2 g17
    refine W_exit (inX_here ?_)
    show W _ _ _ _ _ _ _ _
    refine W_seq ?_
    refine W_region (.pu 0 (.pu 1 .fin)) rfl rfl ?_
    refine s_pu (d := some 38) (v := (Sl.v out6)) rfl rfl rfl (r_move rfl) ?_
    refine s_pu (d := some 2) (v := (Sl.v out6)) rfl rfl rfl (r_assign rfl) ?_
    refine s_fin ?_
    show W _ _ _ _ _ _ _ _
    refine W_ret ?_
    exact ⟨[(Sl.v out6)], ⟨_, _, rfl, rfl, rfl⟩, out6, rfl, H⟩

/-! ### law5_fenned -/

def law5_fenned_F (r : World)  (h : Heap) (R : Bool → Heap → Prop) : Prop :=
  fen_New r 2 h fun y1 y2 h1 =>
  (isIface y2 = true) ∧
  Br ((!(isNil y2)) || (Option.isNone y1)) (
    R false h1) (
    fen_Fen_Add r y1 1 5 h1 fun y7 h2 =>
    fen_Fen_Sum r y1 2 h2 fun y8 y9 h3 =>
    fen_Fen_Find r y1 3 h3 fun y10 y11 h4 =>
    (isIface y7 = true) ∧
    (isIface y9 = true) ∧
    (isIface y11 = true) ∧
    ∀ x27 : Bool, x27 = (((((isNil y7) && (isNil y9)) && (isNil y11)) && (decide (y8 = 5))) && (decide (y10 = 2))) →
    R x27 h4)

set_option maxRecDepth 100000 in
theorem law5_fenned_of {r : World}  {h : Heap} {R : Bool → Heap → Prop} (H : law5_fenned_F r  h R) : law5_fenned r  h R := by
  unfold law5_fenned_F at H
  refine calls_of 48 [.tmp 0] Tryd.func10 rfl rfl rfl rfl rfl ?_
  refine W_seq ?_
  refine W_region (.pu 0 .fin) rfl rfl ?_
  refine s_pu (d := some 0) (v := (.bool false)) rfl rfl rfl (r_assign rfl) ?_
  refine s_fin ?_
  show W _ _ _ _ _ _ _ _
  refine W_seq ?_
  refine W_region (.ef 0 [] (.pu 1 (.pu 2 (.pu 3 (.pu 4 (.pu 5 .fin))))) .no) rfl rfl ?_
  refine s_ef (d := some 9) rfl rfl rfl (fun dr => r_call Tryd.call11 rfl rfl H) ?_ trivial
  rintro _ h1 ⟨y1, y2, rfl, H⟩
  refine ⟨trivial, ?_⟩
  refine s_pu (d := some 8) (v := (.tuple #[(.pointer y1), y2])) rfl rfl rfl (r_move rfl) ?_
  refine s_pu (d := some 10) (v := (.pointer y1)) rfl rfl rfl (r_extract rfl rfl) ?_
  refine s_pu (d := some 11) (v := y2) rfl rfl rfl (r_extract rfl rfl) ?_
  refine s_pu (d := some 1) (v := (.pointer y1)) rfl rfl rfl (r_assign rfl) ?_
  refine s_pu (d := some 2) (v := y2) rfl rfl rfl (r_assign rfl) ?_
  refine s_fin ?_
  show W _ _ _ _ _ _ _ _
  refine W_seq ?_
  refine W_seq ?_
  refine W_region (.pu 0 (.pu 1 (.pu 2 (.pu 3 (.pu 4 (.pu 5 .fin)))))) rfl rfl ?_
  refine s_pu (d := some 12) (v := y2) rfl rfl rfl (r_move rfl) ?_
  obtain ⟨e3, H⟩ := H
  refine s_pu (d := some 13) (v := (.bool (!(isNil y2)))) rfl rfl rfl (r_notNilI Tryd.underlying26 rfl e3 rfl) ?_
  refine s_pu (d := some 14) (v := (.bool (!(isNil y2)))) rfl rfl rfl (r_move rfl) ?_
  refine S_meet (l := [(1, (.pointer y1)), (17, (.bool ((!(isNil y2)) || (Option.isNone y1))))]) (i := 3) ?_ (fun HJ => ?_)
  · intro b
    show S _ _ _ _ _ _
    refine s_fin ?_
    show W _ _ _ _ _ _ _ _
    refine W_if ((!(isNil y2)) || (Option.isNone y1)) rfl (fun g33 => ?_) (fun g33 => ?_)
    · have H := H.1 g33
      refine W_seq ?_
      refine W_region (.pu 0 .fin) rfl rfl ?_
      refine s_pu (d := some 0) (v := (.bool false)) rfl rfl rfl (r_assign rfl) ?_
      refine s_fin ?_
      show W _ _ _ _ _ _ _ _
      refine W_ret ?_
      exact ⟨[(.bool false)], ⟨_, _, rfl, rfl, rfl⟩, false, rfl, H⟩
    · have H := H.2 g33
      refine W_skip ?_
      show W _ _ _ _ _ _ _ _
      refine W_seq ?_
      refine W_region (.pu 0 (.ef 1 [] (.pu 2 .fin) .no)) rfl rfl ?_
      refine s_pu (d := some 18) (v := (.pointer y1)) rfl rfl rfl (r_move rfl) ?_
      refine s_ef (d := some 19) rfl rfl rfl (fun dr => r_call Tryd.call13 rfl rfl H) ?_ trivial
      rintro y7 h2 H
      refine ⟨trivial, ?_⟩
      refine s_pu (d := some 3) (v := y7) rfl rfl rfl (r_assign rfl) ?_
      refine s_fin ?_
      show W _ _ _ _ _ _ _ _
      refine W_seq ?_
      refine W_region (.pu 0 (.ef 1 [] (.pu 2 (.pu 3 (.pu 4 (.pu 5 (.pu 6 .fin))))) .no)) rfl rfl ?_
      refine s_pu (d := some 21) (v := (.pointer y1)) rfl rfl rfl (r_move rfl) ?_
      refine s_ef (d := some 22) rfl rfl rfl (fun dr => r_call Tryd.call15 rfl rfl H) ?_ trivial
      rintro _ h3 ⟨y8, y9, rfl, H⟩
      refine ⟨trivial, ?_⟩
      refine s_pu (d := some 20) (v := (.tuple #[(.int .i64 y8), y9])) rfl rfl rfl (r_move rfl) ?_
      refine s_pu (d := some 23) (v := (.int .i64 y8)) rfl rfl rfl (r_extract rfl rfl) ?_
      refine s_pu (d := some 24) (v := y9) rfl rfl rfl (r_extract rfl rfl) ?_
      refine s_pu (d := some 4) (v := (.int .i64 y8)) rfl rfl rfl (r_assign rfl) ?_
      refine s_pu (d := some 5) (v := y9) rfl rfl rfl (r_assign rfl) ?_
      refine s_fin ?_
      show W _ _ _ _ _ _ _ _
      refine W_seq ?_
      refine W_region (.pu 0 (.ef 1 [] (.pu 2 (.pu 3 (.pu 4 (.pu 5 (.pu 6 .fin))))) .no)) rfl rfl ?_
      refine s_pu (d := some 26) (v := (.pointer y1)) rfl rfl rfl (r_move rfl) ?_
      refine s_ef (d := some 27) rfl rfl rfl (fun dr => r_call Tryd.call16 rfl rfl H) ?_ trivial
      rintro _ h4 ⟨y10, y11, rfl, H⟩
      refine ⟨trivial, ?_⟩
      refine s_pu (d := some 25) (v := (.tuple #[(.int .i64 y10), y11])) rfl rfl rfl (r_move rfl) ?_
      refine s_pu (d := some 28) (v := (.int .i64 y10)) rfl rfl rfl (r_extract rfl rfl) ?_
      refine s_pu (d := some 29) (v := y11) rfl rfl rfl (r_extract rfl rfl) ?_
      refine s_pu (d := some 6) (v := (.int .i64 y10)) rfl rfl rfl (r_assign rfl) ?_
      refine s_pu (d := some 7) (v := y11) rfl rfl rfl (r_assign rfl) ?_
      refine s_fin ?_
      show W _ _ _ _ _ _ _ _
      refine W_seq ?_
      refine W_region (.pu 0 (.pu 1 (.pu 2 (.pu 3 (.pu 4 (.pu 5 (.pu 6 (.pu 7 (.pu 8 (.pu 9 (.pu 10 (.pu 11 (.pu 12 (.pu 13 (.pu 14 (.pu 15 (.pu 16 (.pu 17 (.pu 18 .fin))))))))))))))))))) rfl rfl ?_
      refine s_pu (d := some 30) (v := y7) rfl rfl rfl (r_move rfl) ?_
      obtain ⟨e12, H⟩ := H
      refine s_pu (d := some 31) (v := (.bool (isNil y7))) rfl rfl rfl (r_nilI Tryd.underlying26 rfl e12 rfl) ?_
      refine s_pu (d := some 32) (v := (.bool (isNil y7))) rfl rfl rfl (r_move rfl) ?_
      obtain ⟨e14, H⟩ := H
      refine S_meet (l := [(4, (.int .i64 y8)), (6, (.int .i64 y10)), (7, y11), (35, (.bool ((isNil y7) && (isNil y9))))]) (i := 3) ?_ (fun HJ => ?_)
      · intro b
        show S _ _ _ _ _ _
        refine s_pu (d := some 36) (v := (.bool ((isNil y7) && (isNil y9)))) rfl rfl rfl (r_move rfl) ?_
        obtain ⟨e18, H⟩ := H
        refine S_meet (l := [(4, (.int .i64 y8)), (6, (.int .i64 y10)), (39, (.bool (((isNil y7) && (isNil y9)) && (isNil y11))))]) (i := 3) ?_ (fun HJ => ?_)
        · intro b
          show S _ _ _ _ _ _
          refine s_pu (d := some 40) (v := (.bool (((isNil y7) && (isNil y9)) && (isNil y11)))) rfl rfl rfl (r_move rfl) ?_
          refine S_meet (l := [(6, (.int .i64 y10)), (43, (.bool ((((isNil y7) && (isNil y9)) && (isNil y11)) && (decide (y8 = 5)))))]) (i := 3) ?_ (fun HJ => ?_)
          · intro b
            show S _ _ _ _ _ _
            refine s_pu (d := some 44) (v := (.bool ((((isNil y7) && (isNil y9)) && (isNil y11)) && (decide (y8 = 5))))) rfl rfl rfl (r_move rfl) ?_
            refine S_meet (l := [(47, (.bool (((((isNil y7) && (isNil y9)) && (isNil y11)) && (decide (y8 = 5))) && (decide (y10 = 2)))))]) (i := 3) ?_ (fun HJ => ?_)
            · intro b
              show S _ _ _ _ _ _
              obtain ⟨x27, e28⟩ : ∃ x : Bool, x = (((((isNil y7) && (isNil y9)) && (isNil y11)) && (decide (y8 = 5))) && (decide (y10 = 2))) := ⟨_, rfl⟩
              have H := H x27 e28
              refine s_pu (d := some 0) (v := (.bool x27)) rfl rfl rfl (r_assign (congrArg Value.bool e28.symm)) ?_
              refine s_fin ?_
              show W _ _ _ _ _ _ _ _
              refine W_ret ?_
              exact ⟨[(.bool x27)], ⟨_, _, rfl, rfl, rfl⟩, x27, rfl, H⟩
            · rcases Bool.eq_false_or_eq_true ((((isNil y7) && (isNil y9)) && (isNil y11)) && (decide (y8 = 5))) with g24 | g24
              · refine s_pu (d := some 45) (v := (.int .i64 y10)) rfl rfl (wants_yes rfl rfl rfl rfl g24) (r_move rfl) ?_
                refine s_pu (d := some 46) (v := (.bool (decide (y10 = 2)))) rfl rfl (wants_yes rfl rfl rfl rfl g24) (r_eql rfl rfl) ?_
                refine s_pu (d := some 47) (v := (.bool (decide (y10 = 2)))) rfl rfl rfl (r_pick1 rfl g24 rfl) ?_
                exact S_mk (l := [(47, (.bool (((((isNil y7) && (isNil y9)) && (isNil y11)) && (decide (y8 = 5))) && (decide (y10 = 2)))))]) HJ ⟨(by rw [g24]; rfl), trivial⟩
              · refine s_sk (d := some 45) rfl rfl (wants_no rfl rfl rfl rfl g24) ?_
                refine s_sk (d := some 46) rfl rfl (wants_no rfl rfl rfl rfl g24) ?_
                refine s_pu (d := some 47) (v := (.bool false)) rfl rfl rfl (r_pick0 rfl g24 rfl) ?_
                exact S_mk (l := [(47, (.bool (((((isNil y7) && (isNil y9)) && (isNil y11)) && (decide (y8 = 5))) && (decide (y10 = 2)))))]) HJ ⟨(by rw [g24]; rfl), trivial⟩
          · rcases Bool.eq_false_or_eq_true (((isNil y7) && (isNil y9)) && (isNil y11)) with g21 | g21
            · refine s_pu (d := some 41) (v := (.int .i64 y8)) rfl rfl (wants_yes rfl rfl rfl rfl g21) (r_move rfl) ?_
              refine s_pu (d := some 42) (v := (.bool (decide (y8 = 5)))) rfl rfl (wants_yes rfl rfl rfl rfl g21) (r_eql rfl rfl) ?_
              refine s_pu (d := some 43) (v := (.bool (decide (y8 = 5)))) rfl rfl rfl (r_pick1 rfl g21 rfl) ?_
              exact S_mk (l := [(6, (.int .i64 y10)), (43, (.bool ((((isNil y7) && (isNil y9)) && (isNil y11)) && (decide (y8 = 5)))))]) HJ ⟨rfl, (by rw [g21]; rfl), trivial⟩
            · refine s_sk (d := some 41) rfl rfl (wants_no rfl rfl rfl rfl g21) ?_
              refine s_sk (d := some 42) rfl rfl (wants_no rfl rfl rfl rfl g21) ?_
              refine s_pu (d := some 43) (v := (.bool false)) rfl rfl rfl (r_pick0 rfl g21 rfl) ?_
              exact S_mk (l := [(6, (.int .i64 y10)), (43, (.bool ((((isNil y7) && (isNil y9)) && (isNil y11)) && (decide (y8 = 5)))))]) HJ ⟨rfl, (by rw [g21]; rfl), trivial⟩
        · rcases Bool.eq_false_or_eq_true ((isNil y7) && (isNil y9)) with g17 | g17
          · refine s_pu (d := some 37) (v := y11) rfl rfl (wants_yes rfl rfl rfl rfl g17) (r_move rfl) ?_
            refine s_pu (d := some 38) (v := (.bool (isNil y11))) rfl rfl (wants_yes rfl rfl rfl rfl g17) (r_nilI Tryd.underlying26 rfl e18 rfl) ?_
            refine s_pu (d := some 39) (v := (.bool (isNil y11))) rfl rfl rfl (r_pick1 rfl g17 rfl) ?_
            exact S_mk (l := [(4, (.int .i64 y8)), (6, (.int .i64 y10)), (39, (.bool (((isNil y7) && (isNil y9)) && (isNil y11))))]) HJ ⟨rfl, rfl, (by rw [g17]; rfl), trivial⟩
          · refine s_sk (d := some 37) rfl rfl (wants_no rfl rfl rfl rfl g17) ?_
            refine s_sk (d := some 38) rfl rfl (wants_no rfl rfl rfl rfl g17) ?_
            refine s_pu (d := some 39) (v := (.bool false)) rfl rfl rfl (r_pick0 rfl g17 rfl) ?_
            exact S_mk (l := [(4, (.int .i64 y8)), (6, (.int .i64 y10)), (39, (.bool (((isNil y7) && (isNil y9)) && (isNil y11))))]) HJ ⟨rfl, rfl, (by rw [g17]; rfl), trivial⟩
      · rcases Bool.eq_false_or_eq_true (isNil y7) with g13 | g13
        · refine s_pu (d := some 33) (v := y9) rfl rfl (wants_yes rfl rfl rfl rfl g13) (r_move rfl) ?_
          refine s_pu (d := some 34) (v := (.bool (isNil y9))) rfl rfl (wants_yes rfl rfl rfl rfl g13) (r_nilI Tryd.underlying26 rfl e14 rfl) ?_
          refine s_pu (d := some 35) (v := (.bool (isNil y9))) rfl rfl rfl (r_pick1 rfl g13 rfl) ?_
          exact S_mk (l := [(4, (.int .i64 y8)), (6, (.int .i64 y10)), (7, y11), (35, (.bool ((isNil y7) && (isNil y9))))]) HJ ⟨rfl, rfl, rfl, (by rw [g13]; rfl), trivial⟩
        · refine s_sk (d := some 33) rfl rfl (wants_no rfl rfl rfl rfl g13) ?_
          refine s_sk (d := some 34) rfl rfl (wants_no rfl rfl rfl rfl g13) ?_
          refine s_pu (d := some 35) (v := (.bool false)) rfl rfl rfl (r_pick0 rfl g13 rfl) ?_
          exact S_mk (l := [(4, (.int .i64 y8)), (6, (.int .i64 y10)), (7, y11), (35, (.bool ((isNil y7) && (isNil y9))))]) HJ ⟨rfl, rfl, rfl, (by rw [g13]; rfl), trivial⟩
  · rcases Bool.eq_false_or_eq_true (!(isNil y2)) with g4 | g4
    · refine s_sk (d := some 15) rfl rfl (wants_no rfl rfl rfl rfl g4) ?_
      refine s_sk (d := some 16) rfl rfl (wants_no rfl rfl rfl rfl g4) ?_
      refine s_pu (d := some 17) (v := (.bool true)) rfl rfl rfl (r_pick1 rfl g4 rfl) ?_
      exact S_mk (l := [(1, (.pointer y1)), (17, (.bool ((!(isNil y2)) || (Option.isNone y1))))]) HJ ⟨rfl, (by rw [g4]; rfl), trivial⟩
    · refine s_pu (d := some 15) (v := (.pointer y1)) rfl rfl (wants_yes rfl rfl rfl rfl g4) (r_move rfl) ?_
      refine s_pu (d := some 16) (v := (.bool (Option.isNone y1))) rfl rfl (wants_yes rfl rfl rfl rfl g4) (r_nilP Tryd.underlying24 rfl rfl) ?_
      refine s_pu (d := some 17) (v := (.bool (Option.isNone y1))) rfl rfl rfl (r_pick0 rfl g4 rfl) ?_
      exact S_mk (l := [(1, (.pointer y1)), (17, (.bool ((!(isNil y2)) || (Option.isNone y1))))]) HJ ⟨rfl, (by rw [g4]; rfl), trivial⟩

/-! ### law5_FenTells -/

def law5_FenTells_F (r : World) (n1 : Int) (is2 : Sl) (xs3 : Sl) (i4 : Int) (k5 : Int) (h : Heap) (R : Bool → Heap → Prop) : Prop :=
  law5_fenned r h fun y6 h1 =>
  fen_New r n1 h1 fun y7 y8 h2 =>
  ∀ J13 : Int → Prop, (∀ (ve12 : Int),
    (same_Error r y8 ve12 h2 fun y15 h3 =>
    ∀ J21 : Bool → Prop, (∀ (x20 : Bool),
      (Br x20 (
        R false h3) (
        Br (((!decide (ve12 = 0)) || (decide (200 < n1))) || (decide (100 < ((is2.len : Int))))) (
          R true h3) (
          MkS 3 1 8 (.int .i64 0) n1 h3 fun s29 h4 =>
          ∀ X36 : Int → Heap → Prop, (∀ (a35 : Int) (h5 : Heap),
            (Br ((decide (a35 < ((is2.len : Int)))) && (decide (a35 < ((xs3.len : Int))))) (
              ∀ J40 : Heap → Prop, (∀ (h6 : Heap),
                (X36 (w64 (a35 + 1)) h6) →
                J40 h6) →
              ∀ J43 : Bool → Prop, (∀ (x42 : Bool),
                (∀ J46 : Int → Prop, (∀ (ve45 : Int),
                  (Ix is2 a35 1 fun q52 =>
                  LdI h5 q52 fun x54 =>
                  Ix xs3 a35 1 fun q60 =>
                  LdI h5 q60 fun x62 =>
                  fen_Fen_Add r y7 x54 x62 h5 fun y64 h7 =>
                  same_Error r y64 ve45 h7 fun y65 h8 =>
                  Br (!y65) (
                    R false h8) (
                    Br (decide (ve45 = 0)) (
                      Ix is2 a35 1 fun q70 =>
                      LdI h8 q70 fun x72 =>
                      Ix s29 x72 1 fun q78 =>
                      LdI h8 q78 fun x80 =>
                      Ix xs3 a35 1 fun q86 =>
                      LdI h8 q86 fun x88 =>
                      Ix s29 x72 1 fun q94 =>
                      St h8 q94 1 [(.int .i64 (w64 (x80 + x88)))] fun h9 =>
                      J40 h9) (
                      J40 h8))) →
                  J46 ve45) →
                Br x42 (
                  J46 1) (
                  J46 0)) →
                J43 x42) →
              Ix is2 a35 1 fun q105 =>
              LdI h5 q105 fun x107 =>
              Br (decide (x107 < 0)) (
                J43 true) (
                Ix is2 a35 1 fun q114 =>
                LdI h5 q114 fun x116 =>
                Br (decide (n1 ≤ x116)) (
                  J43 true) (
                  Ix xs3 a35 1 fun q123 =>
                  LdI h5 q123 fun x125 =>
                  Br (decide (x125 < 0)) (
                    J43 true) (
                    Ix xs3 a35 1 fun q132 =>
                    LdI h5 q132 fun x134 =>
                    J43 (decide (1073741824 < x134)))))) (
              ∀ J141 : Int → Int → Heap → Prop, (∀ (ve139 : Int) (sum140 : Int) (h10 : Heap),
                (fen_Fen_Sum r y7 i4 h10 fun y143 y144 h11 =>
                same_Error r y144 ve139 h11 fun y145 h12 =>
                ∀ X148 : Int → Int → Prop, (∀ (va146 : Int) (so147 : Int),
                  (Br ((decide (va146 < n1)) && (decide (so147 < k5))) (
                    Ix s29 va146 1 fun q156 =>
                    LdI h12 q156 fun x158 =>
                    X148 (w64 (va146 + 1)) (w64 (so147 + x158))) (
                    ∀ J162 : Int → Int → Prop, (∀ (ve160 : Int) (va161 : Int),
                      (fen_Fen_Find r y7 k5 h12 fun y164 y165 h13 =>
                      same_Error r y165 ve160 h13 fun y166 h14 =>
                      fen_Fen_Ints r y7 h14 fun y167 h15 =>
                      same_Ints r y167 s29 h15 fun y168 h16 =>
                      ∀ x181 : Bool, x181 = ((((y145 && y166) && y168) && (decide (y143 = sum140))) && (decide (y164 = va161))) →
                      R x181 h16) →
                      J162 ve160 va161) →
                    Br (decide (so147 < k5)) (
                      J162 2 0) (
                      J162 0 va146))) →
                  X148 va146 so147) →
                X148 0 0) →
                J141 ve139 sum140 h10) →
              Br ((decide (i4 < 0)) || (decide (n1 < i4))) (
                J141 1 0 h5) (
                Sub s29 0 i4 ((s29.cap : Int)) 1 fun s190 =>
                ref1_SumOf r s190 h5 fun y196 h17 =>
                J141 0 y196 h17))) →
            X36 a35 h5) →
          X36 0 h4))) →
      J21 x20) →
    Br (!y6) (
      J21 true) (
      Br (!y15) (
        J21 true) (
        Br (!decide (ve12 = 0)) (
          J21 (!(Option.isNone y7))) (
          J21 false)))) →
    J13 ve12) →
  Br ((decide (n1 < 0)) || (decide (5000 < n1))) (
    J13 1) (
    J13 0)

set_option maxRecDepth 100000 in
theorem law5_FenTells_of {r : World} {n1 : Int} {is2 : Sl} {xs3 : Sl} {i4 : Int} {k5 : Int} {h : Heap} {R : Bool → Heap → Prop} (H : law5_FenTells_F r n1 is2 xs3 i4 k5 h R) : law5_FenTells r n1 is2 xs3 i4 k5 h R := by
  unfold law5_FenTells_F at H
  refine calls_of 205 [.tmp 10] Tryd.func3 rfl rfl rfl rfl rfl ?_
  refine W_seq ?_
  refine W_region (.pu 0 .fin) rfl rfl ?_
  refine s_pu (d := some 10) (v := (.bool false)) rfl rfl rfl (r_assign rfl) ?_
  refine s_fin ?_
  show W _ _ _ _ _ _ _ _
  refine W_seq ?_
  refine W_region (.ef 0 [] (.pu 1 .fin) .no) rfl rfl ?_
  refine s_ef (d := some 26) rfl rfl rfl (fun dr => r_call Tryd.call10 rfl rfl H) ?_ trivial
  rintro _ h1 ⟨y6, rfl, H⟩
  refine ⟨trivial, ?_⟩
  refine s_pu (d := some 11) (v := (.bool y6)) rfl rfl rfl (r_assign rfl) ?_
  refine s_fin ?_
  show W _ _ _ _ _ _ _ _
  refine W_seq ?_
  refine W_region (.pu 0 (.ef 1 [] (.pu 2 (.pu 3 (.pu 4 (.pu 5 (.pu 6 .fin))))) .no)) rfl rfl ?_
  refine s_pu (d := some 28) (v := (.int .i64 n1)) rfl rfl rfl (r_move rfl) ?_
  refine s_ef (d := some 29) rfl rfl rfl (fun dr => r_call Tryd.call11 rfl rfl H) ?_ trivial
  rintro _ h2 ⟨y7, y8, rfl, H⟩
  refine ⟨trivial, ?_⟩
  refine s_pu (d := some 27) (v := (.tuple #[(.pointer y7), y8])) rfl rfl rfl (r_move rfl) ?_
  refine s_pu (d := some 30) (v := (.pointer y7)) rfl rfl rfl (r_extract rfl rfl) ?_
  refine s_pu (d := some 31) (v := y8) rfl rfl rfl (r_extract rfl rfl) ?_
  refine s_pu (d := some 12) (v := (.pointer y7)) rfl rfl rfl (r_assign rfl) ?_
  refine s_pu (d := some 13) (v := y8) rfl rfl rfl (r_assign rfl) ?_
  refine s_fin ?_
  show W _ _ _ _ _ _ _ _
  refine W_seq ?_
  refine W_region (.pu 0 .fin) rfl rfl ?_
  refine s_pu (d := some 14) (v := (.int .i64 0)) rfl rfl rfl (r_assign rfl) ?_
  refine s_fin ?_
  show W _ _ _ _ _ _ _ _
  refine W_seq ?_
  refine W_seq ?_
  refine W_region (.pu 0 (.pu 1 (.pu 2 (.pu 3 (.pu 4 (.pu 5 .fin)))))) rfl rfl ?_
  refine s_pu (d := some 32) (v := (.int .i64 n1)) rfl rfl rfl (r_move rfl) ?_
  refine s_pu (d := some 33) (v := (.bool (decide (n1 < 0)))) rfl rfl rfl (r_lss rfl rfl) ?_
  refine s_pu (d := some 34) (v := (.bool (decide (n1 < 0)))) rfl rfl rfl (r_move rfl) ?_
  refine S_meet (l := [(0, (.int .i64 n1)), (1, (Sl.v is2)), (2, (Sl.v xs3)), (3, (.int .i64 i4)), (4, (.int .i64 k5)), (11, (.bool y6)), (12, (.pointer y7)), (13, y8), (14, (.int .i64 0)), (37, (.bool ((decide (n1 < 0)) || (decide (5000 < n1)))))]) (i := 3) ?_ (fun HJ => ?_)
  · intro b
    show S _ _ _ _ _ _
    refine s_fin ?_
    show W _ _ _ _ _ _ _ _
    refine W_set ?_
    intro N14 eN14
    have H := H (fun (ve12 : Int) => ∀ b, N14 [] (mkE [(0, (.int .i64 n1)), (1, (Sl.v is2)), (2, (Sl.v xs3)), (3, (.int .i64 i4)), (4, (.int .i64 k5)), (11, (.bool y6)), (12, (.pointer y7)), (13, y8), (14, (.int .i64 ve12))] b) h2) (by
      intro ve12 H b
      rw [eN14]
      show W _ _ _ _ _ _ _ _
      refine W_seq ?_
      refine W_region (.pu 0 (.pu 1 (.ef 2 [] (.pu 3 .fin) .no))) rfl rfl ?_
      refine s_pu (d := some 38) (v := y8) rfl rfl rfl (r_move rfl) ?_
      refine s_pu (d := some 39) (v := (.int .i64 ve12)) rfl rfl rfl (r_move rfl) ?_
      refine s_ef (d := some 40) rfl rfl rfl (fun dr => r_call Tryd.call12 rfl rfl H) ?_ trivial
      rintro _ h3 ⟨y15, rfl, H⟩
      refine ⟨trivial, ?_⟩
      refine s_pu (d := some 15) (v := (.bool y15)) rfl rfl rfl (r_assign rfl) ?_
      refine s_fin ?_
      show W _ _ _ _ _ _ _ _
      refine W_seq ?_
      refine W_seq ?_
      refine W_set ?_
      intro N22 eN22
      have H := H (fun (x20 : Bool) => ∀ b, N22 [] (mkE [(0, (.int .i64 n1)), (1, (Sl.v is2)), (2, (Sl.v xs3)), (3, (.int .i64 i4)), (4, (.int .i64 k5)), (12, (.pointer y7)), (14, (.int .i64 ve12)), (54, (.bool x20))] b) h3) (by
        intro x20 H b
        rw [eN22]
        show W _ _ _ _ _ _ _ _
        refine W_if x20 rfl (fun g204 => ?_) (fun g204 => ?_)
        · have H := H.1 g204
          refine W_seq ?_
          refine W_region (.pu 0 .fin) rfl rfl ?_
          refine s_pu (d := some 10) (v := (.bool false)) rfl rfl rfl (r_assign rfl) ?_
          refine s_fin ?_
          show W _ _ _ _ _ _ _ _
          refine W_ret ?_
          exact ⟨[(.bool false)], ⟨_, _, rfl, rfl, rfl⟩, false, rfl, H⟩
        · have H := H.2 g204
          refine W_skip ?_
          show W _ _ _ _ _ _ _ _
          refine W_seq ?_
          refine W_seq ?_
          refine W_region (.pu 0 (.pu 1 (.pu 2 (.pu 3 (.pu 4 (.pu 5 (.pu 6 (.pu 7 (.pu 8 (.pu 9 (.pu 10 .fin))))))))))) rfl rfl ?_
          refine s_pu (d := some 55) (v := (.int .i64 ve12)) rfl rfl rfl (r_move rfl) ?_
          refine s_pu (d := some 56) (v := (.bool (!decide (ve12 = 0)))) rfl rfl rfl (r_neq rfl rfl) ?_
          refine s_pu (d := some 57) (v := (.bool (!decide (ve12 = 0)))) rfl rfl rfl (r_move rfl) ?_
          refine S_meet (l := [(0, (.int .i64 n1)), (1, (Sl.v is2)), (2, (Sl.v xs3)), (3, (.int .i64 i4)), (4, (.int .i64 k5)), (12, (.pointer y7)), (60, (.bool ((!decide (ve12 = 0)) || (decide (200 < n1)))))]) (i := 3) ?_ (fun HJ => ?_)
          · intro b
            show S _ _ _ _ _ _
            refine s_pu (d := some 61) (v := (.bool ((!decide (ve12 = 0)) || (decide (200 < n1))))) rfl rfl rfl (r_move rfl) ?_
            refine S_meet (l := [(0, (.int .i64 n1)), (1, (Sl.v is2)), (2, (Sl.v xs3)), (3, (.int .i64 i4)), (4, (.int .i64 k5)), (12, (.pointer y7)), (65, (.bool (((!decide (ve12 = 0)) || (decide (200 < n1))) || (decide (100 < ((is2.len : Int)))))))]) (i := 4) ?_ (fun HJ => ?_)
            · intro b
              show S _ _ _ _ _ _
              refine s_fin ?_
              show W _ _ _ _ _ _ _ _
              refine W_if (((!decide (ve12 = 0)) || (decide (200 < n1))) || (decide (100 < ((is2.len : Int))))) rfl (fun g201 => ?_) (fun g201 => ?_)
              · have H := H.1 g201
                refine W_seq ?_
                refine W_region (.pu 0 .fin) rfl rfl ?_
                refine s_pu (d := some 10) (v := (.bool true)) rfl rfl rfl (r_assign rfl) ?_
                refine s_fin ?_
                show W _ _ _ _ _ _ _ _
                refine W_ret ?_
                exact ⟨[(.bool true)], ⟨_, _, rfl, rfl, rfl⟩, true, rfl, H⟩
              · have H := H.2 g201
                refine W_skip ?_
                show W _ _ _ _ _ _ _ _
                refine W_seq ?_
                refine W_region (.pu 0 (.ef 1 [] (.pu 2 .fin) .no)) rfl rfl ?_
                refine s_pu (d := some 66) (v := (.int .i64 n1)) rfl rfl rfl (r_move rfl) ?_
                obtain ⟨e30, e31, e32, H⟩ := H
                obtain ⟨s29, e33⟩ : ∃ s : Sl, s = ⟨some ⟨h3.size, 0, none⟩, Int.toNat n1, Int.toNat n1⟩ := ⟨_, rfl⟩
                obtain ⟨h4, e34⟩ : ∃ hh : Heap, hh = _ := ⟨_, rfl⟩
                have H := H s29 h4 e33 e34
                refine s_ef1 (d := some 67) (v := (Sl.v s29)) (h' := h4) rfl rfl rfl (fun dr => (slFDFen_22.make rfl rfl e30 e31 e32).trans (by rw [e33, e34]; rfl)) trivial ?_ trivial
                refine s_pu (d := some 16) (v := (Sl.v s29)) rfl rfl rfl (r_assign rfl) ?_
                refine s_fin ?_
                show W _ _ _ _ _ _ _ _
                refine W_seq ?_
                refine W_seq ?_
                refine W_region (.pu 0 .fin) rfl rfl ?_
                refine s_pu (d := some 17) (v := (.int .i64 0)) rfl rfl rfl (r_assign rfl) ?_
                refine s_fin ?_
                show W _ _ _ _ _ _ _ _
                refine W_block ?_
                refine W_loop (WL_mk (l := [(0, (.int .i64 n1)), (1, (Sl.v is2)), (2, (Sl.v xs3)), (3, (.int .i64 i4)), (4, (.int .i64 k5)), (12, (.pointer y7)), (16, (Sl.v s29)), (17, (.int .i64 0))]) ?_ ⟨rfl, rfl, rfl, rfl, rfl, rfl, rfl, rfl, trivial⟩)
                refine H (fun (a35 : Int) (h5 : Heap) => ∀ b, WL _ _ _ _ _ _ (mkE [(0, (.int .i64 n1)), (1, (Sl.v is2)), (2, (Sl.v xs3)), (3, (.int .i64 i4)), (4, (.int .i64 k5)), (12, (.pointer y7)), (16, (Sl.v s29)), (17, (.int .i64 a35))] b) h5) ?_
                intro a35 h5 H b
                refine WL_round ?_
                refine W_seq ?_
                refine W_seq ?_
                refine W_region (.pu 0 (.pu 1 (.pu 2 (.pu 3 (.pu 4 (.pu 5 (.pu 6 (.pu 7 (.pu 8 (.pu 9 .fin)))))))))) rfl rfl ?_
                refine s_pu (d := some 68) (v := (.int .i64 a35)) rfl rfl rfl (r_move rfl) ?_
                refine s_pu (d := some 69) (v := (Sl.v is2)) rfl rfl rfl (r_move rfl) ?_
                refine s_pu (d := some 70) (v := (.int .i64 ((is2.len : Int)))) rfl rfl rfl (r_len Tryd.underlying22 rfl) ?_
                refine s_pu (d := some 71) (v := (.bool (decide (a35 < ((is2.len : Int)))))) rfl rfl rfl (r_lss rfl rfl) ?_
                refine s_pu (d := some 72) (v := (.bool (decide (a35 < ((is2.len : Int)))))) rfl rfl rfl (r_move rfl) ?_
                refine S_meet (l := [(0, (.int .i64 n1)), (1, (Sl.v is2)), (2, (Sl.v xs3)), (3, (.int .i64 i4)), (4, (.int .i64 k5)), (12, (.pointer y7)), (16, (Sl.v s29)), (17, (.int .i64 a35)), (77, (.bool ((decide (a35 < ((is2.len : Int)))) && (decide (a35 < ((xs3.len : Int)))))))]) (i := 5) ?_ (fun HJ => ?_)
                · intro b
                  show S _ _ _ _ _ _
                  refine s_fin ?_
                  show W _ _ _ _ _ _ _ _
                  refine W_if ((decide (a35 < ((is2.len : Int)))) && (decide (a35 < ((xs3.len : Int))))) rfl (fun g199 => ?_) (fun g199 => ?_)
                  · have H := H.1 g199
                    refine W_skip ?_
                    show W _ _ _ _ _ _ _ _
                    refine W_seq ?_
                    refine W_set ?_
                    intro N41 eN41
                    have H := H (fun (h6 : Heap) => ∀ b, N41 [] (mkE [(0, (.int .i64 n1)), (1, (Sl.v is2)), (2, (Sl.v xs3)), (3, (.int .i64 i4)), (4, (.int .i64 k5)), (12, (.pointer y7)), (16, (Sl.v s29)), (17, (.int .i64 a35))] b) h6) (by
                      intro h6 H b
                      rw [eN41]
                      show W _ _ _ _ _ _ _ _
                      refine W_region (.pu 0 (.pu 1 (.pu 2 .fin))) rfl rfl ?_
                      refine s_pu (d := some 78) (v := (.int .i64 a35)) rfl rfl rfl (r_move rfl) ?_
                      refine s_pu (d := some 79) (v := (.int .i64 (w64 (a35 + 1)))) rfl rfl rfl (r_add rfl rfl) ?_
                      refine s_pu (d := some 17) (v := (.int .i64 (w64 (a35 + 1)))) rfl rfl rfl (r_assign rfl) ?_
                      refine s_fin ?_
                      exact WL_mk (l := [(0, (.int .i64 n1)), (1, (Sl.v is2)), (2, (Sl.v xs3)), (3, (.int .i64 i4)), (4, (.int .i64 k5)), (12, (.pointer y7)), (16, (Sl.v s29)), (17, (.int .i64 (w64 (a35 + 1))))]) H ⟨rfl, rfl, rfl, rfl, rfl, rfl, rfl, rfl, trivial⟩)
                    clear eN41
                    refine W_block ?_
                    refine W_seq ?_
                    refine W_region (.pu 0 .fin) rfl rfl ?_
                    refine s_pu (d := some 14) (v := (.int .i64 0)) rfl rfl rfl (r_assign rfl) ?_
                    refine s_fin ?_
                    show W _ _ _ _ _ _ _ _
                    refine W_seq ?_
                    refine W_seq ?_
                    refine W_set ?_
                    intro N44 eN44
                    have H := H (fun (x42 : Bool) => ∀ b, N44 [] (mkE [(0, (.int .i64 n1)), (1, (Sl.v is2)), (2, (Sl.v xs3)), (3, (.int .i64 i4)), (4, (.int .i64 k5)), (12, (.pointer y7)), (14, (.int .i64 0)), (16, (Sl.v s29)), (17, (.int .i64 a35)), (106, (.bool x42))] b) h5) (by
                      intro x42 H b
                      rw [eN44]
                      show W _ _ _ _ _ _ _ _
                      refine W_set ?_
                      intro N47 eN47
                      have H := H (fun (ve45 : Int) => ∀ b, N47 [] (mkE [(0, (.int .i64 n1)), (1, (Sl.v is2)), (2, (Sl.v xs3)), (3, (.int .i64 i4)), (4, (.int .i64 k5)), (12, (.pointer y7)), (14, (.int .i64 ve45)), (16, (Sl.v s29)), (17, (.int .i64 a35))] b) h5) (by
                        intro ve45 H b
                        rw [eN47]
                        show W _ _ _ _ _ _ _ _
                        refine W_seq ?_
                        refine W_draw [0, 0, 0, 6, 14, 0, 0, 96, 224, 511, 0, 2047, 4095] (.pu 0 (.pu 1 (.pu 2 (.pu 3 (.rd 4 (.pu 5 (.pu 6 (.pu 7 (.rd 8 (.pu 10 (.ef 9 [4, 8] (.ef 11 [4, 8] (.pu 12 .fin) .no) .no))))))))))) (by kernel_rfl) (by kernel_rfl) ?_
                        refine s_pu (d := some 107) (v := (.pointer y7)) rfl rfl rfl (r_move rfl) ?_
                        refine s_pu (d := some 108) (v := (Sl.v is2)) rfl rfl rfl (r_move rfl) ?_
                        refine s_pu (d := some 109) (v := (.int .i64 a35)) rfl rfl rfl (r_move rfl) ?_
                        obtain ⟨p48, e49, e50, e51, H⟩ := H
                        obtain ⟨q52, e53⟩ : ∃ q : Addr, q = Addr.add p48 (Int.toNat a35 * 1) := ⟨_, rfl⟩
                        rw [← e53] at H
                        refine s_pu (d := some 110) (v := (.pointer (some q52))) rfl rfl rfl (fun w => (r_indexAddr Tryd.underlying22 Tryd.sizeOf3 rfl rfl e49 e50 e51 w).trans (by rw [e53])) ?_
                        obtain ⟨x54, e55, H⟩ := H
                        refine s_rd (d := some 111) (v := (.int .i64 x54)) rfl rfl rfl (fun dr => r_load1 Tryd.isAgg3 rfl e55) ?_
                        refine s_pu (d := some 112) (v := (Sl.v xs3)) rfl rfl rfl (r_move rfl) ?_
                        refine s_pu (d := some 113) (v := (.int .i64 a35)) rfl rfl rfl (r_move rfl) ?_
                        obtain ⟨p56, e57, e58, e59, H⟩ := H
                        obtain ⟨q60, e61⟩ : ∃ q : Addr, q = Addr.add p56 (Int.toNat a35 * 1) := ⟨_, rfl⟩
                        rw [← e61] at H
                        refine s_pu (d := some 114) (v := (.pointer (some q60))) rfl rfl rfl (fun w => (r_indexAddr Tryd.underlying22 Tryd.sizeOf3 rfl rfl e57 e58 e59 w).trans (by rw [e61])) ?_
                        obtain ⟨x62, e63, H⟩ := H
                        refine s_rd (d := some 115) (v := (.int .i64 x62)) rfl rfl rfl (fun dr => r_load1 Tryd.isAgg3 rfl e63) ?_
                        refine s_pu (d := some 117) (v := (.int .i64 ve45)) rfl rfl rfl (r_move rfl) ?_
                        refine s_ef (d := some 116) rfl rfl rfl (fun dr => r_call Tryd.call13 rfl rfl H) ?_ trivial
                        rintro y64 h7 H
                        refine ⟨⟨trivial, trivial, trivial⟩, ?_⟩
                        refine s_ef (d := some 118) rfl rfl rfl (fun dr => r_call Tryd.call12 rfl rfl H) ?_ trivial
                        rintro _ h8 ⟨y65, rfl, H⟩
                        refine ⟨⟨trivial, trivial, trivial⟩, ?_⟩
                        refine s_pu (d := some 15) (v := (.bool y65)) rfl rfl rfl (r_assign rfl) ?_
                        refine s_fin ?_
                        show W _ _ _ _ _ _ _ _
                        refine W_seq ?_
                        refine W_seq ?_
                        refine W_region (.pu 0 (.pu 1 .fin)) rfl rfl ?_
                        refine s_pu (d := some 119) (v := (.bool y65)) rfl rfl rfl (r_move rfl) ?_
                        refine s_pu (d := some 120) (v := (.bool (!y65))) rfl rfl rfl (r_not rfl) ?_
                        refine s_fin ?_
                        show W _ _ _ _ _ _ _ _
                        refine W_if (!y65) rfl (fun g99 => ?_) (fun g99 => ?_)
                        · have H := H.1 g99
                          refine W_seq ?_
                          refine W_region (.pu 0 .fin) rfl rfl ?_
                          refine s_pu (d := some 10) (v := (.bool false)) rfl rfl rfl (r_assign rfl) ?_
                          refine s_fin ?_
                          show W _ _ _ _ _ _ _ _
                          refine W_ret ?_
                          exact ⟨[(.bool false)], ⟨_, _, rfl, rfl, rfl⟩, false, rfl, H⟩
                        · have H := H.2 g99
                          refine W_skip ?_
                          show W _ _ _ _ _ _ _ _
                          refine W_seq ?_
                          refine W_region (.pu 0 (.pu 1 .fin)) rfl rfl ?_
                          refine s_pu (d := some 121) (v := (.int .i64 ve45)) rfl rfl rfl (r_move rfl) ?_
                          refine s_pu (d := some 122) (v := (.bool (decide (ve45 = 0)))) rfl rfl rfl (r_eql rfl rfl) ?_
                          refine s_fin ?_
                          show W _ _ _ _ _ _ _ _
                          refine W_if (decide (ve45 = 0)) rfl (fun g98 => ?_) (fun g98 => ?_)
                          · have H := H.1 g98
                            refine W_draw [0, 0, 0, 6, 14, 31, 63, 0, 0, 384, 896, 2047, 4095, 8191] (.pu 0 (.pu 1 (.pu 2 (.pu 3 (.rd 4 (.pu 5 (.rd 6 (.pu 7 (.pu 8 (.pu 9 (.rd 10 (.pu 11 (.pu 12 (.ef 13 [4, 6, 10] .fin .no)))))))))))))) (by kernel_rfl) (by kernel_rfl) ?_
                            refine s_pu (d := some 123) (v := (Sl.v s29)) rfl rfl rfl (r_move rfl) ?_
                            refine s_pu (d := some 124) (v := (Sl.v is2)) rfl rfl rfl (r_move rfl) ?_
                            refine s_pu (d := some 125) (v := (.int .i64 a35)) rfl rfl rfl (r_move rfl) ?_
                            obtain ⟨p66, e67, e68, e69, H⟩ := H
                            obtain ⟨q70, e71⟩ : ∃ q : Addr, q = Addr.add p66 (Int.toNat a35 * 1) := ⟨_, rfl⟩
                            rw [← e71] at H
                            refine s_pu (d := some 126) (v := (.pointer (some q70))) rfl rfl rfl (fun w => (r_indexAddr Tryd.underlying22 Tryd.sizeOf3 rfl rfl e67 e68 e69 w).trans (by rw [e71])) ?_
                            obtain ⟨x72, e73, H⟩ := H
                            refine s_rd (d := some 127) (v := (.int .i64 x72)) rfl rfl rfl (fun dr => r_load1 Tryd.isAgg3 rfl e73) ?_
                            obtain ⟨p74, e75, e76, e77, H⟩ := H
                            obtain ⟨q78, e79⟩ : ∃ q : Addr, q = Addr.add p74 (Int.toNat x72 * 1) := ⟨_, rfl⟩
                            rw [← e79] at H
                            refine s_pu (d := some 128) (v := (.pointer (some q78))) rfl rfl rfl (fun w => (r_indexAddr Tryd.underlying22 Tryd.sizeOf3 rfl rfl e75 e76 e77 w).trans (by rw [e79])) ?_
                            obtain ⟨x80, e81, H⟩ := H
                            refine s_rd (d := some 129) (v := (.int .i64 x80)) rfl rfl rfl (fun dr => r_load1 Tryd.isAgg3 rfl e81) ?_
                            refine s_pu (d := some 130) (v := (Sl.v xs3)) rfl rfl rfl (r_move rfl) ?_
                            refine s_pu (d := some 131) (v := (.int .i64 a35)) rfl rfl rfl (r_move rfl) ?_
                            obtain ⟨p82, e83, e84, e85, H⟩ := H
                            obtain ⟨q86, e87⟩ : ∃ q : Addr, q = Addr.add p82 (Int.toNat a35 * 1) := ⟨_, rfl⟩
                            rw [← e87] at H
                            refine s_pu (d := some 132) (v := (.pointer (some q86))) rfl rfl rfl (fun w => (r_indexAddr Tryd.underlying22 Tryd.sizeOf3 rfl rfl e83 e84 e85 w).trans (by rw [e87])) ?_
                            obtain ⟨x88, e89, H⟩ := H
                            refine s_rd (d := some 133) (v := (.int .i64 x88)) rfl rfl rfl (fun dr => r_load1 Tryd.isAgg3 rfl e89) ?_
                            refine s_pu (d := some 134) (v := (.int .i64 (w64 (x80 + x88)))) rfl rfl rfl (r_add rfl rfl) ?_
                            obtain ⟨p90, e91, e92, e93, H⟩ := H
                            obtain ⟨q94, e95⟩ : ∃ q : Addr, q = Addr.add p90 (Int.toNat x72 * 1) := ⟨_, rfl⟩
                            rw [← e95] at H
                            refine s_pu (d := some 135) (v := (.pointer (some q94))) rfl rfl rfl (fun w => (r_indexAddr Tryd.underlying22 Tryd.sizeOf3 rfl rfl e91 e92 e93 w).trans (by rw [e95])) ?_
                            obtain ⟨e97, H⟩ := H
                            obtain ⟨h9, e96⟩ : ∃ hh : Heap, hh = hsets h8 q94 0 [(.int .i64 (w64 (x80 + x88)))] := ⟨_, rfl⟩
                            have H := H h9 e96
                            refine s_st (d := none) (h' := h9) rfl rfl rfl (fun dr => (r_store (v := (.int .i64 (w64 (x80 + x88)))) Tryd.sizeOf3 rfl rfl rfl (one_all rfl) e97).trans (by rw [e96]; rfl)) ⟨trivial, trivial, trivial, trivial⟩ ?_ trivial
                            refine s_fin ?_
                            exact N_mk (l := [(0, (.int .i64 n1)), (1, (Sl.v is2)), (2, (Sl.v xs3)), (3, (.int .i64 i4)), (4, (.int .i64 k5)), (12, (.pointer y7)), (16, (Sl.v s29)), (17, (.int .i64 a35))]) H ⟨rfl, rfl, rfl, rfl, rfl, rfl, rfl, rfl, trivial⟩
                          · have H := H.2 g98
                            refine W_skip ?_
                            exact N_mk (l := [(0, (.int .i64 n1)), (1, (Sl.v is2)), (2, (Sl.v xs3)), (3, (.int .i64 i4)), (4, (.int .i64 k5)), (12, (.pointer y7)), (16, (Sl.v s29)), (17, (.int .i64 a35))]) H ⟨rfl, rfl, rfl, rfl, rfl, rfl, rfl, rfl, trivial⟩)
                      clear eN47
                      refine W_if x42 rfl (fun g100 => ?_) (fun g100 => ?_)
                      · have H := H.1 g100
                        refine W_region (.pu 0 .fin) rfl rfl ?_
                        refine s_pu (d := some 14) (v := (.int .i64 1)) rfl rfl rfl (r_assign rfl) ?_
                        refine s_fin ?_
                        exact N_mk (l := [(0, (.int .i64 n1)), (1, (Sl.v is2)), (2, (Sl.v xs3)), (3, (.int .i64 i4)), (4, (.int .i64 k5)), (12, (.pointer y7)), (14, (.int .i64 1)), (16, (Sl.v s29)), (17, (.int .i64 a35))]) H ⟨rfl, rfl, rfl, rfl, rfl, rfl, rfl, rfl, rfl, trivial⟩
                      · have H := H.2 g100
                        refine W_skip ?_
                        exact N_mk (l := [(0, (.int .i64 n1)), (1, (Sl.v is2)), (2, (Sl.v xs3)), (3, (.int .i64 i4)), (4, (.int .i64 k5)), (12, (.pointer y7)), (14, (.int .i64 0)), (16, (Sl.v s29)), (17, (.int .i64 a35))]) H ⟨rfl, rfl, rfl, rfl, rfl, rfl, rfl, rfl, rfl, trivial⟩)
                    clear eN44
                    refine W_region (.pu 0 (.pu 1 (.pu 2 (.rl 3 (.pu 4 (.pu 5 (.pu 6 (.pu 7 (.pu 8 (.rl 9 (.pu 10 (.pu 11 (.pu 12 (.pu 13 (.pu 14 (.pu 15 (.pu 16 (.rl 17 (.pu 18 (.pu 19 (.pu 20 (.pu 21 (.pu 22 (.pu 23 (.rl 24 (.pu 25 (.pu 26 .fin))))))))))))))))))))))))))) rfl rfl ?_
                    refine s_pu (d := some 80) (v := (Sl.v is2)) rfl rfl rfl (r_move rfl) ?_
                    refine s_pu (d := some 81) (v := (.int .i64 a35)) rfl rfl rfl (r_move rfl) ?_
                    obtain ⟨p101, e102, e103, e104, H⟩ := H
                    obtain ⟨q105, e106⟩ : ∃ q : Addr, q = Addr.add p101 (Int.toNat a35 * 1) := ⟨_, rfl⟩
                    rw [← e106] at H
                    refine s_pu (d := some 82) (v := (.pointer (some q105))) rfl rfl rfl (fun w => (r_indexAddr Tryd.underlying22 Tryd.sizeOf3 rfl rfl e102 e103 e104 w).trans (by rw [e106])) ?_
                    obtain ⟨x107, e108, H⟩ := H
                    refine s_rl (d := some 83) (v := (.int .i64 x107)) rfl rfl rfl (fun dr => r_load1 Tryd.isAgg3 rfl e108) ?_
                    refine s_pu (d := some 84) (v := (.bool (decide (x107 < 0)))) rfl rfl rfl (r_lss rfl rfl) ?_
                    refine s_pu (d := some 85) (v := (.bool (decide (x107 < 0)))) rfl rfl rfl (r_move rfl) ?_
                    rcases Bool.eq_false_or_eq_true (decide (x107 < 0)) with g109 | g109
                    · have H := H.1 g109
                      refine s_sk (d := some 86) rfl rfl (wants_no rfl rfl rfl rfl g109) ?_
                      refine s_sk (d := some 87) rfl rfl (wants_no rfl rfl rfl rfl g109) ?_
                      refine s_sk (d := some 88) rfl rfl (wants_no rfl rfl rfl rfl g109) ?_
                      refine s_skl (d := some 89) rfl rfl (wants_no rfl rfl rfl rfl g109) ?_
                      refine s_sk (d := some 90) rfl rfl (wants_no rfl rfl rfl rfl g109) ?_
                      refine s_sk (d := some 91) rfl rfl (wants_no rfl rfl rfl rfl g109) ?_
                      refine s_pu (d := some 92) (v := (.bool true)) rfl rfl rfl (r_pick1 rfl g109 rfl) ?_
                      refine s_pu (d := some 93) (v := (.bool true)) rfl rfl rfl (r_move rfl) ?_
                      refine s_sk (d := some 94) rfl rfl (wants_no rfl rfl rfl rfl rfl) ?_
                      refine s_sk (d := some 95) rfl rfl (wants_no rfl rfl rfl rfl rfl) ?_
                      refine s_sk (d := some 96) rfl rfl (wants_no rfl rfl rfl rfl rfl) ?_
                      refine s_skl (d := some 97) rfl rfl (wants_no rfl rfl rfl rfl rfl) ?_
                      refine s_sk (d := some 98) rfl rfl (wants_no rfl rfl rfl rfl rfl) ?_
                      refine s_pu (d := some 99) (v := (.bool true)) rfl rfl rfl (r_pick1 rfl rfl rfl) ?_
                      refine s_pu (d := some 100) (v := (.bool true)) rfl rfl rfl (r_move rfl) ?_
                      refine s_sk (d := some 101) rfl rfl (wants_no rfl rfl rfl rfl rfl) ?_
                      refine s_sk (d := some 102) rfl rfl (wants_no rfl rfl rfl rfl rfl) ?_
                      refine s_sk (d := some 103) rfl rfl (wants_no rfl rfl rfl rfl rfl) ?_
                      refine s_skl (d := some 104) rfl rfl (wants_no rfl rfl rfl rfl rfl) ?_
                      refine s_sk (d := some 105) rfl rfl (wants_no rfl rfl rfl rfl rfl) ?_
                      refine s_pu (d := some 106) (v := (.bool true)) rfl rfl rfl (r_pick1 rfl rfl rfl) ?_
                      refine s_fin ?_
                      exact N_mk (l := [(0, (.int .i64 n1)), (1, (Sl.v is2)), (2, (Sl.v xs3)), (3, (.int .i64 i4)), (4, (.int .i64 k5)), (12, (.pointer y7)), (14, (.int .i64 0)), (16, (Sl.v s29)), (17, (.int .i64 a35)), (106, (.bool true))]) H ⟨rfl, rfl, rfl, rfl, rfl, rfl, rfl, rfl, rfl, rfl, trivial⟩
                    · have H := H.2 g109
                      refine s_pu (d := some 86) (v := (Sl.v is2)) rfl rfl (wants_yes rfl rfl rfl rfl g109) (r_move rfl) ?_
                      refine s_pu (d := some 87) (v := (.int .i64 a35)) rfl rfl (wants_yes rfl rfl rfl rfl g109) (r_move rfl) ?_
                      obtain ⟨p110, e111, e112, e113, H⟩ := H
                      obtain ⟨q114, e115⟩ : ∃ q : Addr, q = Addr.add p110 (Int.toNat a35 * 1) := ⟨_, rfl⟩
                      rw [← e115] at H
                      refine s_pu (d := some 88) (v := (.pointer (some q114))) rfl rfl (wants_yes rfl rfl rfl rfl g109) (fun w => (r_indexAddr Tryd.underlying22 Tryd.sizeOf3 rfl rfl e111 e112 e113 w).trans (by rw [e115])) ?_
                      obtain ⟨x116, e117, H⟩ := H
                      refine s_rl (d := some 89) (v := (.int .i64 x116)) rfl rfl (wants_yes rfl rfl rfl rfl g109) (fun dr => r_load1 Tryd.isAgg3 rfl e117) ?_
                      refine s_pu (d := some 90) (v := (.int .i64 n1)) rfl rfl (wants_yes rfl rfl rfl rfl g109) (r_move rfl) ?_
                      refine s_pu (d := some 91) (v := (.bool (decide (n1 ≤ x116)))) rfl rfl (wants_yes rfl rfl rfl rfl g109) (r_geq rfl rfl) ?_
                      refine s_pu (d := some 92) (v := (.bool (decide (n1 ≤ x116)))) rfl rfl rfl (r_pick0 rfl g109 rfl) ?_
                      refine s_pu (d := some 93) (v := (.bool (decide (n1 ≤ x116)))) rfl rfl rfl (r_move rfl) ?_
                      rcases Bool.eq_false_or_eq_true (decide (n1 ≤ x116)) with g118 | g118
                      · have H := H.1 g118
                        refine s_sk (d := some 94) rfl rfl (wants_no rfl rfl rfl rfl g118) ?_
                        refine s_sk (d := some 95) rfl rfl (wants_no rfl rfl rfl rfl g118) ?_
                        refine s_sk (d := some 96) rfl rfl (wants_no rfl rfl rfl rfl g118) ?_
                        refine s_skl (d := some 97) rfl rfl (wants_no rfl rfl rfl rfl g118) ?_
                        refine s_sk (d := some 98) rfl rfl (wants_no rfl rfl rfl rfl g118) ?_
                        refine s_pu (d := some 99) (v := (.bool true)) rfl rfl rfl (r_pick1 rfl g118 rfl) ?_
                        refine s_pu (d := some 100) (v := (.bool true)) rfl rfl rfl (r_move rfl) ?_
                        refine s_sk (d := some 101) rfl rfl (wants_no rfl rfl rfl rfl rfl) ?_
                        refine s_sk (d := some 102) rfl rfl (wants_no rfl rfl rfl rfl rfl) ?_
                        refine s_sk (d := some 103) rfl rfl (wants_no rfl rfl rfl rfl rfl) ?_
                        refine s_skl (d := some 104) rfl rfl (wants_no rfl rfl rfl rfl rfl) ?_
                        refine s_sk (d := some 105) rfl rfl (wants_no rfl rfl rfl rfl rfl) ?_
                        refine s_pu (d := some 106) (v := (.bool true)) rfl rfl rfl (r_pick1 rfl rfl rfl) ?_
                        refine s_fin ?_
                        exact N_mk (l := [(0, (.int .i64 n1)), (1, (Sl.v is2)), (2, (Sl.v xs3)), (3, (.int .i64 i4)), (4, (.int .i64 k5)), (12, (.pointer y7)), (14, (.int .i64 0)), (16, (Sl.v s29)), (17, (.int .i64 a35)), (106, (.bool true))]) H ⟨rfl, rfl, rfl, rfl, rfl, rfl, rfl, rfl, rfl, rfl, trivial⟩
                      · have H := H.2 g118
                        refine s_pu (d := some 94) (v := (Sl.v xs3)) rfl rfl (wants_yes rfl rfl rfl rfl g118) (r_move rfl) ?_
                        refine s_pu (d := some 95) (v := (.int .i64 a35)) rfl rfl (wants_yes rfl rfl rfl rfl g118) (r_move rfl) ?_
                        obtain ⟨p119, e120, e121, e122, H⟩ := H
                        obtain ⟨q123, e124⟩ : ∃ q : Addr, q = Addr.add p119 (Int.toNat a35 * 1) := ⟨_, rfl⟩
                        rw [← e124] at H
                        refine s_pu (d := some 96) (v := (.pointer (some q123))) rfl rfl (wants_yes rfl rfl rfl rfl g118) (fun w => (r_indexAddr Tryd.underlying22 Tryd.sizeOf3 rfl rfl e120 e121 e122 w).trans (by rw [e124])) ?_
                        obtain ⟨x125, e126, H⟩ := H
                        refine s_rl (d := some 97) (v := (.int .i64 x125)) rfl rfl (wants_yes rfl rfl rfl rfl g118) (fun dr => r_load1 Tryd.isAgg3 rfl e126) ?_
                        refine s_pu (d := some 98) (v := (.bool (decide (x125 < 0)))) rfl rfl (wants_yes rfl rfl rfl rfl g118) (r_lss rfl rfl) ?_
                        refine s_pu (d := some 99) (v := (.bool (decide (x125 < 0)))) rfl rfl rfl (r_pick0 rfl g118 rfl) ?_
                        refine s_pu (d := some 100) (v := (.bool (decide (x125 < 0)))) rfl rfl rfl (r_move rfl) ?_
                        rcases Bool.eq_false_or_eq_true (decide (x125 < 0)) with g127 | g127
                        · have H := H.1 g127
                          refine s_sk (d := some 101) rfl rfl (wants_no rfl rfl rfl rfl g127) ?_
                          refine s_sk (d := some 102) rfl rfl (wants_no rfl rfl rfl rfl g127) ?_
                          refine s_sk (d := some 103) rfl rfl (wants_no rfl rfl rfl rfl g127) ?_
                          refine s_skl (d := some 104) rfl rfl (wants_no rfl rfl rfl rfl g127) ?_
                          refine s_sk (d := some 105) rfl rfl (wants_no rfl rfl rfl rfl g127) ?_
                          refine s_pu (d := some 106) (v := (.bool true)) rfl rfl rfl (r_pick1 rfl g127 rfl) ?_
                          refine s_fin ?_
                          exact N_mk (l := [(0, (.int .i64 n1)), (1, (Sl.v is2)), (2, (Sl.v xs3)), (3, (.int .i64 i4)), (4, (.int .i64 k5)), (12, (.pointer y7)), (14, (.int .i64 0)), (16, (Sl.v s29)), (17, (.int .i64 a35)), (106, (.bool true))]) H ⟨rfl, rfl, rfl, rfl, rfl, rfl, rfl, rfl, rfl, rfl, trivial⟩
                        · have H := H.2 g127
                          refine s_pu (d := some 101) (v := (Sl.v xs3)) rfl rfl (wants_yes rfl rfl rfl rfl g127) (r_move rfl) ?_
                          refine s_pu (d := some 102) (v := (.int .i64 a35)) rfl rfl (wants_yes rfl rfl rfl rfl g127) (r_move rfl) ?_
                          obtain ⟨p128, e129, e130, e131, H⟩ := H
                          obtain ⟨q132, e133⟩ : ∃ q : Addr, q = Addr.add p128 (Int.toNat a35 * 1) := ⟨_, rfl⟩
                          rw [← e133] at H
                          refine s_pu (d := some 103) (v := (.pointer (some q132))) rfl rfl (wants_yes rfl rfl rfl rfl g127) (fun w => (r_indexAddr Tryd.underlying22 Tryd.sizeOf3 rfl rfl e129 e130 e131 w).trans (by rw [e133])) ?_
                          obtain ⟨x134, e135, H⟩ := H
                          refine s_rl (d := some 104) (v := (.int .i64 x134)) rfl rfl (wants_yes rfl rfl rfl rfl g127) (fun dr => r_load1 Tryd.isAgg3 rfl e135) ?_
                          refine s_pu (d := some 105) (v := (.bool (decide (1073741824 < x134)))) rfl rfl (wants_yes rfl rfl rfl rfl g127) (r_gtr rfl rfl) ?_
                          refine s_pu (d := some 106) (v := (.bool (decide (1073741824 < x134)))) rfl rfl rfl (r_pick0 rfl g127 rfl) ?_
                          refine s_fin ?_
                          exact N_mk (l := [(0, (.int .i64 n1)), (1, (Sl.v is2)), (2, (Sl.v xs3)), (3, (.int .i64 i4)), (4, (.int .i64 k5)), (12, (.pointer y7)), (14, (.int .i64 0)), (16, (Sl.v s29)), (17, (.int .i64 a35)), (106, (.bool (decide (1073741824 < x134))))]) H ⟨rfl, rfl, rfl, rfl, rfl, rfl, rfl, rfl, rfl, rfl, trivial⟩
                  · have H := H.2 g199
                    refine W_exit (inX_here ?_)
                    show W _ _ _ _ _ _ _ _
                    refine W_seq ?_
                    refine W_region (.pu 0 .fin) rfl rfl ?_
                    refine s_pu (d := some 14) (v := (.int .i64 0)) rfl rfl rfl (r_assign rfl) ?_
                    refine s_fin ?_
                    show W _ _ _ _ _ _ _ _
                    refine W_seq ?_
                    refine W_region (.pu 0 .fin) rfl rfl ?_
                    refine s_pu (d := some 18) (v := (.int .i64 0)) rfl rfl rfl (r_assign rfl) ?_
                    refine s_fin ?_
                    show W _ _ _ _ _ _ _ _
                    refine W_seq ?_
                    refine W_seq ?_
                    refine W_region (.pu 0 (.pu 1 (.pu 2 (.pu 3 (.pu 4 (.pu 5 (.pu 6 .fin))))))) rfl rfl ?_
                    refine s_pu (d := some 136) (v := (.int .i64 i4)) rfl rfl rfl (r_move rfl) ?_
                    refine s_pu (d := some 137) (v := (.bool (decide (i4 < 0)))) rfl rfl rfl (r_lss rfl rfl) ?_
                    refine s_pu (d := some 138) (v := (.bool (decide (i4 < 0)))) rfl rfl rfl (r_move rfl) ?_
                    refine S_meet (l := [(0, (.int .i64 n1)), (3, (.int .i64 i4)), (4, (.int .i64 k5)), (12, (.pointer y7)), (14, (.int .i64 0)), (16, (Sl.v s29)), (18, (.int .i64 0)), (142, (.bool ((decide (i4 < 0)) || (decide (n1 < i4)))))]) (i := 4) ?_ (fun HJ => ?_)
                    · intro b
                      show S _ _ _ _ _ _
                      refine s_fin ?_
                      show W _ _ _ _ _ _ _ _
                      refine W_set ?_
                      intro N142 eN142
                      have H := H (fun (ve139 : Int) (sum140 : Int) (h10 : Heap) => ∀ b, N142 [] (mkE [(0, (.int .i64 n1)), (3, (.int .i64 i4)), (4, (.int .i64 k5)), (12, (.pointer y7)), (14, (.int .i64 ve139)), (16, (Sl.v s29)), (18, (.int .i64 sum140))] b) h10) (by
                        intro ve139 sum140 h10 H b
                        rw [eN142]
                        show W _ _ _ _ _ _ _ _
                        refine W_seq ?_
                        refine W_region (.pu 0 (.pu 1 (.ef 2 [] (.pu 3 (.pu 4 (.pu 5 (.pu 6 (.pu 7 .fin))))) .no))) rfl rfl ?_
                        refine s_pu (d := some 148) (v := (.pointer y7)) rfl rfl rfl (r_move rfl) ?_
                        refine s_pu (d := some 149) (v := (.int .i64 i4)) rfl rfl rfl (r_move rfl) ?_
                        refine s_ef (d := some 150) rfl rfl rfl (fun dr => r_call Tryd.call15 rfl rfl H) ?_ trivial
                        rintro _ h11 ⟨y143, y144, rfl, H⟩
                        refine ⟨trivial, ?_⟩
                        refine s_pu (d := some 147) (v := (.tuple #[(.int .i64 y143), y144])) rfl rfl rfl (r_move rfl) ?_
                        refine s_pu (d := some 151) (v := (.int .i64 y143)) rfl rfl rfl (r_extract rfl rfl) ?_
                        refine s_pu (d := some 152) (v := y144) rfl rfl rfl (r_extract rfl rfl) ?_
                        refine s_pu (d := some 19) (v := (.int .i64 y143)) rfl rfl rfl (r_assign rfl) ?_
                        refine s_pu (d := some 13) (v := y144) rfl rfl rfl (r_assign rfl) ?_
                        refine s_fin ?_
                        show W _ _ _ _ _ _ _ _
                        refine W_seq ?_
                        refine W_region (.pu 0 (.pu 1 (.ef 2 [] (.pu 3 .fin) .no))) rfl rfl ?_
                        refine s_pu (d := some 153) (v := y144) rfl rfl rfl (r_move rfl) ?_
                        refine s_pu (d := some 154) (v := (.int .i64 ve139)) rfl rfl rfl (r_move rfl) ?_
                        refine s_ef (d := some 155) rfl rfl rfl (fun dr => r_call Tryd.call12 rfl rfl H) ?_ trivial
                        rintro _ h12 ⟨y145, rfl, H⟩
                        refine ⟨trivial, ?_⟩
                        refine s_pu (d := some 20) (v := (.bool y145)) rfl rfl rfl (r_assign rfl) ?_
                        refine s_fin ?_
                        show W _ _ _ _ _ _ _ _
                        refine W_seq ?_
                        refine W_region (.pu 0 .fin) rfl rfl ?_
                        refine s_pu (d := some 21) (v := (.int .i64 0)) rfl rfl rfl (r_assign rfl) ?_
                        refine s_fin ?_
                        show W _ _ _ _ _ _ _ _
                        refine W_seq ?_
                        refine W_region (.pu 0 .fin) rfl rfl ?_
                        refine s_pu (d := some 22) (v := (.int .i64 0)) rfl rfl rfl (r_assign rfl) ?_
                        refine s_fin ?_
                        show W _ _ _ _ _ _ _ _
                        refine W_seq ?_
                        refine W_block ?_
                        refine W_loop (WL_mk (l := [(0, (.int .i64 n1)), (4, (.int .i64 k5)), (12, (.pointer y7)), (16, (Sl.v s29)), (18, (.int .i64 sum140)), (19, (.int .i64 y143)), (20, (.bool y145)), (21, (.int .i64 0)), (22, (.int .i64 0))]) ?_ ⟨rfl, rfl, rfl, rfl, rfl, rfl, rfl, rfl, rfl, trivial⟩)
                        refine H (fun (va146 : Int) (so147 : Int) => ∀ b, WL _ _ _ _ _ _ (mkE [(0, (.int .i64 n1)), (4, (.int .i64 k5)), (12, (.pointer y7)), (16, (Sl.v s29)), (18, (.int .i64 sum140)), (19, (.int .i64 y143)), (20, (.bool y145)), (21, (.int .i64 va146)), (22, (.int .i64 so147))] b) h12) ?_
                        intro va146 so147 H b
                        refine WL_round ?_
                        refine W_seq ?_
                        refine W_seq ?_
                        refine W_region (.pu 0 (.pu 1 (.pu 2 (.pu 3 (.pu 4 (.pu 5 (.pu 6 (.pu 7 .fin)))))))) rfl rfl ?_
                        refine s_pu (d := some 156) (v := (.int .i64 va146)) rfl rfl rfl (r_move rfl) ?_
                        refine s_pu (d := some 157) (v := (.int .i64 n1)) rfl rfl rfl (r_move rfl) ?_
                        refine s_pu (d := some 158) (v := (.bool (decide (va146 < n1)))) rfl rfl rfl (r_lss rfl rfl) ?_
                        refine s_pu (d := some 159) (v := (.bool (decide (va146 < n1)))) rfl rfl rfl (r_move rfl) ?_
                        refine S_meet (l := [(0, (.int .i64 n1)), (4, (.int .i64 k5)), (12, (.pointer y7)), (16, (Sl.v s29)), (18, (.int .i64 sum140)), (19, (.int .i64 y143)), (20, (.bool y145)), (21, (.int .i64 va146)), (22, (.int .i64 so147)), (163, (.bool ((decide (va146 < n1)) && (decide (so147 < k5)))))]) (i := 4) ?_ (fun HJ => ?_)
                        · intro b
                          show S _ _ _ _ _ _
                          refine s_fin ?_
                          show W _ _ _ _ _ _ _ _
                          refine W_if ((decide (va146 < n1)) && (decide (so147 < k5))) rfl (fun g188 => ?_) (fun g188 => ?_)
                          · have H := H.1 g188
                            refine W_skip ?_
                            show W _ _ _ _ _ _ _ _
                            refine W_block ?_
                            refine W_seq ?_
                            refine W_region (.pu 0 (.pu 1 (.pu 2 (.pu 3 (.rl 4 (.pu 5 (.pu 6 .fin))))))) rfl rfl ?_
                            refine s_pu (d := some 164) (v := (.int .i64 so147)) rfl rfl rfl (r_move rfl) ?_
                            refine s_pu (d := some 165) (v := (Sl.v s29)) rfl rfl rfl (r_move rfl) ?_
                            refine s_pu (d := some 166) (v := (.int .i64 va146)) rfl rfl rfl (r_move rfl) ?_
                            obtain ⟨p152, e153, e154, e155, H⟩ := H
                            obtain ⟨q156, e157⟩ : ∃ q : Addr, q = Addr.add p152 (Int.toNat va146 * 1) := ⟨_, rfl⟩
                            rw [← e157] at H
                            refine s_pu (d := some 167) (v := (.pointer (some q156))) rfl rfl rfl (fun w => (r_indexAddr Tryd.underlying22 Tryd.sizeOf3 rfl rfl e153 e154 e155 w).trans (by rw [e157])) ?_
                            obtain ⟨x158, e159, H⟩ := H
                            refine s_rl (d := some 168) (v := (.int .i64 x158)) rfl rfl rfl (fun dr => r_load1 Tryd.isAgg3 rfl e159) ?_
                            refine s_pu (d := some 169) (v := (.int .i64 (w64 (so147 + x158)))) rfl rfl rfl (r_add rfl rfl) ?_
                            refine s_pu (d := some 22) (v := (.int .i64 (w64 (so147 + x158)))) rfl rfl rfl (r_assign rfl) ?_
                            refine s_fin ?_
                            show W _ _ _ _ _ _ _ _
                            refine W_region (.pu 0 (.pu 1 (.pu 2 .fin))) rfl rfl ?_
                            refine s_pu (d := some 170) (v := (.int .i64 va146)) rfl rfl rfl (r_move rfl) ?_
                            refine s_pu (d := some 171) (v := (.int .i64 (w64 (va146 + 1)))) rfl rfl rfl (r_add rfl rfl) ?_
                            refine s_pu (d := some 21) (v := (.int .i64 (w64 (va146 + 1)))) rfl rfl rfl (r_assign rfl) ?_
                            refine s_fin ?_
                            exact WL_mk (l := [(0, (.int .i64 n1)), (4, (.int .i64 k5)), (12, (.pointer y7)), (16, (Sl.v s29)), (18, (.int .i64 sum140)), (19, (.int .i64 y143)), (20, (.bool y145)), (21, (.int .i64 (w64 (va146 + 1)))), (22, (.int .i64 (w64 (so147 + x158))))]) H ⟨rfl, rfl, rfl, rfl, rfl, rfl, rfl, rfl, rfl, trivial⟩
                          · have H := H.2 g188
                            refine W_exit (inX_here ?_)
                            show W _ _ _ _ _ _ _ _
                            refine W_seq ?_
                            refine W_region (.pu 0 .fin) rfl rfl ?_
                            refine s_pu (d := some 14) (v := (.int .i64 0)) rfl rfl rfl (r_assign rfl) ?_
                            refine s_fin ?_
                            show W _ _ _ _ _ _ _ _
                            refine W_seq ?_
                            refine W_seq ?_
                            refine W_region (.pu 0 (.pu 1 (.pu 2 .fin))) rfl rfl ?_
                            refine s_pu (d := some 172) (v := (.int .i64 so147)) rfl rfl rfl (r_move rfl) ?_
                            refine s_pu (d := some 173) (v := (.int .i64 k5)) rfl rfl rfl (r_move rfl) ?_
                            refine s_pu (d := some 174) (v := (.bool (decide (so147 < k5)))) rfl rfl rfl (r_lss rfl rfl) ?_
                            refine s_fin ?_
                            show W _ _ _ _ _ _ _ _
                            refine W_set ?_
                            intro N163 eN163
                            have H := H (fun (ve160 : Int) (va161 : Int) => ∀ b, N163 [] (mkE [(4, (.int .i64 k5)), (12, (.pointer y7)), (14, (.int .i64 ve160)), (16, (Sl.v s29)), (18, (.int .i64 sum140)), (19, (.int .i64 y143)), (20, (.bool y145)), (21, (.int .i64 va161))] b) h12) (by
                              intro ve160 va161 H b
                              rw [eN163]
                              show W _ _ _ _ _ _ _ _
                              refine W_seq ?_
                              refine W_region (.pu 0 (.pu 1 (.ef 2 [] (.pu 3 (.pu 4 (.pu 5 (.pu 6 (.pu 7 .fin))))) .no))) rfl rfl ?_
                              refine s_pu (d := some 176) (v := (.pointer y7)) rfl rfl rfl (r_move rfl) ?_
                              refine s_pu (d := some 177) (v := (.int .i64 k5)) rfl rfl rfl (r_move rfl) ?_
                              refine s_ef (d := some 178) rfl rfl rfl (fun dr => r_call Tryd.call16 rfl rfl H) ?_ trivial
                              rintro _ h13 ⟨y164, y165, rfl, H⟩
                              refine ⟨trivial, ?_⟩
                              refine s_pu (d := some 175) (v := (.tuple #[(.int .i64 y164), y165])) rfl rfl rfl (r_move rfl) ?_
                              refine s_pu (d := some 179) (v := (.int .i64 y164)) rfl rfl rfl (r_extract rfl rfl) ?_
                              refine s_pu (d := some 180) (v := y165) rfl rfl rfl (r_extract rfl rfl) ?_
                              refine s_pu (d := some 23) (v := (.int .i64 y164)) rfl rfl rfl (r_assign rfl) ?_
                              refine s_pu (d := some 13) (v := y165) rfl rfl rfl (r_assign rfl) ?_
                              refine s_fin ?_
                              show W _ _ _ _ _ _ _ _
                              refine W_seq ?_
                              refine W_region (.pu 0 (.pu 1 (.ef 2 [] (.pu 3 .fin) .no))) rfl rfl ?_
                              refine s_pu (d := some 181) (v := y165) rfl rfl rfl (r_move rfl) ?_
                              refine s_pu (d := some 182) (v := (.int .i64 ve160)) rfl rfl rfl (r_move rfl) ?_
                              refine s_ef (d := some 183) rfl rfl rfl (fun dr => r_call Tryd.call12 rfl rfl H) ?_ trivial
                              rintro _ h14 ⟨y166, rfl, H⟩
                              refine ⟨trivial, ?_⟩
                              refine s_pu (d := some 24) (v := (.bool y166)) rfl rfl rfl (r_assign rfl) ?_
                              refine s_fin ?_
                              show W _ _ _ _ _ _ _ _
                              refine W_seq ?_
                              refine W_region (.pu 0 (.ef 1 [] (.pu 2 (.ef 3 [] (.pu 4 .fin) .no)) .no)) rfl rfl ?_
                              refine s_pu (d := some 184) (v := (.pointer y7)) rfl rfl rfl (r_move rfl) ?_
                              refine s_ef (d := some 185) rfl rfl rfl (fun dr => r_call Tryd.call18 rfl rfl H) ?_ trivial
                              rintro _ h15 ⟨y167, rfl, H⟩
                              refine ⟨trivial, ?_⟩
                              refine s_pu (d := some 186) (v := (Sl.v s29)) rfl rfl rfl (r_move rfl) ?_
                              refine s_ef (d := some 187) rfl rfl rfl (fun dr => r_call Tryd.call17 rfl rfl H) ?_ trivial
                              rintro _ h16 ⟨y168, rfl, H⟩
                              refine ⟨trivial, ?_⟩
                              refine s_pu (d := some 25) (v := (.bool y168)) rfl rfl rfl (r_assign rfl) ?_
                              refine s_fin ?_
                              show W _ _ _ _ _ _ _ _
                              refine W_seq ?_
                              refine W_region (.pu 0 (.pu 1 (.pu 2 (.pu 3 (.pu 4 (.pu 5 (.pu 6 (.pu 7 (.pu 8 (.pu 9 (.pu 10 (.pu 11 (.pu 12 (.pu 13 (.pu 14 (.pu 15 (.pu 16 (.pu 17 .fin)))))))))))))))))) rfl rfl ?_
                              refine s_pu (d := some 188) (v := (.bool y145)) rfl rfl rfl (r_move rfl) ?_
                              refine s_pu (d := some 189) (v := (.bool y145)) rfl rfl rfl (r_move rfl) ?_
                              refine S_meet (l := [(18, (.int .i64 sum140)), (19, (.int .i64 y143)), (21, (.int .i64 va161)), (23, (.int .i64 y164)), (25, (.bool y168)), (191, (.bool (y145 && y166)))]) (i := 2) ?_ (fun HJ => ?_)
                              · intro b
                                show S _ _ _ _ _ _
                                refine s_pu (d := some 192) (v := (.bool (y145 && y166))) rfl rfl rfl (r_move rfl) ?_
                                refine S_meet (l := [(18, (.int .i64 sum140)), (19, (.int .i64 y143)), (21, (.int .i64 va161)), (23, (.int .i64 y164)), (194, (.bool ((y145 && y166) && y168)))]) (i := 2) ?_ (fun HJ => ?_)
                                · intro b
                                  show S _ _ _ _ _ _
                                  refine s_pu (d := some 195) (v := (.bool ((y145 && y166) && y168))) rfl rfl rfl (r_move rfl) ?_
                                  refine S_meet (l := [(21, (.int .i64 va161)), (23, (.int .i64 y164)), (199, (.bool (((y145 && y166) && y168) && (decide (y143 = sum140)))))]) (i := 4) ?_ (fun HJ => ?_)
                                  · intro b
                                    show S _ _ _ _ _ _
                                    refine s_pu (d := some 200) (v := (.bool (((y145 && y166) && y168) && (decide (y143 = sum140))))) rfl rfl rfl (r_move rfl) ?_
                                    refine S_meet (l := [(204, (.bool ((((y145 && y166) && y168) && (decide (y143 = sum140))) && (decide (y164 = va161)))))]) (i := 4) ?_ (fun HJ => ?_)
                                    · intro b
                                      show S _ _ _ _ _ _
                                      obtain ⟨x181, e182⟩ : ∃ x : Bool, x = ((((y145 && y166) && y168) && (decide (y143 = sum140))) && (decide (y164 = va161))) := ⟨_, rfl⟩
                                      have H := H x181 e182
                                      refine s_pu (d := some 10) (v := (.bool x181)) rfl rfl rfl (r_assign (congrArg Value.bool e182.symm)) ?_
                                      refine s_fin ?_
                                      show W _ _ _ _ _ _ _ _
                                      refine W_ret ?_
                                      exact ⟨[(.bool x181)], ⟨_, _, rfl, rfl, rfl⟩, x181, rfl, H⟩
                                    · rcases Bool.eq_false_or_eq_true (((y145 && y166) && y168) && (decide (y143 = sum140))) with g178 | g178
                                      · refine s_pu (d := some 201) (v := (.int .i64 y164)) rfl rfl (wants_yes rfl rfl rfl rfl g178) (r_move rfl) ?_
                                        refine s_pu (d := some 202) (v := (.int .i64 va161)) rfl rfl (wants_yes rfl rfl rfl rfl g178) (r_move rfl) ?_
                                        refine s_pu (d := some 203) (v := (.bool (decide (y164 = va161)))) rfl rfl (wants_yes rfl rfl rfl rfl g178) (r_eql rfl rfl) ?_
                                        refine s_pu (d := some 204) (v := (.bool (decide (y164 = va161)))) rfl rfl rfl (r_pick1 rfl g178 rfl) ?_
                                        exact S_mk (l := [(204, (.bool ((((y145 && y166) && y168) && (decide (y143 = sum140))) && (decide (y164 = va161)))))]) HJ ⟨(by rw [g178]; rfl), trivial⟩
                                      · refine s_sk (d := some 201) rfl rfl (wants_no rfl rfl rfl rfl g178) ?_
                                        refine s_sk (d := some 202) rfl rfl (wants_no rfl rfl rfl rfl g178) ?_
                                        refine s_sk (d := some 203) rfl rfl (wants_no rfl rfl rfl rfl g178) ?_
                                        refine s_pu (d := some 204) (v := (.bool false)) rfl rfl rfl (r_pick0 rfl g178 rfl) ?_
                                        exact S_mk (l := [(204, (.bool ((((y145 && y166) && y168) && (decide (y143 = sum140))) && (decide (y164 = va161)))))]) HJ ⟨(by rw [g178]; rfl), trivial⟩
                                  · rcases Bool.eq_false_or_eq_true ((y145 && y166) && y168) with g175 | g175
                                    · refine s_pu (d := some 196) (v := (.int .i64 y143)) rfl rfl (wants_yes rfl rfl rfl rfl g175) (r_move rfl) ?_
                                      refine s_pu (d := some 197) (v := (.int .i64 sum140)) rfl rfl (wants_yes rfl rfl rfl rfl g175) (r_move rfl) ?_
                                      refine s_pu (d := some 198) (v := (.bool (decide (y143 = sum140)))) rfl rfl (wants_yes rfl rfl rfl rfl g175) (r_eql rfl rfl) ?_
                                      refine s_pu (d := some 199) (v := (.bool (decide (y143 = sum140)))) rfl rfl rfl (r_pick1 rfl g175 rfl) ?_
                                      exact S_mk (l := [(21, (.int .i64 va161)), (23, (.int .i64 y164)), (199, (.bool (((y145 && y166) && y168) && (decide (y143 = sum140)))))]) HJ ⟨rfl, rfl, (by rw [g175]; rfl), trivial⟩
                                    · refine s_sk (d := some 196) rfl rfl (wants_no rfl rfl rfl rfl g175) ?_
                                      refine s_sk (d := some 197) rfl rfl (wants_no rfl rfl rfl rfl g175) ?_
                                      refine s_sk (d := some 198) rfl rfl (wants_no rfl rfl rfl rfl g175) ?_
                                      refine s_pu (d := some 199) (v := (.bool false)) rfl rfl rfl (r_pick0 rfl g175 rfl) ?_
                                      exact S_mk (l := [(21, (.int .i64 va161)), (23, (.int .i64 y164)), (199, (.bool (((y145 && y166) && y168) && (decide (y143 = sum140)))))]) HJ ⟨rfl, rfl, (by rw [g175]; rfl), trivial⟩
                                · rcases Bool.eq_false_or_eq_true (y145 && y166) with g172 | g172
                                  · refine s_pu (d := some 193) (v := (.bool y168)) rfl rfl (wants_yes rfl rfl rfl rfl g172) (r_move rfl) ?_
                                    refine s_pu (d := some 194) (v := (.bool y168)) rfl rfl rfl (r_pick1 rfl g172 rfl) ?_
                                    exact S_mk (l := [(18, (.int .i64 sum140)), (19, (.int .i64 y143)), (21, (.int .i64 va161)), (23, (.int .i64 y164)), (194, (.bool ((y145 && y166) && y168)))]) HJ ⟨rfl, rfl, rfl, rfl, (by rw [g172]; rfl), trivial⟩
                                  · refine s_sk (d := some 193) rfl rfl (wants_no rfl rfl rfl rfl g172) ?_
                                    refine s_pu (d := some 194) (v := (.bool false)) rfl rfl rfl (r_pick0 rfl g172 rfl) ?_
                                    exact S_mk (l := [(18, (.int .i64 sum140)), (19, (.int .i64 y143)), (21, (.int .i64 va161)), (23, (.int .i64 y164)), (194, (.bool ((y145 && y166) && y168)))]) HJ ⟨rfl, rfl, rfl, rfl, (by rw [g172]; rfl), trivial⟩
                              · rcases Bool.eq_false_or_eq_true y145 with g169 | g169
                                · refine s_pu (d := some 190) (v := (.bool y166)) rfl rfl (wants_yes rfl rfl rfl rfl g169) (r_move rfl) ?_
                                  refine s_pu (d := some 191) (v := (.bool y166)) rfl rfl rfl (r_pick1 rfl g169 rfl) ?_
                                  exact S_mk (l := [(18, (.int .i64 sum140)), (19, (.int .i64 y143)), (21, (.int .i64 va161)), (23, (.int .i64 y164)), (25, (.bool y168)), (191, (.bool (y145 && y166)))]) HJ ⟨rfl, rfl, rfl, rfl, rfl, (by rw [g169]; rfl), trivial⟩
                                · refine s_sk (d := some 190) rfl rfl (wants_no rfl rfl rfl rfl g169) ?_
                                  refine s_pu (d := some 191) (v := (.bool false)) rfl rfl rfl (r_pick0 rfl g169 rfl) ?_
                                  exact S_mk (l := [(18, (.int .i64 sum140)), (19, (.int .i64 y143)), (21, (.int .i64 va161)), (23, (.int .i64 y164)), (25, (.bool y168)), (191, (.bool (y145 && y166)))]) HJ ⟨rfl, rfl, rfl, rfl, rfl, (by rw [g169]; rfl), trivial⟩)
                            clear eN163
                            refine W_if (decide (so147 < k5)) rfl (fun g187 => ?_) (fun g187 => ?_)
                            · have H := H.1 g187
                              refine W_seq ?_
                              refine W_region (.pu 0 .fin) rfl rfl ?_
                              refine s_pu (d := some 14) (v := (.int .i64 2)) rfl rfl rfl (r_assign rfl) ?_
                              refine s_fin ?_
                              show W _ _ _ _ _ _ _ _
                              refine W_region (.pu 0 .fin) rfl rfl ?_
                              refine s_pu (d := some 21) (v := (.int .i64 0)) rfl rfl rfl (r_assign rfl) ?_
                              refine s_fin ?_
                              exact N_mk (l := [(4, (.int .i64 k5)), (12, (.pointer y7)), (14, (.int .i64 2)), (16, (Sl.v s29)), (18, (.int .i64 sum140)), (19, (.int .i64 y143)), (20, (.bool y145)), (21, (.int .i64 0))]) H ⟨rfl, rfl, rfl, rfl, rfl, rfl, rfl, rfl, trivial⟩
                            · have H := H.2 g187
                              refine W_skip ?_
                              exact N_mk (l := [(4, (.int .i64 k5)), (12, (.pointer y7)), (14, (.int .i64 0)), (16, (Sl.v s29)), (18, (.int .i64 sum140)), (19, (.int .i64 y143)), (20, (.bool y145)), (21, (.int .i64 va146))]) H ⟨rfl, rfl, rfl, rfl, rfl, rfl, rfl, rfl, trivial⟩
                        · rcases Bool.eq_false_or_eq_true (decide (va146 < n1)) with g149 | g149
                          · refine s_pu (d := some 160) (v := (.int .i64 so147)) rfl rfl (wants_yes rfl rfl rfl rfl g149) (r_move rfl) ?_
                            refine s_pu (d := some 161) (v := (.int .i64 k5)) rfl rfl (wants_yes rfl rfl rfl rfl g149) (r_move rfl) ?_
                            refine s_pu (d := some 162) (v := (.bool (decide (so147 < k5)))) rfl rfl (wants_yes rfl rfl rfl rfl g149) (r_lss rfl rfl) ?_
                            refine s_pu (d := some 163) (v := (.bool (decide (so147 < k5)))) rfl rfl rfl (r_pick1 rfl g149 rfl) ?_
                            exact S_mk (l := [(0, (.int .i64 n1)), (4, (.int .i64 k5)), (12, (.pointer y7)), (16, (Sl.v s29)), (18, (.int .i64 sum140)), (19, (.int .i64 y143)), (20, (.bool y145)), (21, (.int .i64 va146)), (22, (.int .i64 so147)), (163, (.bool ((decide (va146 < n1)) && (decide (so147 < k5)))))]) HJ ⟨rfl, rfl, rfl, rfl, rfl, rfl, rfl, rfl, rfl, (by rw [g149]; rfl), trivial⟩
                          · refine s_sk (d := some 160) rfl rfl (wants_no rfl rfl rfl rfl g149) ?_
                            refine s_sk (d := some 161) rfl rfl (wants_no rfl rfl rfl rfl g149) ?_
                            refine s_sk (d := some 162) rfl rfl (wants_no rfl rfl rfl rfl g149) ?_
                            refine s_pu (d := some 163) (v := (.bool false)) rfl rfl rfl (r_pick0 rfl g149 rfl) ?_
                            exact S_mk (l := [(0, (.int .i64 n1)), (4, (.int .i64 k5)), (12, (.pointer y7)), (16, (Sl.v s29)), (18, (.int .i64 sum140)), (19, (.int .i64 y143)), (20, (.bool y145)), (21, (.int .i64 va146)), (22, (.int .i64 so147)), (163, (.bool ((decide (va146 < n1)) && (decide (so147 < k5)))))]) HJ ⟨rfl, rfl, rfl, rfl, rfl, rfl, rfl, rfl, rfl, (by rw [g149]; rfl), trivial⟩)
                      clear eN142
                      refine W_if ((decide (i4 < 0)) || (decide (n1 < i4))) rfl (fun g197 => ?_) (fun g197 => ?_)
                      · have H := H.1 g197
                        refine W_region (.pu 0 .fin) rfl rfl ?_
                        refine s_pu (d := some 14) (v := (.int .i64 1)) rfl rfl rfl (r_assign rfl) ?_
                        refine s_fin ?_
                        exact N_mk (l := [(0, (.int .i64 n1)), (3, (.int .i64 i4)), (4, (.int .i64 k5)), (12, (.pointer y7)), (14, (.int .i64 1)), (16, (Sl.v s29)), (18, (.int .i64 0))]) H ⟨rfl, rfl, rfl, rfl, rfl, rfl, rfl, trivial⟩
                      · have H := H.2 g197
                        refine W_region (.pu 0 (.pu 1 (.pu 2 (.ef 3 [] (.pu 4 .fin) .no)))) rfl rfl ?_
                        refine s_pu (d := some 143) (v := (Sl.v s29)) rfl rfl rfl (r_move rfl) ?_
                        refine s_pu (d := some 144) (v := (.int .i64 i4)) rfl rfl rfl (r_move rfl) ?_
                        obtain ⟨e191, e192, e193, e194, H⟩ := H
                        obtain ⟨s190, e195⟩ : ∃ t : Sl, t = ⟨sliceA s29.a (Int.toNat ((s29.cap : Int))) (Int.toNat 0) 1, Int.toNat i4 - Int.toNat 0, Int.toNat ((s29.cap : Int)) - Int.toNat 0⟩ := ⟨_, rfl⟩
                        have H := H s190 e195
                        refine s_pu (d := some 145) (v := (Sl.v s190)) rfl rfl rfl (fun w => (r_slice (lo := .none) (hi := (.some (.tmp 144))) (mx := .none) Tryd.underlying22 Tryd.sizeOf3 rfl ((s29.cap : Int)) i4 0 rfl ⟨_, rfl⟩ rfl e191 e192 (.inr e193) e194 w).trans (by rw [e195]; rfl)) ?_
                        refine s_ef (d := some 146) rfl rfl rfl (fun dr => r_call Tryd.call14 rfl rfl H) ?_ trivial
                        rintro _ h17 ⟨y196, rfl, H⟩
                        refine ⟨trivial, ?_⟩
                        refine s_pu (d := some 18) (v := (.int .i64 y196)) rfl rfl rfl (r_assign rfl) ?_
                        refine s_fin ?_
                        exact N_mk (l := [(0, (.int .i64 n1)), (3, (.int .i64 i4)), (4, (.int .i64 k5)), (12, (.pointer y7)), (14, (.int .i64 0)), (16, (Sl.v s29)), (18, (.int .i64 y196))]) H ⟨rfl, rfl, rfl, rfl, rfl, rfl, rfl, trivial⟩
                    · rcases Bool.eq_false_or_eq_true (decide (i4 < 0)) with g136 | g136
                      · refine s_sk (d := some 139) rfl rfl (wants_no rfl rfl rfl rfl g136) ?_
                        refine s_sk (d := some 140) rfl rfl (wants_no rfl rfl rfl rfl g136) ?_
                        refine s_sk (d := some 141) rfl rfl (wants_no rfl rfl rfl rfl g136) ?_
                        refine s_pu (d := some 142) (v := (.bool true)) rfl rfl rfl (r_pick1 rfl g136 rfl) ?_
                        exact S_mk (l := [(0, (.int .i64 n1)), (3, (.int .i64 i4)), (4, (.int .i64 k5)), (12, (.pointer y7)), (14, (.int .i64 0)), (16, (Sl.v s29)), (18, (.int .i64 0)), (142, (.bool ((decide (i4 < 0)) || (decide (n1 < i4)))))]) HJ ⟨rfl, rfl, rfl, rfl, rfl, rfl, rfl, (by rw [g136]; rfl), trivial⟩
                      · refine s_pu (d := some 139) (v := (.int .i64 i4)) rfl rfl (wants_yes rfl rfl rfl rfl g136) (r_move rfl) ?_
                        refine s_pu (d := some 140) (v := (.int .i64 n1)) rfl rfl (wants_yes rfl rfl rfl rfl g136) (r_move rfl) ?_
                        refine s_pu (d := some 141) (v := (.bool (decide (n1 < i4)))) rfl rfl (wants_yes rfl rfl rfl rfl g136) (r_gtr rfl rfl) ?_
                        refine s_pu (d := some 142) (v := (.bool (decide (n1 < i4)))) rfl rfl rfl (r_pick0 rfl g136 rfl) ?_
                        exact S_mk (l := [(0, (.int .i64 n1)), (3, (.int .i64 i4)), (4, (.int .i64 k5)), (12, (.pointer y7)), (14, (.int .i64 0)), (16, (Sl.v s29)), (18, (.int .i64 0)), (142, (.bool ((decide (i4 < 0)) || (decide (n1 < i4)))))]) HJ ⟨rfl, rfl, rfl, rfl, rfl, rfl, rfl, (by rw [g136]; rfl), trivial⟩
                · rcases Bool.eq_false_or_eq_true (decide (a35 < ((is2.len : Int)))) with g37 | g37
                  · refine s_pu (d := some 73) (v := (.int .i64 a35)) rfl rfl (wants_yes rfl rfl rfl rfl g37) (r_move rfl) ?_
                    refine s_pu (d := some 74) (v := (Sl.v xs3)) rfl rfl (wants_yes rfl rfl rfl rfl g37) (r_move rfl) ?_
                    refine s_pu (d := some 75) (v := (.int .i64 ((xs3.len : Int)))) rfl rfl (wants_yes rfl rfl rfl rfl g37) (r_len Tryd.underlying22 rfl) ?_
                    refine s_pu (d := some 76) (v := (.bool (decide (a35 < ((xs3.len : Int)))))) rfl rfl (wants_yes rfl rfl rfl rfl g37) (r_lss rfl rfl) ?_
                    refine s_pu (d := some 77) (v := (.bool (decide (a35 < ((xs3.len : Int)))))) rfl rfl rfl (r_pick1 rfl g37 rfl) ?_
                    exact S_mk (l := [(0, (.int .i64 n1)), (1, (Sl.v is2)), (2, (Sl.v xs3)), (3, (.int .i64 i4)), (4, (.int .i64 k5)), (12, (.pointer y7)), (16, (Sl.v s29)), (17, (.int .i64 a35)), (77, (.bool ((decide (a35 < ((is2.len : Int)))) && (decide (a35 < ((xs3.len : Int)))))))]) HJ ⟨rfl, rfl, rfl, rfl, rfl, rfl, rfl, rfl, (by rw [g37]; rfl), trivial⟩
                  · refine s_sk (d := some 73) rfl rfl (wants_no rfl rfl rfl rfl g37) ?_
                    refine s_sk (d := some 74) rfl rfl (wants_no rfl rfl rfl rfl g37) ?_
                    refine s_sk (d := some 75) rfl rfl (wants_no rfl rfl rfl rfl g37) ?_
                    refine s_sk (d := some 76) rfl rfl (wants_no rfl rfl rfl rfl g37) ?_
                    refine s_pu (d := some 77) (v := (.bool false)) rfl rfl rfl (r_pick0 rfl g37 rfl) ?_
                    exact S_mk (l := [(0, (.int .i64 n1)), (1, (Sl.v is2)), (2, (Sl.v xs3)), (3, (.int .i64 i4)), (4, (.int .i64 k5)), (12, (.pointer y7)), (16, (Sl.v s29)), (17, (.int .i64 a35)), (77, (.bool ((decide (a35 < ((is2.len : Int)))) && (decide (a35 < ((xs3.len : Int)))))))]) HJ ⟨rfl, rfl, rfl, rfl, rfl, rfl, rfl, rfl, (by rw [g37]; rfl), trivial⟩
            · rcases Bool.eq_false_or_eq_true ((!decide (ve12 = 0)) || (decide (200 < n1))) with g26 | g26
              · refine s_sk (d := some 62) rfl rfl (wants_no rfl rfl rfl rfl g26) ?_
                refine s_sk (d := some 63) rfl rfl (wants_no rfl rfl rfl rfl g26) ?_
                refine s_sk (d := some 64) rfl rfl (wants_no rfl rfl rfl rfl g26) ?_
                refine s_pu (d := some 65) (v := (.bool true)) rfl rfl rfl (r_pick1 rfl g26 rfl) ?_
                exact S_mk (l := [(0, (.int .i64 n1)), (1, (Sl.v is2)), (2, (Sl.v xs3)), (3, (.int .i64 i4)), (4, (.int .i64 k5)), (12, (.pointer y7)), (65, (.bool (((!decide (ve12 = 0)) || (decide (200 < n1))) || (decide (100 < ((is2.len : Int)))))))]) HJ ⟨rfl, rfl, rfl, rfl, rfl, rfl, (by rw [g26]; rfl), trivial⟩
              · refine s_pu (d := some 62) (v := (Sl.v is2)) rfl rfl (wants_yes rfl rfl rfl rfl g26) (r_move rfl) ?_
                refine s_pu (d := some 63) (v := (.int .i64 ((is2.len : Int)))) rfl rfl (wants_yes rfl rfl rfl rfl g26) (r_len Tryd.underlying22 rfl) ?_
                refine s_pu (d := some 64) (v := (.bool (decide (100 < ((is2.len : Int)))))) rfl rfl (wants_yes rfl rfl rfl rfl g26) (r_gtr rfl rfl) ?_
                refine s_pu (d := some 65) (v := (.bool (decide (100 < ((is2.len : Int)))))) rfl rfl rfl (r_pick0 rfl g26 rfl) ?_
                exact S_mk (l := [(0, (.int .i64 n1)), (1, (Sl.v is2)), (2, (Sl.v xs3)), (3, (.int .i64 i4)), (4, (.int .i64 k5)), (12, (.pointer y7)), (65, (.bool (((!decide (ve12 = 0)) || (decide (200 < n1))) || (decide (100 < ((is2.len : Int)))))))]) HJ ⟨rfl, rfl, rfl, rfl, rfl, rfl, (by rw [g26]; rfl), trivial⟩
          · rcases Bool.eq_false_or_eq_true (!decide (ve12 = 0)) with g23 | g23
            · refine s_sk (d := some 58) rfl rfl (wants_no rfl rfl rfl rfl g23) ?_
              refine s_sk (d := some 59) rfl rfl (wants_no rfl rfl rfl rfl g23) ?_
              refine s_pu (d := some 60) (v := (.bool true)) rfl rfl rfl (r_pick1 rfl g23 rfl) ?_
              exact S_mk (l := [(0, (.int .i64 n1)), (1, (Sl.v is2)), (2, (Sl.v xs3)), (3, (.int .i64 i4)), (4, (.int .i64 k5)), (12, (.pointer y7)), (60, (.bool ((!decide (ve12 = 0)) || (decide (200 < n1)))))]) HJ ⟨rfl, rfl, rfl, rfl, rfl, rfl, (by rw [g23]; rfl), trivial⟩
            · refine s_pu (d := some 58) (v := (.int .i64 n1)) rfl rfl (wants_yes rfl rfl rfl rfl g23) (r_move rfl) ?_
              refine s_pu (d := some 59) (v := (.bool (decide (200 < n1)))) rfl rfl (wants_yes rfl rfl rfl rfl g23) (r_gtr rfl rfl) ?_
              refine s_pu (d := some 60) (v := (.bool (decide (200 < n1)))) rfl rfl rfl (r_pick0 rfl g23 rfl) ?_
              exact S_mk (l := [(0, (.int .i64 n1)), (1, (Sl.v is2)), (2, (Sl.v xs3)), (3, (.int .i64 i4)), (4, (.int .i64 k5)), (12, (.pointer y7)), (60, (.bool ((!decide (ve12 = 0)) || (decide (200 < n1)))))]) HJ ⟨rfl, rfl, rfl, rfl, rfl, rfl, (by rw [g23]; rfl), trivial⟩)
      clear eN22
      refine W_region (.pu 0 (.pu 1 (.pu 2 (.pu 3 (.pu 4 (.pu 5 (.pu 6 (.pu 7 (.pu 8 (.pu 9 (.pu 10 (.pu 11 (.pu 12 (.pu 13 .fin)))))))))))))) rfl rfl ?_
      refine s_pu (d := some 41) (v := (.bool y6)) rfl rfl rfl (r_move rfl) ?_
      refine s_pu (d := some 42) (v := (.bool (!y6))) rfl rfl rfl (r_not rfl) ?_
      refine s_pu (d := some 43) (v := (.bool (!y6))) rfl rfl rfl (r_move rfl) ?_
      rcases Bool.eq_false_or_eq_true (!y6) with g209 | g209
      · have H := H.1 g209
        refine s_sk (d := some 44) rfl rfl (wants_no rfl rfl rfl rfl g209) ?_
        refine s_sk (d := some 45) rfl rfl (wants_no rfl rfl rfl rfl g209) ?_
        refine s_pu (d := some 46) (v := (.bool true)) rfl rfl rfl (r_pick1 rfl g209 rfl) ?_
        refine s_pu (d := some 47) (v := (.bool true)) rfl rfl rfl (r_move rfl) ?_
        refine s_sk (d := some 48) rfl rfl (wants_no rfl rfl rfl rfl rfl) ?_
        refine s_sk (d := some 49) rfl rfl (wants_no rfl rfl rfl rfl rfl) ?_
        refine s_sk (d := some 50) rfl rfl (wants_no rfl rfl rfl rfl rfl) ?_
        refine s_sk (d := some 51) rfl rfl (wants_un rfl rfl rfl) ?_
        refine s_sk (d := some 52) rfl rfl (wants_un rfl rfl rfl) ?_
        refine s_sk (d := some 53) rfl rfl (wants_no rfl rfl rfl rfl rfl) ?_
        refine s_pu (d := some 54) (v := (.bool true)) rfl rfl rfl (r_pick1 rfl rfl rfl) ?_
        refine s_fin ?_
        exact N_mk (l := [(0, (.int .i64 n1)), (1, (Sl.v is2)), (2, (Sl.v xs3)), (3, (.int .i64 i4)), (4, (.int .i64 k5)), (12, (.pointer y7)), (14, (.int .i64 ve12)), (54, (.bool true))]) H ⟨rfl, rfl, rfl, rfl, rfl, rfl, rfl, rfl, trivial⟩
      · have H := H.2 g209
        refine s_pu (d := some 44) (v := (.bool y15)) rfl rfl (wants_yes rfl rfl rfl rfl g209) (r_move rfl) ?_
        refine s_pu (d := some 45) (v := (.bool (!y15))) rfl rfl (wants_yes rfl rfl rfl rfl g209) (r_not rfl) ?_
        refine s_pu (d := some 46) (v := (.bool (!y15))) rfl rfl rfl (r_pick0 rfl g209 rfl) ?_
        refine s_pu (d := some 47) (v := (.bool (!y15))) rfl rfl rfl (r_move rfl) ?_
        rcases Bool.eq_false_or_eq_true (!y15) with g210 | g210
        · have H := H.1 g210
          refine s_sk (d := some 48) rfl rfl (wants_no rfl rfl rfl rfl g210) ?_
          refine s_sk (d := some 49) rfl rfl (wants_no rfl rfl rfl rfl g210) ?_
          refine s_sk (d := some 50) rfl rfl (wants_no rfl rfl rfl rfl g210) ?_
          refine s_sk (d := some 51) rfl rfl (wants_un rfl rfl rfl) ?_
          refine s_sk (d := some 52) rfl rfl (wants_un rfl rfl rfl) ?_
          refine s_sk (d := some 53) rfl rfl (wants_no rfl rfl rfl rfl g210) ?_
          refine s_pu (d := some 54) (v := (.bool true)) rfl rfl rfl (r_pick1 rfl g210 rfl) ?_
          refine s_fin ?_
          exact N_mk (l := [(0, (.int .i64 n1)), (1, (Sl.v is2)), (2, (Sl.v xs3)), (3, (.int .i64 i4)), (4, (.int .i64 k5)), (12, (.pointer y7)), (14, (.int .i64 ve12)), (54, (.bool true))]) H ⟨rfl, rfl, rfl, rfl, rfl, rfl, rfl, rfl, trivial⟩
        · have H := H.2 g210
          refine s_pu (d := some 48) (v := (.int .i64 ve12)) rfl rfl (wants_yes rfl rfl rfl rfl g210) (r_move rfl) ?_
          refine s_pu (d := some 49) (v := (.bool (!decide (ve12 = 0)))) rfl rfl (wants_yes rfl rfl rfl rfl g210) (r_neq rfl rfl) ?_
          refine s_pu (d := some 50) (v := (.bool (!decide (ve12 = 0)))) rfl rfl (wants_yes rfl rfl rfl rfl g210) (r_move rfl) ?_
          rcases Bool.eq_false_or_eq_true (!decide (ve12 = 0)) with g211 | g211
          · have H := H.1 g211
            refine s_pu (d := some 51) (v := (.pointer y7)) rfl rfl (wants_yes rfl rfl rfl rfl g211) (r_move rfl) ?_
            refine s_pu (d := some 52) (v := (.bool (!(Option.isNone y7)))) rfl rfl (wants_yes rfl rfl rfl rfl g211) (r_notNilP Tryd.underlying24 rfl rfl) ?_
            refine s_pu (d := some 53) (v := (.bool (!(Option.isNone y7)))) rfl rfl (wants_yes rfl rfl rfl rfl g210) (r_pick1 rfl g211 rfl) ?_
            refine s_pu (d := some 54) (v := (.bool (!(Option.isNone y7)))) rfl rfl rfl (r_pick0 rfl g210 rfl) ?_
            refine s_fin ?_
            exact N_mk (l := [(0, (.int .i64 n1)), (1, (Sl.v is2)), (2, (Sl.v xs3)), (3, (.int .i64 i4)), (4, (.int .i64 k5)), (12, (.pointer y7)), (14, (.int .i64 ve12)), (54, (.bool (!(Option.isNone y7))))]) H ⟨rfl, rfl, rfl, rfl, rfl, rfl, rfl, rfl, trivial⟩
          · have H := H.2 g211
            refine s_sk (d := some 51) rfl rfl (wants_no rfl rfl rfl rfl g211) ?_
            refine s_sk (d := some 52) rfl rfl (wants_no rfl rfl rfl rfl g211) ?_
            refine s_pu (d := some 53) (v := (.bool false)) rfl rfl (wants_yes rfl rfl rfl rfl g210) (r_pick0 rfl g211 rfl) ?_
            refine s_pu (d := some 54) (v := (.bool false)) rfl rfl rfl (r_pick0 rfl g210 rfl) ?_
            refine s_fin ?_
            exact N_mk (l := [(0, (.int .i64 n1)), (1, (Sl.v is2)), (2, (Sl.v xs3)), (3, (.int .i64 i4)), (4, (.int .i64 k5)), (12, (.pointer y7)), (14, (.int .i64 ve12)), (54, (.bool false))]) H ⟨rfl, rfl, rfl, rfl, rfl, rfl, rfl, rfl, trivial⟩)
    clear eN14
    refine W_if ((decide (n1 < 0)) || (decide (5000 < n1))) rfl (fun g212 => ?_) (fun g212 => ?_)
    · have H := H.1 g212
      refine W_region (.pu 0 .fin) rfl rfl ?_
      refine s_pu (d := some 14) (v := (.int .i64 1)) rfl rfl rfl (r_assign rfl) ?_
      refine s_fin ?_
      exact N_mk (l := [(0, (.int .i64 n1)), (1, (Sl.v is2)), (2, (Sl.v xs3)), (3, (.int .i64 i4)), (4, (.int .i64 k5)), (11, (.bool y6)), (12, (.pointer y7)), (13, y8), (14, (.int .i64 1))]) H ⟨rfl, rfl, rfl, rfl, rfl, rfl, rfl, rfl, rfl, trivial⟩
    · have H := H.2 g212
      refine W_skip ?_
      exact N_mk (l := [(0, (.int .i64 n1)), (1, (Sl.v is2)), (2, (Sl.v xs3)), (3, (.int .i64 i4)), (4, (.int .i64 k5)), (11, (.bool y6)), (12, (.pointer y7)), (13, y8), (14, (.int .i64 0))]) H ⟨rfl, rfl, rfl, rfl, rfl, rfl, rfl, rfl, rfl, trivial⟩
  · rcases Bool.eq_false_or_eq_true (decide (n1 < 0)) with g9 | g9
    · refine s_sk (d := some 35) rfl rfl (wants_no rfl rfl rfl rfl g9) ?_
      refine s_sk (d := some 36) rfl rfl (wants_no rfl rfl rfl rfl g9) ?_
      refine s_pu (d := some 37) (v := (.bool true)) rfl rfl rfl (r_pick1 rfl g9 rfl) ?_
      exact S_mk (l := [(0, (.int .i64 n1)), (1, (Sl.v is2)), (2, (Sl.v xs3)), (3, (.int .i64 i4)), (4, (.int .i64 k5)), (11, (.bool y6)), (12, (.pointer y7)), (13, y8), (14, (.int .i64 0)), (37, (.bool ((decide (n1 < 0)) || (decide (5000 < n1)))))]) HJ ⟨rfl, rfl, rfl, rfl, rfl, rfl, rfl, rfl, rfl, (by rw [g9]; rfl), trivial⟩
    · refine s_pu (d := some 35) (v := (.int .i64 n1)) rfl rfl (wants_yes rfl rfl rfl rfl g9) (r_move rfl) ?_
      refine s_pu (d := some 36) (v := (.bool (decide (5000 < n1)))) rfl rfl (wants_yes rfl rfl rfl rfl g9) (r_gtr rfl rfl) ?_
      refine s_pu (d := some 37) (v := (.bool (decide (5000 < n1)))) rfl rfl rfl (r_pick0 rfl g9 rfl) ?_
      exact S_mk (l := [(0, (.int .i64 n1)), (1, (Sl.v is2)), (2, (Sl.v xs3)), (3, (.int .i64 i4)), (4, (.int .i64 k5)), (11, (.bool y6)), (12, (.pointer y7)), (13, y8), (14, (.int .i64 0)), (37, (.bool ((decide (n1 < 0)) || (decide (5000 < n1)))))]) HJ ⟨rfl, rfl, rfl, rfl, rfl, rfl, rfl, rfl, rfl, (by rw [g9]; rfl), trivial⟩

end Go.Proofs.YtcafckgflpmfgaaDoor
