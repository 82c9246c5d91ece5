/- Typed words of functions, and that they hold: printed by gen.py (an own tool of this claim) off the model's own form of each function. -/
import Derived.Test.YtfiemlcoliijoaaProg
import Derived.Test.YtfiemlcoliijoaaTwMore
namespace Go.Proofs.Ytfiemlcoliijoaa
open Go Go.RowKit Go.Tw
set_option linter.unusedVariables false

theorem slFHFen_22 : SlF Try.prog 22 3 1 8 (.int .i64 0) := ⟨Try.underlying22, ⟨Try.t3, by kernel_rfl, rfl, rfl, rfl⟩, rfl, Try.sizeOf3, Try.zeroValue3⟩

/-! ### the calls -/

abbrev fen_New (r : World) (n1 : Int) (h : Heap) (R : Option Addr → Value → Heap → Prop) : Prop :=
  CallsH Try.prog r 5 [(.int .i64 n1)] h fun v h' => ∃ (y2 : Option Addr) (y3 : Value), v = (.tuple #[(.pointer y2), y3]) ∧ R y2 y3 h'

theorem fen_New.mono {r : World} {n1 : Int} {h : Heap} {R R' : Option Addr → Value → Heap → Prop} (H : fen_New r n1 h R) (hr : ∀ y2 y3 h, R y2 y3 h → R' y2 y3 h) : fen_New r n1 h R' :=
  CallsH.mono H fun _ _ hx => by
    obtain ⟨y2, y3, hv, hR⟩ := hx
    exact ⟨y2, y3, hv, hr _ _ _ hR⟩

abbrev fen_Fen_Add (r : World) (f1 : Option Addr) (i2 : Int) (x3 : Int) (h : Heap) (R : Value → Heap → Prop) : Prop :=
  CallsH Try.prog r 8 [(.pointer f1), (.int .i64 i2), (.int .i64 x3)] h R

theorem fen_Fen_Add.mono {r : World} {f1 : Option Addr} {i2 : Int} {x3 : Int} {h : Heap} {R R' : Value → Heap → Prop} (H : fen_Fen_Add r f1 i2 x3 h R) (hr : ∀ y h, R y h → R' y h) : fen_Fen_Add r f1 i2 x3 h R' := CallsH.mono H hr

abbrev fen_Fen_Sum (r : World) (f1 : Option Addr) (i2 : Int) (h : Heap) (R : Int → Value → Heap → Prop) : Prop :=
  CallsH Try.prog r 10 [(.pointer f1), (.int .i64 i2)] h fun v h' => ∃ (y3 : Int) (y4 : Value), v = (.tuple #[(.int .i64 y3), y4]) ∧ R y3 y4 h'

theorem fen_Fen_Sum.mono {r : World} {f1 : Option Addr} {i2 : Int} {h : Heap} {R R' : Int → Value → Heap → Prop} (H : fen_Fen_Sum r f1 i2 h R) (hr : ∀ y3 y4 h, R y3 y4 h → R' y3 y4 h) : fen_Fen_Sum r f1 i2 h R' :=
  CallsH.mono H fun _ _ hx => by
    obtain ⟨y3, y4, hv, hR⟩ := hx
    exact ⟨y3, y4, hv, hr _ _ _ hR⟩

/-! ### fen_New -/

def fen_New_F (r : World) (n1 : Int) (h : Heap) (R : Option Addr → Value → Heap → Prop) : Prop :=
  Br ((decide (n1 < 0)) || (decide (5000 < n1))) (
    R none ((.iface 51 (.int .i64 1))) h) (
    MkS 3 1 8 (.int .i64 0) (w64 (n1 + 1)) h fun s5 h1 =>
    New h1 (.cells #[(Sl.v s5)] 57) fun p11 h2 =>
    R (some p11) .nilIface h2)

set_option maxRecDepth 100000 in
theorem fen_New_of {r : World} {n1 : Int} {h : Heap} {R : Option Addr → Value → Heap → Prop} (H : fen_New_F r n1 h R) : fen_New r n1 h R := by
  unfold fen_New_F at H
  refine calls_of 16 [.tmp 2, .tmp 3] Try.func5 rfl rfl rfl rfl rfl ?_
  refine W_seq ?_
  refine W_region (.pu 0 (.pu 1 .fin)) rfl rfl ?_
  refine s_pu (d := some 2) (v := (.pointer none)) rfl rfl rfl (r_assign rfl) ?_
  refine s_pu (d := some 3) (v := .nilIface) rfl rfl rfl (r_assign rfl) ?_
  refine s_fin ?_
  show W _ _ _ _ _ _ _ _
  refine W_seq ?_
  refine W_seq ?_
  refine W_region (.pu 0 (.pu 1 (.pu 2 (.pu 3 (.pu 4 (.pu 5 .fin)))))) rfl rfl ?_
  refine s_pu (d := some 4) (v := (.int .i64 n1)) rfl rfl rfl (r_move rfl) ?_
  refine s_pu (d := some 5) (v := (.bool (decide (n1 < 0)))) rfl rfl rfl (r_lss rfl rfl) ?_
  refine s_pu (d := some 6) (v := (.bool (decide (n1 < 0)))) rfl rfl rfl (r_move rfl) ?_
  refine S_meet (l := [(0, (.int .i64 n1)), (9, (.bool ((decide (n1 < 0)) || (decide (5000 < n1)))))]) (i := 3) ?_ (fun HJ => ?_)
  · intro b
    show S _ _ _ _ _ _
    refine s_fin ?_
    show W _ _ _ _ _ _ _ _
    refine W_if ((decide (n1 < 0)) || (decide (5000 < n1))) rfl (fun g14 => ?_) (fun g14 => ?_)
    · have H := H.1 g14
      refine W_seq ?_
      refine W_region (.pu 0 (.pu 1 (.pu 2 .fin))) rfl rfl ?_
      refine s_pu (d := some 10) (v := ((.iface 51 (.int .i64 1)))) rfl rfl rfl (r_iface Try.underlying51 rfl rfl) ?_
      refine s_pu (d := some 2) (v := (.pointer none)) rfl rfl rfl (r_assign rfl) ?_
      refine s_pu (d := some 3) (v := ((.iface 51 (.int .i64 1)))) rfl rfl rfl (r_assign rfl) ?_
      refine s_fin ?_
      show W _ _ _ _ _ _ _ _
      refine W_ret ?_
      exact ⟨[(.pointer none), ((.iface 51 (.int .i64 1)))], ⟨_, _, rfl, rfl, ⟨_, _, rfl, rfl, rfl⟩⟩, none, ((.iface 51 (.int .i64 1))), rfl, H⟩
    · have H := H.2 g14
      refine W_skip ?_
      show W _ _ _ _ _ _ _ _
      refine W_seq ?_
      refine W_region (.pu 0 (.pu 1 (.ef 2 [] (.pu 3 (.ef 4 [] (.pu 5 (.pu 6 .fin)) .no)) .no))) rfl rfl ?_
      refine s_pu (d := some 11) (v := (.int .i64 n1)) rfl rfl rfl (r_move rfl) ?_
      refine s_pu (d := some 12) (v := (.int .i64 (w64 (n1 + 1)))) rfl rfl rfl (r_add rfl rfl) ?_
      obtain ⟨e6, e7, e8, H⟩ := H
      obtain ⟨s5, e9⟩ : ∃ s : Sl, s = ⟨some ⟨h.size, 0, none⟩, Int.toNat (w64 (n1 + 1)), Int.toNat (w64 (n1 + 1))⟩ := ⟨_, rfl⟩
      obtain ⟨h1, e10⟩ : ∃ hh : Heap, hh = _ := ⟨_, rfl⟩
      have H := H s5 h1 e9 e10
      refine s_ef1 (d := some 13) (v := (Sl.v s5)) (h' := h1) rfl rfl rfl (fun dr => (slFHFen_22.make rfl rfl e6 e7 e8).trans (by rw [e9, e10]; rfl)) trivial ?_ trivial
      refine s_pu (d := some 14) (v := (.agg #[(Sl.v s5)])) rfl rfl rfl (fun w => by kernel_rfl) ?_
      obtain ⟨p11, e12⟩ : ∃ p : Addr, p = ⟨h1.size, 0, none⟩ := ⟨_, rfl⟩
      obtain ⟨h2, e13⟩ : ∃ hh : Heap, hh = h1.push (.cells #[(Sl.v s5)] 57) := ⟨_, rfl⟩
      have H := H p11 h2 e12 e13
      refine s_ef1 (d := some 15) (v := (.pointer (some p11))) (h' := h2) rfl rfl rfl (fun dr => (r_box (v := (.agg #[(Sl.v s5)])) rfl).trans (by rw [e12, e13]; rfl)) trivial ?_ trivial
      refine s_pu (d := some 2) (v := (.pointer (some p11))) rfl rfl rfl (r_assign rfl) ?_
      refine s_pu (d := some 3) (v := .nilIface) rfl rfl rfl (r_assign rfl) ?_
      refine s_fin ?_
      show W _ _ _ _ _ _ _ _
      refine W_ret ?_
      exact ⟨[(.pointer (some p11)), .nilIface], ⟨_, _, rfl, rfl, ⟨_, _, rfl, rfl, rfl⟩⟩, (some p11), .nilIface, rfl, H⟩
  · rcases Bool.eq_false_or_eq_true (decide (n1 < 0)) with g2 | g2
    · refine s_sk (d := some 7) rfl rfl (wants_no rfl rfl rfl rfl g2) ?_
      refine s_sk (d := some 8) rfl rfl (wants_no rfl rfl rfl rfl g2) ?_
      refine s_pu (d := some 9) (v := (.bool true)) rfl rfl rfl (r_pick1 rfl g2 rfl) ?_
      exact S_mk (l := [(0, (.int .i64 n1)), (9, (.bool ((decide (n1 < 0)) || (decide (5000 < n1)))))]) HJ ⟨rfl, (by rw [g2]; rfl), trivial⟩
    · refine s_pu (d := some 7) (v := (.int .i64 n1)) rfl rfl (wants_yes rfl rfl rfl rfl g2) (r_move rfl) ?_
      refine s_pu (d := some 8) (v := (.bool (decide (5000 < n1)))) rfl rfl (wants_yes rfl rfl rfl rfl g2) (r_gtr rfl rfl) ?_
      refine s_pu (d := some 9) (v := (.bool (decide (5000 < n1)))) rfl rfl rfl (r_pick0 rfl g2 rfl) ?_
      exact S_mk (l := [(0, (.int .i64 n1)), (9, (.bool ((decide (n1 < 0)) || (decide (5000 < n1)))))]) HJ ⟨rfl, (by rw [g2]; rfl), trivial⟩

/-! ### fen_Fen_Add -/

def fen_Fen_Add_F (r : World) (f1 : Option Addr) (i2 : Int) (x3 : Int) (h : Heap) (R : Value → Heap → Prop) : Prop :=
  ∀ J5 : Bool → Prop, (∀ (x4 : Bool),
    (Br x4 (
      R ((.iface 51 (.int .i64 1))) h) (
      ∀ X8 : Int → Heap → Prop, (∀ (i7 : Int) (h1 : Heap),
        (Ck f1 fun p9 =>
        LdS h1 (Addr.add p9 0) fun x11 =>
        Br (decide (i7 < ((x11.len : Int)))) (
          Ck f1 fun p13 =>
          LdS h1 (Addr.add p13 0) fun x15 =>
          Ix x15 i7 1 fun q21 =>
          LdI h1 q21 fun x23 =>
          Ix x15 i7 1 fun q29 =>
          St h1 q29 1 [(.int .i64 (w64 (x23 + x3)))] fun h2 =>
          X8 (w64 (i7 + (bAnd .i64 i7 (w64 (0 - i7))))) h2) (
          R .nilIface h1)) →
        X8 i7 h1) →
      X8 (w64 (i2 + 1)) h)) →
    J5 x4) →
  Br (decide (i2 < 0)) (
    J5 true) (
    Ck f1 fun p36 =>
    LdS h (Addr.add p36 0) fun x38 =>
    Br (decide ((w64 (((x38.len : Int)) - 1)) ≤ i2)) (
      J5 true) (
      Br (decide (x3 < 0)) (
        J5 true) (
        J5 (decide (1073741824 < x3)))))

set_option maxRecDepth 100000 in
theorem fen_Fen_Add_of {r : World} {f1 : Option Addr} {i2 : Int} {x3 : Int} {h : Heap} {R : Value → Heap → Prop} (H : fen_Fen_Add_F r f1 i2 x3 h R) : fen_Fen_Add r f1 i2 x3 h R := by
  unfold fen_Fen_Add_F at H
  refine calls_of 53 [.tmp 6] Try.func8 rfl rfl rfl rfl rfl ?_
  refine W_seq ?_
  refine W_region (.pu 0 .fin) rfl rfl ?_
  refine s_pu (d := some 6) (v := .nilIface) rfl rfl rfl (r_assign rfl) ?_
  refine s_fin ?_
  show W _ _ _ _ _ _ _ _
  refine W_seq ?_
  refine W_seq ?_
  refine W_set ?_
  intro N6 eN6
  have H := H (fun (x4 : Bool) => ∀ b, N6 [] (mkE [(0, (.pointer f1)), (1, (.int .i64 i2)), (2, (.int .i64 x3)), (26, (.bool x4))] b) h) (by
    intro x4 H b
    rw [eN6]
    show W _ _ _ _ _ _ _ _
    refine W_if x4 rfl (fun g34 => ?_) (fun g34 => ?_)
    · have H := H.1 g34
      refine W_seq ?_
      refine W_region (.pu 0 (.pu 1 .fin)) rfl rfl ?_
      refine s_pu (d := some 27) (v := ((.iface 51 (.int .i64 1)))) rfl rfl rfl (r_iface Try.underlying51 rfl rfl) ?_
      refine s_pu (d := some 6) (v := ((.iface 51 (.int .i64 1)))) rfl rfl rfl (r_assign rfl) ?_
      refine s_fin ?_
      show W _ _ _ _ _ _ _ _
      refine W_ret ?_
      exact ⟨[((.iface 51 (.int .i64 1)))], ⟨_, _, rfl, rfl, rfl⟩, H⟩
    · have H := H.2 g34
      refine W_skip ?_
      show W _ _ _ _ _ _ _ _
      refine W_seq ?_
      refine W_seq ?_
      refine W_region (.pu 0 (.pu 1 (.pu 2 .fin))) rfl rfl ?_
      refine s_pu (d := some 28) (v := (.int .i64 i2)) rfl rfl rfl (r_move rfl) ?_
      refine s_pu (d := some 29) (v := (.int .i64 (w64 (i2 + 1)))) rfl rfl rfl (r_add rfl rfl) ?_
      refine s_pu (d := some 1) (v := (.int .i64 (w64 (i2 + 1)))) rfl rfl rfl (r_assign rfl) ?_
      refine s_fin ?_
      show W _ _ _ _ _ _ _ _
      refine W_block ?_
      refine W_loop (WL_mk (l := [(0, (.pointer f1)), (1, (.int .i64 (w64 (i2 + 1)))), (2, (.int .i64 x3))]) ?_ ⟨rfl, rfl, rfl, trivial⟩)
      refine H (fun (i7 : Int) (h1 : Heap) => ∀ b, WL _ _ _ _ _ _ (mkE [(0, (.pointer f1)), (1, (.int .i64 i7)), (2, (.int .i64 x3))] b) h1) ?_
      intro i7 h1 H b
      refine WL_round ?_
      refine W_seq ?_
      refine W_seq ?_
      refine W_region (.pu 0 (.pu 1 (.pu 2 (.pu 3 (.rl 4 (.pu 5 (.pu 6 .fin))))))) rfl rfl ?_
      refine s_pu (d := some 30) (v := (.int .i64 i7)) rfl rfl rfl (r_move rfl) ?_
      refine s_pu (d := some 31) (v := (.pointer f1)) rfl rfl rfl (r_move rfl) ?_
      obtain ⟨p9, e10, H⟩ := H
      refine s_pu (d := some 32) (v := (.pointer (some p9))) rfl rfl rfl (r_nilCheck rfl e10) ?_
      refine s_pu (d := some 33) (v := (.pointer (some (Addr.add p9 0)))) rfl rfl rfl (r_fieldAddr Try.underlying57 Try.sizeOf22 rfl rfl rfl) ?_
      obtain ⟨x11, e12, H⟩ := H
      refine s_rl (d := some 34) (v := (Sl.v x11)) rfl rfl rfl (fun dr => r_load1 Try.isAgg22 rfl e12) ?_
      refine s_pu (d := some 35) (v := (.int .i64 ((x11.len : Int)))) rfl rfl rfl (r_len Try.underlying22 rfl) ?_
      refine s_pu (d := some 36) (v := (.bool (decide (i7 < ((x11.len : Int)))))) rfl rfl rfl (r_lss rfl rfl) ?_
      refine s_fin ?_
      show W _ _ _ _ _ _ _ _
      refine W_if (decide (i7 < ((x11.len : Int)))) rfl (fun g33 => ?_) (fun g33 => ?_)
      · have H := H.1 g33
        refine W_skip ?_
        show W _ _ _ _ _ _ _ _
        refine W_seq ?_
        refine W_block ?_
        refine W_region (.pu 0 (.pu 1 (.pu 2 (.rl 3 (.pu 4 (.pu 5 (.rl 6 (.pu 7 (.pu 8 (.pu 9 (.ef 10 [] .fin .no))))))))))) rfl rfl ?_
        refine s_pu (d := some 43) (v := (.pointer f1)) rfl rfl rfl (r_move rfl) ?_
        obtain ⟨p13, e14, H⟩ := H
        refine s_pu (d := some 44) (v := (.pointer (some p13))) rfl rfl rfl (r_nilCheck rfl e14) ?_
        refine s_pu (d := some 45) (v := (.pointer (some (Addr.add p13 0)))) rfl rfl rfl (r_fieldAddr Try.underlying57 Try.sizeOf22 rfl rfl rfl) ?_
        obtain ⟨x15, e16, H⟩ := H
        refine s_rl (d := some 46) (v := (Sl.v x15)) rfl rfl rfl (fun dr => r_load1 Try.isAgg22 rfl e16) ?_
        refine s_pu (d := some 47) (v := (.int .i64 i7)) rfl rfl rfl (r_move rfl) ?_
        obtain ⟨p17, e18, e19, e20, H⟩ := H
        obtain ⟨q21, e22⟩ : ∃ q : Addr, q = Addr.add p17 (Int.toNat i7 * 1) := ⟨_, rfl⟩
        rw [← e22] at H
        refine s_pu (d := some 48) (v := (.pointer (some q21))) rfl rfl rfl (fun w => (r_indexAddr Try.underlying22 Try.sizeOf3 rfl rfl e18 e19 e20 w).trans (by rw [e22])) ?_
        obtain ⟨x23, e24, H⟩ := H
        refine s_rl (d := some 49) (v := (.int .i64 x23)) rfl rfl rfl (fun dr => r_load1 Try.isAgg3 rfl e24) ?_
        refine s_pu (d := some 50) (v := (.int .i64 x3)) rfl rfl rfl (r_move rfl) ?_
        refine s_pu (d := some 51) (v := (.int .i64 (w64 (x23 + x3)))) rfl rfl rfl (r_add rfl rfl) ?_
        obtain ⟨p25, e26, e27, e28, H⟩ := H
        obtain ⟨q29, e30⟩ : ∃ q : Addr, q = Addr.add p25 (Int.toNat i7 * 1) := ⟨_, rfl⟩
        rw [← e30] at H
        refine s_pu (d := some 52) (v := (.pointer (some q29))) rfl rfl rfl (fun w => (r_indexAddr Try.underlying22 Try.sizeOf3 rfl rfl e26 e27 e28 w).trans (by rw [e30])) ?_
        obtain ⟨e32, H⟩ := H
        obtain ⟨h2, e31⟩ : ∃ hh : Heap, hh = hsets h1 q29 0 [(.int .i64 (w64 (x23 + x3)))] := ⟨_, rfl⟩
        have H := H h2 e31
        refine s_st (d := none) (h' := h2) rfl rfl rfl (fun dr => (r_store (v := (.int .i64 (w64 (x23 + x3)))) Try.sizeOf3 rfl rfl rfl (one_all rfl) e32).trans (by rw [e31]; rfl)) trivial ?_ trivial
        refine s_fin ?_
        show W _ _ _ _ _ _ _ _
        refine W_region (.pu 0 (.pu 1 (.pu 2 (.pu 3 (.pu 4 (.pu 5 (.pu 6 .fin))))))) rfl rfl ?_
        refine s_pu (d := some 37) (v := (.int .i64 i7)) rfl rfl rfl (r_move rfl) ?_
        refine s_pu (d := some 38) (v := (.int .i64 i7)) rfl rfl rfl (r_move rfl) ?_
        refine s_pu (d := some 39) (v := (.int .i64 i7)) rfl rfl rfl (r_move rfl) ?_
        refine s_pu (d := some 40) (v := (.int .i64 (w64 (0 - i7)))) rfl rfl rfl (r_neg rfl) ?_
        refine s_pu (d := some 41) (v := (.int .i64 (bAnd .i64 i7 (w64 (0 - i7))))) rfl rfl rfl (r_and rfl rfl) ?_
        refine s_pu (d := some 42) (v := (.int .i64 (w64 (i7 + (bAnd .i64 i7 (w64 (0 - i7))))))) rfl rfl rfl (r_add rfl rfl) ?_
        refine s_pu (d := some 1) (v := (.int .i64 (w64 (i7 + (bAnd .i64 i7 (w64 (0 - i7))))))) rfl rfl rfl (r_assign rfl) ?_
        refine s_fin ?_
        exact WL_mk (l := [(0, (.pointer f1)), (1, (.int .i64 (w64 (i7 + (bAnd .i64 i7 (w64 (0 - i7))))))), (2, (.int .i64 x3))]) H ⟨rfl, rfl, rfl, trivial⟩
      · have H := H.2 g33
        refine W_exit (inX_here ?_)
        show W _ _ _ _ _ _ _ _
        refine W_seq ?_
        refine W_region (.pu 0 .fin) rfl rfl ?_
        refine s_pu (d := some 6) (v := .nilIface) rfl rfl rfl (r_assign rfl) ?_
        refine s_fin ?_
        show W _ _ _ _ _ _ _ _
        refine W_ret ?_
        exact ⟨[.nilIface], ⟨_, _, rfl, rfl, rfl⟩, H⟩)
  clear eN6
  refine W_region (.pu 0 (.pu 1 (.pu 2 (.pu 3 (.pu 4 (.pu 5 (.pu 6 (.rl 7 (.pu 8 (.pu 9 (.pu 10 (.pu 11 (.pu 12 (.pu 13 (.pu 14 (.pu 15 (.pu 16 (.pu 17 (.pu 18 (.pu 19 .fin)))))))))))))))))))) rfl rfl ?_
  refine s_pu (d := some 7) (v := (.int .i64 i2)) rfl rfl rfl (r_move rfl) ?_
  refine s_pu (d := some 8) (v := (.bool (decide (i2 < 0)))) rfl rfl rfl (r_lss rfl rfl) ?_
  refine s_pu (d := some 9) (v := (.bool (decide (i2 < 0)))) rfl rfl rfl (r_move rfl) ?_
  rcases Bool.eq_false_or_eq_true (decide (i2 < 0)) with g35 | g35
  · have H := H.1 g35
    refine s_sk (d := some 10) rfl rfl (wants_no rfl rfl rfl rfl g35) ?_
    refine s_sk (d := some 11) rfl rfl (wants_no rfl rfl rfl rfl g35) ?_
    refine s_sk (d := some 12) rfl rfl (wants_no rfl rfl rfl rfl g35) ?_
    refine s_sk (d := some 13) rfl rfl (wants_no rfl rfl rfl rfl g35) ?_
    refine s_skl (d := some 14) rfl rfl (wants_no rfl rfl rfl rfl g35) ?_
    refine s_sk (d := some 15) rfl rfl (wants_no rfl rfl rfl rfl g35) ?_
    refine s_sk (d := some 16) rfl rfl (wants_no rfl rfl rfl rfl g35) ?_
    refine s_sk (d := some 17) rfl rfl (wants_no rfl rfl rfl rfl g35) ?_
    refine s_pu (d := some 18) (v := (.bool true)) rfl rfl rfl (r_pick1 rfl g35 rfl) ?_
    refine s_pu (d := some 19) (v := (.bool true)) rfl rfl rfl (r_move rfl) ?_
    refine s_sk (d := some 20) rfl rfl (wants_no rfl rfl rfl rfl rfl) ?_
    refine s_sk (d := some 21) rfl rfl (wants_no rfl rfl rfl rfl rfl) ?_
    refine s_pu (d := some 22) (v := (.bool true)) rfl rfl rfl (r_pick1 rfl rfl rfl) ?_
    refine s_pu (d := some 23) (v := (.bool true)) rfl rfl rfl (r_move rfl) ?_
    refine s_sk (d := some 24) rfl rfl (wants_no rfl rfl rfl rfl rfl) ?_
    refine s_sk (d := some 25) rfl rfl (wants_no rfl rfl rfl rfl rfl) ?_
    refine s_pu (d := some 26) (v := (.bool true)) rfl rfl rfl (r_pick1 rfl rfl rfl) ?_
    refine s_fin ?_
    exact N_mk (l := [(0, (.pointer f1)), (1, (.int .i64 i2)), (2, (.int .i64 x3)), (26, (.bool true))]) H ⟨rfl, rfl, rfl, rfl, trivial⟩
  · have H := H.2 g35
    refine s_pu (d := some 10) (v := (.int .i64 i2)) rfl rfl (wants_yes rfl rfl rfl rfl g35) (r_move rfl) ?_
    refine s_pu (d := some 11) (v := (.pointer f1)) rfl rfl (wants_yes rfl rfl rfl rfl g35) (r_move rfl) ?_
    obtain ⟨p36, e37, H⟩ := H
    refine s_pu (d := some 12) (v := (.pointer (some p36))) rfl rfl (wants_yes rfl rfl rfl rfl g35) (r_nilCheck rfl e37) ?_
    refine s_pu (d := some 13) (v := (.pointer (some (Addr.add p36 0)))) rfl rfl (wants_yes rfl rfl rfl rfl g35) (r_fieldAddr Try.underlying57 Try.sizeOf22 rfl rfl rfl) ?_
    obtain ⟨x38, e39, H⟩ := H
    refine s_rl (d := some 14) (v := (Sl.v x38)) rfl rfl (wants_yes rfl rfl rfl rfl g35) (fun dr => r_load1 Try.isAgg22 rfl e39) ?_
    refine s_pu (d := some 15) (v := (.int .i64 ((x38.len : Int)))) rfl rfl (wants_yes rfl rfl rfl rfl g35) (r_len Try.underlying22 rfl) ?_
    refine s_pu (d := some 16) (v := (.int .i64 (w64 (((x38.len : Int)) - 1)))) rfl rfl (wants_yes rfl rfl rfl rfl g35) (r_sub rfl rfl) ?_
    refine s_pu (d := some 17) (v := (.bool (decide ((w64 (((x38.len : Int)) - 1)) ≤ i2)))) rfl rfl (wants_yes rfl rfl rfl rfl g35) (r_geq rfl rfl) ?_
    refine s_pu (d := some 18) (v := (.bool (decide ((w64 (((x38.len : Int)) - 1)) ≤ i2)))) rfl rfl rfl (r_pick0 rfl g35 rfl) ?_
    refine s_pu (d := some 19) (v := (.bool (decide ((w64 (((x38.len : Int)) - 1)) ≤ i2)))) rfl rfl rfl (r_move rfl) ?_
    rcases Bool.eq_false_or_eq_true (decide ((w64 (((x38.len : Int)) - 1)) ≤ i2)) with g40 | g40
    · have H := H.1 g40
      refine s_sk (d := some 20) rfl rfl (wants_no rfl rfl rfl rfl g40) ?_
      refine s_sk (d := some 21) rfl rfl (wants_no rfl rfl rfl rfl g40) ?_
      refine s_pu (d := some 22) (v := (.bool true)) rfl rfl rfl (r_pick1 rfl g40 rfl) ?_
      refine s_pu (d := some 23) (v := (.bool true)) rfl rfl rfl (r_move rfl) ?_
      refine s_sk (d := some 24) rfl rfl (wants_no rfl rfl rfl rfl rfl) ?_
      refine s_sk (d := some 25) rfl rfl (wants_no rfl rfl rfl rfl rfl) ?_
      refine s_pu (d := some 26) (v := (.bool true)) rfl rfl rfl (r_pick1 rfl rfl rfl) ?_
      refine s_fin ?_
      exact N_mk (l := [(0, (.pointer f1)), (1, (.int .i64 i2)), (2, (.int .i64 x3)), (26, (.bool true))]) H ⟨rfl, rfl, rfl, rfl, trivial⟩
    · have H := H.2 g40
      refine s_pu (d := some 20) (v := (.int .i64 x3)) rfl rfl (wants_yes rfl rfl rfl rfl g40) (r_move rfl) ?_
      refine s_pu (d := some 21) (v := (.bool (decide (x3 < 0)))) rfl rfl (wants_yes rfl rfl rfl rfl g40) (r_lss rfl rfl) ?_
      refine s_pu (d := some 22) (v := (.bool (decide (x3 < 0)))) rfl rfl rfl (r_pick0 rfl g40 rfl) ?_
      refine s_pu (d := some 23) (v := (.bool (decide (x3 < 0)))) rfl rfl rfl (r_move rfl) ?_
      rcases Bool.eq_false_or_eq_true (decide (x3 < 0)) with g41 | g41
      · have H := H.1 g41
        refine s_sk (d := some 24) rfl rfl (wants_no rfl rfl rfl rfl g41) ?_
        refine s_sk (d := some 25) rfl rfl (wants_no rfl rfl rfl rfl g41) ?_
        refine s_pu (d := some 26) (v := (.bool true)) rfl rfl rfl (r_pick1 rfl g41 rfl) ?_
        refine s_fin ?_
        exact N_mk (l := [(0, (.pointer f1)), (1, (.int .i64 i2)), (2, (.int .i64 x3)), (26, (.bool true))]) H ⟨rfl, rfl, rfl, rfl, trivial⟩
      · have H := H.2 g41
        refine s_pu (d := some 24) (v := (.int .i64 x3)) rfl rfl (wants_yes rfl rfl rfl rfl g41) (r_move rfl) ?_
        refine s_pu (d := some 25) (v := (.bool (decide (1073741824 < x3)))) rfl rfl (wants_yes rfl rfl rfl rfl g41) (r_gtr rfl rfl) ?_
        refine s_pu (d := some 26) (v := (.bool (decide (1073741824 < x3)))) rfl rfl rfl (r_pick0 rfl g41 rfl) ?_
        refine s_fin ?_
        exact N_mk (l := [(0, (.pointer f1)), (1, (.int .i64 i2)), (2, (.int .i64 x3)), (26, (.bool (decide (1073741824 < x3))))]) H ⟨rfl, rfl, rfl, rfl, trivial⟩

/-! ### fen_Fen_Sum -/

def fen_Fen_Sum_F (r : World) (f1 : Option Addr) (i2 : Int) (h : Heap) (R : Int → Value → Heap → Prop) : Prop :=
  ∀ J4 : Bool → Prop, (∀ (x3 : Bool),
    (Br x3 (
      R 0 ((.iface 51 (.int .i64 1))) h) (
      ∀ X8 : Int → Int → Prop, (∀ (i6 : Int) (n7 : Int),
        (Br (decide (0 < i6)) (
          Ck f1 fun p9 =>
          LdS h (Addr.add p9 0) fun x11 =>
          Ix x11 i6 1 fun q17 =>
          LdI h q17 fun x19 =>
          X8 (bAnd .i64 i6 (w64 (i6 - 1))) (w64 (n7 + x19))) (
          R n7 .nilIface h)) →
        X8 i6 n7) →
      X8 i2 0)) →
    J4 x3) →
  Br (decide (i2 < 0)) (
    J4 true) (
    Ck f1 fun p24 =>
    LdS h (Addr.add p24 0) fun x26 =>
    J4 (decide (((x26.len : Int)) ≤ i2)))

set_option maxRecDepth 100000 in
theorem fen_Fen_Sum_of {r : World} {f1 : Option Addr} {i2 : Int} {h : Heap} {R : Int → Value → Heap → Prop} (H : fen_Fen_Sum_F r f1 i2 h R) : fen_Fen_Sum r f1 i2 h R := by
  unfold fen_Fen_Sum_F at H
  refine calls_of 35 [.tmp 4, .tmp 5] Try.func10 rfl rfl rfl rfl rfl ?_
  refine W_seq ?_
  refine W_region (.pu 0 (.pu 1 .fin)) rfl rfl ?_
  refine s_pu (d := some 4) (v := (.int .i64 0)) rfl rfl rfl (r_assign rfl) ?_
  refine s_pu (d := some 5) (v := .nilIface) rfl rfl rfl (r_assign rfl) ?_
  refine s_fin ?_
  show W _ _ _ _ _ _ _ _
  refine W_seq ?_
  refine W_seq ?_
  refine W_set ?_
  intro N5 eN5
  have H := H (fun (x3 : Bool) => ∀ b, N5 [] (mkE [(0, (.pointer f1)), (1, (.int .i64 i2)), (17, (.bool x3))] b) h) (by
    intro x3 H b
    rw [eN5]
    show W _ _ _ _ _ _ _ _
    refine W_if x3 rfl (fun g22 => ?_) (fun g22 => ?_)
    · have H := H.1 g22
      refine W_seq ?_
      refine W_region (.pu 0 (.pu 1 (.pu 2 .fin))) rfl rfl ?_
      refine s_pu (d := some 18) (v := ((.iface 51 (.int .i64 1)))) rfl rfl rfl (r_iface Try.underlying51 rfl rfl) ?_
      refine s_pu (d := some 4) (v := (.int .i64 0)) rfl rfl rfl (r_assign rfl) ?_
      refine s_pu (d := some 5) (v := ((.iface 51 (.int .i64 1)))) rfl rfl rfl (r_assign rfl) ?_
      refine s_fin ?_
      show W _ _ _ _ _ _ _ _
      refine W_ret ?_
      exact ⟨[(.int .i64 0), ((.iface 51 (.int .i64 1)))], ⟨_, _, rfl, rfl, ⟨_, _, rfl, rfl, rfl⟩⟩, 0, ((.iface 51 (.int .i64 1))), rfl, H⟩
    · have H := H.2 g22
      refine W_skip ?_
      show W _ _ _ _ _ _ _ _
      refine W_seq ?_
      refine W_region (.pu 0 .fin) rfl rfl ?_
      refine s_pu (d := some 6) (v := (.int .i64 0)) rfl rfl rfl (r_assign rfl) ?_
      refine s_fin ?_
      show W _ _ _ _ _ _ _ _
      refine W_seq ?_
      refine W_block ?_
      refine W_loop (WL_mk (l := [(0, (.pointer f1)), (1, (.int .i64 i2)), (6, (.int .i64 0))]) ?_ ⟨rfl, rfl, rfl, trivial⟩)
      refine H (fun (i6 : Int) (n7 : Int) => ∀ b, WL _ _ _ _ _ _ (mkE [(0, (.pointer f1)), (1, (.int .i64 i6)), (6, (.int .i64 n7))] b) h) ?_
      intro i6 n7 H b
      refine WL_round ?_
      refine W_seq ?_
      refine W_seq ?_
      refine W_region (.pu 0 (.pu 1 .fin)) rfl rfl ?_
      refine s_pu (d := some 19) (v := (.int .i64 i6)) rfl rfl rfl (r_move rfl) ?_
      refine s_pu (d := some 20) (v := (.bool (decide (0 < i6)))) rfl rfl rfl (r_gtr rfl rfl) ?_
      refine s_fin ?_
      show W _ _ _ _ _ _ _ _
      refine W_if (decide (0 < i6)) rfl (fun g21 => ?_) (fun g21 => ?_)
      · have H := H.1 g21
        refine W_skip ?_
        show W _ _ _ _ _ _ _ _
        refine W_seq ?_
        refine W_block ?_
        refine W_region (.pu 0 (.pu 1 (.pu 2 (.pu 3 (.rl 4 (.pu 5 (.pu 6 (.rl 7 (.pu 8 (.pu 9 .fin)))))))))) rfl rfl ?_
        refine s_pu (d := some 25) (v := (.int .i64 n7)) rfl rfl rfl (r_move rfl) ?_
        refine s_pu (d := some 26) (v := (.pointer f1)) rfl rfl rfl (r_move rfl) ?_
        obtain ⟨p9, e10, H⟩ := H
        refine s_pu (d := some 27) (v := (.pointer (some p9))) rfl rfl rfl (r_nilCheck rfl e10) ?_
        refine s_pu (d := some 28) (v := (.pointer (some (Addr.add p9 0)))) rfl rfl rfl (r_fieldAddr Try.underlying57 Try.sizeOf22 rfl rfl rfl) ?_
        obtain ⟨x11, e12, H⟩ := H
        refine s_rl (d := some 29) (v := (Sl.v x11)) rfl rfl rfl (fun dr => r_load1 Try.isAgg22 rfl e12) ?_
        refine s_pu (d := some 30) (v := (.int .i64 i6)) rfl rfl rfl (r_move rfl) ?_
        obtain ⟨p13, e14, e15, e16, H⟩ := H
        obtain ⟨q17, e18⟩ : ∃ q : Addr, q = Addr.add p13 (Int.toNat i6 * 1) := ⟨_, rfl⟩
        rw [← e18] at H
        refine s_pu (d := some 31) (v := (.pointer (some q17))) rfl rfl rfl (fun w => (r_indexAddr Try.underlying22 Try.sizeOf3 rfl rfl e14 e15 e16 w).trans (by rw [e18])) ?_
        obtain ⟨x19, e20, H⟩ := H
        refine s_rl (d := some 32) (v := (.int .i64 x19)) rfl rfl rfl (fun dr => r_load1 Try.isAgg3 rfl e20) ?_
        refine s_pu (d := some 33) (v := (.int .i64 (w64 (n7 + x19)))) rfl rfl rfl (r_add rfl rfl) ?_
        refine s_pu (d := some 6) (v := (.int .i64 (w64 (n7 + x19)))) rfl rfl rfl (r_assign rfl) ?_
        refine s_fin ?_
        show W _ _ _ _ _ _ _ _
        refine W_region (.pu 0 (.pu 1 (.pu 2 (.pu 3 (.pu 4 .fin))))) rfl rfl ?_
        refine s_pu (d := some 21) (v := (.int .i64 i6)) rfl rfl rfl (r_move rfl) ?_
        refine s_pu (d := some 22) (v := (.int .i64 i6)) rfl rfl rfl (r_move rfl) ?_
        refine s_pu (d := some 23) (v := (.int .i64 (w64 (i6 - 1)))) rfl rfl rfl (r_sub rfl rfl) ?_
        refine s_pu (d := some 24) (v := (.int .i64 (bAnd .i64 i6 (w64 (i6 - 1))))) rfl rfl rfl (r_and rfl rfl) ?_
        refine s_pu (d := some 1) (v := (.int .i64 (bAnd .i64 i6 (w64 (i6 - 1))))) rfl rfl rfl (r_assign rfl) ?_
        refine s_fin ?_
        exact WL_mk (l := [(0, (.pointer f1)), (1, (.int .i64 (bAnd .i64 i6 (w64 (i6 - 1))))), (6, (.int .i64 (w64 (n7 + x19))))]) H ⟨rfl, rfl, rfl, trivial⟩
      · have H := H.2 g21
        refine W_exit (inX_here ?_)
        show W _ _ _ _ _ _ _ _
        refine W_seq ?_
        refine W_region (.pu 0 (.pu 1 (.pu 2 .fin))) rfl rfl ?_
        refine s_pu (d := some 34) (v := (.int .i64 n7)) rfl rfl rfl (r_move rfl) ?_
        refine s_pu (d := some 4) (v := (.int .i64 n7)) rfl rfl rfl (r_assign rfl) ?_
        refine s_pu (d := some 5) (v := .nilIface) rfl rfl rfl (r_assign rfl) ?_
        refine s_fin ?_
        show W _ _ _ _ _ _ _ _
        refine W_ret ?_
        exact ⟨[(.int .i64 n7), .nilIface], ⟨_, _, rfl, rfl, ⟨_, _, rfl, rfl, rfl⟩⟩, n7, .nilIface, rfl, H⟩)
  clear eN5
  refine W_region (.pu 0 (.pu 1 (.pu 2 (.pu 3 (.pu 4 (.pu 5 (.pu 6 (.rl 7 (.pu 8 (.pu 9 (.pu 10 .fin))))))))))) rfl rfl ?_
  refine s_pu (d := some 7) (v := (.int .i64 i2)) rfl rfl rfl (r_move rfl) ?_
  refine s_pu (d := some 8) (v := (.bool (decide (i2 < 0)))) rfl rfl rfl (r_lss rfl rfl) ?_
  refine s_pu (d := some 9) (v := (.bool (decide (i2 < 0)))) rfl rfl rfl (r_move rfl) ?_
  rcases Bool.eq_false_or_eq_true (decide (i2 < 0)) with g23 | g23
  · have H := H.1 g23
    refine s_sk (d := some 10) rfl rfl (wants_no rfl rfl rfl rfl g23) ?_
    refine s_sk (d := some 11) rfl rfl (wants_no rfl rfl rfl rfl g23) ?_
    refine s_sk (d := some 12) rfl rfl (wants_no rfl rfl rfl rfl g23) ?_
    refine s_sk (d := some 13) rfl rfl (wants_no rfl rfl rfl rfl g23) ?_
    refine s_skl (d := some 14) rfl rfl (wants_no rfl rfl rfl rfl g23) ?_
    refine s_sk (d := some 15) rfl rfl (wants_no rfl rfl rfl rfl g23) ?_
    refine s_sk (d := some 16) rfl rfl (wants_no rfl rfl rfl rfl g23) ?_
    refine s_pu (d := some 17) (v := (.bool true)) rfl rfl rfl (r_pick1 rfl g23 rfl) ?_
    refine s_fin ?_
    exact N_mk (l := [(0, (.pointer f1)), (1, (.int .i64 i2)), (17, (.bool true))]) H ⟨rfl, rfl, rfl, trivial⟩
  · have H := H.2 g23
    refine s_pu (d := some 10) (v := (.int .i64 i2)) rfl rfl (wants_yes rfl rfl rfl rfl g23) (r_move rfl) ?_
    refine s_pu (d := some 11) (v := (.pointer f1)) rfl rfl (wants_yes rfl rfl rfl rfl g23) (r_move rfl) ?_
    obtain ⟨p24, e25, H⟩ := H
    refine s_pu (d := some 12) (v := (.pointer (some p24))) rfl rfl (wants_yes rfl rfl rfl rfl g23) (r_nilCheck rfl e25) ?_
    refine s_pu (d := some 13) (v := (.pointer (some (Addr.add p24 0)))) rfl rfl (wants_yes rfl rfl rfl rfl g23) (r_fieldAddr Try.underlying57 Try.sizeOf22 rfl rfl rfl) ?_
    obtain ⟨x26, e27, H⟩ := H
    refine s_rl (d := some 14) (v := (Sl.v x26)) rfl rfl (wants_yes rfl rfl rfl rfl g23) (fun dr => r_load1 Try.isAgg22 rfl e27) ?_
    refine s_pu (d := some 15) (v := (.int .i64 ((x26.len : Int)))) rfl rfl (wants_yes rfl rfl rfl rfl g23) (r_len Try.underlying22 rfl) ?_
    refine s_pu (d := some 16) (v := (.bool (decide (((x26.len : Int)) ≤ i2)))) rfl rfl (wants_yes rfl rfl rfl rfl g23) (r_geq rfl rfl) ?_
    refine s_pu (d := some 17) (v := (.bool (decide (((x26.len : Int)) ≤ i2)))) rfl rfl rfl (r_pick0 rfl g23 rfl) ?_
    refine s_fin ?_
    exact N_mk (l := [(0, (.pointer f1)), (1, (.int .i64 i2)), (17, (.bool (decide (((x26.len : Int)) ≤ i2))))]) H ⟨rfl, rfl, rfl, trivial⟩

end Go.Proofs.Ytfiemlcoliijoaa
