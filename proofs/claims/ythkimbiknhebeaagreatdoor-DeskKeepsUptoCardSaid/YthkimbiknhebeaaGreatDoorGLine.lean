/- Typed words of functions, and that they hold: printed by gen.py (an own tool of this claim) off the model's own form of each function. -/
import Derived.Test.YthkimbiknhebeaaGreatDoorProg
import Derived.Test.YthkimbiknhebeaaGreatDoorGDesk
import Derived.Test.YthkimbiknhebeaaGreatDoorTwB
namespace Go.Proofs.YthkimbiknhebeaaGreatDoor
open Go Go.RowKit Go.Tw
set_option linter.unusedVariables false
set_option maxRecDepth 100000
theorem slFGLine_23 : SlF Tryz.prog 23 9 1 16 (.string (⟨#[]⟩)) := ⟨Tryz.underlying23, ⟨Tryz.t9, by kernel_rfl, rfl, rfl, rfl⟩, rfl, Tryz.sizeOf9, Tryz.zeroValue9⟩
abbrev desk_forms (r : World)  (h : Heap) (R : Option Nat → Heap → Prop) : Prop :=
 CallsH Tryz.prog r 20 [] h fun v h' => ∃ (y1 : Option Nat), v = (.map y1) ∧ R y1 h'
abbrev desk_number (r : World) (s1 : ByteArray) (h : Heap) (Pn : Value → Heap → Prop) (R : Int → Heap → Prop) : Prop :=
 CallsHP Tryz.prog r 21 [(.string s1)] h (fun v h' => ∃ (y2 : Int), v = (.int .i64 y2) ∧ R y2 h') Pn
abbrev desk_desk_changed (r : World) (d1 : Option Addr) (s2 : Option Addr) (has3 : Bool) (h : Heap) (Pn : Value → Heap → Prop) (R : ByteArray → Heap → Prop) : Prop :=
 CallsHP Tryz.prog r 22 [(.pointer d1), (.agg #[(.pointer s2)]), (.bool has3)] h (fun v h' => ∃ (y4 : ByteArray), v = (.string y4) ∧ R y4 h') Pn
abbrev desk_desk_line (r : World) (d1 : Option Addr) (s2 : ByteArray) (h : Heap) (R : ByteArray → Heap → Prop) : Prop :=
 CallsH Tryz.prog r 11 [(.pointer d1), (.string s2)] h fun v h' => ∃ (y3 : ByteArray), v = (.string y3) ∧ R y3 h'
abbrev desk_Run (r : World) (script1 : ByteArray) (h : Heap) (R : Sl → Heap → Prop) : Prop :=
 CallsH Tryz.prog r 6 [(.string script1)] h fun v h' => ∃ (y2 : Sl), v = (Sl.v y2) ∧ R y2 h'
def desk_forms_F (r : World)  (h : Heap) (R : Option Nat → Heap → Prop) : Prop :=
 NewM h fun m1 h1 =>
 InsM h1 m1 (⟨#[105, 110, 115]⟩) (.int .i64 2) fun h2 =>
 InsM h2 m1 (⟨#[100, 101, 108]⟩) (.int .i64 1) fun h3 =>
 InsM h3 m1 (⟨#[99, 117, 116]⟩) (.int .i64 2) fun h4 =>
 InsM h4 m1 (⟨#[115, 117, 109]⟩) (.int .i64 2) fun h5 =>
 InsM h5 m1 (⟨#[112, 117, 116]⟩) (.int .i64 1) fun h6 =>
 InsM h6 m1 (⟨#[100, 114, 111, 112]⟩) (.int .i64 1) fun h7 =>
 InsM h7 m1 (⟨#[114, 97, 110, 107]⟩) (.int .i64 1) fun h8 =>
 InsM h8 m1 (⟨#[108, 105, 115, 116]⟩) (.int .i64 0) fun h9 =>
 InsM h9 m1 (⟨#[115, 101, 116]⟩) (.int .i64 0) fun h10 =>
 R ((some m1)) h10
theorem desk_forms_of {r : World}  {h : Heap} {R : Option Nat → Heap → Prop} (H : desk_forms_F r  h R) : desk_forms r  h R := by
 unfold desk_forms_F at H
 refine calls_of 3 [.tmp 0] Tryz.func20 rfl rfl rfl rfl rfl ?_
 refine W_seq ?_
 refine W_region (.pu 0 .fin) rfl rfl ?_
 refine sp 0 (.map none) rfl rfl (r_assign rfl) ?_
 refine s_fin ?_
 refine W_seq ?_
 refine W_region (.ef 0 [] (.ef 1 [] (.ef 2 [] (.ef 3 [] (.ef 4 [] (.ef 5 [] (.ef 6 [] (.ef 7 [] (.ef 8 [] (.ef 9 [] (.pu 10 (.pu 11 .fin)) .no) .no) .no) .no) .no) .no) .no) .no) .no) .no) rfl rfl ?_
 obtain ⟨m1, e2⟩ : ∃ m : Nat, m = Array.size h := ⟨_, rfl⟩
 obtain ⟨h1, e3⟩ : ∃ hh : Heap, hh = h.push (.map #[] 0) := ⟨_, rfl⟩
 have H := H m1 h1 e2 e3
 refine s_ef1 (d := some 1) (v := (.map ((some m1)))) (h' := h1) rfl rfl rfl (fun dr => r_makeMap.trans (by rw [e2, e3])) trivial ?_ trivial
 obtain ⟨e4, e5, e6, e7, H⟩ := H
 obtain ⟨h2, e8⟩ : ∃ hh : Heap, hh = hput h1 m1 (.map (e4.push { key := .string (⟨#[105, 110, 115]⟩), val := (.int .i64 2), born := e5 }) (e5 + 1)) := ⟨_, rfl⟩
 have H := H h2 e8
 refine s_st (d := none) (h' := h2) rfl rfl rfl (fun dr => (r_insert (v := (.int .i64 2)) Tryz.underlying57 Tryz.underlying9 rfl rfl rfl e6 e7).trans (congrArg (fun g => Result.ok Next.skip (wd r g dr)) e8.symm)) trivial ?_ trivial
 obtain ⟨e9, e10, e11, e12, H⟩ := H
 obtain ⟨h3, e13⟩ : ∃ hh : Heap, hh = hput h2 m1 (.map (e9.push { key := .string (⟨#[100, 101, 108]⟩), val := (.int .i64 1), born := e10 }) (e10 + 1)) := ⟨_, rfl⟩
 have H := H h3 e13
 refine s_st (d := none) (h' := h3) rfl rfl rfl (fun dr => (r_insert (v := (.int .i64 1)) Tryz.underlying57 Tryz.underlying9 rfl rfl rfl e11 e12).trans (congrArg (fun g => Result.ok Next.skip (wd r g dr)) e13.symm)) trivial ?_ trivial
 obtain ⟨e14, e15, e16, e17, H⟩ := H
 obtain ⟨h4, e18⟩ : ∃ hh : Heap, hh = hput h3 m1 (.map (e14.push { key := .string (⟨#[99, 117, 116]⟩), val := (.int .i64 2), born := e15 }) (e15 + 1)) := ⟨_, rfl⟩
 have H := H h4 e18
 refine s_st (d := none) (h' := h4) rfl rfl rfl (fun dr => (r_insert (v := (.int .i64 2)) Tryz.underlying57 Tryz.underlying9 rfl rfl rfl e16 e17).trans (congrArg (fun g => Result.ok Next.skip (wd r g dr)) e18.symm)) trivial ?_ trivial
 obtain ⟨e19, e20, e21, e22, H⟩ := H
 obtain ⟨h5, e23⟩ : ∃ hh : Heap, hh = hput h4 m1 (.map (e19.push { key := .string (⟨#[115, 117, 109]⟩), val := (.int .i64 2), born := e20 }) (e20 + 1)) := ⟨_, rfl⟩
 have H := H h5 e23
 refine s_st (d := none) (h' := h5) rfl rfl rfl (fun dr => (r_insert (v := (.int .i64 2)) Tryz.underlying57 Tryz.underlying9 rfl rfl rfl e21 e22).trans (congrArg (fun g => Result.ok Next.skip (wd r g dr)) e23.symm)) trivial ?_ trivial
 obtain ⟨e24, e25, e26, e27, H⟩ := H
 obtain ⟨h6, e28⟩ : ∃ hh : Heap, hh = hput h5 m1 (.map (e24.push { key := .string (⟨#[112, 117, 116]⟩), val := (.int .i64 1), born := e25 }) (e25 + 1)) := ⟨_, rfl⟩
 have H := H h6 e28
 refine s_st (d := none) (h' := h6) rfl rfl rfl (fun dr => (r_insert (v := (.int .i64 1)) Tryz.underlying57 Tryz.underlying9 rfl rfl rfl e26 e27).trans (congrArg (fun g => Result.ok Next.skip (wd r g dr)) e28.symm)) trivial ?_ trivial
 obtain ⟨e29, e30, e31, e32, H⟩ := H
 obtain ⟨h7, e33⟩ : ∃ hh : Heap, hh = hput h6 m1 (.map (e29.push { key := .string (⟨#[100, 114, 111, 112]⟩), val := (.int .i64 1), born := e30 }) (e30 + 1)) := ⟨_, rfl⟩
 have H := H h7 e33
 refine s_st (d := none) (h' := h7) rfl rfl rfl (fun dr => (r_insert (v := (.int .i64 1)) Tryz.underlying57 Tryz.underlying9 rfl rfl rfl e31 e32).trans (congrArg (fun g => Result.ok Next.skip (wd r g dr)) e33.symm)) trivial ?_ trivial
 obtain ⟨e34, e35, e36, e37, H⟩ := H
 obtain ⟨h8, e38⟩ : ∃ hh : Heap, hh = hput h7 m1 (.map (e34.push { key := .string (⟨#[114, 97, 110, 107]⟩), val := (.int .i64 1), born := e35 }) (e35 + 1)) := ⟨_, rfl⟩
 have H := H h8 e38
 refine s_st (d := none) (h' := h8) rfl rfl rfl (fun dr => (r_insert (v := (.int .i64 1)) Tryz.underlying57 Tryz.underlying9 rfl rfl rfl e36 e37).trans (congrArg (fun g => Result.ok Next.skip (wd r g dr)) e38.symm)) trivial ?_ trivial
 obtain ⟨e39, e40, e41, e42, H⟩ := H
 obtain ⟨h9, e43⟩ : ∃ hh : Heap, hh = hput h8 m1 (.map (e39.push { key := .string (⟨#[108, 105, 115, 116]⟩), val := (.int .i64 0), born := e40 }) (e40 + 1)) := ⟨_, rfl⟩
 have H := H h9 e43
 refine s_st (d := none) (h' := h9) rfl rfl rfl (fun dr => (r_insert (v := (.int .i64 0)) Tryz.underlying57 Tryz.underlying9 rfl rfl rfl e41 e42).trans (congrArg (fun g => Result.ok Next.skip (wd r g dr)) e43.symm)) trivial ?_ trivial
 obtain ⟨e44, e45, e46, e47, H⟩ := H
 obtain ⟨h10, e48⟩ : ∃ hh : Heap, hh = hput h9 m1 (.map (e44.push { key := .string (⟨#[115, 101, 116]⟩), val := (.int .i64 0), born := e45 }) (e45 + 1)) := ⟨_, rfl⟩
 have H := H h10 e48
 refine s_st (d := none) (h' := h10) rfl rfl rfl (fun dr => (r_insert (v := (.int .i64 0)) Tryz.underlying57 Tryz.underlying9 rfl rfl rfl e46 e47).trans (congrArg (fun g => Result.ok Next.skip (wd r g dr)) e48.symm)) trivial ?_ trivial
 refine sp 2 (.map ((some m1))) rfl rfl (r_move rfl) ?_
 refine sp 0 (.map ((some m1))) rfl rfl (r_assign rfl) ?_
 refine s_fin ?_
 refine W_ret ?_
 exact ⟨[(.map ((some m1)))], ⟨_, _, rfl, rfl, rfl⟩, ((some m1)), rfl, H⟩
def desk_number_F (r : World) (s1 : ByteArray) (h : Heap) (Pn : Value → Heap → Prop) (R : Int → Heap → Prop) : Prop :=
 strconv_Atoi r s1 h fun y2 y3 h1 =>
 ∀ J5 : Bool → Heap → Prop, (∀ (x4 : Bool) (h2 : Heap),
  (∀ J7 : Heap → Prop, (∀ (h3 : Heap),
   (R y2 h3) →
   J7 h3) →
  Br x4 (
   Pn ((.iface 34 (.int .i64 6))) h2) (
   J7 h2)) →
  J5 x4 h2) →
 (isIface y3 = true) ∧
 Br (!(isNil y3)) (
  J5 true h1) (
  Br (decide (y2 < ((-1073741824)))) (
   J5 true h1) (
   Br (decide (1073741824 < y2)) (
    J5 true h1) (
    strconv_Itoa r y2 h1 fun y14 h4 =>
    J5 (!decide (y14 = s1)) h4)))
theorem desk_number_of {r : World} {s1 : ByteArray} {h : Heap} {Pn : Value → Heap → Prop} {R : Int → Heap → Prop} (H : desk_number_F r s1 h Pn R) : desk_number r s1 h Pn R := by
 unfold desk_number_F at H
 refine calls_ofP 28 [.tmp 2] Tryz.func21 rfl rfl rfl rfl rfl ?_
 refine W_seq ?_
 refine W_region (.pu 0 .fin) rfl rfl ?_
 refine sp 2 (.int .i64 0) rfl rfl (r_assign rfl) ?_
 refine s_fin ?_
 refine W_seq ?_
 refine W_region (.pu 0 (.ef 1 [] (.pu 2 (.pu 3 (.pu 4 (.pu 5 (.pu 6 .fin))))) .no)) rfl rfl ?_
 refine sp 6 (.string s1) rfl rfl (r_move rfl) ?_
 refine sc 7 rfl rfl (fun dr => r_call Tryz.call43 rfl rfl H) ?_
 rintro _ h1 ⟨y2, y3, rfl, H⟩
 refine sp 5 (.tuple #[(.int .i64 y2), y3]) rfl rfl (r_move rfl) ?_
 refine sp 8 (.int .i64 y2) rfl rfl (r_extract rfl rfl) ?_
 refine sp 9 y3 rfl rfl (r_extract rfl rfl) ?_
 refine sp 3 (.int .i64 y2) rfl rfl (r_assign rfl) ?_
 refine sp 4 y3 rfl rfl (r_assign rfl) ?_
 refine s_fin ?_
 refine W_seq ?_
 refine W_seq ?_
 refine W_set ?_
 intro N6 eN6
 have H := H (fun (x4 : Bool) (h2 : Heap) => ∀ b, N6 [] (mkE [(3, (.int .i64 y2)), (25, (.bool x4))] b) h2) (by
  intro x4 h2 H b
  rw [eN6]
  show W _ _ _ _ _ _ _ _
  refine W_set ?_
  intro N8 eN8
  have H := H (fun (h3 : Heap) => ∀ b, N8 [] (mkE [(3, (.int .i64 y2))] b) h3) (by
   intro h3 H b
   rw [eN8]
   show W _ _ _ _ _ _ _ _
   refine W_seq ?_
   refine W_region (.pu 0 (.pu 1 .fin)) rfl rfl ?_
   refine sp 27 (.int .i64 y2) rfl rfl (r_move rfl) ?_
   refine sp 2 (.int .i64 y2) rfl rfl (r_assign rfl) ?_
   refine s_fin ?_
   refine W_ret ?_
   exact ⟨[(.int .i64 y2)], ⟨_, _, rfl, rfl, rfl⟩, y2, rfl, H⟩)
  clear eN8
  refine W_if x4 rfl (fun g9 => ?_) (fun g9 => ?_)
  ·have H := H.1 g9
   refine W_region (.pu 0 (.ef 1 [] .fin .no)) rfl rfl ?_
   refine sp 26 ((.iface 34 (.int .i64 6))) rfl rfl (r_iface Tryz.underlying34 rfl rfl) ?_
   refine s_efP (d := none) (k := fun _ _ => False) rfl rfl rfl (fun dr => r_panic rfl ⟨rfl, H⟩) (fun _ _ hf => hf.elim) trivial
  ·have H := H.2 g9
   refine W_skip ?_
   exact N_mk (l := [(3, (.int .i64 y2))]) H ⟨rfl, trivial⟩)
 clear eN6
 refine W_region (.pu 0 (.pu 1 (.pu 2 (.pu 3 (.pu 4 (.pu 5 (.pu 6 (.pu 7 (.pu 8 (.pu 9 (.pu 10 (.pu 11 (.ef 12 [] (.pu 13 (.pu 14 (.pu 15 .fin))) .no))))))))))))) rfl rfl ?_
 refine sp 10 y3 rfl rfl (r_move rfl) ?_
 obtain ⟨e10, H⟩ := H
 refine sp 11 (.bool (!(isNil y3))) rfl rfl (r_notNilI Tryz.underlying82 rfl e10 rfl) ?_
 refine sp 12 (.bool (!(isNil y3))) rfl rfl (r_move rfl) ?_
 rcases Bool.eq_false_or_eq_true (!(isNil y3)) with g11 | g11
 ·have H := H.1 g11
  refine s_sk (d := some 13) rfl rfl (wants_no rfl rfl rfl rfl g11) ?_
  refine s_sk (d := some 14) rfl rfl (wants_no rfl rfl rfl rfl g11) ?_
  refine sp 15 (.bool true) rfl rfl (r_pick1 rfl g11 rfl) ?_
  refine sp 16 (.bool true) rfl rfl (r_move rfl) ?_
  refine s_sk (d := some 17) rfl rfl (wants_no rfl rfl rfl rfl rfl) ?_
  refine s_sk (d := some 18) rfl rfl (wants_no rfl rfl rfl rfl rfl) ?_
  refine sp 19 (.bool true) rfl rfl (r_pick1 rfl rfl rfl) ?_
  refine sp 20 (.bool true) rfl rfl (r_move rfl) ?_
  refine s_sk (d := some 21) rfl rfl (wants_no rfl rfl rfl rfl rfl) ?_
  refine s_skf (d := some 22) rfl rfl (wants_no rfl rfl rfl rfl rfl) trivial ?_ trivial
  refine s_sk (d := some 23) rfl rfl (wants_no rfl rfl rfl rfl rfl) ?_
  refine s_sk (d := some 24) rfl rfl (wants_no rfl rfl rfl rfl rfl) ?_
  refine sp 25 (.bool true) rfl rfl (r_pick1 rfl rfl rfl) ?_
  refine s_fin ?_
  exact N_mk (l := [(3, (.int .i64 y2)), (25, (.bool true))]) H ⟨rfl, rfl, trivial⟩
 ·have H := H.2 g11
  refine s_pu (d := some 13) (v := (.int .i64 y2)) rfl rfl (wants_yes rfl rfl rfl rfl g11) (r_move rfl) ?_
  refine s_pu (d := some 14) (v := (.bool (decide (y2 < ((-1073741824)))))) rfl rfl (wants_yes rfl rfl rfl rfl g11) (r_lss rfl rfl) ?_
  refine sp 15 (.bool (decide (y2 < ((-1073741824))))) rfl rfl (r_pick0 rfl g11 rfl) ?_
  refine sp 16 (.bool (decide (y2 < ((-1073741824))))) rfl rfl (r_move rfl) ?_
  rcases Bool.eq_false_or_eq_true (decide (y2 < ((-1073741824)))) with g12 | g12
  ·have H := H.1 g12
   refine s_sk (d := some 17) rfl rfl (wants_no rfl rfl rfl rfl g12) ?_
   refine s_sk (d := some 18) rfl rfl (wants_no rfl rfl rfl rfl g12) ?_
   refine sp 19 (.bool true) rfl rfl (r_pick1 rfl g12 rfl) ?_
   refine sp 20 (.bool true) rfl rfl (r_move rfl) ?_
   refine s_sk (d := some 21) rfl rfl (wants_no rfl rfl rfl rfl rfl) ?_
   refine s_skf (d := some 22) rfl rfl (wants_no rfl rfl rfl rfl rfl) trivial ?_ trivial
   refine s_sk (d := some 23) rfl rfl (wants_no rfl rfl rfl rfl rfl) ?_
   refine s_sk (d := some 24) rfl rfl (wants_no rfl rfl rfl rfl rfl) ?_
   refine sp 25 (.bool true) rfl rfl (r_pick1 rfl rfl rfl) ?_
   refine s_fin ?_
   exact N_mk (l := [(3, (.int .i64 y2)), (25, (.bool true))]) H ⟨rfl, rfl, trivial⟩
  ·have H := H.2 g12
   refine s_pu (d := some 17) (v := (.int .i64 y2)) rfl rfl (wants_yes rfl rfl rfl rfl g12) (r_move rfl) ?_
   refine s_pu (d := some 18) (v := (.bool (decide (1073741824 < y2)))) rfl rfl (wants_yes rfl rfl rfl rfl g12) (r_gtr rfl rfl) ?_
   refine sp 19 (.bool (decide (1073741824 < y2))) rfl rfl (r_pick0 rfl g12 rfl) ?_
   refine sp 20 (.bool (decide (1073741824 < y2))) rfl rfl (r_move rfl) ?_
   rcases Bool.eq_false_or_eq_true (decide (1073741824 < y2)) with g13 | g13
   ·have H := H.1 g13
    refine s_sk (d := some 21) rfl rfl (wants_no rfl rfl rfl rfl g13) ?_
    refine s_skf (d := some 22) rfl rfl (wants_no rfl rfl rfl rfl g13) trivial ?_ trivial
    refine s_sk (d := some 23) rfl rfl (wants_no rfl rfl rfl rfl g13) ?_
    refine s_sk (d := some 24) rfl rfl (wants_no rfl rfl rfl rfl g13) ?_
    refine sp 25 (.bool true) rfl rfl (r_pick1 rfl g13 rfl) ?_
    refine s_fin ?_
    exact N_mk (l := [(3, (.int .i64 y2)), (25, (.bool true))]) H ⟨rfl, rfl, trivial⟩
   ·have H := H.2 g13
    refine s_pu (d := some 21) (v := (.int .i64 y2)) rfl rfl (wants_yes rfl rfl rfl rfl g13) (r_move rfl) ?_
    refine s_ef (d := some 22) rfl rfl (wants_yes rfl rfl rfl rfl g13) (fun dr => r_call Tryz.call27 rfl rfl H) ?_ trivial
    rintro _ h4 ⟨y14, rfl, H⟩
    refine ⟨trivial, ?_⟩
    refine s_pu (d := some 23) (v := (.string s1)) rfl rfl (wants_yes rfl rfl rfl rfl g13) (r_move rfl) ?_
    refine s_pu (d := some 24) (v := (.bool (!decide (y14 = s1)))) rfl rfl (wants_yes rfl rfl rfl rfl g13) (r_neqT rfl rfl) ?_
    refine sp 25 (.bool (!decide (y14 = s1))) rfl rfl (r_pick0 rfl g13 rfl) ?_
    refine s_fin ?_
    exact N_mk (l := [(3, (.int .i64 y2)), (25, (.bool (!decide (y14 = s1))))]) H ⟨rfl, rfl, trivial⟩
def desk_desk_changed_F (r : World) (d1 : Option Addr) (s2 : Option Addr) (has3 : Bool) (h : Heap) (Pn : Value → Heap → Prop) (R : ByteArray → Heap → Prop) : Prop :=
 New h (.cells #[(.pointer s2)] 41) fun p4 h1 =>
 ∀ J7 : Heap → Prop, (∀ (h2 : Heap),
  (LdP h2 (Addr.add p4 0) fun x9 =>
  Ck d1 fun p11 =>
  St h2 (Addr.add p11 0) 1 [(.pointer x9)] fun h3 =>
  Ck d1 fun p15 =>
  LdP h3 (Addr.add (Addr.add p15 0) 0) fun x17 =>
  seq_Seq_Len r x17 h3 fun y19 h4 =>
  strconv_Itoa r y19 h4 fun y20 h5 =>
  R y20 h5) →
  J7 h2) →
 Br (!has3) (
  Pn ((.iface 34 (.int .i64 1))) h1) (
  J7 h1)
theorem desk_desk_changed_of {r : World} {d1 : Option Addr} {s2 : Option Addr} {has3 : Bool} {h : Heap} {Pn : Value → Heap → Prop} {R : ByteArray → Heap → Prop} (H : desk_desk_changed_F r d1 s2 has3 h Pn R) : desk_desk_changed r d1 s2 has3 h Pn R := by
 unfold desk_desk_changed_F at H
 refine calls_ofP 20 [.tmp 6] Tryz.func22 rfl rfl rfl rfl rfl ?_
 refine W_seq ?_
 refine W_region (.ef 0 [] (.pu 1 .fin) .no) rfl rfl ?_
 obtain ⟨p4, e5⟩ : ∃ p : Addr, p = ⟨h.size, 0, none⟩ := ⟨_, rfl⟩
 obtain ⟨h1, e6⟩ : ∃ hh : Heap, hh = h.push (.cells #[(.pointer s2)] 41) := ⟨_, rfl⟩
 have H := H p4 h1 e5 e6
 refine s_ef1 (d := some 4) (v := (.pointer (some p4))) (h' := h1) rfl rfl rfl (fun dr => (r_box (v := (.agg #[(.pointer s2)])) rfl).trans (by rw [e5, e6]; rfl)) trivial ?_ trivial
 refine sp 6 (.string (⟨#[]⟩)) rfl rfl (r_assign rfl) ?_
 refine s_fin ?_
 refine W_seq ?_
 refine W_seq ?_
 refine W_region (.pu 0 (.pu 1 .fin)) rfl rfl ?_
 refine sp 7 (.bool has3) rfl rfl (r_move rfl) ?_
 refine sp 8 (.bool (!has3)) rfl rfl (r_not rfl) ?_
 refine s_fin ?_
 refine W_set ?_
 intro N8 eN8
 have H := H (fun (h2 : Heap) => ∀ b, N8 [] (mkE [(0, (.pointer d1)), (4, (.pointer (some p4)))] b) h2) (by
  intro h2 H b
  rw [eN8]
  show W _ _ _ _ _ _ _ _
  refine W_seq ?_
  refine W_region (.pu 0 (.rl 1 (.pu 2 (.pu 3 (.ef 4 [] .fin .no))))) rfl rfl ?_
  refine sp 10 (.pointer d1) rfl rfl (r_move rfl) ?_
  obtain ⟨x9, e10, H⟩ := H
  refine sl 11 (.agg #[(.pointer x9)]) rfl rfl (fun dr => r_loadN Tryz.isAgg41 Tryz.sizeOf41 (vs := [(.pointer x9)]) rfl rfl ⟨e10, trivial⟩) ?_
  obtain ⟨p11, e12, H⟩ := H
  refine sp 12 (.pointer (some p11)) rfl rfl (r_nilCheck rfl e12) ?_
  refine sp 13 (.pointer (some (Addr.add p11 0))) rfl rfl (r_fieldAddr Tryz.underlying46 Tryz.sizeOf41 rfl rfl rfl) ?_
  obtain ⟨e14, H⟩ := H
  obtain ⟨h3, e13⟩ : ∃ hh : Heap, hh = hsets h2 (Addr.add p11 0) 0 [(.pointer x9)] := ⟨_, rfl⟩
  have H := H h3 e13
  refine s_st (d := none) (h' := h3) rfl rfl rfl (fun dr => (r_store (v := (.agg #[(.pointer x9)])) Tryz.sizeOf41 rfl rfl rfl (one_all rfl) e14).trans (by rw [e13]; rfl)) trivial ?_ trivial
  refine s_fin ?_
  refine W_seq ?_
  refine W_region (.pu 0 (.pu 1 (.pu 2 (.rl 3 (.ef 4 [] (.ef 5 [] (.pu 6 .fin) .no) .no))))) rfl rfl ?_
  refine sp 14 (.pointer d1) rfl rfl (r_move rfl) ?_
  obtain ⟨p15, e16, H⟩ := H
  refine sp 15 (.pointer (some p15)) rfl rfl (r_nilCheck rfl e16) ?_
  refine sp 16 (.pointer (some (Addr.add p15 0))) rfl rfl (r_fieldAddr Tryz.underlying46 Tryz.sizeOf41 rfl rfl rfl) ?_
  obtain ⟨x17, e18, H⟩ := H
  refine sl 17 (.agg #[(.pointer x17)]) rfl rfl (fun dr => r_loadN Tryz.isAgg41 Tryz.sizeOf41 (vs := [(.pointer x17)]) rfl rfl ⟨e18, trivial⟩) ?_
  refine sc 18 rfl rfl (fun dr => r_call Tryz.call44 rfl rfl H) ?_
  rintro _ h4 ⟨y19, rfl, H⟩
  refine sc 19 rfl rfl (fun dr => r_call Tryz.call27 rfl rfl H) ?_
  rintro _ h5 ⟨y20, rfl, H⟩
  refine sp 6 (.string y20) rfl rfl (r_assign rfl) ?_
  refine s_fin ?_
  refine W_ret ?_
  exact ⟨[(.string y20)], ⟨_, _, rfl, rfl, rfl⟩, y20, rfl, H⟩)
 clear eN8
 refine W_if (!has3) rfl (fun g21 => ?_) (fun g21 => ?_)
 ·have H := H.1 g21
  refine W_region (.pu 0 (.ef 1 [] .fin .no)) rfl rfl ?_
  refine sp 9 ((.iface 34 (.int .i64 1))) rfl rfl (r_iface Tryz.underlying34 rfl rfl) ?_
  refine s_efP (d := none) (k := fun _ _ => False) rfl rfl rfl (fun dr => r_panic rfl ⟨rfl, H⟩) (fun _ _ hf => hf.elim) trivial
 ·have H := H.2 g21
  refine W_skip ?_
  exact N_mk (l := [(0, (.pointer d1)), (4, (.pointer (some p4)))]) H ⟨rfl, rfl, trivial⟩
def desk_desk_line_1_F (r : World) (p : Addr) (k : Int) (h : Heap) (R : Heap → Prop) : Prop :=
 Br (!(isNil ((.iface 34 (.int .i64 k))))) (
  api_Errno_Error r k h fun y3 h1 =>
  St h1 p 1 [(.string y3)] fun h2 =>
  R h2) (
  R h)
noncomputable def desk_desk_line_1_rest : Code := match (Tryz.f19).body with | some (.seq _ y) => y | _ => .skip
theorem desk_desk_line_1_W {r : World} {p : Addr} {k : Int} {h : Heap} {R : Heap → Prop} (H : desk_desk_line_1_F r p k h R) (b : Env) : W ⟨Tryz.prog, r, .none, 17, none, noPan⟩ [] desk_desk_line_1_rest (fun d _ h => d = [] ∧ R h) (fun _ _ _ _ => False) (fun d _ h => d = [] ∧ R h) (mkE [(0, .pointer (some p)), (1, (.iface 34 (.int .i64 k)))] b) h := by
 unfold desk_desk_line_1_F at H
 unfold desk_desk_line_1_rest
 refine W_seq ?_
 refine W_region (.pu 0 (.pu 1 .fin)) rfl rfl ?_
 refine sp 5 ((.iface 34 (.int .i64 k))) rfl rfl (r_move rfl) ?_
 refine sp 6 (.bool (!(isNil ((.iface 34 (.int .i64 k)))))) rfl rfl (r_notNilI Tryz.underlying20 rfl rfl rfl) ?_
 refine s_fin ?_
 refine W_if (!(isNil ((.iface 34 (.int .i64 k))))) rfl (fun g6 => ?_) (fun g6 => ?_)
 ·have H := H.1 g6
  refine W_seq ?_
  refine W_region (.pu 0 (.pu 1 (.pu 2 (.pu 3 (.pu 4 (.pu 5 (.pu 6 .fin))))))) rfl rfl ?_
  refine sp 8 ((.iface 34 (.int .i64 k))) rfl rfl (r_move rfl) ?_
  refine sp 9 (.tuple #[(.int .i64 k), (.bool true)]) rfl rfl (r_assert Tryz.underlying34 rfl) ?_
  refine sp 7 (.tuple #[(.int .i64 k), (.bool true)]) rfl rfl (r_move rfl) ?_
  refine sp 10 (.int .i64 k) rfl rfl (r_extract rfl rfl) ?_
  refine sp 11 (.bool true) rfl rfl (r_extract rfl rfl) ?_
  refine sp 2 (.int .i64 k) rfl rfl (r_assign rfl) ?_
  refine sp 3 (.bool true) rfl rfl (r_assign rfl) ?_
  refine s_fin ?_
  refine W_seq ?_
  refine W_seq ?_
  refine W_region (.pu 0 (.pu 1 .fin)) rfl rfl ?_
  refine sp 12 (.bool true) rfl rfl (r_move rfl) ?_
  refine sp 13 (.bool false) rfl rfl (r_not (a := true) rfl) ?_
  refine s_fin ?_
  refine W_if false rfl (fun hg => by cases hg) (fun _ => ?_)
  refine W_skip ?_
  show W _ _ _ _ _ _ _ _
  refine W_region (.pu 0 (.ef 1 [] (.ef 2 [] .fin .no) .no)) rfl rfl ?_
  refine sp 15 (.int .i64 k) rfl rfl (r_move rfl) ?_
  refine sc 16 rfl rfl (fun dr => r_call Tryz.call10 rfl rfl H) ?_
  rintro _ h1 ⟨y3, rfl, H⟩
  obtain ⟨e5, H⟩ := H
  obtain ⟨h2, e4⟩ : ∃ hh : Heap, hh = hsets h1 p 0 [(.string y3)] := ⟨_, rfl⟩
  have H := H h2 e4
  refine s_st (d := none) (h' := h2) rfl rfl rfl (fun dr => (r_store (v := (.string y3)) Tryz.sizeOf9 rfl rfl rfl (one_all rfl) e5).trans (by rw [e4]; rfl)) trivial ?_ trivial
  refine s_fin ?_
  exact ⟨rfl, H⟩
 ·have H := H.2 g6
  refine W_skip ?_
  exact ⟨rfl, H⟩
def desk_desk_line_F (r : World) (d1 : Option Addr) (s2 : ByteArray) (h : Heap) (Pn : Addr → Value → Heap → Prop) (R : ByteArray → Heap → Prop) : Prop :=
 New h (.cells #[(.string (⟨#[]⟩))] 9) fun p3 h1 =>
 strings_Split r s2 (⟨#[32]⟩) h1 fun y6 h2 =>
 Ix y6 0 1 fun q11 =>
 LdT h2 q11 fun x13 =>
 desk_forms r h2 fun y15 h3 =>
 (hcell h3 q11 = some (.string x13)) ∧
 LkI h3 y15 x13 fun x23 b24 =>
 Br ((!b24) || (!decide (((y6.len : Int)) = (w64 (x23 + 1))))) (
  api_Errno_Error r 6 h3 fun y28 h4 =>
  St h4 p3 1 [(.string y28)] fun h5 =>
  LdT h5 p3 fun x31 =>
  R x31 h5) (
  New h3 (.cells #[(.int .i64 0), (.int .i64 0)] 59) fun p33 h6 =>
  Sub y6 1 ((y6.len : Int)) ((y6.cap : Int)) 1 fun s36 =>
  ∀ X43 : Int → Heap → Prop, (∀ (x42 : Int) (h7 : Heap),
   (Br (decide (x42 < ((s36.len : Int)))) (
    Ix s36 x42 1 fun q48 =>
    LdT h7 q48 fun x50 =>
    desk_number r x50 h7 (Pn p3) fun y52 h8 =>
    ((0 : Int) ≤ x42 ∧ x42 < 2) ∧ ∀ q55 : Addr, q55 = Addr.add p33 (Int.toNat x42 * 1) →
    St h8 q55 1 [(.int .i64 y52)] fun h9 =>
    X43 (w64 (x42 + 1)) h9) (
    Ix y6 0 1 fun q63 =>
    LdT h7 q63 fun x65 =>
    Br (decide (x65 = (⟨#[105, 110, 115]⟩))) (
     Ck d1 fun p67 =>
     LdP h7 (Addr.add (Addr.add p67 0) 0) fun x69 =>
     LdI h7 (Addr.add p33 0) fun x71 =>
     LdI h7 (Addr.add p33 1) fun x73 =>
     seq_Seq_Insert r x69 x71 x73 h7 fun y75 y76 h10 =>
     desk_desk_changed r d1 y75 y76 h10 (Pn p3) fun y77 h11 =>
     St h11 p3 1 [(.string y77)] fun h12 =>
     LdT h12 p3 fun x80 =>
     R x80 h12) (
     Br (decide (x65 = (⟨#[100, 101, 108]⟩))) (
      Ck d1 fun p82 =>
      LdP h7 (Addr.add (Addr.add p82 0) 0) fun x84 =>
      LdI h7 (Addr.add p33 0) fun x86 =>
      seq_Seq_Delete r x84 x86 h7 fun y88 y89 h13 =>
      desk_desk_changed r d1 y88 y89 h13 (Pn p3) fun y90 h14 =>
      St h14 p3 1 [(.string y90)] fun h15 =>
      LdT h15 p3 fun x93 =>
      R x93 h15) (
      Br (decide (x65 = (⟨#[99, 117, 116]⟩))) (
       Ck d1 fun p95 =>
       LdP h7 (Addr.add (Addr.add p95 0) 0) fun x97 =>
       LdI h7 (Addr.add p33 0) fun x99 =>
       LdI h7 (Addr.add p33 1) fun x101 =>
       seq_Seq_Slice r x97 x99 x101 h7 fun y103 y104 h16 =>
       desk_desk_changed r d1 y103 y104 h16 (Pn p3) fun y105 h17 =>
       St h17 p3 1 [(.string y105)] fun h18 =>
       LdT h18 p3 fun x108 =>
       R x108 h18) (
       Br (decide (x65 = (⟨#[115, 117, 109]⟩))) (
        ∀ J112 : Addr → Bool → Heap → Prop, (∀ (p110 : Addr) (has111 : Bool) (h19 : Heap),
         (∀ J114 : Heap → Prop, (∀ (h20 : Heap),
          (LdI h20 (Addr.add p110 1) fun x116 =>
          strconv_Itoa r x116 h20 fun y118 h21 =>
          St h21 p3 1 [(.string y118)] fun h22 =>
          LdT h22 p3 fun x121 =>
          R x121 h22) →
          J114 h20) →
         Br (!has111) (
          Pn p3 ((.iface 34 (.int .i64 1))) h19) (
          J114 h19)) →
         J112 p110 has111 h19) →
        Ck d1 fun p124 =>
        LdP h7 (Addr.add (Addr.add p124 0) 0) fun x126 =>
        LdI h7 (Addr.add p33 0) fun x128 =>
        LdI h7 (Addr.add p33 1) fun x130 =>
        (seq_Seq_Measure r x126 x128 x130 h7 fun y132 y133 y134 y135 y136 y137 h23 =>
        New h23 (.cells #[(.int .i64 0), (.int .i64 0), (.int .i64 0), (.int .i64 0), (.int .i64 0)] 66) fun p138 h24 =>
        (hcell h24 (Addr.add p33 1) = some (.int .i64 x130)) ∧
        (hcell h24 (Addr.add p33 0) = some (.int .i64 x128)) ∧
        (hcell h24 (Addr.add (Addr.add p124 0) 0) = some (.pointer x126)) ∧
        St h24 p138 5 [(.int .i64 y132), (.int .i64 y133), (.int .i64 y134), (.int .i64 y135), (.int .i64 y136)] fun h25 =>
        J112 p138 y137 h25) ∧
        (New h7 (.cells #[(.int .i64 0), (.int .i64 0), (.int .i64 0), (.int .i64 0), (.int .i64 0)] 66) fun p146 h26 =>
        (hcell h26 (Addr.add p33 1) = some (.int .i64 x130)) ∧
        (hcell h26 (Addr.add p33 0) = some (.int .i64 x128)) ∧
        (hcell h26 (Addr.add (Addr.add p124 0) 0) = some (.pointer x126)) ∧
        seq_Seq_Measure r x126 x128 x130 h26 fun y152 y153 y154 y155 y156 y157 h27 =>
        St h27 p146 5 [(.int .i64 y152), (.int .i64 y153), (.int .i64 y154), (.int .i64 y155), (.int .i64 y156)] fun h28 =>
        J112 p146 y157 h28)) (
        Br (decide (x65 = (⟨#[112, 117, 116]⟩))) (
         Ck d1 fun p160 =>
         LdP h7 (Addr.add (Addr.add p160 1) 0) fun x162 =>
         LdI h7 (Addr.add p33 0) fun x164 =>
         wbt_Set_Put r x162 x164 h7 fun y166 h29 =>
         desk_desk_ranks r d1 y166 h29 fun y167 h30 =>
         St h30 p3 1 [(.string y167)] fun h31 =>
         LdT h31 p3 fun x170 =>
         R x170 h31) (
         Br (decide (x65 = (⟨#[100, 114, 111, 112]⟩))) (
          Ck d1 fun p172 =>
          LdP h7 (Addr.add (Addr.add p172 1) 0) fun x174 =>
          LdI h7 (Addr.add p33 0) fun x176 =>
          wbt_Set_Drop r x174 x176 h7 fun y178 h32 =>
          desk_desk_ranks r d1 y178 h32 fun y179 h33 =>
          St h33 p3 1 [(.string y179)] fun h34 =>
          LdT h34 p3 fun x182 =>
          R x182 h34) (
          Br (decide (x65 = (⟨#[114, 97, 110, 107]⟩))) (
           Ck d1 fun p184 =>
           LdP h7 (Addr.add (Addr.add p184 1) 0) fun x186 =>
           LdI h7 (Addr.add p33 0) fun x188 =>
           wbt_Set_Rank r x186 x188 h7 fun y190 h35 =>
           strconv_Itoa r y190 h35 fun y191 h36 =>
           St h36 p3 1 [(.string y191)] fun h37 =>
           LdT h37 p3 fun x194 =>
           R x194 h37) (
           Br (decide (x65 = (⟨#[108, 105, 115, 116]⟩))) (
            Ck d1 fun p196 =>
            LdP h7 (Addr.add (Addr.add p196 0) 0) fun x198 =>
            seq_Seq_Ints r x198 h7 fun y200 h38 =>
            desk_text r y200 h38 fun y201 h39 =>
            St h39 p3 1 [(.string y201)] fun h40 =>
            LdT h40 p3 fun x204 =>
            R x204 h40) (
            Ck d1 fun p206 =>
            LdP h7 (Addr.add (Addr.add p206 1) 0) fun x208 =>
            wbt_Set_Ints r x208 h7 fun y210 h41 =>
            desk_text r y210 h41 fun y211 h42 =>
            St h42 p3 1 [(.string y211)] fun h43 =>
            LdT h43 p3 fun x214 =>
            R x214 h43)))))))))) →
   X43 x42 h7) →
  X43 0 h6)
theorem desk_desk_line_of {r : World} {d1 : Option Addr} {s2 : ByteArray} {h : Heap} {Pn : Addr → Value → Heap → Prop} {R : ByteArray → Heap → Prop}
  (h0 : ∀ (p : Addr) (h : Heap) (dr : Nat), CallsD Tryz.prog 19 #[.pointer (some p)] .returning (wd r h dr) fun e u' w' => (∃ v, e = .returned v) ∧ u' = .returning ∧ ∃ dr', w' = wd r h dr')
  (h1 : ∀ (p : Addr) (v : Value) (h : Heap) (dr : Nat), Pn p v h → CallsD Tryz.prog 19 #[.pointer (some p)] (.panicking [{ v, recovered := false }]) (wd r h dr) fun e u' w' => (∃ v, e = .returned v) ∧ u' = .panicking [{ v, recovered := true }] ∧ ∃ h' dr' y, w' = wd r h' dr' ∧ hcell h' p = some (.string y) ∧ R y h')
  (H : desk_desk_line_F r d1 s2 h Pn R) : desk_desk_line r d1 s2 h R := by
 unfold desk_desk_line_F at H
 refine calls_ofC 159 4 9 Tryz.func11 rfl rfl rfl rfl (fun p y h dr hy => run_loadVar1 Tryz.isAgg9 hy) Tryz.call19 h0 h1 ?_
 refine W_seq ?_
 refine W_region (.ef 0 [] .fin .no) rfl rfl ?_
 obtain ⟨p3, e4⟩ : ∃ p : Addr, p = ⟨h.size, 0, none⟩ := ⟨_, rfl⟩
 obtain ⟨h1, e5⟩ : ∃ hh : Heap, hh = h.push (.cells #[(.string (⟨#[]⟩))] 9) := ⟨_, rfl⟩
 have H := H p3 h1 e4 e5
 refine s_ef1 (d := some 4) (v := (.pointer (some p3))) (h' := h1) rfl rfl rfl (fun dr => (r_alloc Tryz.zeroValue9).trans (by rw [e4, e5]; rfl)) trivial ?_ trivial
 refine s_fin ?_
 refine W_seq ?_
 refine W_defer1 rfl rfl rfl rfl ?_
 show W _ _ _ _ _ _ _ _
 refine W_seq ?_
 refine W_region (.pu 0 (.ef 1 [] (.pu 2 .fin) .no)) rfl rfl ?_
 refine sp 14 (.string s2) rfl rfl (r_move rfl) ?_
 refine sc 15 rfl rfl (fun dr => r_call Tryz.call9 rfl rfl H) ?_
 rintro _ h2 ⟨y6, rfl, H⟩
 refine sp 5 (Sl.v y6) rfl rfl (r_assign rfl) ?_
 refine s_fin ?_
 refine W_seq ?_
 refine W_draw [0, 0, 2, 6, 15, 31, 63, 63, 127, 511] (.pu 1 (.pu 2 (.rd 3 (.ef 0 [] (.rd 4 (.pu 5 (.pu 6 (.pu 7 (.pu 8 (.pu 9 .fin)))))) .no)))) (by kernel_rfl) (by kernel_rfl) ?_
 refine sp 18 (Sl.v y6) rfl rfl (r_move rfl) ?_
 obtain ⟨p7, e8, e9, e10, H⟩ := H
 obtain ⟨q11, e12⟩ : ∃ q : Addr, q = Addr.add p7 (Int.toNat 0 * 1) := ⟨_, rfl⟩
 rw [← e12] at H
 refine sp 19 (.pointer (some q11)) rfl rfl (fun w => (r_indexAddr Tryz.underlying23 Tryz.sizeOf9 rfl rfl e8 e9 e10 w).trans (by rw [e12])) ?_
 obtain ⟨x13, e14, H⟩ := H
 refine s_rd (d := some 20) (v := (.string x13)) rfl rfl rfl (fun dr => r_load1 Tryz.isAgg9 rfl e14) ?_
 refine s_ef (d := some 17) rfl rfl rfl (fun dr => r_call Tryz.call20 rfl rfl H) ?_ trivial
 rintro _ h3 ⟨y15, rfl, H⟩
 obtain ⟨e16, H⟩ := H
 refine ⟨⟨(.inl ⟨rfl, fun dr => r_load1 Tryz.isAgg9 rfl e16⟩), trivial⟩, ?_⟩
 obtain ⟨e17, e18, e19, x23, b24, e20, e21, e22, H⟩ := H
 refine s_rd (d := some 21) (v := (.tuple #[(.int .i64 x23), (.bool b24)])) rfl rfl rfl (fun dr => r_lookup Tryz.underlying57 Tryz.underlying9 (congrArg Value.map e20) rfl Tryz.zeroValue3 e21 e22) ?_
 refine sp 16 (.tuple #[(.int .i64 x23), (.bool b24)]) rfl rfl (r_move rfl) ?_
 refine sp 22 (.int .i64 x23) rfl rfl (r_extract rfl rfl) ?_
 refine sp 23 (.bool b24) rfl rfl (r_extract rfl rfl) ?_
 refine sp 6 (.int .i64 x23) rfl rfl (r_assign rfl) ?_
 refine sp 7 (.bool b24) rfl rfl (r_assign rfl) ?_
 refine s_fin ?_
 refine W_seq ?_
 refine W_seq ?_
 refine W_region (.pu 0 (.pu 1 (.pu 2 (.pu 3 (.pu 4 (.pu 5 (.pu 6 (.pu 7 (.pu 8 .fin))))))))) rfl rfl ?_
 refine sp 24 (.bool b24) rfl rfl (r_move rfl) ?_
 refine sp 25 (.bool (!b24)) rfl rfl (r_not rfl) ?_
 refine sp 26 (.bool (!b24)) rfl rfl (r_move rfl) ?_
 refine S_meet (l := [(0, (.pointer d1)), (4, (.pointer (some p3))), (5, (Sl.v y6)), (32, (.bool ((!b24) || (!decide (((y6.len : Int)) = (w64 (x23 + 1)))))))]) (i := 6) ?_ (fun HJ => ?_)
 ·intro b
  show S _ _ _ _ _ _
  refine s_fin ?_
  refine W_if ((!b24) || (!decide (((y6.len : Int)) = (w64 (x23 + 1))))) rfl (fun g225 => ?_) (fun g225 => ?_)
  ·have H := H.1 g225
   refine W_seq ?_
   refine W_region (.ef 0 [] (.ef 1 [] .fin .no) .no) rfl rfl ?_
   refine sc 33 rfl rfl (fun dr => r_call Tryz.call10 rfl rfl H) ?_
   rintro _ h4 ⟨y28, rfl, H⟩
   obtain ⟨e30, H⟩ := H
   obtain ⟨h5, e29⟩ : ∃ hh : Heap, hh = hsets h4 p3 0 [(.string y28)] := ⟨_, rfl⟩
   have H := H h5 e29
   refine s_st (d := none) (h' := h5) rfl rfl rfl (fun dr => (r_store (v := (.string y28)) Tryz.sizeOf9 rfl rfl rfl (one_all rfl) e30).trans (by rw [e29]; rfl)) trivial ?_ trivial
   refine s_fin ?_
   refine W_ret ?_
   obtain ⟨x31, e32, H⟩ := H
   exact ⟨_, _, rfl, rfl, e32, H⟩
  ·have H := H.2 g225
   refine W_skip ?_
   show W _ _ _ _ _ _ _ _
   refine W_seq ?_
   refine W_region (.ef 0 [] .fin .no) rfl rfl ?_
   obtain ⟨p33, e34⟩ : ∃ p : Addr, p = ⟨h3.size, 0, none⟩ := ⟨_, rfl⟩
   obtain ⟨h6, e35⟩ : ∃ hh : Heap, hh = h3.push (.cells #[(.int .i64 0), (.int .i64 0)] 59) := ⟨_, rfl⟩
   have H := H p33 h6 e34 e35
   refine s_ef1 (d := some 8) (v := (.pointer (some p33))) (h' := h6) rfl rfl rfl (fun dr => (r_alloc Tryz.zeroValue59).trans (by rw [e34, e35]; rfl)) trivial ?_ trivial
   refine s_fin ?_
   refine W_seq ?_
   refine W_seq ?_
   refine W_region (.pu 0 (.pu 1 (.pu 2 (.pu 3 .fin)))) rfl rfl ?_
   refine sp 34 (Sl.v y6) rfl rfl (r_move rfl) ?_
   obtain ⟨e37, e38, e39, e40, H⟩ := H
   obtain ⟨s36, e41⟩ : ∃ t : Sl, t = ⟨sliceA y6.a (Int.toNat ((y6.cap : Int))) (Int.toNat 1) 1, Int.toNat ((y6.len : Int)) - Int.toNat 1, Int.toNat ((y6.cap : Int)) - Int.toNat 1⟩ := ⟨_, rfl⟩
   have H := H s36 e41
   refine sp 35 (Sl.v s36) rfl rfl (fun w => (r_slice (lo := (.some (.const (.int .i64 1)))) (hi := .none) (mx := .none) Tryz.underlying23 Tryz.sizeOf9 rfl ((y6.cap : Int)) ((y6.len : Int)) 1 rfl ⟨rfl, rfl⟩ ⟨_, rfl⟩ e37 e38 (.inl rfl) e40 w).trans (by rw [e41]; rfl)) ?_
   refine sp 36 (.int .i64 ((s36.len : Int))) rfl rfl (r_len Tryz.underlying23 rfl) ?_
   refine sp 37 (.int .i64 0) rfl rfl (r_move rfl) ?_
   refine s_fin ?_
   refine W_block ?_
   refine W_loop (WL_mk (l := [(0, (.pointer d1)), (4, (.pointer (some p3))), (5, (Sl.v y6)), (8, (.pointer (some p33))), (35, (Sl.v s36)), (36, (.int .i64 ((s36.len : Int)))), (37, (.int .i64 0))]) ?_ ⟨rfl, rfl, rfl, rfl, rfl, rfl, rfl, trivial⟩)
   refine H (fun (x42 : Int) (h7 : Heap) => ∀ b, WL _ _ _ _ _ _ (mkE [(0, (.pointer d1)), (4, (.pointer (some p3))), (5, (Sl.v y6)), (8, (.pointer (some p33))), (35, (Sl.v s36)), (36, (.int .i64 ((s36.len : Int)))), (37, (.int .i64 x42))] b) h7) ?_
   intro x42 h7 H b
   refine WL_round ?_
   refine W_seq ?_
   refine W_region (.pu 0 .fin) rfl rfl ?_
   refine sp 38 (.bool (decide (x42 < ((s36.len : Int))))) rfl rfl (r_lss rfl rfl) ?_
   refine s_fin ?_
   refine W_seq ?_
   refine W_if (decide (x42 < ((s36.len : Int)))) rfl (fun g224 => ?_) (fun g224 => ?_)
   ·have H := H.1 g224
    refine W_skip ?_
    show W _ _ _ _ _ _ _ _
    refine W_seq ?_
    refine W_block ?_
    refine W_seq ?_
    refine W_region (.pu 0 (.pu 1 (.rl 2 (.pu 3 (.pu 4 .fin))))) rfl rfl ?_
    refine sp 39 (.int .i64 x42) rfl rfl (r_move rfl) ?_
    obtain ⟨p44, e45, e46, e47, H⟩ := H
    obtain ⟨q48, e49⟩ : ∃ q : Addr, q = Addr.add p44 (Int.toNat x42 * 1) := ⟨_, rfl⟩
    rw [← e49] at H
    refine sp 40 (.pointer (some q48)) rfl rfl (fun w => (r_indexAddr Tryz.underlying23 Tryz.sizeOf9 rfl rfl e45 e46 e47 w).trans (by rw [e49])) ?_
    obtain ⟨x50, e51, H⟩ := H
    refine sl 41 (.string x50) rfl rfl (fun dr => r_load1 Tryz.isAgg9 rfl e51) ?_
    refine sp 9 (.int .i64 x42) rfl rfl (r_assign rfl) ?_
    refine sp 10 (.string x50) rfl rfl (r_assign rfl) ?_
    refine s_fin ?_
    refine W_region (.pu 0 (.pu 1 (.ef 2 [] (.pu 3 (.ef 4 [] .fin .no)) .no))) rfl rfl ?_
    refine sp 42 (.int .i64 x42) rfl rfl (r_move rfl) ?_
    refine sp 43 (.string x50) rfl rfl (r_move rfl) ?_
    refine s_efP (d := some 44) rfl rfl rfl (fun dr => r_callP Tryz.call21 rfl rfl (CallsHP.mono H (fun _ _ q => q) (fun _ _ q => ⟨_, rfl, rfl, q⟩))) ?_ trivial
    rintro _ h8 ⟨y52, rfl, H⟩
    refine ⟨trivial, ?_⟩
    obtain ⟨⟨e53, e54⟩, H⟩ := H
    obtain ⟨q55, e56⟩ : ∃ q : Addr, q = Addr.add p33 (Int.toNat x42 * 1) := ⟨_, rfl⟩
    have H := H q55 e56
    refine sp 45 (.pointer (some q55)) rfl rfl (fun w => (r_indexArrV (off := Int.toNat x42 * 1) Tryz.underlying59 Tryz.sizeOf3 rfl rfl e53 e54 rfl w).trans (by rw [e56])) ?_
    obtain ⟨e58, H⟩ := H
    obtain ⟨h9, e57⟩ : ∃ hh : Heap, hh = hsets h8 q55 0 [(.int .i64 y52)] := ⟨_, rfl⟩
    have H := H h9 e57
    refine s_st (d := none) (h' := h9) rfl rfl rfl (fun dr => (r_store (v := (.int .i64 y52)) Tryz.sizeOf3 rfl rfl rfl (one_all rfl) e58).trans (by rw [e57]; rfl)) trivial ?_ trivial
    refine s_fin ?_
    refine W_region (.pu 0 (.pu 1 .fin)) rfl rfl ?_
    refine sp 46 (.int .i64 (w64 (x42 + 1))) rfl rfl (r_add rfl rfl) ?_
    refine sp 37 (.int .i64 (w64 (x42 + 1))) rfl rfl (r_move rfl) ?_
    refine s_fin ?_
    exact WL_mk (l := [(0, (.pointer d1)), (4, (.pointer (some p3))), (5, (Sl.v y6)), (8, (.pointer (some p33))), (35, (Sl.v s36)), (36, (.int .i64 ((s36.len : Int)))), (37, (.int .i64 (w64 (x42 + 1))))]) H ⟨rfl, rfl, rfl, rfl, rfl, rfl, rfl, trivial⟩
   ·have H := H.2 g224
    refine W_exit (inX_here ?_)
    show W _ _ _ _ _ _ _ _
    refine W_seq ?_
    refine W_seq ?_
    refine W_region (.pu 0 (.pu 1 (.rl 2 .fin))) rfl rfl ?_
    refine sp 47 (Sl.v y6) rfl rfl (r_move rfl) ?_
    obtain ⟨p59, e60, e61, e62, H⟩ := H
    obtain ⟨q63, e64⟩ : ∃ q : Addr, q = Addr.add p59 (Int.toNat 0 * 1) := ⟨_, rfl⟩
    rw [← e64] at H
    refine sp 48 (.pointer (some q63)) rfl rfl (fun w => (r_indexAddr Tryz.underlying23 Tryz.sizeOf9 rfl rfl e60 e61 e62 w).trans (by rw [e64])) ?_
    obtain ⟨x65, e66, H⟩ := H
    refine sl 49 (.string x65) rfl rfl (fun dr => r_load1 Tryz.isAgg9 rfl e66) ?_
    refine s_fin ?_
    refine W_block ?_
    refine W_seq ?_
    refine W_region (.pu 0 (.pu 1 .fin)) rfl rfl ?_
    refine sp 51 (.bool (decide (x65 = (⟨#[105, 110, 115]⟩)))) rfl rfl (r_eqlT rfl rfl) ?_
    refine sp 50 (.bool (decide (x65 = (⟨#[105, 110, 115]⟩)))) rfl rfl (r_assign rfl) ?_
    refine s_fin ?_
    refine W_if (decide (x65 = (⟨#[105, 110, 115]⟩))) rfl (fun g223 => ?_) (fun g223 => ?_)
    ·have H := H.1 g223
     refine W_seq ?_
     refine W_draw [0, 0, 2, 6, 14, 0, 32, 0, 128, 510, 1022, 1022, 4095, 8191] (.pu 0 (.pu 1 (.pu 2 (.pu 3 (.rd 4 (.pu 5 (.rd 6 (.pu 7 (.rd 8 (.ef 9 [4, 6, 8] (.pu 10 (.pu 11 (.ef 12 [4, 6, 8] (.ef 13 [4, 6, 8] .fin .no) .no))) .no)))))))))) (by kernel_rfl) (by kernel_rfl) ?_
     refine sp 52 (.pointer d1) rfl rfl (r_move rfl) ?_
     refine sp 53 (.pointer d1) rfl rfl (r_move rfl) ?_
     obtain ⟨p67, e68, H⟩ := H
     refine sp 54 (.pointer (some p67)) rfl rfl (r_nilCheck rfl e68) ?_
     refine sp 55 (.pointer (some (Addr.add p67 0))) rfl rfl (r_fieldAddr Tryz.underlying46 Tryz.sizeOf41 rfl rfl rfl) ?_
     obtain ⟨x69, e70, H⟩ := H
     refine s_rd (d := some 56) (v := (.agg #[(.pointer x69)])) rfl rfl rfl (fun dr => r_loadN Tryz.isAgg41 Tryz.sizeOf41 (vs := [(.pointer x69)]) rfl rfl ⟨e70, trivial⟩) ?_
     refine sp 57 (.pointer (some (Addr.add p33 0))) rfl rfl (r_indexArrV (off := 0) Tryz.underlying59 Tryz.sizeOf3 rfl rfl (by decide) (by decide) rfl) ?_
     obtain ⟨x71, e72, H⟩ := H
     refine s_rd (d := some 58) (v := (.int .i64 x71)) rfl rfl rfl (fun dr => r_load1 Tryz.isAgg3 rfl e72) ?_
     refine sp 59 (.pointer (some (Addr.add p33 1))) rfl rfl (r_indexArrV (off := 1) Tryz.underlying59 Tryz.sizeOf3 rfl rfl (by decide) (by decide) rfl) ?_
     obtain ⟨x73, e74, H⟩ := H
     refine s_rd (d := some 60) (v := (.int .i64 x73)) rfl rfl rfl (fun dr => r_load1 Tryz.isAgg3 rfl e74) ?_
     refine s_ef (d := some 61) rfl rfl rfl (fun dr => r_call Tryz.call23 rfl rfl H) ?_ trivial
     rintro _ h10 ⟨y75, y76, rfl, H⟩
     refine ⟨⟨trivial, trivial, trivial, trivial⟩, ?_⟩
     refine sp 62 (.agg #[(.pointer y75)]) rfl rfl (r_extract rfl rfl) ?_
     refine sp 63 (.bool y76) rfl rfl (r_extract rfl rfl) ?_
     refine s_efP (d := some 64) rfl rfl rfl (fun dr => r_callP Tryz.call22 rfl rfl (CallsHP.mono H (fun _ _ q => q) (fun _ _ q => ⟨_, rfl, rfl, q⟩))) ?_ trivial
     rintro _ h11 ⟨y77, rfl, H⟩
     refine ⟨⟨trivial, trivial, trivial, trivial⟩, ?_⟩
     obtain ⟨e79, H⟩ := H
     obtain ⟨h12, e78⟩ : ∃ hh : Heap, hh = hsets h11 p3 0 [(.string y77)] := ⟨_, rfl⟩
     have H := H h12 e78
     refine s_st (d := none) (h' := h12) rfl rfl rfl (fun dr => (r_store (v := (.string y77)) Tryz.sizeOf9 rfl rfl rfl (one_all rfl) e79).trans (by rw [e78]; rfl)) ⟨trivial, trivial, trivial, trivial⟩ ?_ trivial
     refine s_fin ?_
     refine W_ret ?_
     obtain ⟨x80, e81, H⟩ := H
     exact ⟨_, _, rfl, rfl, e81, H⟩
    ·have H := H.2 g223
     refine W_seq ?_
     refine W_region (.pu 0 (.pu 1 .fin)) rfl rfl ?_
     refine sp 66 (.bool (decide (x65 = (⟨#[100, 101, 108]⟩)))) rfl rfl (r_eqlT rfl rfl) ?_
     refine sp 65 (.bool (decide (x65 = (⟨#[100, 101, 108]⟩)))) rfl rfl (r_assign rfl) ?_
     refine s_fin ?_
     refine W_if (decide (x65 = (⟨#[100, 101, 108]⟩))) rfl (fun g222 => ?_) (fun g222 => ?_)
     ·have H := H.1 g222
      refine W_seq ?_
      refine W_draw [0, 0, 2, 6, 14, 0, 32, 126, 254, 254, 1023, 2047] (.pu 0 (.pu 1 (.pu 2 (.pu 3 (.rd 4 (.pu 5 (.rd 6 (.ef 7 [4, 6] (.pu 8 (.pu 9 (.ef 10 [4, 6] (.ef 11 [4, 6] .fin .no) .no))) .no)))))))) (by kernel_rfl) (by kernel_rfl) ?_
      refine sp 67 (.pointer d1) rfl rfl (r_move rfl) ?_
      refine sp 68 (.pointer d1) rfl rfl (r_move rfl) ?_
      obtain ⟨p82, e83, H⟩ := H
      refine sp 69 (.pointer (some p82)) rfl rfl (r_nilCheck rfl e83) ?_
      refine sp 70 (.pointer (some (Addr.add p82 0))) rfl rfl (r_fieldAddr Tryz.underlying46 Tryz.sizeOf41 rfl rfl rfl) ?_
      obtain ⟨x84, e85, H⟩ := H
      refine s_rd (d := some 71) (v := (.agg #[(.pointer x84)])) rfl rfl rfl (fun dr => r_loadN Tryz.isAgg41 Tryz.sizeOf41 (vs := [(.pointer x84)]) rfl rfl ⟨e85, trivial⟩) ?_
      refine sp 72 (.pointer (some (Addr.add p33 0))) rfl rfl (r_indexArrV (off := 0) Tryz.underlying59 Tryz.sizeOf3 rfl rfl (by decide) (by decide) rfl) ?_
      obtain ⟨x86, e87, H⟩ := H
      refine s_rd (d := some 73) (v := (.int .i64 x86)) rfl rfl rfl (fun dr => r_load1 Tryz.isAgg3 rfl e87) ?_
      refine s_ef (d := some 74) rfl rfl rfl (fun dr => r_call Tryz.call24 rfl rfl H) ?_ trivial
      rintro _ h13 ⟨y88, y89, rfl, H⟩
      refine ⟨⟨trivial, trivial, trivial⟩, ?_⟩
      refine sp 75 (.agg #[(.pointer y88)]) rfl rfl (r_extract rfl rfl) ?_
      refine sp 76 (.bool y89) rfl rfl (r_extract rfl rfl) ?_
      refine s_efP (d := some 77) rfl rfl rfl (fun dr => r_callP Tryz.call22 rfl rfl (CallsHP.mono H (fun _ _ q => q) (fun _ _ q => ⟨_, rfl, rfl, q⟩))) ?_ trivial
      rintro _ h14 ⟨y90, rfl, H⟩
      refine ⟨⟨trivial, trivial, trivial⟩, ?_⟩
      obtain ⟨e92, H⟩ := H
      obtain ⟨h15, e91⟩ : ∃ hh : Heap, hh = hsets h14 p3 0 [(.string y90)] := ⟨_, rfl⟩
      have H := H h15 e91
      refine s_st (d := none) (h' := h15) rfl rfl rfl (fun dr => (r_store (v := (.string y90)) Tryz.sizeOf9 rfl rfl rfl (one_all rfl) e92).trans (by rw [e91]; rfl)) ⟨trivial, trivial, trivial⟩ ?_ trivial
      refine s_fin ?_
      refine W_ret ?_
      obtain ⟨x93, e94, H⟩ := H
      exact ⟨_, _, rfl, rfl, e94, H⟩
     ·have H := H.2 g222
      refine W_seq ?_
      refine W_region (.pu 0 (.pu 1 .fin)) rfl rfl ?_
      refine sp 79 (.bool (decide (x65 = (⟨#[99, 117, 116]⟩)))) rfl rfl (r_eqlT rfl rfl) ?_
      refine sp 78 (.bool (decide (x65 = (⟨#[99, 117, 116]⟩)))) rfl rfl (r_assign rfl) ?_
      refine s_fin ?_
      refine W_if (decide (x65 = (⟨#[99, 117, 116]⟩))) rfl (fun g221 => ?_) (fun g221 => ?_)
      ·have H := H.1 g221
       refine W_seq ?_
       refine W_draw [0, 0, 2, 6, 14, 0, 32, 0, 128, 510, 1022, 1022, 4095, 8191] (.pu 0 (.pu 1 (.pu 2 (.pu 3 (.rd 4 (.pu 5 (.rd 6 (.pu 7 (.rd 8 (.ef 9 [4, 6, 8] (.pu 10 (.pu 11 (.ef 12 [4, 6, 8] (.ef 13 [4, 6, 8] .fin .no) .no))) .no)))))))))) (by kernel_rfl) (by kernel_rfl) ?_
       refine sp 80 (.pointer d1) rfl rfl (r_move rfl) ?_
       refine sp 81 (.pointer d1) rfl rfl (r_move rfl) ?_
       obtain ⟨p95, e96, H⟩ := H
       refine sp 82 (.pointer (some p95)) rfl rfl (r_nilCheck rfl e96) ?_
       refine sp 83 (.pointer (some (Addr.add p95 0))) rfl rfl (r_fieldAddr Tryz.underlying46 Tryz.sizeOf41 rfl rfl rfl) ?_
       obtain ⟨x97, e98, H⟩ := H
       refine s_rd (d := some 84) (v := (.agg #[(.pointer x97)])) rfl rfl rfl (fun dr => r_loadN Tryz.isAgg41 Tryz.sizeOf41 (vs := [(.pointer x97)]) rfl rfl ⟨e98, trivial⟩) ?_
       refine sp 85 (.pointer (some (Addr.add p33 0))) rfl rfl (r_indexArrV (off := 0) Tryz.underlying59 Tryz.sizeOf3 rfl rfl (by decide) (by decide) rfl) ?_
       obtain ⟨x99, e100, H⟩ := H
       refine s_rd (d := some 86) (v := (.int .i64 x99)) rfl rfl rfl (fun dr => r_load1 Tryz.isAgg3 rfl e100) ?_
       refine sp 87 (.pointer (some (Addr.add p33 1))) rfl rfl (r_indexArrV (off := 1) Tryz.underlying59 Tryz.sizeOf3 rfl rfl (by decide) (by decide) rfl) ?_
       obtain ⟨x101, e102, H⟩ := H
       refine s_rd (d := some 88) (v := (.int .i64 x101)) rfl rfl rfl (fun dr => r_load1 Tryz.isAgg3 rfl e102) ?_
       refine s_ef (d := some 89) rfl rfl rfl (fun dr => r_call Tryz.call25 rfl rfl H) ?_ trivial
       rintro _ h16 ⟨y103, y104, rfl, H⟩
       refine ⟨⟨trivial, trivial, trivial, trivial⟩, ?_⟩
       refine sp 90 (.agg #[(.pointer y103)]) rfl rfl (r_extract rfl rfl) ?_
       refine sp 91 (.bool y104) rfl rfl (r_extract rfl rfl) ?_
       refine s_efP (d := some 92) rfl rfl rfl (fun dr => r_callP Tryz.call22 rfl rfl (CallsHP.mono H (fun _ _ q => q) (fun _ _ q => ⟨_, rfl, rfl, q⟩))) ?_ trivial
       rintro _ h17 ⟨y105, rfl, H⟩
       refine ⟨⟨trivial, trivial, trivial, trivial⟩, ?_⟩
       obtain ⟨e107, H⟩ := H
       obtain ⟨h18, e106⟩ : ∃ hh : Heap, hh = hsets h17 p3 0 [(.string y105)] := ⟨_, rfl⟩
       have H := H h18 e106
       refine s_st (d := none) (h' := h18) rfl rfl rfl (fun dr => (r_store (v := (.string y105)) Tryz.sizeOf9 rfl rfl rfl (one_all rfl) e107).trans (by rw [e106]; rfl)) ⟨trivial, trivial, trivial, trivial⟩ ?_ trivial
       refine s_fin ?_
       refine W_ret ?_
       obtain ⟨x108, e109, H⟩ := H
       exact ⟨_, _, rfl, rfl, e109, H⟩
      ·have H := H.2 g221
       refine W_seq ?_
       refine W_region (.pu 0 (.pu 1 .fin)) rfl rfl ?_
       refine sp 94 (.bool (decide (x65 = (⟨#[115, 117, 109]⟩)))) rfl rfl (r_eqlT rfl rfl) ?_
       refine sp 93 (.bool (decide (x65 = (⟨#[115, 117, 109]⟩)))) rfl rfl (r_assign rfl) ?_
       refine s_fin ?_
       refine W_if (decide (x65 = (⟨#[115, 117, 109]⟩))) rfl (fun g220 => ?_) (fun g220 => ?_)
       ·have H := H.1 g220
        refine W_seq ?_
        refine W_set ?_
        intro N113 eN113
        have H := H (fun (p110 : Addr) (has111 : Bool) (h19 : Heap) => ∀ b, N113 [dfr 19 p3] (mkE [(4, (.pointer (some p3))), (11, (.pointer (some p110))), (12, (.bool has111))] b) h19) (by
         intro p110 has111 h19 H b
         rw [eN113]
         show W _ _ _ _ _ _ _ _
         refine W_seq ?_
         refine W_seq ?_
         refine W_region (.pu 0 (.pu 1 .fin)) rfl rfl ?_
         refine sp 107 (.bool has111) rfl rfl (r_move rfl) ?_
         refine sp 108 (.bool (!has111)) rfl rfl (r_not rfl) ?_
         refine s_fin ?_
         refine W_set ?_
         intro N115 eN115
         have H := H (fun (h20 : Heap) => ∀ b, N115 [dfr 19 p3] (mkE [(4, (.pointer (some p3))), (11, (.pointer (some p110)))] b) h20) (by
          intro h20 H b
          rw [eN115]
          show W _ _ _ _ _ _ _ _
          refine W_seq ?_
          refine W_region (.pu 0 (.rl 1 (.ef 2 [] (.ef 3 [] .fin .no) .no))) rfl rfl ?_
          refine sp 110 (.pointer (some (Addr.add p110 1))) rfl rfl (r_fieldAddr Tryz.underlying66 Tryz.sizeOf3 rfl rfl rfl) ?_
          obtain ⟨x116, e117, H⟩ := H
          refine sl 111 (.int .i64 x116) rfl rfl (fun dr => r_load1 Tryz.isAgg3 rfl e117) ?_
          refine sc 112 rfl rfl (fun dr => r_call Tryz.call27 rfl rfl H) ?_
          rintro _ h21 ⟨y118, rfl, H⟩
          obtain ⟨e120, H⟩ := H
          obtain ⟨h22, e119⟩ : ∃ hh : Heap, hh = hsets h21 p3 0 [(.string y118)] := ⟨_, rfl⟩
          have H := H h22 e119
          refine s_st (d := none) (h' := h22) rfl rfl rfl (fun dr => (r_store (v := (.string y118)) Tryz.sizeOf9 rfl rfl rfl (one_all rfl) e120).trans (by rw [e119]; rfl)) trivial ?_ trivial
          refine s_fin ?_
          refine W_ret ?_
          obtain ⟨x121, e122, H⟩ := H
          exact ⟨_, _, rfl, rfl, e122, H⟩)
         clear eN115
         refine W_if (!has111) rfl (fun g123 => ?_) (fun g123 => ?_)
         ·have H := H.1 g123
          refine W_region (.pu 0 (.ef 1 [] .fin .no)) rfl rfl ?_
          refine sp 109 ((.iface 34 (.int .i64 1))) rfl rfl (r_iface Tryz.underlying34 rfl rfl) ?_
          refine s_efP (d := none) (k := fun _ _ => False) rfl rfl rfl (fun dr => r_panic rfl ⟨_, rfl, rfl, H⟩) (fun _ _ hf => hf.elim) trivial
         ·have H := H.2 g123
          refine W_skip ?_
          exact N_mk (l := [(4, (.pointer (some p3))), (11, (.pointer (some p110)))]) H ⟨rfl, rfl, trivial⟩)
        clear eN113
        refine W_draw [0, 1, 3, 7, 0, 16, 0, 64, 255, 511, 1023, 1023, 0, 6143, 16383] (.pu 0 (.pu 1 (.pu 2 (.rd 3 (.pu 4 (.rd 5 (.pu 6 (.rd 7 (.ef 8 [3, 5, 7] (.pu 9 (.pu 10 (.pu 11 (.ef 12 [] (.ef 13 [3, 5, 7] (.pu 14 .fin) .no) .no)))) (.ef 12 [] (.ef 8 [3, 5, 7] (.pu 9 (.pu 10 (.pu 11 (.ef 13 [3, 5, 7] (.pu 14 .fin) .no)))) .no) .no)))))))))) (by kernel_rfl) (by kernel_rfl) ?_
        refine sp 96 (.pointer d1) rfl rfl (r_move rfl) ?_
        obtain ⟨p124, e125, H⟩ := H
        refine sp 97 (.pointer (some p124)) rfl rfl (r_nilCheck rfl e125) ?_
        refine sp 98 (.pointer (some (Addr.add p124 0))) rfl rfl (r_fieldAddr Tryz.underlying46 Tryz.sizeOf41 rfl rfl rfl) ?_
        obtain ⟨x126, e127, H⟩ := H
        refine s_rd (d := some 99) (v := (.agg #[(.pointer x126)])) rfl rfl rfl (fun dr => r_loadN Tryz.isAgg41 Tryz.sizeOf41 (vs := [(.pointer x126)]) rfl rfl ⟨e127, trivial⟩) ?_
        refine sp 100 (.pointer (some (Addr.add p33 0))) rfl rfl (r_indexArrV (off := 0) Tryz.underlying59 Tryz.sizeOf3 rfl rfl (by decide) (by decide) rfl) ?_
        obtain ⟨x128, e129, H⟩ := H
        refine s_rd (d := some 101) (v := (.int .i64 x128)) rfl rfl rfl (fun dr => r_load1 Tryz.isAgg3 rfl e129) ?_
        refine sp 102 (.pointer (some (Addr.add p33 1))) rfl rfl (r_indexArrV (off := 1) Tryz.underlying59 Tryz.sizeOf3 rfl rfl (by decide) (by decide) rfl) ?_
        obtain ⟨x130, e131, H⟩ := H
        refine s_rd (d := some 103) (v := (.int .i64 x130)) rfl rfl rfl (fun dr => r_load1 Tryz.isAgg3 rfl e131) ?_
        refine s_or ?_ ?_
        ·have H := H.1
         refine s_ef (d := some 104) rfl rfl rfl (fun dr => r_call Tryz.call26 rfl rfl H) ?_ trivial
         rintro _ h23 ⟨y132, y133, y134, y135, y136, y137, rfl, H⟩
         refine ⟨⟨trivial, trivial, trivial, trivial⟩, ?_⟩
         refine sp 95 (.tuple #[(.agg #[(.int .i64 y132), (.int .i64 y133), (.int .i64 y134), (.int .i64 y135), (.int .i64 y136)]), (.bool y137)]) rfl rfl (r_move rfl) ?_
         refine sp 105 (.agg #[(.int .i64 y132), (.int .i64 y133), (.int .i64 y134), (.int .i64 y135), (.int .i64 y136)]) rfl rfl (r_extract rfl rfl) ?_
         refine sp 106 (.bool y137) rfl rfl (r_extract rfl rfl) ?_
         obtain ⟨p138, e139⟩ : ∃ p : Addr, p = ⟨h23.size, 0, none⟩ := ⟨_, rfl⟩
         obtain ⟨h24, e140⟩ : ∃ hh : Heap, hh = h23.push (.cells #[(.int .i64 0), (.int .i64 0), (.int .i64 0), (.int .i64 0), (.int .i64 0)] 66) := ⟨_, rfl⟩
         have H := H p138 h24 e139 e140
         obtain ⟨e141, H⟩ := H
         obtain ⟨e142, H⟩ := H
         obtain ⟨e143, H⟩ := H
         refine s_ef1 (d := some 11) (v := (.pointer (some p138))) (h' := h24) rfl rfl rfl (fun dr => (r_alloc Tryz.zeroValue66).trans (by rw [e139, e140]; rfl)) ⟨(.inl ⟨rfl, fun dr => r_load1 Tryz.isAgg3 rfl e141⟩), (.inl ⟨rfl, fun dr => r_load1 Tryz.isAgg3 rfl e142⟩), (.inl ⟨rfl, fun dr => r_loadN Tryz.isAgg41 Tryz.sizeOf41 (vs := [(.pointer x126)]) rfl rfl ⟨e143, trivial⟩⟩), trivial⟩ ?_ trivial
         obtain ⟨e145, H⟩ := H
         obtain ⟨h25, e144⟩ : ∃ hh : Heap, hh = hsets h24 p138 0 [(.int .i64 y132), (.int .i64 y133), (.int .i64 y134), (.int .i64 y135), (.int .i64 y136)] := ⟨_, rfl⟩
         have H := H h25 e144
         refine s_st (d := none) (h' := h25) rfl rfl rfl (fun dr => (r_store (v := (.agg #[(.int .i64 y132), (.int .i64 y133), (.int .i64 y134), (.int .i64 y135), (.int .i64 y136)])) Tryz.sizeOf66 rfl rfl rfl (one_all rfl) e145).trans (by rw [e144]; rfl)) ⟨trivial, trivial, trivial, trivial⟩ ?_ trivial
         refine sp 12 (.bool y137) rfl rfl (r_assign rfl) ?_
         refine s_fin ?_
         exact N_mk (l := [(4, (.pointer (some p3))), (11, (.pointer (some p138))), (12, (.bool y137))]) H ⟨rfl, rfl, rfl, trivial⟩
        ·have H := H.2
         obtain ⟨p146, e147⟩ : ∃ p : Addr, p = ⟨h7.size, 0, none⟩ := ⟨_, rfl⟩
         obtain ⟨h26, e148⟩ : ∃ hh : Heap, hh = h7.push (.cells #[(.int .i64 0), (.int .i64 0), (.int .i64 0), (.int .i64 0), (.int .i64 0)] 66) := ⟨_, rfl⟩
         have H := H p146 h26 e147 e148
         obtain ⟨e149, H⟩ := H
         obtain ⟨e150, H⟩ := H
         obtain ⟨e151, H⟩ := H
         refine s_ef1 (d := some 11) (v := (.pointer (some p146))) (h' := h26) rfl rfl rfl (fun dr => (r_alloc Tryz.zeroValue66).trans (by rw [e147, e148]; rfl)) ⟨(.inl ⟨rfl, fun dr => r_load1 Tryz.isAgg3 rfl e149⟩), (.inl ⟨rfl, fun dr => r_load1 Tryz.isAgg3 rfl e150⟩), (.inl ⟨rfl, fun dr => r_loadN Tryz.isAgg41 Tryz.sizeOf41 (vs := [(.pointer x126)]) rfl rfl ⟨e151, trivial⟩⟩), trivial⟩ ?_ trivial
         refine s_ef (d := some 104) rfl rfl rfl (fun dr => r_call Tryz.call26 rfl rfl H) ?_ trivial
         rintro _ h27 ⟨y152, y153, y154, y155, y156, y157, rfl, H⟩
         refine ⟨⟨trivial, trivial, trivial, trivial⟩, ?_⟩
         refine sp 95 (.tuple #[(.agg #[(.int .i64 y152), (.int .i64 y153), (.int .i64 y154), (.int .i64 y155), (.int .i64 y156)]), (.bool y157)]) rfl rfl (r_move rfl) ?_
         refine sp 105 (.agg #[(.int .i64 y152), (.int .i64 y153), (.int .i64 y154), (.int .i64 y155), (.int .i64 y156)]) rfl rfl (r_extract rfl rfl) ?_
         refine sp 106 (.bool y157) rfl rfl (r_extract rfl rfl) ?_
         obtain ⟨e159, H⟩ := H
         obtain ⟨h28, e158⟩ : ∃ hh : Heap, hh = hsets h27 p146 0 [(.int .i64 y152), (.int .i64 y153), (.int .i64 y154), (.int .i64 y155), (.int .i64 y156)] := ⟨_, rfl⟩
         have H := H h28 e158
         refine s_st (d := none) (h' := h28) rfl rfl rfl (fun dr => (r_store (v := (.agg #[(.int .i64 y152), (.int .i64 y153), (.int .i64 y154), (.int .i64 y155), (.int .i64 y156)])) Tryz.sizeOf66 rfl rfl rfl (one_all rfl) e159).trans (by rw [e158]; rfl)) ⟨trivial, trivial, trivial, trivial⟩ ?_ trivial
         refine sp 12 (.bool y157) rfl rfl (r_assign rfl) ?_
         refine s_fin ?_
         exact N_mk (l := [(4, (.pointer (some p3))), (11, (.pointer (some p146))), (12, (.bool y157))]) H ⟨rfl, rfl, rfl, trivial⟩
       ·have H := H.2 g220
        refine W_seq ?_
        refine W_region (.pu 0 (.pu 1 .fin)) rfl rfl ?_
        refine sp 114 (.bool (decide (x65 = (⟨#[112, 117, 116]⟩)))) rfl rfl (r_eqlT rfl rfl) ?_
        refine sp 113 (.bool (decide (x65 = (⟨#[112, 117, 116]⟩)))) rfl rfl (r_assign rfl) ?_
        refine s_fin ?_
        refine W_if (decide (x65 = (⟨#[112, 117, 116]⟩))) rfl (fun g219 => ?_) (fun g219 => ?_)
        ·have H := H.1 g219
         refine W_seq ?_
         refine W_draw [0, 0, 2, 6, 14, 0, 32, 126, 255, 511] (.pu 0 (.pu 1 (.pu 2 (.pu 3 (.rd 4 (.pu 5 (.rd 6 (.ef 7 [4, 6] (.ef 8 [4, 6] (.ef 9 [4, 6] .fin .no) .no) .no)))))))) (by kernel_rfl) (by kernel_rfl) ?_
         refine sp 115 (.pointer d1) rfl rfl (r_move rfl) ?_
         refine sp 116 (.pointer d1) rfl rfl (r_move rfl) ?_
         obtain ⟨p160, e161, H⟩ := H
         refine sp 117 (.pointer (some p160)) rfl rfl (r_nilCheck rfl e161) ?_
         refine sp 118 (.pointer (some (Addr.add p160 1))) rfl rfl (r_fieldAddr Tryz.underlying46 Tryz.sizeOf44 rfl rfl rfl) ?_
         obtain ⟨x162, e163, H⟩ := H
         refine s_rd (d := some 119) (v := (.agg #[(.pointer x162)])) rfl rfl rfl (fun dr => r_loadN Tryz.isAgg44 Tryz.sizeOf44 (vs := [(.pointer x162)]) rfl rfl ⟨e163, trivial⟩) ?_
         refine sp 120 (.pointer (some (Addr.add p33 0))) rfl rfl (r_indexArrV (off := 0) Tryz.underlying59 Tryz.sizeOf3 rfl rfl (by decide) (by decide) rfl) ?_
         obtain ⟨x164, e165, H⟩ := H
         refine s_rd (d := some 121) (v := (.int .i64 x164)) rfl rfl rfl (fun dr => r_load1 Tryz.isAgg3 rfl e165) ?_
         refine s_ef (d := some 122) rfl rfl rfl (fun dr => r_call Tryz.call29 rfl rfl H) ?_ trivial
         rintro _ h29 ⟨y166, rfl, H⟩
         refine ⟨⟨trivial, trivial, trivial⟩, ?_⟩
         refine s_ef (d := some 123) rfl rfl rfl (fun dr => r_call Tryz.call28 rfl rfl H) ?_ trivial
         rintro _ h30 ⟨y167, rfl, H⟩
         refine ⟨⟨trivial, trivial, trivial⟩, ?_⟩
         obtain ⟨e169, H⟩ := H
         obtain ⟨h31, e168⟩ : ∃ hh : Heap, hh = hsets h30 p3 0 [(.string y167)] := ⟨_, rfl⟩
         have H := H h31 e168
         refine s_st (d := none) (h' := h31) rfl rfl rfl (fun dr => (r_store (v := (.string y167)) Tryz.sizeOf9 rfl rfl rfl (one_all rfl) e169).trans (by rw [e168]; rfl)) ⟨trivial, trivial, trivial⟩ ?_ trivial
         refine s_fin ?_
         refine W_ret ?_
         obtain ⟨x170, e171, H⟩ := H
         exact ⟨_, _, rfl, rfl, e171, H⟩
        ·have H := H.2 g219
         refine W_seq ?_
         refine W_region (.pu 0 (.pu 1 .fin)) rfl rfl ?_
         refine sp 125 (.bool (decide (x65 = (⟨#[100, 114, 111, 112]⟩)))) rfl rfl (r_eqlT rfl rfl) ?_
         refine sp 124 (.bool (decide (x65 = (⟨#[100, 114, 111, 112]⟩)))) rfl rfl (r_assign rfl) ?_
         refine s_fin ?_
         refine W_if (decide (x65 = (⟨#[100, 114, 111, 112]⟩))) rfl (fun g218 => ?_) (fun g218 => ?_)
         ·have H := H.1 g218
          refine W_seq ?_
          refine W_draw [0, 0, 2, 6, 14, 0, 32, 126, 255, 511] (.pu 0 (.pu 1 (.pu 2 (.pu 3 (.rd 4 (.pu 5 (.rd 6 (.ef 7 [4, 6] (.ef 8 [4, 6] (.ef 9 [4, 6] .fin .no) .no) .no)))))))) (by kernel_rfl) (by kernel_rfl) ?_
          refine sp 126 (.pointer d1) rfl rfl (r_move rfl) ?_
          refine sp 127 (.pointer d1) rfl rfl (r_move rfl) ?_
          obtain ⟨p172, e173, H⟩ := H
          refine sp 128 (.pointer (some p172)) rfl rfl (r_nilCheck rfl e173) ?_
          refine sp 129 (.pointer (some (Addr.add p172 1))) rfl rfl (r_fieldAddr Tryz.underlying46 Tryz.sizeOf44 rfl rfl rfl) ?_
          obtain ⟨x174, e175, H⟩ := H
          refine s_rd (d := some 130) (v := (.agg #[(.pointer x174)])) rfl rfl rfl (fun dr => r_loadN Tryz.isAgg44 Tryz.sizeOf44 (vs := [(.pointer x174)]) rfl rfl ⟨e175, trivial⟩) ?_
          refine sp 131 (.pointer (some (Addr.add p33 0))) rfl rfl (r_indexArrV (off := 0) Tryz.underlying59 Tryz.sizeOf3 rfl rfl (by decide) (by decide) rfl) ?_
          obtain ⟨x176, e177, H⟩ := H
          refine s_rd (d := some 132) (v := (.int .i64 x176)) rfl rfl rfl (fun dr => r_load1 Tryz.isAgg3 rfl e177) ?_
          refine s_ef (d := some 133) rfl rfl rfl (fun dr => r_call Tryz.call30 rfl rfl H) ?_ trivial
          rintro _ h32 ⟨y178, rfl, H⟩
          refine ⟨⟨trivial, trivial, trivial⟩, ?_⟩
          refine s_ef (d := some 134) rfl rfl rfl (fun dr => r_call Tryz.call28 rfl rfl H) ?_ trivial
          rintro _ h33 ⟨y179, rfl, H⟩
          refine ⟨⟨trivial, trivial, trivial⟩, ?_⟩
          obtain ⟨e181, H⟩ := H
          obtain ⟨h34, e180⟩ : ∃ hh : Heap, hh = hsets h33 p3 0 [(.string y179)] := ⟨_, rfl⟩
          have H := H h34 e180
          refine s_st (d := none) (h' := h34) rfl rfl rfl (fun dr => (r_store (v := (.string y179)) Tryz.sizeOf9 rfl rfl rfl (one_all rfl) e181).trans (by rw [e180]; rfl)) ⟨trivial, trivial, trivial⟩ ?_ trivial
          refine s_fin ?_
          refine W_ret ?_
          obtain ⟨x182, e183, H⟩ := H
          exact ⟨_, _, rfl, rfl, e183, H⟩
         ·have H := H.2 g218
          refine W_seq ?_
          refine W_region (.pu 0 (.pu 1 .fin)) rfl rfl ?_
          refine sp 136 (.bool (decide (x65 = (⟨#[114, 97, 110, 107]⟩)))) rfl rfl (r_eqlT rfl rfl) ?_
          refine sp 135 (.bool (decide (x65 = (⟨#[114, 97, 110, 107]⟩)))) rfl rfl (r_assign rfl) ?_
          refine s_fin ?_
          refine W_if (decide (x65 = (⟨#[114, 97, 110, 107]⟩))) rfl (fun g217 => ?_) (fun g217 => ?_)
          ·have H := H.1 g217
           refine W_seq ?_
           refine W_draw [0, 1, 3, 7, 0, 16, 63, 127, 255] (.pu 0 (.pu 1 (.pu 2 (.rd 3 (.pu 4 (.rd 5 (.ef 6 [3, 5] (.ef 7 [3, 5] (.ef 8 [3, 5] .fin .no) .no) .no))))))) (by kernel_rfl) (by kernel_rfl) ?_
           refine sp 137 (.pointer d1) rfl rfl (r_move rfl) ?_
           obtain ⟨p184, e185, H⟩ := H
           refine sp 138 (.pointer (some p184)) rfl rfl (r_nilCheck rfl e185) ?_
           refine sp 139 (.pointer (some (Addr.add p184 1))) rfl rfl (r_fieldAddr Tryz.underlying46 Tryz.sizeOf44 rfl rfl rfl) ?_
           obtain ⟨x186, e187, H⟩ := H
           refine s_rd (d := some 140) (v := (.agg #[(.pointer x186)])) rfl rfl rfl (fun dr => r_loadN Tryz.isAgg44 Tryz.sizeOf44 (vs := [(.pointer x186)]) rfl rfl ⟨e187, trivial⟩) ?_
           refine sp 141 (.pointer (some (Addr.add p33 0))) rfl rfl (r_indexArrV (off := 0) Tryz.underlying59 Tryz.sizeOf3 rfl rfl (by decide) (by decide) rfl) ?_
           obtain ⟨x188, e189, H⟩ := H
           refine s_rd (d := some 142) (v := (.int .i64 x188)) rfl rfl rfl (fun dr => r_load1 Tryz.isAgg3 rfl e189) ?_
           refine s_ef (d := some 143) rfl rfl rfl (fun dr => r_call Tryz.call31 rfl rfl H) ?_ trivial
           rintro _ h35 ⟨y190, rfl, H⟩
           refine ⟨⟨trivial, trivial, trivial⟩, ?_⟩
           refine s_ef (d := some 144) rfl rfl rfl (fun dr => r_call Tryz.call27 rfl rfl H) ?_ trivial
           rintro _ h36 ⟨y191, rfl, H⟩
           refine ⟨⟨trivial, trivial, trivial⟩, ?_⟩
           obtain ⟨e193, H⟩ := H
           obtain ⟨h37, e192⟩ : ∃ hh : Heap, hh = hsets h36 p3 0 [(.string y191)] := ⟨_, rfl⟩
           have H := H h37 e192
           refine s_st (d := none) (h' := h37) rfl rfl rfl (fun dr => (r_store (v := (.string y191)) Tryz.sizeOf9 rfl rfl rfl (one_all rfl) e193).trans (by rw [e192]; rfl)) ⟨trivial, trivial, trivial⟩ ?_ trivial
           refine s_fin ?_
           refine W_ret ?_
           obtain ⟨x194, e195, H⟩ := H
           exact ⟨_, _, rfl, rfl, e195, H⟩
          ·have H := H.2 g217
           refine W_seq ?_
           refine W_region (.pu 0 (.pu 1 .fin)) rfl rfl ?_
           refine sp 146 (.bool (decide (x65 = (⟨#[108, 105, 115, 116]⟩)))) rfl rfl (r_eqlT rfl rfl) ?_
           refine sp 145 (.bool (decide (x65 = (⟨#[108, 105, 115, 116]⟩)))) rfl rfl (r_assign rfl) ?_
           refine s_fin ?_
           refine W_if (decide (x65 = (⟨#[108, 105, 115, 116]⟩))) rfl (fun g216 => ?_) (fun g216 => ?_)
           ·have H := H.1 g216
            refine W_seq ?_
            refine W_region (.pu 0 (.pu 1 (.pu 2 (.rl 3 (.ef 4 [] (.ef 5 [] (.ef 6 [] .fin .no) .no) .no))))) rfl rfl ?_
            refine sp 147 (.pointer d1) rfl rfl (r_move rfl) ?_
            obtain ⟨p196, e197, H⟩ := H
            refine sp 148 (.pointer (some p196)) rfl rfl (r_nilCheck rfl e197) ?_
            refine sp 149 (.pointer (some (Addr.add p196 0))) rfl rfl (r_fieldAddr Tryz.underlying46 Tryz.sizeOf41 rfl rfl rfl) ?_
            obtain ⟨x198, e199, H⟩ := H
            refine sl 150 (.agg #[(.pointer x198)]) rfl rfl (fun dr => r_loadN Tryz.isAgg41 Tryz.sizeOf41 (vs := [(.pointer x198)]) rfl rfl ⟨e199, trivial⟩) ?_
            refine sc 151 rfl rfl (fun dr => r_call Tryz.call33 rfl rfl H) ?_
            rintro _ h38 ⟨y200, rfl, H⟩
            refine sc 152 rfl rfl (fun dr => r_call Tryz.call32 rfl rfl H) ?_
            rintro _ h39 ⟨y201, rfl, H⟩
            obtain ⟨e203, H⟩ := H
            obtain ⟨h40, e202⟩ : ∃ hh : Heap, hh = hsets h39 p3 0 [(.string y201)] := ⟨_, rfl⟩
            have H := H h40 e202
            refine s_st (d := none) (h' := h40) rfl rfl rfl (fun dr => (r_store (v := (.string y201)) Tryz.sizeOf9 rfl rfl rfl (one_all rfl) e203).trans (by rw [e202]; rfl)) trivial ?_ trivial
            refine s_fin ?_
            refine W_ret ?_
            obtain ⟨x204, e205, H⟩ := H
            exact ⟨_, _, rfl, rfl, e205, H⟩
           ·have H := H.2 g216
            refine W_skip ?_
            show W _ _ _ _ _ _ _ _
            refine W_seq ?_
            refine W_region (.pu 0 (.pu 1 (.pu 2 (.rl 3 (.ef 4 [] (.ef 5 [] (.ef 6 [] .fin .no) .no) .no))))) rfl rfl ?_
            refine sp 153 (.pointer d1) rfl rfl (r_move rfl) ?_
            obtain ⟨p206, e207, H⟩ := H
            refine sp 154 (.pointer (some p206)) rfl rfl (r_nilCheck rfl e207) ?_
            refine sp 155 (.pointer (some (Addr.add p206 1))) rfl rfl (r_fieldAddr Tryz.underlying46 Tryz.sizeOf44 rfl rfl rfl) ?_
            obtain ⟨x208, e209, H⟩ := H
            refine sl 156 (.agg #[(.pointer x208)]) rfl rfl (fun dr => r_loadN Tryz.isAgg44 Tryz.sizeOf44 (vs := [(.pointer x208)]) rfl rfl ⟨e209, trivial⟩) ?_
            refine sc 157 rfl rfl (fun dr => r_call Tryz.call34 rfl rfl H) ?_
            rintro _ h41 ⟨y210, rfl, H⟩
            refine sc 158 rfl rfl (fun dr => r_call Tryz.call32 rfl rfl H) ?_
            rintro _ h42 ⟨y211, rfl, H⟩
            obtain ⟨e213, H⟩ := H
            obtain ⟨h43, e212⟩ : ∃ hh : Heap, hh = hsets h42 p3 0 [(.string y211)] := ⟨_, rfl⟩
            have H := H h43 e212
            refine s_st (d := none) (h' := h43) rfl rfl rfl (fun dr => (r_store (v := (.string y211)) Tryz.sizeOf9 rfl rfl rfl (one_all rfl) e213).trans (by rw [e212]; rfl)) trivial ?_ trivial
            refine s_fin ?_
            refine W_ret ?_
            obtain ⟨x214, e215, H⟩ := H
            exact ⟨_, _, rfl, rfl, e215, H⟩
 ·rcases Bool.eq_false_or_eq_true (!b24) with g25 | g25
  ·refine s_sk (d := some 27) rfl rfl (wants_no rfl rfl rfl rfl g25) ?_
   refine s_sk (d := some 28) rfl rfl (wants_no rfl rfl rfl rfl g25) ?_
   refine s_sk (d := some 29) rfl rfl (wants_no rfl rfl rfl rfl g25) ?_
   refine s_sk (d := some 30) rfl rfl (wants_no rfl rfl rfl rfl g25) ?_
   refine s_sk (d := some 31) rfl rfl (wants_no rfl rfl rfl rfl g25) ?_
   refine sp 32 (.bool true) rfl rfl (r_pick1 rfl g25 rfl) ?_
   exact S_mk (l := [(0, (.pointer d1)), (4, (.pointer (some p3))), (5, (Sl.v y6)), (32, (.bool ((!b24) || (!decide (((y6.len : Int)) = (w64 (x23 + 1)))))))]) HJ ⟨rfl, rfl, rfl, (by rw [g25]; rfl), trivial⟩
  ·refine s_pu (d := some 27) (v := (Sl.v y6)) rfl rfl (wants_yes rfl rfl rfl rfl g25) (r_move rfl) ?_
   refine s_pu (d := some 28) (v := (.int .i64 ((y6.len : Int)))) rfl rfl (wants_yes rfl rfl rfl rfl g25) (r_len Tryz.underlying23 rfl) ?_
   refine s_pu (d := some 29) (v := (.int .i64 x23)) rfl rfl (wants_yes rfl rfl rfl rfl g25) (r_move rfl) ?_
   refine s_pu (d := some 30) (v := (.int .i64 (w64 (x23 + 1)))) rfl rfl (wants_yes rfl rfl rfl rfl g25) (r_add rfl rfl) ?_
   refine s_pu (d := some 31) (v := (.bool (!decide (((y6.len : Int)) = (w64 (x23 + 1)))))) rfl rfl (wants_yes rfl rfl rfl rfl g25) (r_neq rfl rfl) ?_
   refine sp 32 (.bool (!decide (((y6.len : Int)) = (w64 (x23 + 1))))) rfl rfl (r_pick0 rfl g25 rfl) ?_
   exact S_mk (l := [(0, (.pointer d1)), (4, (.pointer (some p3))), (5, (Sl.v y6)), (32, (.bool ((!b24) || (!decide (((y6.len : Int)) = (w64 (x23 + 1)))))))]) HJ ⟨rfl, rfl, rfl, (by rw [g25]; rfl), trivial⟩
def desk_Run_F (r : World) (script1 : ByteArray) (h : Heap) (R : Sl → Heap → Prop) : Prop :=
 strings_Split r script1 (⟨#[10]⟩) h fun y2 h1 =>
 Ix y2 (w64 (((y2.len : Int)) - 1)) 1 fun q7 =>
 LdT h1 q7 fun x9 =>
 ∀ J12 : Sl → Prop, (∀ (lines11 : Sl),
  (Br (decide (100 < ((lines11.len : Int)))) (
   api_Errno_Error r 4 h1 fun y14 h2 =>
   New h2 (.cells #[(.string y14)] 9) fun p15 h3 =>
   R ((⟨some p15, 1, 1⟩ : Sl)) h3) (
   New h1 (.cells #[(.pointer none), (.pointer none)] 46) fun p18 h4 =>
   ∀ X23 : Sl → Int → Heap → Prop, (∀ (out21 : Sl) (x22 : Int) (h5 : Heap),
    (Br (decide (x22 < ((lines11.len : Int)))) (
     Ix lines11 x22 1 fun q28 =>
     LdT h5 q28 fun x30 =>
     desk_desk_line r (some p18) x30 h5 fun y32 h6 =>
     New h6 (.cells #[(.string y32)] 9) fun p33 h7 =>
     App 9 1 16 (.string (⟨#[]⟩)) out21 ((⟨some p33, 1, 1⟩ : Sl)) h7 fun s36 h8 =>
     X23 s36 (w64 (x22 + 1)) h8) (
     R out21 h5)) →
    X23 out21 x22 h5) →
   X23 Sl.nil 0 h4)) →
  J12 lines11) →
 Br (decide (x9 = (⟨#[]⟩))) (
  Sub y2 0 (w64 (((y2.len : Int)) - 1)) ((y2.cap : Int)) 1 fun s39 =>
  J12 s39) (
  J12 y2)
theorem desk_Run_of {r : World} {script1 : ByteArray} {h : Heap} {R : Sl → Heap → Prop} (H : desk_Run_F r script1 h R) : desk_Run r script1 h R := by
 unfold desk_Run_F at H
 refine calls_of 43 [.tmp 2] Tryz.func6 rfl rfl rfl rfl rfl ?_
 refine W_seq ?_
 refine W_region (.pu 0 .fin) rfl rfl ?_
 refine sp 2 (Sl.v Sl.nil) rfl rfl (r_assign rfl) ?_
 refine s_fin ?_
 refine W_seq ?_
 refine W_region (.pu 0 (.ef 1 [] (.pu 2 .fin) .no)) rfl rfl ?_
 refine sp 8 (.string script1) rfl rfl (r_move rfl) ?_
 refine sc 9 rfl rfl (fun dr => r_call Tryz.call9 rfl rfl H) ?_
 rintro _ h1 ⟨y2, rfl, H⟩
 refine sp 3 (Sl.v y2) rfl rfl (r_assign rfl) ?_
 refine s_fin ?_
 refine W_seq ?_
 refine W_seq ?_
 refine W_region (.pu 0 (.pu 1 (.pu 2 (.pu 3 (.pu 4 (.rl 5 (.pu 6 .fin))))))) rfl rfl ?_
 refine sp 10 (Sl.v y2) rfl rfl (r_move rfl) ?_
 refine sp 11 (Sl.v y2) rfl rfl (r_move rfl) ?_
 refine sp 12 (.int .i64 ((y2.len : Int))) rfl rfl (r_len Tryz.underlying23 rfl) ?_
 refine sp 13 (.int .i64 (w64 (((y2.len : Int)) - 1))) rfl rfl (r_sub rfl rfl) ?_
 obtain ⟨p3, e4, e5, e6, H⟩ := H
 obtain ⟨q7, e8⟩ : ∃ q : Addr, q = Addr.add p3 (Int.toNat (w64 (((y2.len : Int)) - 1)) * 1) := ⟨_, rfl⟩
 rw [← e8] at H
 refine sp 14 (.pointer (some q7)) rfl rfl (fun w => (r_indexAddr Tryz.underlying23 Tryz.sizeOf9 rfl rfl e4 e5 e6 w).trans (by rw [e8])) ?_
 obtain ⟨x9, e10, H⟩ := H
 refine sl 15 (.string x9) rfl rfl (fun dr => r_load1 Tryz.isAgg9 rfl e10) ?_
 refine sp 16 (.bool (decide (x9 = (⟨#[]⟩)))) rfl rfl (r_eqlT rfl rfl) ?_
 refine s_fin ?_
 refine W_set ?_
 intro N13 eN13
 have H := H (fun (lines11 : Sl) => ∀ b, N13 [] (mkE [(3, (Sl.v lines11))] b) h1) (by
  intro lines11 H b
  rw [eN13]
  show W _ _ _ _ _ _ _ _
  refine W_seq ?_
  refine W_seq ?_
  refine W_region (.pu 0 (.pu 1 (.pu 2 .fin))) rfl rfl ?_
  refine sp 22 (Sl.v lines11) rfl rfl (r_move rfl) ?_
  refine sp 23 (.int .i64 ((lines11.len : Int))) rfl rfl (r_len Tryz.underlying23 rfl) ?_
  refine sp 24 (.bool (decide (100 < ((lines11.len : Int))))) rfl rfl (r_gtr rfl rfl) ?_
  refine s_fin ?_
  refine W_if (decide (100 < ((lines11.len : Int)))) rfl (fun g38 => ?_) (fun g38 => ?_)
  ·have H := H.1 g38
   refine W_seq ?_
   refine W_region (.ef 0 [] (.ef 1 [] (.pu 2 .fin) .no) .no) rfl rfl ?_
   refine sc 25 rfl rfl (fun dr => r_call Tryz.call10 rfl rfl H) ?_
   rintro _ h2 ⟨y14, rfl, H⟩
   obtain ⟨p15, e16⟩ : ∃ p : Addr, p = ⟨h2.size, 0, none⟩ := ⟨_, rfl⟩
   obtain ⟨h3, e17⟩ : ∃ hh : Heap, hh = h2.push (.cells #[(.string y14)] 9) := ⟨_, rfl⟩
   have H := H p15 h3 e16 e17
   refine s_ef1 (d := some 26) (v := (Sl.v ((⟨some p15, 1, 1⟩ : Sl)))) (h' := h3) rfl rfl rfl (fun dr => (slFGLine_23.build (cells := #[(.string y14)]) (by decide) rfl (by kernel_rfl)).trans (by rw [e16, e17]; rfl)) trivial ?_ trivial
   refine sp 2 (Sl.v ((⟨some p15, 1, 1⟩ : Sl))) rfl rfl (r_assign rfl) ?_
   refine s_fin ?_
   refine W_ret ?_
   exact ⟨[(Sl.v ((⟨some p15, 1, 1⟩ : Sl)))], ⟨_, _, rfl, rfl, rfl⟩, ((⟨some p15, 1, 1⟩ : Sl)), rfl, H⟩
  ·have H := H.2 g38
   refine W_skip ?_
   show W _ _ _ _ _ _ _ _
   refine W_seq ?_
   refine W_region (.pu 0 (.ef 1 [] (.pu 2 .fin) .no)) rfl rfl ?_
   refine sp 27 (.agg #[(.pointer none), (.pointer none)]) rfl rfl (fun w => by kernel_rfl) ?_
   obtain ⟨p18, e19⟩ : ∃ p : Addr, p = ⟨h1.size, 0, none⟩ := ⟨_, rfl⟩
   obtain ⟨h4, e20⟩ : ∃ hh : Heap, hh = h1.push (.cells #[(.pointer none), (.pointer none)] 46) := ⟨_, rfl⟩
   have H := H p18 h4 e19 e20
   refine s_ef1 (d := some 28) (v := (.pointer (some p18))) (h' := h4) rfl rfl rfl (fun dr => (r_box (v := (.agg #[(.pointer none), (.pointer none)])) rfl).trans (by rw [e19, e20]; rfl)) trivial ?_ trivial
   refine sp 4 (.pointer (some p18)) rfl rfl (r_assign rfl) ?_
   refine s_fin ?_
   refine W_seq ?_
   refine W_region (.pu 0 .fin) rfl rfl ?_
   refine sp 5 (Sl.v Sl.nil) rfl rfl (r_assign rfl) ?_
   refine s_fin ?_
   refine W_seq ?_
   refine W_seq ?_
   refine W_region (.pu 0 (.pu 1 (.pu 2 .fin))) rfl rfl ?_
   refine sp 29 (Sl.v lines11) rfl rfl (r_move rfl) ?_
   refine sp 30 (.int .i64 ((lines11.len : Int))) rfl rfl (r_len Tryz.underlying23 rfl) ?_
   refine sp 31 (.int .i64 0) rfl rfl (r_move rfl) ?_
   refine s_fin ?_
   refine W_block ?_
   refine W_loop (WL_mk (l := [(4, (.pointer (some p18))), (5, (Sl.v Sl.nil)), (29, (Sl.v lines11)), (30, (.int .i64 ((lines11.len : Int)))), (31, (.int .i64 0))]) ?_ ⟨rfl, rfl, rfl, rfl, rfl, trivial⟩)
   refine H (fun (out21 : Sl) (x22 : Int) (h5 : Heap) => ∀ b, WL _ _ _ _ _ _ (mkE [(4, (.pointer (some p18))), (5, (Sl.v out21)), (29, (Sl.v lines11)), (30, (.int .i64 ((lines11.len : Int)))), (31, (.int .i64 x22))] b) h5) ?_
   intro out21 x22 h5 H b
   refine WL_round ?_
   refine W_seq ?_
   refine W_region (.pu 0 .fin) rfl rfl ?_
   refine sp 32 (.bool (decide (x22 < ((lines11.len : Int))))) rfl rfl (r_lss rfl rfl) ?_
   refine s_fin ?_
   refine W_seq ?_
   refine W_if (decide (x22 < ((lines11.len : Int)))) rfl (fun g37 => ?_) (fun g37 => ?_)
   ·have H := H.1 g37
    refine W_skip ?_
    show W _ _ _ _ _ _ _ _
    refine W_seq ?_
    refine W_block ?_
    refine W_seq ?_
    refine W_region (.pu 0 (.rl 1 (.pu 2 .fin))) rfl rfl ?_
    obtain ⟨p24, e25, e26, e27, H⟩ := H
    obtain ⟨q28, e29⟩ : ∃ q : Addr, q = Addr.add p24 (Int.toNat x22 * 1) := ⟨_, rfl⟩
    rw [← e29] at H
    refine sp 33 (.pointer (some q28)) rfl rfl (fun w => (r_indexAddr Tryz.underlying23 Tryz.sizeOf9 rfl rfl e25 e26 e27 w).trans (by rw [e29])) ?_
    obtain ⟨x30, e31, H⟩ := H
    refine sl 34 (.string x30) rfl rfl (fun dr => r_load1 Tryz.isAgg9 rfl e31) ?_
    refine sp 7 (.string x30) rfl rfl (r_assign rfl) ?_
    refine s_fin ?_
    refine W_region (.pu 0 (.pu 1 (.pu 2 (.ef 3 [] (.ef 4 [] (.ef 5 [] (.pu 6 .fin) .no) .no) .no)))) rfl rfl ?_
    refine sp 35 (Sl.v out21) rfl rfl (r_move rfl) ?_
    refine sp 36 (.pointer (some p18)) rfl rfl (r_move rfl) ?_
    refine sp 37 (.string x30) rfl rfl (r_move rfl) ?_
    refine sc 38 rfl rfl (fun dr => r_call Tryz.call11 rfl rfl H) ?_
    rintro _ h6 ⟨y32, rfl, H⟩
    obtain ⟨p33, e34⟩ : ∃ p : Addr, p = ⟨h6.size, 0, none⟩ := ⟨_, rfl⟩
    obtain ⟨h7, e35⟩ : ∃ hh : Heap, hh = h6.push (.cells #[(.string y32)] 9) := ⟨_, rfl⟩
    have H := H p33 h7 e34 e35
    refine s_ef1 (d := some 39) (v := (Sl.v ((⟨some p33, 1, 1⟩ : Sl)))) (h' := h7) rfl rfl rfl (fun dr => (slFGLine_23.build (cells := #[(.string y32)]) (by decide) rfl (by kernel_rfl)).trans (by rw [e34, e35]; rfl)) trivial ?_ trivial
    refine s_ef (d := some 40) rfl rfl rfl (fun dr => slFGLine_23.append rfl rfl H) ?_ trivial
    rintro _ h8 ⟨s36, rfl, H⟩
    refine ⟨trivial, ?_⟩
    refine sp 5 (Sl.v s36) rfl rfl (r_assign rfl) ?_
    refine s_fin ?_
    refine W_region (.pu 0 (.pu 1 .fin)) rfl rfl ?_
    refine sp 41 (.int .i64 (w64 (x22 + 1))) rfl rfl (r_add rfl rfl) ?_
    refine sp 31 (.int .i64 (w64 (x22 + 1))) rfl rfl (r_move rfl) ?_
    refine s_fin ?_
    exact WL_mk (l := [(4, (.pointer (some p18))), (5, (Sl.v s36)), (29, (Sl.v lines11)), (30, (.int .i64 ((lines11.len : Int)))), (31, (.int .i64 (w64 (x22 + 1))))]) H ⟨rfl, rfl, rfl, rfl, rfl, trivial⟩
   ·have H := H.2 g37
    refine W_exit (inX_here ?_)
    show W _ _ _ _ _ _ _ _
    refine W_seq ?_
    refine W_region (.pu 0 (.pu 1 .fin)) rfl rfl ?_
    refine sp 42 (Sl.v out21) rfl rfl (r_move rfl) ?_
    refine sp 2 (Sl.v out21) rfl rfl (r_assign rfl) ?_
    refine s_fin ?_
    refine W_ret ?_
    exact ⟨[(Sl.v out21)], ⟨_, _, rfl, rfl, rfl⟩, out21, rfl, H⟩)
 clear eN13
 refine W_if (decide (x9 = (⟨#[]⟩))) rfl (fun g45 => ?_) (fun g45 => ?_)
 ·have H := H.1 g45
  refine W_region (.pu 0 (.pu 1 (.pu 2 (.pu 3 (.pu 4 (.pu 5 .fin)))))) rfl rfl ?_
  refine sp 17 (Sl.v y2) rfl rfl (r_move rfl) ?_
  refine sp 18 (Sl.v y2) rfl rfl (r_move rfl) ?_
  refine sp 19 (.int .i64 ((y2.len : Int))) rfl rfl (r_len Tryz.underlying23 rfl) ?_
  refine sp 20 (.int .i64 (w64 (((y2.len : Int)) - 1))) rfl rfl (r_sub rfl rfl) ?_
  obtain ⟨e40, e41, e42, e43, H⟩ := H
  obtain ⟨s39, e44⟩ : ∃ t : Sl, t = ⟨sliceA y2.a (Int.toNat ((y2.cap : Int))) (Int.toNat 0) 1, Int.toNat (w64 (((y2.len : Int)) - 1)) - Int.toNat 0, Int.toNat ((y2.cap : Int)) - Int.toNat 0⟩ := ⟨_, rfl⟩
  have H := H s39 e44
  refine sp 21 (Sl.v s39) rfl rfl (fun w => (r_slice (lo := .none) (hi := (.some (.tmp 20))) (mx := .none) Tryz.underlying23 Tryz.sizeOf9 rfl ((y2.cap : Int)) (w64 (((y2.len : Int)) - 1)) 0 rfl ⟨_, rfl⟩ rfl e40 e41 (.inr e42) e43 w).trans (by rw [e44]; rfl)) ?_
  refine sp 3 (Sl.v s39) rfl rfl (r_assign rfl) ?_
  refine s_fin ?_
  exact N_mk (l := [(3, (Sl.v s39))]) H ⟨rfl, trivial⟩
 ·have H := H.2 g45
  refine W_skip ?_
  exact N_mk (l := [(3, (Sl.v y2))]) H ⟨rfl, trivial⟩
end Go.Proofs.YthkimbiknhebeaaGreatDoor
