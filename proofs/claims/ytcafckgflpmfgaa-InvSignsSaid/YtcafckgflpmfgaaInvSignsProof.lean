/-
  The law InvSigns returns true at every input, and each argument reads as it did: no conditions beyond the statement's own.
-/
import Derived.Test.YtcafckgflpmfgaaRows
import Derived.Test.YtcafckgflpmfgaaVInvS
import Derived.Test.YtcafckgflpmfgaaSh
import Derived.SizedLaws
import Derived.WalkKit
import Derived.ProofKit
import Derived.OpenShut
import Derived.ShutString
import Derived.ChangeOld
import Derived.Below

namespace Go.Proofs.Ytcafckgflpmfgaa.invSigns
open Go.ChangeShapes Go.WideShapes Go.ChangeAt Go.RowKit
open Go.ChangeMaps (open_string shut_string)
open Go.Tw
set_option linter.unusedVariables false

theorem own : ownKnob Try.prog.godebug = none := by kernel_rfl
theorem laidOut : laidOutB Try.prog = true := by kernel_rfl

/-! ### The walk -/
theorem walk (s0 : Sl) (l0 : List Int) (s1 : Sl) (l1 : List Int) (w : World) (n0 : l0.length = s0.len) (w0 : Rs w.heap.size 1 w.heap s0 (l0.map (Value.int .i64))) (f0 : ∀ n ∈ l0, -9223372036854775808 ≤ n ∧ n < 9223372036854775808) (m0 : s0.len * 8 ≤ 140737488351232) (n1 : l1.length = s1.len) (w1 : Rs w.heap.size 1 w.heap s1 (l1.map (Value.int .i64))) (f1 : ∀ n ∈ l1, -9223372036854775808 ≤ n ∧ n < 9223372036854775808) (m1 : s1.len * 8 ≤ 140737488351232) :
    Calls Try.prog 4 #[s0.v, s1.v] w fun e w' => e = .returned (.bool true) ∧ Below w.heap.size w w' := by
  have W : Go.Proofs.Ytcafckgflpmfgaa.law5_InvSigns w s0 s1 w.heap fun y h' => y = true ∧ Ext w.heap.size w.heap h' := signs_law (p := l0) (q := l1) w0 w1
  exact walk_of (args := [s0.v, s1.v]) (CallsH.mono W fun v h' ⟨y, hv, hy, E⟩ => ⟨by rw [hv, hy], E⟩)

/-! ### The row's step -/
set_option maxRecDepth 100000 in
theorem lifted (os : Os) (started : os.Started) (H : Type) (enc : TypeId × Value → H) :
    ReturnsInHanded {} Try.checked os 4 .any (Rows.invSignsSpec.pre6 enc Try.prog Try.f4 Rows.invSignsRow.domain false) (Rows.invSignsSpec.post enc Try.prog Try.f4 false true false false) := by
  refine returnsInHanded_of_change_sized (C := Try.checked) own started (by kernel_rfl) Try.func4
    (ChangeSpec.witness6 (enc := enc) (C := Try.checked) false ⟨#[], #[.slice none 0 0, .slice none 0 0], []⟩ 8 (by kernel_rfl) (by kernel_rfl) (by kernel_rfl) (by kernel_rfl)) ?_
  intro W base args ds gs before hval0 hW hcnd hsz _
  have hval : ∀ (j : Nat) t v, Try.f4.params[j]? = some t → args[j]? = some v → Value.okWide Try.prog W .any base t v := hval0
  have hW' := hW
  obtain ⟨p, q, hA0, hV, rfl, hfz, hnd⟩ := hW
  have hA : DataW.TrodAll enc Try.prog W 0 (fun _ => true) true Try.f4.params.toList args.toList ds p := hA0
  rw [Try.params4] at hA hval
  obtain ⟨v0, vs0, d0, ds0, p0, q0, hargs, rfl, rfl, h0, r0⟩ := trodAll_cons hA
  obtain ⟨v1, vs1, d1, ds1, p1, q1, rfl, rfl, rfl, h1, r1⟩ := trodAll_cons r0
  obtain ⟨rfl, rfl, rfl⟩ := trodAll_nil r1
  obtain rfl : args = #[v0, v1] := by cases args; simp_all
  obtain ⟨rfl, rfl⟩ := trodVars_none hV
  have k0 := h0
  have lt0 : ∀ x ∈ p0, x.block < W.heap.size := by obtain ⟨m, hm⟩ := k0; exact DataW.trod_lt m _ _ _ hm
  have k1 := h1
  have lt1 : ∀ x ∈ p1, x.block < W.heap.size := by obtain ⟨m, hm⟩ := k1; exact DataW.trod_lt m _ _ _ hm
  obtain ⟨a0, len0, cap0, rfl⟩ := okWide_slice Try.underlying22 (hval 0 22 v0 rfl rfl)
  obtain ⟨fuel0, hf0⟩ := h0
  obtain ⟨l0, n0, w0, f0, D0⟩ := open_rowI Try.underlying22 Try.underlying3 (by kernel_rfl) hf0 rfl
  have m0 : len0 * 8 ≤ 140737488351232 := D0.sized hsz (j := 0) (t := 22) rfl rfl Try.underlying22 (by kernel_rfl)
  obtain ⟨a1, len1, cap1, rfl⟩ := okWide_slice Try.underlying22 (hval 1 22 v1 rfl rfl)
  obtain ⟨fuel1, hf1⟩ := h1
  obtain ⟨l1, n1, w1, f1, D1⟩ := open_rowI Try.underlying22 Try.underlying3 (by kernel_rfl) hf1 rfl
  have m1 : len1 * 8 ≤ 140737488351232 := D1.sized hsz (j := 1) (t := 22) rfl rfl Try.underlying22 (by kernel_rfl)
  clear hA0 hval0
  refine (walk ⟨a0, len0, cap0⟩ l0 ⟨a1, len1, cap1⟩ l1 W n0 w0 f0 m0 n1 w1 f1 m1).mono fun e W' ⟨he, bel⟩ => ?_
  subst he
  exact ⟨_, rfl, _, _, _, [], _, [], hW', trodAll_mk1 (shut_bool Try.underlying4 _), (trodAll_cons_mk (Below.trod laidOut (by kernel_rfl) (of_decide_eq_true (by kernel_rfl)) k0 bel lt0) (trodAll_cons_mk (Below.trod laidOut (by kernel_rfl) (of_decide_eq_true (by kernel_rfl)) k1 bel lt1) trodAll_mk0)), rfl, bel.frame _, fun h => by cases h⟩

theorem over : Rows.invSignsRow.holds Try.pinned (OpenSpec.ofChange Rows.invSignsSpec) :=
  OpenClaim.holds_of_wide 4 Try.f4 rfl rfl rfl rfl rfl rfl rfl ⟨rfl, rfl, rfl, rfl, rfl⟩ rfl rfl rfl rfl rfl (by kernel_rfl) Try.func4 (by kernel_rfl)
    (of_decide_eq_true (by kernel_rfl)) (by unfold Func.isWrapper; first | (rw [if_pos (by decide +kernel)]; kernel_rfl) | (rw [if_neg (by decide +kernel)]; exact ⟨rfl, rfl⟩))
    (fun os started H enc _ => lifted os started H enc)

theorem proved : Rows.InvSignsSaid := over
#print axioms proved
end Go.Proofs.Ytcafckgflpmfgaa.invSigns
