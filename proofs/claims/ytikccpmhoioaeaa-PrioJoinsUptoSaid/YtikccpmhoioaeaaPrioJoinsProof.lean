/-
  The law PrioJoins returns true at every input of the bounded bulk that the statement names, and each argument reads as it did: no conditions beyond the statement's own.
-/
import Derived.Test.YtikccpmhoioaeaaRows
import Derived.Test.YtikccpmhoioaeaaBulk
import Derived.Test.YtikccpmhoioaeaaPPriJ
import Derived.JoinedCond
import Derived.SizedLaws
import Derived.WalkKit
import Derived.ProofKit
import Derived.OpenShut
import Derived.ShutString
import Derived.ChangeOld
import Derived.Below

namespace Go.Proofs.Ytikccpmhoioaeaa.prioJoins
open Go.ChangeShapes Go.WideShapes Go.ChangeAt Go.RowKit
open Go.ChangeMaps (open_string shut_string)
open Go.Tw
set_option linter.unusedVariables false

theorem own : ownKnob Try.prog.godebug = none := by kernel_rfl
theorem laidOut : laidOutB Try.prog = true := by kernel_rfl

theorem dt_upto {H : Type} {d : DataW H} {len : Nat} (D : Dt d len) (hb : Rows.uptoBulk d ≤ 1048576) : len ≤ 1048576 := by
  rcases D with e | ⟨es, sp, rfl, e⟩
  · omega
  · have := Nat.le_trans (bulks.slice_le _ _) hb
    omega

/-! ### The walk -/
theorem walk (s0 : Sl) (l0 : List Go.Many.It) (s1 : Sl) (l1 : List Go.Many.It) (w : World) (n0 : l0.length = s0.len) (w0 : Rs w.heap.size 2 w.heap s0 (l0.flatMap fun v => [iV v.rank, iV v.val])) (m0 : s0.len ≤ 1048576) (n1 : l1.length = s1.len) (w1 : Rs w.heap.size 2 w.heap s1 (l1.flatMap fun v => [iV v.rank, iV v.val])) (m1 : s1.len ≤ 1048576) :
    Calls Try.prog 4 #[s0.v, s1.v] w fun e w' => e = .returned (.bool true) ∧ Below w.heap.size w w' := by
  have W : Go.Proofs.Ytikccpmhoioaeaa.law3_PrioJoins w s0 s1 w.heap fun y h' => y = true ∧ Ext w.heap.size w.heap h' := Pr.joins_law (a := l0) (b := l1) w0 w1 (by omega)
  exact walk_of (args := [s0.v, s1.v]) (CallsH.mono W fun v h' ⟨y, hv, hy, E⟩ => ⟨by rw [hv, hy], E⟩)

/-! ### The row's step, its first part: what the walk gives -/
set_option maxRecDepth 100000 in
theorem contract (H : Type) (enc : TypeId × Value → H) (W : World) (base : Nat) (args : Array Value) (ds gs : List (DataW H)) (before : List MemPlace)
    (hval0 : ∀ (j : Nat) t v, Try.f4.params[j]? = some t → args[j]? = some v → Value.okWide Try.prog W .any base t v)
    (hW : DataW.Whole enc Try.prog Try.f4.params.toList Rows.prioJoinsSpec.vars false W args.toList ds gs before) (hk : Rows.uptoSmall H (ds ++ gs) = true) :
    Calls Try.prog 4 args W fun e W' => ∃ v, e = .returned v ∧ Rows.prioJoinsSpec.post enc Try.prog Try.f4 false true false false W args v W' := by
  have hval : ∀ (j : Nat) t v, Try.f4.params[j]? = some t → args[j]? = some v → Value.okWide Try.prog W .any base t v := hval0
  have hW' := hW
  obtain ⟨p, q, hA0, hV, rfl, hfz, hnd⟩ := hW
  have hA : DataW.TrodAll enc Try.prog W 0 (fun _ => true) true Try.f4.params.toList args.toList ds p := hA0
  rw [Try.params4] at hA hval
  obtain ⟨v0, vs0, d0, ds0, p0, q0, hargs, rfl, rfl, h0, r0⟩ := trodAll_cons hA
  obtain ⟨v1, vs1, d1, ds1, p1, q1, rfl, rfl, rfl, h1, r1⟩ := trodAll_cons r0
  obtain ⟨rfl, rfl, rfl⟩ := trodAll_nil r1
  obtain rfl : args = #[v0, v1] := by cases args; simp_all
  obtain ⟨rfl, rfl⟩ := trodVars_none hV
  have k0 := h0
  have lt0 : ∀ x ∈ p0, x.block < W.heap.size := by obtain ⟨m, hm⟩ := k0; exact DataW.trod_lt m _ _ _ hm
  have k1 := h1
  have lt1 : ∀ x ∈ p1, x.block < W.heap.size := by obtain ⟨m, hm⟩ := k1; exact DataW.trod_lt m _ _ _ hm
  have hb := bulks.bound hk
  obtain ⟨a0, len0, cap0, rfl⟩ := okWide_slice Try.underlying35 (hval 0 35 v0 rfl rfl)
  obtain ⟨fuel0, hf0⟩ := h0
  obtain ⟨l0, n0, w0, D0⟩ := open_items Try.underlying35 Try.underlying43 (by kernel_rfl) rfl rfl (by kernel_rfl) (by kernel_rfl) Try.underlying3 Try.underlying3 hf0 rfl
  have m0 := dt_upto D0 (Nat.le_trans (bulks.part_le (by simp)) hb)
  obtain ⟨a1, len1, cap1, rfl⟩ := okWide_slice Try.underlying35 (hval 1 35 v1 rfl rfl)
  obtain ⟨fuel1, hf1⟩ := h1
  obtain ⟨l1, n1, w1, D1⟩ := open_items Try.underlying35 Try.underlying43 (by kernel_rfl) rfl rfl (by kernel_rfl) (by kernel_rfl) Try.underlying3 Try.underlying3 hf1 rfl
  have m1 := dt_upto D1 (Nat.le_trans (bulks.part_le (by simp)) hb)
  clear hA0 hval0
  refine (walk ⟨a0, len0, cap0⟩ l0 ⟨a1, len1, cap1⟩ l1 W n0 w0 m0 n1 w1 m1).mono fun e W' ⟨he, bel⟩ => ?_
  subst he
  exact ⟨_, rfl, _, _, _, [], _, [], hW', trodAll_mk1 (shut_bool Try.underlying4 _), (trodAll_cons_mk (Below.trod laidOut (by kernel_rfl) (of_decide_eq_true (by kernel_rfl)) k0 bel lt0) (trodAll_cons_mk (Below.trod laidOut (by kernel_rfl) (of_decide_eq_true (by kernel_rfl)) k1 bel lt1) trodAll_mk0)), rfl, bel.frame _, fun h => by cases h⟩

/-! ### Its second part: where what is read is of bounded bulk -/
set_option maxRecDepth 100000 in
theorem lifted (os : Os) (started : os.Started) (H : Type) (enc : TypeId × Value → H) (F : Stop.Interp) :
    ReturnsInHanded {} Try.checked os 4 .any ((Rows.OpenSpec.upto Rows.prioJoinsSpec).pre6 enc Try.prog Try.f4 Rows.prioJoinsUptoRow.domain false) (((Rows.OpenSpec.upto Rows.prioJoinsSpec).at F).post enc Try.prog Try.f4 false true false false) := by
  refine returnsInHanded_of_cond (C := Try.checked) (s := Rows.OpenSpec.upto Rows.prioJoinsSpec) (k := Rows.uptoSmall) rfl own started (by kernel_rfl) Try.func4
    (OpenSpec.witness (enc := enc) (C := Try.checked) (s := Rows.OpenSpec.upto Rows.prioJoinsSpec) (k := Rows.uptoSmall) rfl false ⟨#[], #[.slice none 0 0, .slice none 0 0], []⟩ 8 (by kernel_rfl) (by kernel_rfl) (by kernel_rfl)
      (x := ([.nil, .nil], [], [])) (by kernel_rfl) rfl (by kernel_rfl)) ?_
  intro W base args ds gs before hval hW _ hk _
  exact contract H enc W base args ds gs before hval hW hk

theorem over : Rows.prioJoinsUptoRow.holds Try.pinned (Rows.OpenSpec.upto Rows.prioJoinsSpec) :=
  OpenClaim.holds_of_cond 4 Try.f4 rfl rfl rfl rfl rfl rfl rfl ⟨rfl, rfl, rfl, rfl, rfl⟩ rfl rfl rfl rfl rfl (by kernel_rfl) Try.func4 (by kernel_rfl)
    (of_decide_eq_true (by kernel_rfl)) (by unfold Func.isWrapper; first | (rw [if_pos (by decide +kernel)]; kernel_rfl) | (rw [if_neg (by decide +kernel)]; exact ⟨rfl, rfl⟩))
    (fun os started H enc _ F => lifted os started H enc F)

theorem proved : Rows.PrioJoinsUptoSaid := over
#print axioms proved
end Go.Proofs.Ytikccpmhoioaeaa.prioJoins
