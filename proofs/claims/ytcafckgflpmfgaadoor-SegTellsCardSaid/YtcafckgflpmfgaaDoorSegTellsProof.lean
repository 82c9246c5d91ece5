/-
  The law SegTells returns true at every input, and each argument reads as it did: no conditions beyond the statement's own.
-/
import Derived.Test.YtcafckgflpmfgaaDoorRows
import Derived.Test.YtcafckgflpmfgaaDoorDoor
import Derived.Test.YtcafckgflpmfgaaDoorDSegU
import Derived.Test.YtcafckgflpmfgaaDoorSh
import Derived.SizedLaws
import Derived.WalkKit
import Derived.ProofKit
import Derived.OpenShut
import Derived.ShutString
import Derived.ChangeOld
import Derived.Below

namespace Go.Proofs.YtcafckgflpmfgaaDoor.segTells
open Go.ChangeShapes Go.WideShapes Go.ChangeAt Go.RowKit
open Go.ChangeMaps (open_string shut_string)
open Go.Tw
set_option linter.unusedVariables false

theorem own : ownKnob Tryd.prog.godebug = none := by kernel_rfl
theorem laidOut : laidOutB Tryd.prog = true := by kernel_rfl

/-! ### The walk -/
theorem walk (s0 : Sl) (l0 : List Int) (s1 : Sl) (l1 : List Bool) (s2 : Sl) (l2 : List Int) (s3 : Sl) (l3 : List Int) (s4 : Sl) (l4 : List Int) (w : World) (n0 : l0.length = s0.len) (w0 : Rs w.heap.size 1 w.heap s0 (l0.map (Value.int .i64))) (f0 : ∀ n ∈ l0, -9223372036854775808 ≤ n ∧ n < 9223372036854775808) (m0 : s0.len * 8 ≤ 140737488351232) (n1 : l1.length = s1.len) (w1 : Rs w.heap.size 1 w.heap s1 (l1.map Value.bool)) (n2 : l2.length = s2.len) (w2 : Rs w.heap.size 1 w.heap s2 (l2.map (Value.int .i64))) (f2 : ∀ n ∈ l2, -9223372036854775808 ≤ n ∧ n < 9223372036854775808) (m2 : s2.len * 8 ≤ 140737488351232) (n3 : l3.length = s3.len) (w3 : Rs w.heap.size 1 w.heap s3 (l3.map (Value.int .i64))) (f3 : ∀ n ∈ l3, -9223372036854775808 ≤ n ∧ n < 9223372036854775808) (m3 : s3.len * 8 ≤ 140737488351232) (n4 : l4.length = s4.len) (w4 : Rs w.heap.size 1 w.heap s4 (l4.map (Value.int .i64))) (f4 : ∀ n ∈ l4, -9223372036854775808 ≤ n ∧ n < 9223372036854775808) (m4 : s4.len * 8 ≤ 140737488351232) (hg : w.cell? ⟨0, 0, none⟩ = some (.iface 200 (.agg #[.pointer (some ⟨1, 26, none⟩)]))) :
    Calls Tryd.prog 7 #[s0.v, s1.v, s2.v, s3.v, s4.v] w fun e w' => e = .returned (.bool true) ∧ Below w.heap.size w w' := by
  have W : Go.Proofs.YtcafckgflpmfgaaDoor.law5_SegTells w s0 s1 s2 s3 s4 w.heap fun y h' => y = true ∧ Ext w.heap.size w.heap h' := SegX.segtells_law hg w0 f0 w1 w2 w3 w4 f4
  exact walk_of (args := [s0.v, s1.v, s2.v, s3.v, s4.v]) (CallsH.mono W fun v h' ⟨y, hv, hy, E⟩ => ⟨by rw [hv, hy], E⟩)

/-! ### What the walk gives -/
set_option maxRecDepth 100000 in
theorem contract (H : Type) (enc : TypeId × Value → H) (W : World) (base : Nat) (args : Array Value) (ds gs : List (DataW H)) (before : List MemPlace)
    (hval0 : ∀ (j : Nat) t v, Tryd.f7.params[j]? = some t → args[j]? = some v → Value.okWide Tryd.prog W .any base t v)
    (hW : DataW.Whole enc Tryd.prog Tryd.f7.params.toList Rows.segTellsSpec.vars false W args.toList ds gs before)
    (hsz : (DataW.weightsEach Tryd.prog (Tryd.f7.params.toList ++ (OpenSpec.ofChange Rows.segTellsSpec).bare.plain.varTypes Tryd.prog) (ds ++ gs)).all (· ≤ reachBytes) = true)
    (hL : laidMetH Tryd.prog Dr.Laid W) :
    Calls Tryd.prog 7 args W fun e W' => ∃ v, e = .returned v ∧ Rows.segTellsSpec.post enc Tryd.prog Tryd.f7 false true false false W args v W' := by
  have hval : ∀ (j : Nat) t v, Tryd.f7.params[j]? = some t → args[j]? = some v → Value.okWide Tryd.prog W .any base t v := hval0
  have hW' := hW
  obtain ⟨p, q, hA0, hV, rfl, hfz, hnd⟩ := hW
  have hA : DataW.TrodAll enc Tryd.prog W 0 (fun _ => true) true Tryd.f7.params.toList args.toList ds p := hA0
  rw [Tryd.params7] at hA hval
  obtain ⟨v0, vs0, d0, ds0, p0, q0, hargs, rfl, rfl, h0, r0⟩ := trodAll_cons hA
  obtain ⟨v1, vs1, d1, ds1, p1, q1, rfl, rfl, rfl, h1, r1⟩ := trodAll_cons r0
  obtain ⟨v2, vs2, d2, ds2, p2, q2, rfl, rfl, rfl, h2, r2⟩ := trodAll_cons r1
  obtain ⟨v3, vs3, d3, ds3, p3, q3, rfl, rfl, rfl, h3, r3⟩ := trodAll_cons r2
  obtain ⟨v4, vs4, d4, ds4, p4, q4, rfl, rfl, rfl, h4, r4⟩ := trodAll_cons r3
  obtain ⟨rfl, rfl, rfl⟩ := trodAll_nil r4
  obtain rfl : args = #[v0, v1, v2, v3, v4] := by cases args; simp_all
  obtain ⟨rfl, rfl⟩ := trodVars_none hV
  have k0 := h0
  have lt0 : ∀ x ∈ p0, x.block < W.heap.size := by obtain ⟨m, hm⟩ := k0; exact DataW.trod_lt m _ _ _ hm
  have k1 := h1
  have lt1 : ∀ x ∈ p1, x.block < W.heap.size := by obtain ⟨m, hm⟩ := k1; exact DataW.trod_lt m _ _ _ hm
  have k2 := h2
  have lt2 : ∀ x ∈ p2, x.block < W.heap.size := by obtain ⟨m, hm⟩ := k2; exact DataW.trod_lt m _ _ _ hm
  have k3 := h3
  have lt3 : ∀ x ∈ p3, x.block < W.heap.size := by obtain ⟨m, hm⟩ := k3; exact DataW.trod_lt m _ _ _ hm
  have k4 := h4
  have lt4 : ∀ x ∈ p4, x.block < W.heap.size := by obtain ⟨m, hm⟩ := k4; exact DataW.trod_lt m _ _ _ hm
  obtain ⟨a0, len0, cap0, rfl⟩ := okWide_slice Tryd.underlying22 (hval 0 22 v0 rfl rfl)
  obtain ⟨fuel0, hf0⟩ := h0
  obtain ⟨l0, n0, w0, f0, D0⟩ := open_rowI Tryd.underlying22 Tryd.underlying3 (by kernel_rfl) hf0 rfl
  have m0 : len0 * 8 ≤ 140737488351232 := D0.sized hsz (j := 0) (t := 22) rfl rfl Tryd.underlying22 (by kernel_rfl)
  obtain ⟨a1, len1, cap1, rfl⟩ := okWide_slice Tryd.underlying61 (hval 1 61 v1 rfl rfl)
  obtain ⟨fuel1, hf1⟩ := h1
  obtain ⟨l1, n1, w1⟩ := open_rowB Tryd.underlying61 Tryd.underlying4 (by kernel_rfl) hf1 rfl
  obtain ⟨a2, len2, cap2, rfl⟩ := okWide_slice Tryd.underlying22 (hval 2 22 v2 rfl rfl)
  obtain ⟨fuel2, hf2⟩ := h2
  obtain ⟨l2, n2, w2, f2, D2⟩ := open_rowI Tryd.underlying22 Tryd.underlying3 (by kernel_rfl) hf2 rfl
  have m2 : len2 * 8 ≤ 140737488351232 := D2.sized hsz (j := 2) (t := 22) rfl rfl Tryd.underlying22 (by kernel_rfl)
  obtain ⟨a3, len3, cap3, rfl⟩ := okWide_slice Tryd.underlying22 (hval 3 22 v3 rfl rfl)
  obtain ⟨fuel3, hf3⟩ := h3
  obtain ⟨l3, n3, w3, f3, D3⟩ := open_rowI Tryd.underlying22 Tryd.underlying3 (by kernel_rfl) hf3 rfl
  have m3 : len3 * 8 ≤ 140737488351232 := D3.sized hsz (j := 3) (t := 22) rfl rfl Tryd.underlying22 (by kernel_rfl)
  obtain ⟨a4, len4, cap4, rfl⟩ := okWide_slice Tryd.underlying22 (hval 4 22 v4 rfl rfl)
  obtain ⟨fuel4, hf4⟩ := h4
  obtain ⟨l4, n4, w4, f4, D4⟩ := open_rowI Tryd.underlying22 Tryd.underlying3 (by kernel_rfl) hf4 rfl
  have m4 : len4 * 8 ≤ 140737488351232 := D4.sized hsz (j := 4) (t := 22) rfl rfl Tryd.underlying22 (by kernel_rfl)
  clear hA0 hval0
  refine (walk ⟨a0, len0, cap0⟩ l0 ⟨a1, len1, cap1⟩ l1 ⟨a2, len2, cap2⟩ l2 ⟨a3, len3, cap3⟩ l3 ⟨a4, len4, cap4⟩ l4 W n0 w0 f0 m0 n1 w1 n2 w2 f2 m2 n3 w3 f3 m3 n4 w4 f4 m4 (Dr.handle_of_laid hL)).mono fun e W' ⟨he, bel⟩ => ?_
  subst he
  exact ⟨_, rfl, _, _, _, [], _, [], hW', trodAll_mk1 (shut_bool Tryd.underlying4 _), (trodAll_cons_mk (Below.trod laidOut (by kernel_rfl) (of_decide_eq_true (by kernel_rfl)) k0 bel lt0) (trodAll_cons_mk (Below.trod laidOut (by kernel_rfl) (of_decide_eq_true (by kernel_rfl)) k1 bel lt1) (trodAll_cons_mk (Below.trod laidOut (by kernel_rfl) (of_decide_eq_true (by kernel_rfl)) k2 bel lt2) (trodAll_cons_mk (Below.trod laidOut (by kernel_rfl) (of_decide_eq_true (by kernel_rfl)) k3 bel lt3) (trodAll_cons_mk (Below.trod laidOut (by kernel_rfl) (of_decide_eq_true (by kernel_rfl)) k4 bel lt4) trodAll_mk0))))), rfl, bel.frame _, fun h => by cases h⟩

theorem reads (os : Os) {H : Type} (enc : TypeId × Value → H) : ∃ places, DataW.whole enc Tryd.prog ((Dr.laidWorld os).forCall (fun _ _ => 0) ⟨#[], #[.slice none 0 0, .slice none 0 0, .slice none 0 0, .slice none 0 0, .slice none 0 0], []⟩).memory Tryd.f7.params.toList Rows.segTellsSpec.vars false #[Value.slice none 0 0, Value.slice none 0 0, Value.slice none 0 0, Value.slice none 0 0, Value.slice none 0 0].toList 8 = some ([.nil, .nil, .nil, .nil, .nil], [], places) :=
  ⟨[], by kernel_rfl⟩
set_option maxRecDepth 100000 in
theorem lifted (os : Os) (started : os.Started) (H : Type) (enc : TypeId × Value → H) (F : Stop.Interp) :
    ReturnsInHanded {} Tryd.checked os 7 .any ((OpenSpec.ofChange Rows.segTellsSpec).preRow enc Tryd.prog Tryd.f7 Rows.segTellsRow.domain false Rows.segTellsRow.laid) (((OpenSpec.ofChange Rows.segTellsSpec).at F).post enc Tryd.prog Tryd.f7 false true false false) := by
  obtain ⟨places, hx⟩ := reads os enc
  refine returnsInHanded_of_row (C := Tryd.checked) (s := OpenSpec.ofChange Rows.segTellsSpec) own started (by kernel_rfl) Tryd.func7
    (witness_row_at (enc := enc) (C := Tryd.checked) false (Dr.laidWorld os) #[.slice none 0 0, .slice none 0 0, .slice none 0 0, .slice none 0 0, .slice none 0 0] rfl (by kernel_rfl) (by kernel_rfl) (by kernel_rfl)
      (OpenSpec.preRow_of_cond 8 hx (by kernel_rfl) (fun k hk => by cases hk) (by kernel_rfl) (Dr.laidWorld_met os _))) ?_
  intro W base args ds gs before hval hW _ hcond hsz hL _ _
  exact contract H enc W base args ds gs before hval hW hsz hL
theorem said : Rows.SegTellsSaid :=
  OpenClaim.holds_of_cond 7 Tryd.f7 rfl rfl rfl rfl rfl rfl rfl ⟨rfl, rfl, rfl, rfl, rfl⟩ rfl rfl rfl rfl rfl (by kernel_rfl) Tryd.func7 (by kernel_rfl)
    (of_decide_eq_true (by kernel_rfl)) (by unfold Func.isWrapper; first | (rw [if_pos (by decide +kernel)]; kernel_rfl) | (rw [if_neg (by decide +kernel)]; exact ⟨rfl, rfl⟩))
    (fun os started H enc _ F => by rw [OpenClaim.pre_eq_preRow]; exact lifted os started H enc F)
theorem plain (f : FuncId) (fn : Func) (hf : Tryd.pinned.checked.prog.funcNamed "wattlework/wattleworklaw5.SegTells" = some f) (hfn : Tryd.pinned.checked.prog.funcs[f]? = some fn) :
    true = Tryd.pinned.checked.prog.looks [] ∧ ∀ (j : Nat) t, fn.params[j]? = some t → Tryd.pinned.checked.prog.wantsStandIn t = false := by
  obtain rfl : f = 7 := Option.some.inj ((show Tryd.prog.funcNamed "wattlework/wattleworklaw5.SegTells" = some 7 by kernel_rfl).symm.trans hf) |>.symm
  obtain rfl : fn = Tryd.f7 := (Option.some.inj (Tryd.func7.symm.trans hfn)).symm
  refine ⟨by kernel_rfl, fun j t ht => ?_⟩
  rw [Tryd.params7] at ht
  have hm : t ∈ [22, 61, 22, 22, 22] := by have := Array.mem_of_getElem? ht; simpa using this
  revert hm
  clear ht
  intro hm
  have all : ([22, 61, 22, 22, 22].all fun t => !Tryd.prog.wantsStandIn t) = true := by kernel_rfl
  have := List.all_eq_true.1 all t hm
  exact (show Tryd.prog.wantsStandIn t = false by simpa using this)
/-- the card -/
theorem proved : Rows.SegTellsCardSaid :=
  Claim7.holds_tied_plain_at .later [] _ _ _ _ said (fun _ h => by cases h) (by kernel_rfl) (fun _ h => by cases h) segTells_row_tie rfl ⟨rfl, rfl⟩ (by kernel_rfl) rfl plain (by kernel_rfl)
#print axioms proved
end Go.Proofs.YtcafckgflpmfgaaDoor.segTells
