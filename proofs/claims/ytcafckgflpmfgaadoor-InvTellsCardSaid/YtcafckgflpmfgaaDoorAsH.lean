/- errors.As, over heaps. -/
import Derived.Test.YtcafckgflpmfgaaDoorAsE
import Derived.Test.YtcafckgflpmfgaaDoorTwMore
namespace Go.Proofs.YtcafckgflpmfgaaDoor
open Go Go.RowKit Go.Tw
abbrev errors_As (r : World) (a1 a2 : Value) (h : Heap) (R : Bool → Heap → Prop) : Prop :=
  CallsH Tryd.prog r 105 [a1, a2] h fun v h' => ∃ y : Bool, v = .bool y ∧ R y h'
/-- the library's variable holds the handle of 'error' -/
def Er (h : Heap) : Prop := hcell h ⟨0, 0, none⟩ = some (.iface 200 (.agg #[.pointer (some ⟨1, 26, none⟩)]))
theorem Er.lt {h : Heap} (H : Er h) : 0 < h.size := hcell_lt H
theorem Er.ext {h h' : Heap} {n : Nat} (H : Er h) (E : Ext n h h') (hn : 0 < n) : Er h' := by unfold Er; rw [Ext.cell E hn]; exact H
theorem Er.fw {h h' : Heap} (H : Er h) (E : Fw h h') : Er h' := H.ext E H.lt
/-- an error of a number: nothing is none -/
def Ev (n : Int) : Value := if n = 0 then .nilIface else .iface 29 (.int .i64 n)
theorem Ev.zero : Ev 0 = .nilIface := rfl
theorem Ev.num {n : Int} (h : n ≠ 0) : Ev n = .iface 29 (.int .i64 n) := if_neg h
theorem Ev.isIface (n : Int) : isIface (Ev n) = true := by unfold Ev; split <;> rfl
theorem Ev.isNil (n : Int) : isNil (Ev n) = decide (n = 0) := by
  unfold Ev
  by_cases h : n = 0
  · rw [if_pos h, decide_eq_true h]; rfl
  · rw [if_neg h, decide_eq_false h]; rfl
set_option maxRecDepth 100000 in
theorem errors_As_ok {r : World} {h : Heap} {n : Int} {b : Nat} {old : Value} {R : Bool → Heap → Prop} (hg : Er h) (B : Blk h b [old]) (H : ∀ h', h.size ≤ h'.size → (∀ d, d < h.size → d ≠ b → h'[d]? = h[d]?) → Blk h' b [.int .i64 n] → R true h') :
    errors_As r (.iface 29 (.int .i64 n)) (.iface 148 (.pointer (some (ad b 0)))) h R := by
  intro dr
  refine Calls.mono (as_hit n (ad b 0) old (wd r h dr) hg (B.cell' rfl) (B.froz 0)) ?_
  rintro e w ⟨rfl, rfl⟩
  refine ⟨_, hset ((((h.push (.cells #[.pointer (some (ad b 0))] 148)).push (.cells #[.pointer (some ⟨1, 148, none⟩), .pointer (some ⟨h.size, 0, none⟩), .int .u64 150] 179)).push (.cells #[.pointer (some ⟨1, 148, none⟩), .pointer (some ⟨h.size, 0, none⟩), .int .u64 150] 179)).push (.cells #[.int .i64 n] 29)) (ad b 0) (.int .i64 n), dr, rfl, rfl, true, rfl, H _ ?_ (fun d hd hne => ?_) ?_⟩
  · rw [hset_size]; simp; omega
  · rw [hset_other (fun e => hne e.symm), push_old (by simp; omega), push_old (by simp; omega), push_old (by simp; omega), push_old hd]
  · have := (B.push.push.push.push : Blk ((((h.push (.cells #[.pointer (some (ad b 0))] 148)).push (.cells #[.pointer (some ⟨1, 148, none⟩), .pointer (some ⟨h.size, 0, none⟩), .int .u64 150] 179)).push (.cells #[.pointer (some ⟨1, 148, none⟩), .pointer (some ⟨h.size, 0, none⟩), .int .u64 150] 179)).push (.cells #[.int .i64 n] 29)) b [old]).set (o := 0) (v := .int .i64 n)
    exact this
end Go.Proofs.YtcafckgflpmfgaaDoor
