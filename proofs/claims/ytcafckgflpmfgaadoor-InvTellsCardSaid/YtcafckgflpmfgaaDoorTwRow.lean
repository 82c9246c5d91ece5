/- The typed layer: from a call over heaps to the walk that a row asks for. -/
import Derived.Test.YtcafckgflpmfgaaDoorTwBlk
import Derived.Below
namespace Go.Tw
open Go Go.RowKit

theorem walk_of {P : Program} {f : FuncId} {args : List Value} {w : World} (H : CallsH P w f args w.heap fun v h' => v = .bool true ∧ Ext w.heap.size w.heap h') :
    Calls P f args.toArray w fun e w' => e = .returned (.bool true) ∧ Below w.heap.size w w' := by
  have h1 := H w.drawn
  rw [wd_eta] at h1
  refine h1.mono fun x w' hx => ?_
  obtain ⟨v, h', dr', rfl, rfl, rfl, E⟩ := hx
  exact ⟨rfl, rfl, rfl, rfl, E.1, E.2⟩

/-- a row of whole numbers that came in -/
theorem rs_of_row {k : IntKind} {w : World} {a : Option Addr} {len cap : Nat} {zs : List Int}
    (H : (a = none ∧ len = 0 ∧ cap = 0 ∧ zs = []) ∨ ∃ x, a = some x ∧ len ≤ cap ∧ cap ≤ maxLen ∧ zs.length = cap ∧ (∀ i, i < zs.length → w.cell? (x.add i) = some (.int k (zs.getD i 0))) ∧ ∀ n ∈ zs, (Lit.int k n).wf = true) :
    Rs w.heap.size 1 w.heap ⟨a, len, cap⟩ ((zs.take len).map (Value.int k)) ∧ len ≤ maxLen ∧ (zs.take len).length = len ∧ ∀ n ∈ zs.take len, (Lit.int k n).wf = true := by
  rcases H with ⟨rfl, rfl, rfl, rfl⟩ | ⟨x, rfl, hl, hm, hz, hc, hw⟩
  · exact ⟨⟨rfl, Nat.le_refl _, .inl rfl⟩, Nat.zero_le _, rfl, by simp⟩
  · have e1 : (zs.take len).length = len := by rw [List.length_take]; omega
    refine ⟨⟨by rw [List.length_map, e1, Nat.mul_one], hl, ?_⟩, Nat.le_trans hl hm, e1, fun n hn => hw n (List.mem_of_mem_take hn)⟩
    by_cases h0 : len = 0
    · subst h0; exact .inl (by simp)
    · have hx : hcell w.heap (x.add 0) = some (.int k (zs.getD 0 0)) := hc 0 (by omega)
      have hx0 : x.add 0 = x := by simp [Addr.add]
      have hsp : x.spot = none := by
        rw [hx0] at hx
        unfold hcell at hx
        cases hsp : x.spot with
        | none => rfl
        | some s => simp [hsp] at hx; split at hx <;> simp_all
      obtain ⟨b, o, sp⟩ := x
      simp only at hsp; subst hsp
      refine .inr ⟨b, o, rfl, (by have := hcell_lt hx; rwa [Addr.add_block] at this), fun i hi => ?_⟩
      have hi' : i < len := by rw [List.length_map, e1] at hi; exact hi
      have := hc i (by omega)
      rw [ad_add] at this
      rw [show hcell w.heap (ad b (o + i)) = w.cell? (ad b (o + i)) from rfl, this]
      simp [hi', List.getElem?_eq_getElem (show i < zs.length by omega)]

theorem wf_i64 {n : Int} (h : (Lit.int .i64 n).wf = true) : -9223372036854775808 ≤ n ∧ n < 9223372036854775808 := by
  simp only [Lit.wf, Bool.and_eq_true, decide_eq_true_eq] at h
  have e1 : IntKind.i64.min = -9223372036854775808 := by decide
  have e2 : IntKind.i64.max = 9223372036854775807 := by decide
  omega
end Go.Tw
