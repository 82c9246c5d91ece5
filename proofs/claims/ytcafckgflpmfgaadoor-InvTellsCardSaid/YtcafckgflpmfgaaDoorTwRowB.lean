/- The typed layer: a row of bools that came in. -/
import Derived.Test.YtcafckgflpmfgaaDoorTwRow
namespace Go.Tw
open Go Go.RowKit
theorem rs_of_rowB {w : World} {a : Option Addr} {len cap : Nat} {zs : List Bool}
    (H : (a = none ∧ len = 0 ∧ cap = 0 ∧ zs = []) ∨ ∃ x, a = some x ∧ len ≤ cap ∧ cap ≤ maxLen ∧ zs.length = cap ∧ ∀ i, i < zs.length → w.cell? (x.add i) = some (.bool (zs.getD i false))) :
    Rs w.heap.size 1 w.heap ⟨a, len, cap⟩ ((zs.take len).map Value.bool) ∧ (zs.take len).length = len := by
  rcases H with ⟨rfl, rfl, rfl, rfl⟩ | ⟨x, rfl, hl, hm, hz, hc⟩
  · exact ⟨⟨rfl, Nat.le_refl _, .inl rfl⟩, rfl⟩
  · have e1 : (zs.take len).length = len := by rw [List.length_take]; omega
    refine ⟨⟨by rw [List.length_map, e1, Nat.mul_one], hl, ?_⟩, e1⟩
    by_cases h0 : len = 0
    · subst h0; exact .inl (by simp)
    · have hx : hcell w.heap (x.add 0) = some (.bool (zs.getD 0 false)) := hc 0 (by omega)
      have hx0 : x.add 0 = x := by simp [Addr.add]
      have hsp : x.spot = none := by
        rw [hx0] at hx
        unfold hcell at hx
        cases hsp : x.spot with
        | none => rfl
        | some s => simp [hsp] at hx; split at hx <;> simp_all
      obtain ⟨b, o, sp⟩ := x
      simp only at hsp; subst hsp
      refine .inr ⟨b, o, rfl, (by have := hcell_lt hx; rwa [Addr.add_block] at this), fun i hi => ?_⟩
      have hi' : i < len := by rw [List.length_map, e1] at hi; exact hi
      have := hc i (by omega)
      rw [ad_add] at this
      rw [show hcell w.heap (ad b (o + i)) = w.cell? (ad b (o + i)) from rfl, this]
      simp [hi', List.getElem?_eq_getElem (show i < zs.length by omega)]
end Go.Tw
