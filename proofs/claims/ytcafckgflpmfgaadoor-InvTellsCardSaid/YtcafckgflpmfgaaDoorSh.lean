/- What the row tells of a slice that comes in: its cells, and how long it is. -/
import Derived.Test.YtcafckgflpmfgaaDoorTwRow
import Derived.Test.YtcafckgflpmfgaaDoorTwRowB
import Derived.Deep.Grids
import Derived.SizedLaws
import Derived.ChangeArms
namespace Go.Tw
open Go Go.RowKit Go.ChangeShapes Go.WideShapes Go.Deep
section
variable {H : Type} {enc : TypeId × Value → H} {P : Program} {w : World} {base : Nat} {held : Bool}
/-- the datum of a slice so long -/
def Dt (d : DataW H) (len : Nat) : Prop := len = 0 ∨ ∃ es sp, d = .slice es sp ∧ es.length = len
theorem Dt.sized {d : DataW H} {len b : Nat} {ts : List TypeId} {ds : List (DataW H)} {j : Nat} {t e : TypeId} (D : Dt d len) (h : (DataW.weightsEach P ts ds).all (· ≤ reachBytes) = true) (ht : ts[j]? = some t) (hd : ds[j]? = some d) (hu : P.underlying t = some (.slice e)) (hb : P.bytesOf e = b) : len * b ≤ 140737488351232 := by
  rcases D with e0 | ⟨es, sp, e1, e2⟩
  · rw [e0, Nat.zero_mul]; exact Nat.zero_le _
  · subst e1
    have h1 := sized_slice h ht hd hu
    rw [hb] at h1
    have e9 : reachBytes = 140737488351232 := by decide
    have h2 : es.length * b ≤ (es.length + sp.length) * b := Nat.mul_le_mul_right _ (by omega)
    rw [← e2]; omega
theorem open_rowI {t e : TypeId} {fuel : Nat} {cs : List Value} {x : DataW H × List MemPlace} {a : Option Addr} {len cap : Nat} (ht : P.underlying t = some (.slice e)) (he : P.underlying e = some (.int .i64)) (hc : P.cellsOf e = 1)
    (h : DataW.trod enc P w base (fun _ => true) held fuel t cs = some x) (hcs : cs = [.slice a len cap]) :
    ∃ l : List Int, l.length = len ∧ Rs w.heap.size 1 w.heap ⟨a, len, cap⟩ (l.map (Value.int .i64)) ∧ (∀ n ∈ l, -9223372036854775808 ≤ n ∧ n < 9223372036854775808) ∧ Dt x.1 len := by
  rcases open_ints ht he hc h with ⟨h1, hx⟩ | ⟨x', l', c', zs, h1, _, hl, hm, hz, hx, hcell, hwz⟩
  · rw [h1] at hcs
    simp at hcs
    obtain ⟨rfl, rfl, rfl⟩ := hcs
    exact ⟨[], rfl, ⟨rfl, Nat.le_refl _, .inl rfl⟩, by simp, .inl rfl⟩
  · rw [h1] at hcs
    simp at hcs
    obtain ⟨rfl, rfl, rfl⟩ := hcs
    simp only [if_true] at hz
    obtain ⟨r1, r2, r3, r4⟩ := rs_of_row (k := .i64) (w := w) (a := some x') (len := l') (cap := c') (zs := zs) (.inr ⟨x', rfl, hl, hm, hz, hcell, hwz⟩)
    refine ⟨zs.take l', r3, r1, fun n hn => wf_i64 (r4 n hn), .inr ⟨_, _, by rw [hx], ?_⟩⟩
    simp [lits]; omega
theorem open_rowB {t e : TypeId} {fuel : Nat} {cs : List Value} {x : DataW H × List MemPlace} {a : Option Addr} {len cap : Nat} (ht : P.underlying t = some (.slice e)) (he : P.underlying e = some .bool) (hc : P.cellsOf e = 1)
    (h : DataW.trod enc P w base (fun _ => true) held fuel t cs = some x) (hcs : cs = [.slice a len cap]) :
    ∃ l : List Bool, l.length = len ∧ Rs w.heap.size 1 w.heap ⟨a, len, cap⟩ (l.map Value.bool) := by
  rcases open_bools ht he hc h with ⟨h1, hx⟩ | ⟨x', l', c', B, h1, _, hl, hm, hx, hcell⟩
  · rw [h1] at hcs
    simp at hcs
    obtain ⟨rfl, rfl, rfl⟩ := hcs
    exact ⟨[], rfl, ⟨rfl, Nat.le_refl _, .inl rfl⟩⟩
  · rw [h1] at hcs
    simp at hcs
    obtain ⟨rfl, rfl, rfl⟩ := hcs
    obtain ⟨r1, r2⟩ := rs_of_rowB (w := w) (a := some x') (len := l') (cap := c') (zs := (List.range c').map B) (.inr ⟨x', rfl, hl, hm, by simp, fun i hi => by
      have hi : i < c' := by simpa using hi
      rw [hcell i hi, List.getD_eq_getElem?_getD, List.getElem?_map, List.getElem?_range hi]; rfl⟩)
    exact ⟨_, r2, r1⟩
end
end Go.Tw
