/- The typed layer: clear(s) of a slice. -/
import Derived.Test.YtcafckgflpmfgaaDoorTwTy
namespace Go.Tw
open Go Go.RowKit
/-- clear(s) -/
def Clr (z : Value) (s : Sl) (h : Heap) (K : Heap → Prop) : Prop :=
  (s.len = 0 ∧ K h) ∨ (0 < s.len ∧ ∃ p, s.a = some p ∧ (∀ v ∈ (Builtin.zeroCells z.cells s.len).toList, one v = true) ∧ StOk h p (Builtin.zeroCells z.cells s.len).toList.length ∧ ∀ h', h' = hsets h p 0 (Builtin.zeroCells z.cells s.len).toList → K h')
section
variable {P : Program} {ρ : Operand → Value} {dst : Option Tmp} {ty : TypeId} {pos : String} {af : Array Edge} {gd : Option (Nat × Bool)} {r : World} {h : Heap} {dr : Nat}
theorem SlF.clear {a : Operand} {t el sz by' : Nat} {z : Value} {s : Sl} {K : Heap → Prop} (F : SlF P t el sz by' z) (hs : ρ a = s.v) (H : Clr z s h K) :
    uponV P (behind r fun v h' => v = .tuple #[] ∧ K h') ((execOp ρ ⟨dst, .call ⟨.builtin .clear, #[a], #[t]⟩, ty, pos, af, gd⟩).run P (wd r h dr)) := by
  obtain ⟨sa, sl, sc⟩ := s
  simp only [Sl.v] at hs
  have key : ∃ h', (Builtin.clear_ #[t] ty #[.slice sa sl sc]).run P (wd r h dr) = .ok (.tuple #[]) (wd r h' dr) ∧ K h' := by
    rcases H with ⟨h0, hk⟩ | ⟨h0, p, hp, h1, hok, hk⟩
    · refine ⟨h, ?_, hk⟩
      have h0 : sl = 0 := h0
      subst h0
      cases sa with
      | none => simp [Builtin.clear_, run_underlying F.ty]
      | some p => simp [Builtin.clear_, run_underlying F.ty]
    · refine ⟨_, ?_, hk _ rfl⟩
      have hp : sa = some p := hp
      subst hp
      obtain ⟨k, rfl⟩ : ∃ k, sl = k + 1 := ⟨sl - 1, by simp only at h0; omega⟩
      have hst := run_storeCells (P := P) (r := r) (dr := dr) (p := p) _ 0 h h1 (fun j _ hj => hok j (by omega))
      simp [Builtin.clear_, run_underlying F.ty, F.zero, hst]
  obtain ⟨h', hr, hk⟩ := key
  have e1 : (execOp ρ ⟨dst, .call ⟨.builtin .clear, #[a], #[t]⟩, ty, pos, af, gd⟩).run P (wd r h dr) = .ok (.value (.tuple #[])) (wd r h' dr) := by
    unfold execOp
    simp only [resolve, invoke, builtin, Sem.run_bind, Sem.run_pure, Result.andThen_ok, List.map_toArray, List.map_cons, List.map_nil, hs, hr]
  rw [e1]
  exact ⟨h', dr, rfl, rfl, hk⟩
end
end Go.Tw
