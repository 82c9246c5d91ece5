/- The typed layer: append(s, make([]T, n)...). -/
import Derived.Test.YtcafckgflpmfgaaDoorTwTy
namespace Go.Tw
open Go Go.RowKit

/-- append(s, make([]T, n)...) where there is no room -/
abbrev AppZ (el sz by' : Nat) (z : Value) (s : Sl) (n : Int) (h : Heap) (K : Sl → Heap → Prop) : Prop :=
  0 ≤ n ∧ n < 9223372036854775808 ∧ n * by' ≤ 281474976710656 ∧ s.cap < s.len + n.toNat ∧ (s.len + n.toNat) * by' ≤ 140737488355328 ∧ ∃ olds : List Value, olds.length = s.len * sz ∧ Holds h s.a olds ∧
    ∀ cap, s.len + n.toNat ≤ cap → cap ≤ maxLen → K ⟨some ⟨h.size, 0, none⟩, s.len + n.toNat, cap⟩ (h.push (.cells ((olds.toArray ++ Builtin.zeroCells z.cells n.toNat) ++ Builtin.zeroCells z.cells (cap - (s.len + n.toNat))) el))

section
variable {P : Program} {ρ : Operand → Value} {dst : Option Tmp} {ty : TypeId} {pos : String} {af : Array Edge} {gd : Option (Nat × Bool)} {r : World} {h : Heap} {dr : Nat}

theorem r_appendZ {a b : Operand} {t t1 : TypeId} {el sz by' : Nat} {z : Value} {s : Sl} {n : Int} {K : Sl → Heap → Prop} {i : TypeInfo} (ht : P.underlying t = some (.slice el)) (ht1 : P.underlying t1 = some (.int .i64)) (hi : P.info? el = some i) (hsz : i.size = sz) (hby : i.bytes = by') (hzv : i.zero = some z) (hzc : z.cells.size = sz) (h0 : 0 < by')
    (hs : ρ a = s.v) (hx : ρ b = .int .i64 n) (happ : AppZ el sz by' z s n h K) :
    uponV P (behind r fun v h' => ∃ s' : Sl, v = s'.v ∧ K s' h') ((execOp ρ ⟨dst, .call ⟨.builtin .append, #[a, b], #[t, t1]⟩, ty, pos, af, gd⟩).run P (wd r h dr)) := by
  obtain ⟨sa, sl, sc⟩ := s
  obtain ⟨n0, n63, n48, hno, hfit, olds, hol, holds, hk⟩ := happ
  simp only [Sl.v] at hs hol holds hk hno hfit
  have key : ∃ s' : Sl, ∃ h' dr', (Builtin.append_ #[t, t1] ty #[.slice sa sl sc, .int .i64 n]).run P (wd r h dr) = .ok s'.v (wd r h' dr') ∧ K s' h' := by
    have hnr : ¬ sl + n.toNat ≤ sc := by omega
    have hfo : (Builtin.firstCells sz sl (.slice sa sl sc)).run P (wd r h dr).drew = .ok olds.toArray (wd r h dr).drew := run_firstCells (P := P) (r := r) (h := h) (dr := dr + 1) hol holds
    have hm : sl + n.toNat ≤ 140737488355328 := by
      have : (sl + n.toNat) * 1 ≤ (sl + n.toNat) * by' := Nat.mul_le_mul_left _ h0
      omega
    have hw : IntKind.i64.wrap n = n := w64_of (by omega) n63
    have hnn : ¬ n < 0 := by omega
    have hb48 : ¬ (281474976710656 < n * (by' : Int)) := by omega
    have h48' : ¬ (281474976710656 < Builtin.nextslicecap (sl + n.toNat) sc * by') := by have := growslice_fits hno hfit; omega
    have h63' : ¬ (9223372036854775807 < ((sl : Int) + ((n.toNat : Nat) : Int))) := by omega
    have h63'' : ¬ (9223372036854775807 < ((sl : Int) + max n 0)) := by omega
    have hge := grownCap_ge (wd r h dr) (sl + n.toNat) sc el
    have hle : grownCap (wd r h dr) (sl + n.toNat) sc el ≤ maxLen := grownCap_le_maxLen _ _ _ _ (by simp only [maxLen]; omega)
    refine ⟨_, _, dr + 1, ?_, hk _ hge hle⟩
    have hws : (wd r h dr).heap.size = h.size := rfl
    have hz0 : n.toNat * sz = 0 → Builtin.zeroCells z.cells n.toNat = #[] := fun e => by
      simp [Builtin.zeroCells, hzc, e]
    have e : (Builtin.append_ #[t, t1] ty #[.slice sa sl sc, .int .i64 n]).run P (wd r h dr) = .ok (.slice (some ⟨h.size, 0, none⟩) (sl + n.toNat) (grownCap (wd r h dr) (sl + n.toNat) sc el))
        ((wd r h dr).drew.alloc (.cells ((olds.toArray ++ Builtin.zeroCells z.cells n.toNat) ++ Builtin.zeroCells z.cells (grownCap (wd r h dr) (sl + n.toNat) sc el - (sl + n.toNat))) el)) := by
      by_cases hzz : n.toNat * sz = 0
      · have hzz' : n ≤ 0 ∨ sz = 0 := by
          rcases Nat.mul_eq_zero.1 hzz with h | h
          · left; omega
          · right; exact h
        rw [hz0 hzz]
        simp [Builtin.append_, run_underlying ht, run_underlying ht1, sizeOf, typeInfo, zeroValue, hi, hzv, hsz, hby, asInt, asIntOf, hw, hnn, hb48, hnr, h63'', h48', Question.forced, hfo, newRow, grownCap, hws]
        intro e; exact absurd hzz e
      · have hzz' : ¬ (n ≤ 0 ∨ sz = 0) := by
          rintro (h | h)
          · exact hzz (by rw [show n.toNat = 0 by omega, Nat.zero_mul])
          · exact hzz (by rw [h, Nat.mul_zero])
        simp [Builtin.append_, run_underlying ht, run_underlying ht1, sizeOf, typeInfo, zeroValue, hi, hzv, hsz, hby, asInt, asIntOf, hw, hnn, hb48, hnr, h63'', h48', Question.forced, hfo, newRow, grownCap, hws]
        intro e; exact absurd e hzz
    exact e
  obtain ⟨s', h', dr', hr, hk'⟩ := key
  have e1 : (execOp ρ ⟨dst, .call ⟨.builtin .append, #[a, b], #[t, t1]⟩, ty, pos, af, gd⟩).run P (wd r h dr) = .ok (.value s'.v) (wd r h' dr') := by
    unfold execOp
    simp only [resolve, invoke, builtin, Sem.run_bind, Sem.run_pure, Result.andThen_ok, List.map_toArray, List.map_cons, List.map_nil, hs, hx, hr]
  rw [e1]
  exact ⟨h', dr', rfl, s', rfl, hk'⟩
theorem SlF.appendZ {a b : Operand} {t t1 el sz by' : Nat} {z : Value} {s : Sl} {n : Int} {K : Sl → Heap → Prop} (F : SlF P t el sz by' z) (hzc : z.cells.size = sz) (ht1 : P.underlying t1 = some (.int .i64)) (hs : ρ a = s.v) (hx : ρ b = .int .i64 n) (happ : AppZ el sz by' z s n h K) :
    uponV P (behind r fun v h' => ∃ s' : Sl, v = s'.v ∧ K s' h') ((execOp ρ ⟨dst, .call ⟨.builtin .append, #[a, b], #[t, t1]⟩, ty, pos, af, gd⟩).run P (wd r h dr)) := by
  obtain ⟨i, hi, h1, h2, h3⟩ := F.info
  exact r_appendZ F.ty ht1 hi h1 h2 h3 hzc (by simpa [Nat.blt_eq] using F.pos) hs hx happ
end
end Go.Tw
