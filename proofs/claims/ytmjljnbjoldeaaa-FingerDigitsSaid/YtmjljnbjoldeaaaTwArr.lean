/- The typed layer: the places of an array; are two arrays of two numbers the same? -/
import Derived.Test.YtmjljnbjoldeaaaProg
import Derived.Test.YtmjljnbjoldeaaaTwUse
namespace Go.Proofs.Ytmjljnbjoldeaaa
open Go Go.RowKit Go.Tw
section
variable {ρ : Operand → Value} {dst : Option Tmp} {ty : TypeId} {pos : String} {af : Array Edge} {gd : Option (Nat × Bool)}
theorem r_indexArr {P : Program} {t : TypeId} {x y : Operand} {el : TypeId} {p : Addr} {k : IntKind} {i : Int} {n sz off : Nat} (ht : P.underlying t = some (.array n el)) (hz : ∀ w, (sizeOf el).run P w = .ok sz w)
    (hx : ρ x = .pointer (some p)) (hy : ρ y = .int k i) (h0 : 0 ≤ i) (h1 : i < n) (ho : i.toNat * sz = off) (w : World) :
    (execOp ρ ⟨dst, .indexAddr t x y, ty, pos, af, gd⟩).run P w = .ok (.value (.pointer (some (p.add off)))) w := by
  subst ho
  simp [execOp, go_sem, Instr.indexAt, asIntOf, run_underlying ht, hx, hy, h0, h1, hz, Instr.sureAddr]
theorem e_int2 {d : Nat} {a b : Int} (w : World) : (Op.equalIn (d + 1) 3 (.int .i64 a) (.int .i64 b)).run Try.prog w = .ok (a == b) w := by
  simp [Op.equalIn, run_underlying Try.underlying3]
theorem eqA {a1 a2 b1 b2 : Int} (w : World) : (Op.equalIn Op.maxDepth 49 (.agg #[.int .i64 a1, .int .i64 a2]) (.agg #[.int .i64 b1, .int .i64 b2])).run Try.prog w = .ok (decide (a1 = b1 ∧ a2 = b2)) w := by
  show (Op.equalIn (9998 + 1 + 1) 49 _ _).run Try.prog w = _
  unfold Op.equalIn
  simp [run_underlying Try.underlying49, part, Try.isAgg3, Try.sizeOf3, e_int2, Std.Legacy.Range.forIn_eq_forIn_range', Std.Legacy.Range.size, List.range']
  repeat' split
  all_goals simp_all
theorem r_eqlAgg_Try49 {x y : Operand} {yt : TypeId} {a1 a2 b1 b2 : Int} (hx : ρ x = .agg #[.int .i64 a1, .int .i64 a2]) (hy : ρ y = .agg #[.int .i64 b1, .int .i64 b2]) (w : World) :
    (execOp ρ ⟨dst, .binOp .eql 49 x y yt, ty, pos, af, gd⟩).run Try.prog w = .ok (.value (.bool (decide (a1 = b1 ∧ a2 = b2)))) w := by
  simp [execOp, go_sem, hx, hy, eqGuard, binOp, Op.equal, eqA]
end
end Go.Proofs.Ytmjljnbjoldeaaa
