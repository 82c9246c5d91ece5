/- The typed layer: are two items, two spans the same? -/
import Derived.Test.YtikccpmhoioaeaaProg
import Derived.Test.YtikccpmhoioaeaaTwUse
namespace Go.Proofs.Ytikccpmhoioaeaa
open Go Go.RowKit Go.Tw
theorem e_intI {d : Nat} {a b : Int} (w : World) : (Op.equalIn (d + 1) 3 (.int .i64 a) (.int .i64 b)).run Try.prog w = .ok (a == b) w := by
  simp [Op.equalIn, run_underlying Try.underlying3]
theorem eqI {a1 a2 b1 b2 : Int} (w : World) : (Op.equalIn Op.maxDepth 43 (.agg #[.int .i64 a1, .int .i64 a2]) (.agg #[.int .i64 b1, .int .i64 b2])).run Try.prog w = .ok (decide (a1 = b1 ∧ a2 = b2)) w := by
  have hs : Try.prog.stoodInHeld 43 = false := by kernel_rfl
  show (Op.equalIn (9998 + 1 + 1) 43 _ _).run Try.prog w = _
  unfold Op.equalIn
  simp [run_underlying Try.underlying43, hs, part, Try.isAgg3, e_intI]
  repeat' split
  all_goals simp_all
theorem eqSp {a1 a2 a3 b1 b2 b3 : Int} (w : World) : (Op.equalIn Op.maxDepth 60 (.agg #[.int .i64 a1, .int .i64 a2, .int .i64 a3]) (.agg #[.int .i64 b1, .int .i64 b2, .int .i64 b3])).run Try.prog w = .ok (decide (a1 = b1 ∧ a2 = b2 ∧ a3 = b3)) w := by
  have hs : Try.prog.stoodInHeld 60 = false := by kernel_rfl
  show (Op.equalIn (9998 + 1 + 1) 60 _ _).run Try.prog w = _
  unfold Op.equalIn
  simp [run_underlying Try.underlying60, hs, part, Try.isAgg3, e_intI]
  repeat' split
  all_goals simp_all
section
variable {ρ : Operand → Value} {dst : Option Tmp} {ty : TypeId} {pos : String} {af : Array Edge} {gd : Option (Nat × Bool)}
theorem r_eqlAgg_Try43 {x y : Operand} {yt : TypeId} {a1 a2 b1 b2 : Int} (hx : ρ x = .agg #[.int .i64 a1, .int .i64 a2]) (hy : ρ y = .agg #[.int .i64 b1, .int .i64 b2]) (w : World) :
    (execOp ρ ⟨dst, .binOp .eql 43 x y yt, ty, pos, af, gd⟩).run Try.prog w = .ok (.value (.bool (decide (a1 = b1 ∧ a2 = b2)))) w := by
  simp [execOp, go_sem, hx, hy, eqGuard, binOp, Op.equal, eqI]
theorem r_neqAgg_Try43 {x y : Operand} {yt : TypeId} {a1 a2 b1 b2 : Int} (hx : ρ x = .agg #[.int .i64 a1, .int .i64 a2]) (hy : ρ y = .agg #[.int .i64 b1, .int .i64 b2]) (w : World) :
    (execOp ρ ⟨dst, .binOp .neq 43 x y yt, ty, pos, af, gd⟩).run Try.prog w = .ok (.value (.bool (!decide (a1 = b1 ∧ a2 = b2)))) w := by
  simp [execOp, go_sem, hx, hy, eqGuard, binOp, Op.equal, eqI]
theorem r_eqlAgg_Try60 {x y : Operand} {yt : TypeId} {a1 a2 a3 b1 b2 b3 : Int} (hx : ρ x = .agg #[.int .i64 a1, .int .i64 a2, .int .i64 a3]) (hy : ρ y = .agg #[.int .i64 b1, .int .i64 b2, .int .i64 b3]) (w : World) :
    (execOp ρ ⟨dst, .binOp .eql 60 x y yt, ty, pos, af, gd⟩).run Try.prog w = .ok (.value (.bool (decide (a1 = b1 ∧ a2 = b2 ∧ a3 = b3)))) w := by
  simp [execOp, go_sem, hx, hy, eqGuard, binOp, Op.equal, eqSp]
end
end Go.Proofs.Ytikccpmhoioaeaa
