/- The typed layer: are two spans the same? -/
import Derived.Test.YtcafckgflpmfgaaDoorProg
import Derived.Test.YtcafckgflpmfgaaDoorTwUse
namespace Go.Proofs.YtcafckgflpmfgaaDoor
open Go Go.RowKit Go.Tw
theorem e_intI {d : Nat} {a b : Int} (w : World) : (Op.equalIn (d + 1) 3 (.int .i64 a) (.int .i64 b)).run Tryd.prog w = .ok (a == b) w := by
  simp [Op.equalIn, run_underlying Tryd.underlying3]
theorem eqSp {a1 a2 a3 b1 b2 b3 : Int} (w : World) : (Op.equalIn Op.maxDepth 74 (.agg #[.int .i64 a1, .int .i64 a2, .int .i64 a3]) (.agg #[.int .i64 b1, .int .i64 b2, .int .i64 b3])).run Tryd.prog w = .ok (decide (a1 = b1 ∧ a2 = b2 ∧ a3 = b3)) w := by
  have hs : Tryd.prog.stoodInHeld 74 = false := by kernel_rfl
  show (Op.equalIn (9998 + 1 + 1) 74 _ _).run Tryd.prog w = _
  unfold Op.equalIn
  simp [run_underlying Tryd.underlying74, hs, part, Tryd.isAgg3, e_intI]
  repeat' split
  all_goals simp_all
section
variable {ρ : Operand → Value} {dst : Option Tmp} {ty : TypeId} {pos : String} {af : Array Edge} {gd : Option (Nat × Bool)}
theorem r_eqlAgg_Tryd74 {x y : Operand} {yt : TypeId} {a1 a2 a3 b1 b2 b3 : Int} (hx : ρ x = .agg #[.int .i64 a1, .int .i64 a2, .int .i64 a3]) (hy : ρ y = .agg #[.int .i64 b1, .int .i64 b2, .int .i64 b3]) (w : World) :
    (execOp ρ ⟨dst, .binOp .eql 74 x y yt, ty, pos, af, gd⟩).run Tryd.prog w = .ok (.value (.bool (decide (a1 = b1 ∧ a2 = b2 ∧ a3 = b3)))) w := by
  simp [execOp, go_sem, hx, hy, eqGuard, binOp, Op.equal, eqSp]
theorem r_neqAgg_Tryd74 {x y : Operand} {yt : TypeId} {a1 a2 a3 b1 b2 b3 : Int} (hx : ρ x = .agg #[.int .i64 a1, .int .i64 a2, .int .i64 a3]) (hy : ρ y = .agg #[.int .i64 b1, .int .i64 b2, .int .i64 b3]) (w : World) :
    (execOp ρ ⟨dst, .binOp .neq 74 x y yt, ty, pos, af, gd⟩).run Tryd.prog w = .ok (.value (.bool (!decide (a1 = b1 ∧ a2 = b2 ∧ a3 = b3)))) w := by
  simp [execOp, go_sem, hx, hy, eqGuard, binOp, Op.equal, eqSp]
end
end Go.Proofs.YtcafckgflpmfgaaDoor
