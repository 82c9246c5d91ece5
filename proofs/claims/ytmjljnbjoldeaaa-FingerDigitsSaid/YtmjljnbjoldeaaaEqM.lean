/- The typed layer: are two measures the same? -/
import Derived.Test.YtmjljnbjoldeaaaProg
import Derived.Test.YtmjljnbjoldeaaaTwUse
namespace Go.Proofs.Ytmjljnbjoldeaaa
open Go Go.RowKit Go.Tw
theorem e_intM {d : Nat} {a b : Int} (w : World) : (Op.equalIn (d + 1) 3 (.int .i64 a) (.int .i64 b)).run Try.prog w = .ok (a == b) w := by
  simp [Op.equalIn, run_underlying Try.underlying3]
theorem eqM {a1 a2 a3 a4 a5 b1 b2 b3 b4 b5 : Int} (w : World) : (Op.equalIn Op.maxDepth 34 (.agg #[.int .i64 a1, .int .i64 a2, .int .i64 a3, .int .i64 a4, .int .i64 a5]) (.agg #[.int .i64 b1, .int .i64 b2, .int .i64 b3, .int .i64 b4, .int .i64 b5])).run Try.prog w = .ok (decide (a1 = b1 ∧ a2 = b2 ∧ a3 = b3 ∧ a4 = b4 ∧ a5 = b5)) w := by
  have hs : Try.prog.stoodInHeld 34 = false := by kernel_rfl
  show (Op.equalIn (9998 + 1 + 1) 34 _ _).run Try.prog w = _
  unfold Op.equalIn
  simp [run_underlying Try.underlying34, hs, part, Try.isAgg3, e_intM]
  repeat' split
  all_goals simp_all
section
variable {ρ : Operand → Value} {dst : Option Tmp} {ty : TypeId} {pos : String} {af : Array Edge} {gd : Option (Nat × Bool)}
theorem r_eqlAgg_Try34 {x y : Operand} {yt : TypeId} {a1 a2 a3 a4 a5 b1 b2 b3 b4 b5 : Int} (hx : ρ x = .agg #[.int .i64 a1, .int .i64 a2, .int .i64 a3, .int .i64 a4, .int .i64 a5]) (hy : ρ y = .agg #[.int .i64 b1, .int .i64 b2, .int .i64 b3, .int .i64 b4, .int .i64 b5]) (w : World) :
    (execOp ρ ⟨dst, .binOp .eql 34 x y yt, ty, pos, af, gd⟩).run Try.prog w = .ok (.value (.bool (decide (a1 = b1 ∧ a2 = b2 ∧ a3 = b3 ∧ a4 = b4 ∧ a5 = b5)))) w := by
  simp [execOp, go_sem, hx, hy, eqGuard, binOp, Op.equal, eqM]
theorem r_neqAgg_Try34 {x y : Operand} {yt : TypeId} {a1 a2 a3 a4 a5 b1 b2 b3 b4 b5 : Int} (hx : ρ x = .agg #[.int .i64 a1, .int .i64 a2, .int .i64 a3, .int .i64 a4, .int .i64 a5]) (hy : ρ y = .agg #[.int .i64 b1, .int .i64 b2, .int .i64 b3, .int .i64 b4, .int .i64 b5]) (w : World) :
    (execOp ρ ⟨dst, .binOp .neq 34 x y yt, ty, pos, af, gd⟩).run Try.prog w = .ok (.value (.bool (!(decide (a1 = b1 ∧ a2 = b2 ∧ a3 = b3 ∧ a4 = b4 ∧ a5 = b5))))) w := by
  simp [execOp, go_sem, hx, hy, eqGuard, binOp, Op.equal, eqM]
end
end Go.Proofs.Ytmjljnbjoldeaaa
