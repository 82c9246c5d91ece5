/- The typed layer: a call of a method of what an interface holds. -/
import Derived.Test.YtcafckgflpmfgaaDoorTwUse
namespace Go.Proofs.YtcafckgflpmfgaaDoor
open Go Go.RowKit Go.Tw
section
variable {P : Program} {ρ : Operand → Value} {dst : Option Tmp} {ty : TypeId} {pos : String} {af : Array Edge} {gd : Option (Nat × Bool)} {r : World} {h : Heap} {dr : Nat}
theorem r_invoke {x : Operand} {name : String} {as : Array Operand} {ts : Array TypeId} {t : TypeId} {v : Value} {f : FuncId} {args : List Value} {k : Value → Heap → Prop}
    (hm : ∀ args w, (callMethod (.iface t v) name args).run P w = .ok (.enter f (#[v] ++ args)) w) (hx : ρ x = .iface t v) (ha : as.toList.map ρ = args)
    (hc : CallsH P r f (v :: args) h k) : uponV P (behind r k) ((execOp ρ ⟨dst, .call ⟨.invoke x name, as, ts⟩, ty, pos, af, gd⟩).run P (wd r h dr)) := by
  have ha' : as.map ρ = args.toArray := by apply Array.toList_inj.1; simpa using ha
  have e1 : (execOp ρ ⟨dst, .call ⟨.invoke x name, as, ts⟩, ty, pos, af, gd⟩).run P (wd r h dr) = .ok (.enter f (v :: args).toArray) (wd r h dr) := by
    have e3 : (#[Value.iface t v] ++ args.toArray).extract 1 (#[Value.iface t v] ++ args.toArray).size = args.toArray := by simp
    simp [execOp, resolve, invoke, hx, ha', hm, e3]
  rw [e1]; exact calls_uponV hc
end
end Go.Proofs.YtcafckgflpmfgaaDoor
