/- Is an error the one told? -/
import Derived.Test.YtcafckgflpmfgaaDoorDErr
namespace Go.Proofs.YtcafckgflpmfgaaDoor
open Go Go.RowKit Go.Tw
set_option linter.unusedVariables false
section
variable {r : World} {h : Heap}
theorem told_ok {n : Int} {R : Int → Heap → Prop} (hg : Er h) (H : ∀ h', Fw h h' → R n h') : plain_Told r (Ev n) h R := by
  apply plain_Told_of
  refine ⟨Ev.isIface n, fun c => ?_, fun c => ?_⟩
  · rw [Ev.isNil] at c
    have c := of_decide_eq_true c
    have := H h (Fw.refl h)
    rwa [c] at this
  · rw [Ev.isNil] at c
    have c := of_decide_eq_false c
    refine New.cells fun h1 E1 z1 B1 => ?_
    rw [Ev.num c]
    refine errors_As_ok (hg.fw E1) B1 fun h2 z2 o2 B2 => ⟨fun _ => ⟨_, B2.cell' rfl, H h2 ⟨by omega, fun d hd => ?_⟩⟩, fun c => by cases c⟩
    rw [o2 d (by omega) (by omega), E1.2 d hd]
theorem error_ok {n e : Int} {R : Bool → Heap → Prop} (hg : Er h) (H : ∀ h', Fw h h' → R (decide (n = e)) h') : same_Error r (Ev n) e h R := by
  apply same_Error_of
  exact told_ok hg H
end
end Go.Proofs.YtcafckgflpmfgaaDoor
