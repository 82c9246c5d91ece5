/- How much is out of order: the laws. -/
import Derived.Test.YtcafckgflpmfgaaDoorDVInvR
import Derived.Test.YtcafckgflpmfgaaDoorDVLaw
namespace Go.Proofs.YtcafckgflpmfgaaDoor.Vi
open Go Go.RowKit Go.Tw Go.Many Go.Ord Go.Inv
open Go.Proofs.YtcafckgflpmfgaaDoor.Or (Tr obetween_ok oinsert_ok)
set_option linter.unusedVariables false
section
variable {r : World} {h : Heap}
theorem isP_test : IsP [2, 0, 1] := ⟨by decide, by decide⟩
theorem inv_test : w64 (inv [3, 1, 2] : Int) = 2 := by
  have : inv [3, 1, 2] = 2 := by decide
  rw [this]; exact w64_of (by decide) (by decide)
theorem leh_test : leh [2, 0, 1] = [2, 0, 0] := by decide
theorem vsorted_ok {R : Bool → Heap → Prop} (H : ∀ h', Fw h h' → R true h') : law5_sorted r h R := by
  apply law5_sorted_of
  refine New.cells (cs := [iV 3, iV 1, iV 2]) fun h1 E1 z1 B1 => ?_
  refine count_ok (n := h1.size) (l := [3, 1, 2]) (RI.of_blk (l := [3, 1, 2]) (c := 3) B1 (by omega) (List.prefix_refl _) (by decide)) (Nat.le_refl _) (by decide) fun h2 E2 => ?_
  refine New.cells (cs := [iV 2, iV 0, iV 1]) fun h3 E3 z3 B3 => ?_
  refine lehmer_ok (n := h3.size) (l := [2, 0, 1]) (RI.of_blk (l := [2, 0, 1]) (c := 3) B3 (by omega) (List.prefix_refl _) (by decide)) (Nat.le_refl _) (fun c => absurd c (by decide)) (fun _ c => absurd isP_test c) fun _ _ s4 h4 E4 O4 => ?_
  refine New.cells (cs := [iV 2, iV 0, iV 0]) fun h5 E5 z5 B5 => ?_
  refine same_Ints_ok (n' := h5.size) (Rs.ext O4.rs E5 (Nat.le_refl _)) (RI.of_blk (l := [2, 0, 0]) (c := 3) B5 (by omega) (List.prefix_refl _) (by decide)) (by decide) ⟨rfl, ?_⟩
  rw [inv_test, leh_test]
  exact H h5 ((((E1.trans E2).trans E3).trans E4).trans E5)

end
end Go.Proofs.YtcafckgflpmfgaaDoor.Vi
