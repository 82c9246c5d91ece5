/- All beginnings: the laws 'ScanSteps', 'ScanParts'. -/
import Derived.Test.YtcafckgflpmfgaaDoorDScanT
import Derived.Test.YtcafckgflpmfgaaDoorDScanR
import Derived.Test.YtcafckgflpmfgaaDoorDBasP
namespace Go.Proofs.YtcafckgflpmfgaaDoor
open Go Go.RowKit Go.Tw Go.Scan
set_option linter.unusedVariables false
theorem opOk_ok {r : World} {h : Heap} {op : Int} {R : Bool → Heap → Prop} (H : R (decide (1 ≤ op) && decide (op ≤ 4)) h) : ref1_Op r op h R := ref1_Op_of H

theorem scanned_ok {r : World} {h : Heap} {R : Bool → Heap → Prop} (H : ∀ h', Ext h.size h h' → R true h') : law5_scanned r h R := by
  apply law5_scanned_of
  intro p1 h1 hp hh
  subst hp; subst hh
  have hr : RI (h.push (.cells #[iV 5, iV 3] 3)).size (h.push (.cells #[iV 5, iV 3] 3)) ⟨some (ad h.size 0), 2, 2⟩ [5, 3] :=
    RI.of_blk (b := h.size) (l := [5, 3]) (c := 2) (Blk.new (cs := [iV 5, iV 3])) (by simp) (List.prefix_refl _) (by decide)
  have E1 : Ext h.size h (h.push (.cells #[iV 5, iV 3] 3)) := Ext.push (Nat.le_refl _)
  refine scan_ok (by decide) (by decide) hr (Nat.le_refl _) (by decide) fun s h2 R2 E2 => ?_
  have E2' := E1.trans (E2.mono E1.1)
  intro p6 h3 hp hh
  subst hp; subst hh
  have R3 : RI (h2.push (.cells #[iV 5, iV 8] 3)).size (h2.push (.cells #[iV 5, iV 8] 3)) ⟨some (ad h2.size 0), 2, 2⟩ [5, 8] :=
    RI.of_blk (b := h2.size) (l := [5, 8]) (c := 2) (Blk.new (cs := [iV 5, iV 8])) (by simp) (List.prefix_refl _) (by decide)
  have E3 := E2'.trans (Ext.push (x := .cells #[iV 5, iV 8] 3) E2'.1)
  have ev : upto (opG 1) (opE 1) [5, 3] = [5, 8] := by decide +kernel
  rw [ev] at R2
  exact same_Ints_ok (Rs.ext R2 (Ext.push (Nat.le_refl _)) (Nat.le_refl _)) R3 (by decide) ⟨rfl, H _ E3⟩

section
variable {r : World} {h : Heap} {op : Int} {l3 : Sl} {l : List Int}

end
end Go.Proofs.YtcafckgflpmfgaaDoor
