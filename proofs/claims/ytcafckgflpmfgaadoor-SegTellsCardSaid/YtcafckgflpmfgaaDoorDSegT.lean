/- A tree of parts: the laws 'SegParts' and 'SegAdds'. -/
import Derived.Test.YtcafckgflpmfgaaDoorDSegS
namespace Go.Proofs.YtcafckgflpmfgaaDoor.SegX
open Go Go.RowKit Go.Tw Go.Seg
set_option linter.unusedVariables false
section
variable {r : World} {h : Heap} {l : List Int}

theorem segged_ok {R : Bool → Heap → Prop} (H : ∀ h', Ext h.size h h' → R true h') : law5_segged r h R := by
  apply law5_segged_of
  intro p1 h1 hp hh
  subst hp; subst hh
  have hr : RI (h.push (.cells #[iV 5, iV 3] 3)).size (h.push (.cells #[iV 5, iV 3] 3)) ⟨some (ad h.size 0), 2, 2⟩ [5, 3] :=
    RI.of_blk (b := h.size) (l := [5, 3]) (c := 2) (Blk.new (cs := [iV 5, iV 3])) (by simp) (List.prefix_refl _) (by decide)
  have E1 : Ext h.size h (h.push (.cells #[iV 5, iV 3] 3)) := Ext.push (Nat.le_refl _)
  refine new_ok hr (Nat.le_refl _) (by decide) (by decide) fun sp b h2 T n1 n2 E => ⟨rfl, fun q => (by cases q), fun _ => ?_⟩
  have E2 := E1.trans (E.mono E1.1)
  refine sum_ok T (fun w => absurd (by unfold Within; decide) w) fun w h3 S3 T3 => ?_
  refine least_ok T3 fun q e h4 D he S4 T4 => ⟨rfl, he, fun x hx => ?_⟩
  obtain ⟨e1, e2⟩ := D.some w (by decide)
  subst e1
  have hm := e2.least
  have em : q.least = 3 := hm.uniq ⟨by decide, by decide⟩
  have ex : x = true := by rw [hx, em]; decide
  subst ex
  have h5 := E1.1
  refine H h4 ⟨by have := E2.1; have := S3.size; have := S4.size; omega, fun c hc => ?_⟩
  have hb := T.lt
  have := E2.1
  have := S3.size
  have n2 : h.size ≤ b := Nat.le_trans h5 n2
  rw [S4.out c (by omega) (by omega), S3.out c (by omega) (by omega), E2.2 c hc]

end
end Go.Proofs.YtcafckgflpmfgaaDoor.SegX
