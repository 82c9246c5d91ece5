/- Sums of beginnings: what the laws answer. -/
import Derived.Test.YtcafckgflpmfgaaDoorDFenQ
import Derived.Test.YtcafckgflpmfgaaDoorDErrP
namespace Go.Proofs.YtcafckgflpmfgaaDoor
open Go Go.RowKit Go.Tw Go.Fen
set_option linter.unusedVariables false
theorem more_nonneg {v : Nat → Int} {i : Nat} {x : Int} (hv : ∀ j, 0 ≤ v j) (hx : 0 ≤ x) : ∀ j, 0 ≤ more v i x j := fun j => by
  have := hv j; unfold more; split <;> omega

theorem fenned_ok {r : World} {h : Heap} {R : Bool → Heap → Prop} (H : ∀ h', Ext h.size h h' → R true h') : law5_fenned r h R := by
  apply law5_fenned_of
  refine new_ok (by decide) (by decide) fun b c h1 hb hc F E => ⟨rfl, fun q => (by cases q), fun _ => ?_⟩
  refine add_ok (i := 1) F (by decide) (by decide) (by decide) (by decide) (fun _ => Int.le_refl _) (by decide) fun h2 F2 hd hz => ?_
  have hv : ∀ j, 0 ≤ more (fun _ => 0) 1 5 j := more_nonneg (fun _ => Int.le_refl _) (by decide)
  refine sum_ok (i := 2) F2 (by decide) (by decide) hv (by decide) ?_
  refine find_ok F2 (by decide) (by decide) (by decide) hv (by decide) (fun a ha h3 h4 => ?_) (fun q => absurd q (by decide))
  have ha : a = 0 ∨ a = 1 := by simp at ha; omega
  rcases ha with rfl | rfl
  · exact absurd h4 (by decide)
  · refine ⟨rfl, rfl, rfl, fun x hx => ?_⟩
    rw [show x = true from hx]
    exact H _ (E.trans ⟨by omega, fun d hd' => hd d (by omega)⟩)

theorem ps_zero (i : Nat) : ps (fun _ => 0) i = 0 := by
  induction i with
  | zero => rfl
  | succ k ih => rw [ps, ih]; rfl

end Go.Proofs.YtcafckgflpmfgaaDoor
