/- A table of least places: the law 'TableTells'. -/
import Derived.Test.YtcafckgflpmfgaaDoorDTab
import Derived.Test.YtcafckgflpmfgaaDoorTabL
import Derived.Test.YtcafckgflpmfgaaDoorTwUse
namespace Go.Proofs.YtcafckgflpmfgaaDoor.SegX
open Go Go.RowKit Go.Tw Go.Tab
set_option linter.unusedVariables false
section
variable {r : World} {h : Heap} {b : Nat} {l : List Int}
theorem spot_ok {s : Sl} {n i j : Nat} {most : Bool} {R : Int → Heap → Prop} (S : RI n h s l) (hij : i < j) (hjl : j ≤ l.length) (hz : l.length ≤ 5000) (H : ∀ z, Low (if most then neg_ l else val_ l) i (j - i) z → R (z : Int) h) : ref1_Spot r s i j most h R := by
  apply ref1_Spot_of
  have sl := S.len
  intro X HX
  generalize hv : (if most then neg_ l else val_ l) = v at H
  have key : ∀ (d k z : Nat), k + d = j → i < k → Low v i (k - i) z → X (z : Int) (k : Int) := by
    intro d
    induction d with
    | zero =>
      intro k z hk hik hz2
      obtain rfl : k = j := by omega
      exact HX _ _ ⟨fun c => absurd (of_decide_eq_true c) (by omega), fun _ => H z hz2⟩
    | succ d ih =>
      intro k z hk hik hz2
      have hkl : k < l.length := by omega
      have hzl : z < l.length := by have := hz2.2.1; omega
      have ek : l[(k : Int).toNat]! = l[k]! := by rw [Int.toNat_natCast]
      have ez : l[(z : Int).toNat]! = l[z]! := by rw [Int.toNat_natCast]
      refine HX _ _ ⟨fun _ => ?_, fun c => absurd (of_decide_eq_false c) (by omega)⟩
      intro J9 HJ9 J12 HJ12
      have ew : w64 ((k : Int) + 1) = ((k + 1 : Nat) : Int) := by rw [w64_of (by omega) (by omega)]; omega
      have go : J12 (decide (v k < v z)) := by
        have hp := hz2.join (Low.one v k) (by omega) (by omega) (by omega)
        rw [show k + 1 - i = k + 1 - i from rfl] at hp
        unfold pick at hp
        refine HJ12 _ ⟨fun c => HJ9 _ ?_, fun c => HJ9 _ ?_⟩
        · rw [ew]
          rw [if_pos (of_decide_eq_true c)] at hp
          exact ih (k + 1) k (by omega) (by omega) hp
        · rw [ew]
          rw [if_neg (of_decide_eq_false c)] at hp
          exact ih (k + 1) z (by omega) (by omega) hp
      have hix : ∀ {q : Nat} {K : Addr → Prop}, q < l.length → (∀ p, hcell h p = some (iV l[q]!) → K p) → Ix s (q : Int) 1 K := fun hq hK => RI.ix S (by omega) (by omega) fun p _ hp => hK p (by rw [Int.toNat_natCast] at hp; exact hp)
      refine ⟨fun c => ?_, fun c => ⟨fun _ => ?_, fun c2 => ?_⟩⟩
      · have e : v = neg_ l := by rw [← hv, c]; rfl
        have e1 : (decide (v k < v z)) = decide (l[z]! < l[k]!) := by
          rw [e]; apply decide_eq_decide.2; show 0 - l[k]! < 0 - l[z]! ↔ _; omega
        rw [e1] at go
        refine hix hkl fun p hp => ⟨_, hp, hix hzl fun p2 hp2 => ⟨_, hp2, fun c2 => ?_, fun c2 => ⟨fun c3 => ?_, fun _ => ?_⟩⟩⟩
        · rw [c2] at go; exact go
        · rw [c] at c3; cases c3
        · rw [c2] at go; exact go
      · have e : v = val_ l := by rw [← hv, c]; rfl
        rw [e] at go
        exact hix hkl fun p hp => ⟨_, hp, hix hzl fun p2 hp2 => ⟨_, hp2, go⟩⟩
      · rw [c] at c2; cases c2
  have := key (j - i - 1) (i + 1) i (by omega) (by omega) (by rw [show i + 1 - i = 1 by omega]; exact Low.one v i)
  rw [show w64 ((i : Int) + 1) = ((i + 1 : Nat) : Int) by rw [w64_of (by omega) (by omega)]; omega]
  exact this
end
end Go.Proofs.YtcafckgflpmfgaaDoor.SegX
