/- Numbers in order, also twice: what the functions do. -/
import Derived.Test.YtcafckgflpmfgaaDoorDBas
import Derived.Test.YtcafckgflpmfgaaDoorDSame
namespace Go.Proofs.YtcafckgflpmfgaaDoor.Vi
open Go Go.RowKit Go.Tw
set_option linter.unusedVariables false
section
variable {r : World} {h : Heap} {x : Int}

/-! ### The statements' own words -/
theorem often_ok {s : Sl} {n : Nat} {m : List Int} {R : Int → Heap → Prop} (hs : RI n h s m) (hz : m.length < 4611686018427387904) (H : R (m.count x : Int) h) : ref1_Often r s x h R := by
  apply ref1_Often_of
  have hlen := hs.len
  intro X HX
  have key : ∀ (d i : Nat), i + d = m.length → X ((m.take i).count x : Int) (i : Int) := by
    intro d
    induction d with
    | zero =>
      intro i hi
      rw [List.take_of_length_le (by omega)]
      exact HX _ _ ⟨fun c => absurd (of_decide_eq_true c) (by omega), fun _ => H⟩
    | succ d ih =>
      intro i hi
      have hil : i < m.length := by omega
      refine HX _ _ ⟨fun _ => ?_, fun c => absurd (of_decide_eq_false c) (by omega)⟩
      intro J HJ
      refine RI.ix hs (by omega) (by omega) fun p _ hp => ⟨_, hp, ?_⟩
      have ex : m[(i : Int).toNat]! = m[i] := by rw [Int.toNat_natCast, getElem!_pos m i hil]
      rw [ex]
      have e : m.take (i + 1) = m.take i ++ [m[i]] := by rw [List.take_add_one, List.getElem?_eq_getElem hil]; rfl
      have ih := ih (i + 1) (by omega)
      rw [e, List.count_append, List.count_singleton] at ih
      have hc : (m.take i).count x ≤ i := Nat.le_trans List.count_le_length (by rw [List.length_take]; omega)
      have e1 : w64 ((i : Int) + 1) = ((i + 1 : Nat) : Int) := by rw [w64_of] <;> omega
      refine ⟨fun c => HJ _ ?_, fun c => HJ _ ?_⟩
      · have c := of_decide_eq_true c
        rw [if_pos (by simpa using c)] at ih
        rw [e1, w64_of (by omega) (by omega)]; exact ih
      · have c := of_decide_eq_false c
        rw [if_neg (by simpa using c)] at ih
        rw [e1]; exact ih
  exact key m.length 0 (by omega)
theorem below_ok {s : Sl} {n : Nat} {m : List Int} {R : Int → Heap → Prop} (hs : RI n h s m) (hz : m.length < 4611686018427387904) (H : R ((m.filter fun y => decide (y < x)).length : Int) h) : ref1_Below r s x h R := by
  apply ref1_Below_of
  have hlen := hs.len
  intro X HX
  have key : ∀ (d i : Nat), i + d = m.length → X (((m.take i).filter fun y => decide (y < x)).length : Int) (i : Int) := by
    intro d
    induction d with
    | zero =>
      intro i hi
      rw [List.take_of_length_le (by omega)]
      exact HX _ _ ⟨fun c => absurd (of_decide_eq_true c) (by omega), fun _ => H⟩
    | succ d ih =>
      intro i hi
      have hil : i < m.length := by omega
      refine HX _ _ ⟨fun _ => ?_, fun c => absurd (of_decide_eq_false c) (by omega)⟩
      intro J HJ
      refine RI.ix hs (by omega) (by omega) fun p _ hp => ⟨_, hp, ?_⟩
      have ex : m[(i : Int).toNat]! = m[i] := by rw [Int.toNat_natCast, getElem!_pos m i hil]
      rw [ex]
      have e : m.take (i + 1) = m.take i ++ [m[i]] := by rw [List.take_add_one, List.getElem?_eq_getElem hil]; rfl
      have ih := ih (i + 1) (by omega)
      rw [e, List.filter_append, List.length_append] at ih
      have hc : ((m.take i).filter fun y => decide (y < x)).length ≤ i := Nat.le_trans (List.length_filter_le ..) (by rw [List.length_take]; omega)
      have e1 : w64 ((i : Int) + 1) = ((i + 1 : Nat) : Int) := by rw [w64_of] <;> omega
      refine ⟨fun c => HJ _ ?_, fun c => HJ _ ?_⟩
      · rw [List.filter_cons, if_pos c] at ih
        rw [e1, w64_of (by omega) (by omega)]; exact ih
      · rw [List.filter_cons, if_neg (by rw [c]; decide)] at ih
        rw [e1]; exact ih
  exact key m.length 0 (by omega)
end
end Go.Proofs.YtcafckgflpmfgaaDoor.Vi
