/- Sums of beginnings: what each function does. -/
import Derived.Test.YtcafckgflpmfgaaDoorDBas
import Derived.Test.YtcafckgflpmfgaaDoorFenL
import Derived.Test.YtcafckgflpmfgaaDoorTwUse
namespace Go.Proofs.YtcafckgflpmfgaaDoor
open Go Go.RowKit Go.Tw Go.Fen
set_option linter.unusedVariables false
theorem same_Ints_ok {r : World} {n n' : Nat} {h : Heap} {a b : Sl} {l m : List Int} {R : Bool → Heap → Prop} (ha : RI n h a l) (hb : RI n' h b m) (hl : l.length ≤ 4611686018427387904) (H : R (decide (l = m)) h) : same_Ints r a b h R := by
  apply same_Ints_of
  refine ⟨fun hc => ?_, fun hc => ?_⟩
  · simp [ha.len, hb.len] at hc
    have : ¬ l = m := fun e => hc (by rw [e])
    simpa [this] using H
  · simp [ha.len, hb.len] at hc
    intro X HX
    have key : ∀ d (i : Nat), i + d = l.length → l.take i = m.take i → X (i : Int) := by
      intro d
      induction d with
      | zero =>
        intro i hi he
        refine HX _ ⟨fun c => ?_, fun _ => ?_⟩
        · rw [ha.len] at c; simp at c; omega
        · have : l = m := by rw [List.take_of_length_le (by omega), List.take_of_length_le (by omega)] at he; exact he
          simpa [this] using H
      | succ d ih =>
        intro i hi he
        have h1 : i < l.length := by omega
        have h2 : i < m.length := by omega
        refine HX _ ⟨fun _ => ?_, fun c => ?_⟩
        · refine ha.ix (by omega) (by omega) fun p _ hp => ⟨_, hp, hb.ix (by omega) (by omega) fun q _ hq => ⟨_, hq, ?_⟩⟩
          simp only [Int.toNat_natCast, getElem!_pos l i h1, getElem!_pos m i h2]
          refine ⟨fun c => ?_, fun c => ?_⟩
          · have : ¬ l = m := fun e => by subst e; simp at c
            simpa [this] using H
          · have c : l[i] = m[i] := by simpa using c
            rw [show w64 ((i : Int) + 1) = ((i + 1 : Nat) : Int) by rw [w64_of] <;> omega]
            refine ih (i + 1) (by omega) ?_
            rw [List.take_add_one, List.take_add_one, he, List.getElem?_eq_getElem h1, List.getElem?_eq_getElem h2, c]
        · rw [ha.len] at c; simp at c; omega
    simpa using key l.length 0 (by omega) rfl

end Go.Proofs.YtcafckgflpmfgaaDoor
