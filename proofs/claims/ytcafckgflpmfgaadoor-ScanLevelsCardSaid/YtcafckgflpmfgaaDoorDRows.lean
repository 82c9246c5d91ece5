/- Are rows of whole numbers the same? A clone. -/
import Derived.Test.YtcafckgflpmfgaaDoorDSame
import Derived.Test.YtcafckgflpmfgaaDoorDBasP
namespace Go.Proofs.YtcafckgflpmfgaaDoor
open Go Go.RowKit Go.Tw
set_option linter.unusedVariables false
section
variable {r : World} {h : Heap}
theorem same_Rows_ok {n n' : Nat} {a b : Sl} {P Q : List (List Int)} {R : Bool → Heap → Prop} (ha : RR n h a P) (hb : RR n' h b Q) (hl : P.length ≤ 4611686018427387904) (hls : ∀ q ∈ P, q.length ≤ 4611686018427387904) (H : R (decide (P = Q)) h) : same_Rows r a b h R := by
  apply same_Rows_of
  unfold same_Rows_F
  rw [ha.len, hb.len]
  refine ⟨fun q => ?_, fun q => ?_⟩
  · have q : P.length ≠ Q.length := by simp at q; omega
    rw [decide_eq_false (fun e => q (by rw [e]))] at H; exact H
  · have q : P.length = Q.length := by simp at q; omega
    intro X HX
    have key : ∀ d (i : Nat), i + d = P.length → P.take i = Q.take i → X (i : Int) h := by
      intro d
      induction d with
      | zero =>
        intro i hi he
        refine HX _ _ ⟨fun q => absurd (of_decide_eq_true q) (by omega), fun _ => ?_⟩
        have : P = Q := by rw [List.take_of_length_le (by omega), List.take_of_length_le (by omega)] at he; exact he
        rw [decide_eq_true this] at H; exact H
      | succ d ih =>
        intro i hi he
        have h1 : i < P.length := by omega
        have h2 : i < Q.length := by omega
        refine HX _ _ ⟨fun _ => ?_, fun q => absurd (of_decide_eq_false q) (by omega)⟩
        refine ha.ix h1 fun p s1 _ hp r1 => ⟨s1, hp, hb.ix h2 fun p2 s2 _ hp2 r2 => ⟨s2, hp2, ?_⟩⟩
        refine same_Ints_ok r1 r2 (hls _ (List.getElem_mem h1)) ⟨fun q => ?_, fun q => ?_⟩
        · have : ¬ P = Q := fun e => by subst e; simp at q
          rw [decide_eq_false this] at H; exact H
        · have q : P[i] = Q[i] := by simpa using q
          rw [show w64 ((i : Int) + 1) = ((i + 1 : Nat) : Int) by rw [w64_of] <;> omega]
          refine ih (i + 1) (by omega) ?_
          rw [List.take_add_one, List.take_add_one, he, List.getElem?_eq_getElem h1, List.getElem?_eq_getElem h2, q]
    exact key P.length 0 (by omega) rfl
theorem one_ints (l : List Int) : ∀ v ∈ l.map iV, one v = true := by intro v hv; obtain ⟨x, _, rfl⟩ := List.mem_map.1 hv; rfl
theorem clone_own {s : Sl} {l : List Int} {n : Nat} {R : Sl → Heap → Prop} (S : RI n h s l) (hn : n ≤ h.size) (hz : l.length ≤ 17592186044416) (H : ∀ s' h', Fw h h' → Own h.size 1 h' s' (l.map iV) → R s' h') : slices_Clone_int_int r s h R := by
  apply slices_Clone_int_int_of
  have sl := S.len
  refine ⟨fun c => ?_, fun c => ?_⟩
  · rcases S.at_ with e | ⟨b, o, e, _⟩
    · have e : l = [] := by simpa using e
      subst e
      exact H _ h (Fw.refl h) (Own.nil _ _ _)
    · rw [e] at c; cases c
  · refine New.cells (cs := []) fun h1 E1 z1 B1 => ?_
    have O0 : Own h.size 1 h1 ⟨some (ad h.size 0), 0, 0⟩ [] := ⟨rfl, Nat.le_refl _, .inr ⟨_, [], rfl, Nat.le_refl _, B1, rfl⟩⟩
    refine App.own O0 (S.ext E1 hn) rfl (one_ints l) E1.1 (by show (0 + s.len) * 8 ≤ _; omega) fun s2 h2 G => H s2 h2 (E1.trans' G.ext) ?_
    have := G.own
    simpa using this
end
end Go.Proofs.YtcafckgflpmfgaaDoor
