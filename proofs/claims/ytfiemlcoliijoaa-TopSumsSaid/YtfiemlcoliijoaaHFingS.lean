/- Trees with both ends at hand: 'joined'. -/
import Derived.Test.YtfiemlcoliijoaaHFingR
namespace Go.Proofs.Ytfiemlcoliijoaa.Mo
open Go Go.RowKit Go.Tw Go.Mono Go.Fing
set_option linter.unusedVariables false
section
variable {A : Nat → Prop} {r : World}

/-- the first one is built upon -/
theorem jright_ok {k : Nat} {a : Fing.F} {l57 : List Fing.T} {s57 : Sl} {p : Option Addr} {h : Heap} {R : Option Addr → Heap → Prop} (ha : a.ok k) (hl : l57.length ≤ 5) (hd57 : ∀ t ∈ l57, t.dep k) (D57 : Dg A h s57 l57) (La : Lv A h a p) (hz57 : (ls l57).length + a.l.length < 4611686018427387904) (hA : ∀ b, h.size ≤ b → A b)
    (HR : ∀ q' h', Fw h h' → Lv A h' (prs a l57) q' → R q' h') (X62 : Option Addr → Int → Heap → Prop) (HX : ∀ (a60 : Option Addr) (x61 : Int) (h15 : Heap),
              (Br (decide (x61 < ((s57.len : Int)))) (
                Ix s57 x61 1 fun q67 =>
                LdP h15 q67 fun x69 =>
                finger_pushRight r a60 x69 h15 fun y71 h16 =>
                X62 y71 (w64 (x61 + 1)) h16) (
                R a60 h15)) →
              X62 a60 x61 h15) : X62 p 0 h := by
  have l1 := D57.len
  have key : ∀ (n i : Nat) (q' : Option Addr) (h15 : Heap), i + n = l57.length → Fw h h15 → Lv A h15 (prs a (l57.take i)) q' → X62 q' (i : Int) h15 := by
    intro n
    induction n with
    | zero =>
      intro i q' h15 hi E15 L15
      refine HX _ _ _ ⟨fun c => absurd (of_decide_eq_true c) (by omega), fun _ => HR q' h15 E15 ?_⟩
      rwa [List.take_of_length_le (by omega)] at L15
    | succ n ihn =>
      intro i q' h15 hi E15 L15
      have hit : i < l57.length := by omega
      refine HX _ _ _ ⟨fun _ => (D57.fw E15).ix (List.getElem?_eq_getElem hit) fun q0 p0 hq0 _ Tp => ⟨some p0, hq0, ?_⟩, fun c => absurd (of_decide_eq_false c) (by omega)⟩
      have hpl := prs_l (l57.take i) a k ha fun t ht => hd57 t (List.mem_of_mem_take ht)
      have el : ls l57 = ls (l57.take (i + 1)) ++ ls (l57.drop (i + 1)) := by rw [← ls_append, List.take_append_drop]
      rw [prs_part l57 i hit, ls_append, ls_one] at el
      have el := congrArg List.length el
      simp only [List.length_append] at el
      refine pushRight_ok _ k _ _ _ _ _ hpl.2 L15 Tp (by rw [hpl.1]; simp only [List.length_append]; omega) (new_A hA E15) fun q2 h16 E16 L16 => ?_
      rw [w64_of (by omega) (by omega)]
      refine ihn (i + 1) q2 h16 (by omega) (E15.trans E16) ?_
      rw [prs_part l57 i hit, prs_snoc]; exact L16
  exact key l57.length 0 p h (by omega) (Fw.refl _) La


end
end Go.Proofs.Ytfiemlcoliijoaa.Mo
