/- A list without one. -/
import Derived.Test.YtcafckgflpmfgaaDoorDVRefP
namespace Go.Proofs.YtcafckgflpmfgaaDoor.Vi
open Go Go.RowKit Go.Tw
set_option linter.unusedVariables false
section
variable {r : World} {h : Heap}
theorem without_ok {s : Sl} {u : List Int} {n i : Nat} {R : Sl → Heap → Prop} (S : RI n h s u) (hn : n ≤ h.size) (hi : i < u.length) (hz : u.length ≤ 17592186044416) (H : ∀ s' h', Fw h h' → Own h.size 1 h' s' ((u.take i ++ u.drop (i + 1)).map iV) → R s' h') : ref1_Without r s (i : Int) h R := by
  apply ref1_Without_of
  have hl := S.len
  refine Sub.in_ (lo := 0) S (by omega) (by omega) fun t T => ?_
  refine App.in_ (u := []) (Own.nil h.size 1 h) T (Nat.le_refl _) (by simp; omega) fun s1 h1 E1 O1 => ?_
  rw [show w64 ((i : Int) + 1) = ((i + 1 : Nat) : Int) by rw [w64_of] <;> omega, hl]
  refine Sub.in_ (S.ext E1 hn) (by omega) (by omega) fun t2 T2 => ?_
  refine App.in_ O1 T2 E1.1 (by simp; omega) fun s2 h2 E2 O2 => H s2 h2 (Ext.trans E1 E2) ?_
  have e : [] ++ (u.drop 0).take (i - 0) ++ (u.drop (i + 1)).take (u.length - (i + 1)) = u.take i ++ u.drop (i + 1) := by
    rw [List.nil_append, List.drop_zero, Nat.sub_zero, List.take_of_length_le (l := u.drop (i + 1)) (by simp)]
  rwa [e] at O2
end
end Go.Proofs.YtcafckgflpmfgaaDoor.Vi
