/- What the statements ask alike: a sum; other things that errors are. -/
import Derived.Test.YtcafckgflpmfgaaDoorDBas
import Derived.Test.YtcafckgflpmfgaaDoorDErrP
namespace Go.Proofs.YtcafckgflpmfgaaDoor
open Go Go.RowKit Go.Tw
set_option linter.unusedVariables false
section
variable {r : World} {h : Heap}
theorem w64_sum (x y : Int) : w64 (w64 x + w64 y) = w64 (x + y) := by
  simp only [w64, IntKind.wrap_i64]; omega
theorem w64_sumr (x y : Int) : w64 (w64 x + y) = w64 (x + y) := by
  simp only [w64, IntKind.wrap_i64]; omega
theorem sumOf_ok {s : Sl} {l : List Int} {n : Nat} {R : Int → Heap → Prop} (S : RI n h s l) (hz : l.length ≤ 17592186044416) (H : R (w64 l.sum) h) : ref1_SumOf r s h R := by
  apply ref1_SumOf_of
  have sl := S.len
  intro X HX
  have key : ∀ (d i : Nat), i + d = l.length → X (w64 (l.take i).sum) (i : Int) := by
    intro d
    induction d with
    | zero =>
      intro i hi
      rw [List.take_of_length_le (by omega)]
      exact HX _ _ ⟨fun c => absurd (of_decide_eq_true c) (by omega), fun _ => H⟩
    | succ d ih =>
      intro i hi
      have hil : i < l.length := by omega
      have ex : l[(i : Int).toNat]! = l[i] := by rw [Int.toNat_natCast, getElem!_pos l i hil]
      have e : l.take (i + 1) = l.take i ++ [l[i]] := by rw [List.take_add_one, List.getElem?_eq_getElem hil]; rfl
      refine HX _ _ ⟨fun _ => RI.ix S (by omega) (by omega) fun p _ hp => ⟨_, hp, ?_⟩, fun c => absurd (of_decide_eq_false c) (by omega)⟩
      rw [ex]
      dsimp only
      rw [w64_sumr, w64_of (n := (i : Int) + 1) (by omega) (by omega)]
      have := ih (i + 1) (by omega)
      rw [e, List.sum_append] at this
      simpa using this
  have := key l.length 0 (by omega)
  rw [List.take_zero, List.sum_nil, w64_of (by decide) (by decide)] at this
  exact this
theorem Er.eq {h h' : Heap} (H : Er h) (e : h'[0]? = h[0]?) : Er h' := by
  unfold Er at H ⊢
  rw [hcell_of_eq (h := h) (p := ⟨0, 0, none⟩) e]; exact H
/-- an error that is as told -/
theorem err_ok {n : Int} {R : Bool → Heap → Prop} (hg : Er h) (H : ∀ h', Fw h h' → R true h') : same_Error r (Ev n) n h R := error_ok hg fun h' E => by rw [decide_eq_true rfl]; exact H h' E
theorem Subs.at_ {n : Nat} {s : Sl} {u : List Int} {lo hi : Nat} {K : Sl → Prop} (S : RI n h s u) (h1 : lo ≤ hi) (h2 : hi ≤ u.length) (hK : ∀ t, RI n h t ((u.drop lo).take (hi - lo)) → K t) : Sub s (lo : Int) (hi : Int) (s.cap : Int) 1 K := by
  have hc := S.cap
  have hl := S.len
  refine ⟨by omega, by omega, by omega, by omega, fun t ht => hK t ?_⟩
  have et : t = ⟨sliceA s.a s.cap lo 1, hi - lo, s.cap - lo⟩ := by rw [ht]; simp only [Int.toNat_natCast]
  rw [et]
  by_cases he : lo = hi
  · subst he
    refine ⟨by simp, by simp, .inl (by simp)⟩
  · have := Rs.sub S (lo := lo) (hi := hi) (mx := s.cap) (by omega) (by simp; omega) (by omega)
    rwa [← List.map_drop, ← List.map_take] at this
end
end Go.Proofs.YtcafckgflpmfgaaDoor
