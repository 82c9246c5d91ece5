/- The first in rank: the plain law. -/
import Derived.Test.YtikccpmhoioaeaaManL
namespace Go.Pri
open Go Go.Tw Go.Many

/-- the first one of the greatest rank is at k -/
structure IsTop (l : List It) (k : Nat) : Prop where
  lt : k < l.length
  all : ∀ (i : Nat) (y x : It), l[i]? = some y → l[k]? = some x → y.rank ≤ x.rank
  less : ∀ (i : Nat) (y x : It), i < k → l[i]? = some y → l[k]? = some x → y.rank < x.rank
theorem IsTop.get {l : List It} {k : Nat} (T : IsTop l k) : ∃ x, l[k]? = some x := ⟨l[k]'T.lt, List.getElem?_eq_getElem T.lt⟩
theorem IsTop.uniq {l : List It} {k j : Nat} (T : IsTop l k) (U : IsTop l j) : k = j := by
  obtain ⟨x, hx⟩ := T.get
  obtain ⟨y, hy⟩ := U.get
  rcases Nat.lt_trichotomy k j with h | h | h
  · have := U.less k x y h hx hy
    have := T.all j y x hy hx; omega
  · exact h
  · have := T.less j y x h hy hx
    have := U.all k x y hx hy; omega
theorem top_of {l : List It} {k : Nat} (hl : l ≠ []) (hk : k ≤ l.length) (h0 : ((topS (l.take k)).any && decide ((topS (l.take k)).x = (topS l).x)) = false)
    (h1 : k < l.length → ((topS (l.take (k + 1))).any && decide ((topS (l.take (k + 1))).x = (topS l).x)) = true) : IsTop l k := by
  have hklt : k < l.length := by
    apply Nat.lt_of_not_le; intro c
    rw [List.take_of_length_le c] at h0
    have e : (topS l).any = true := by cases l with
      | nil => exact absurd rfl hl
      | cons a l => rfl
    rw [e] at h0; simp at h0
  have h1 := h1 hklt
  have e : l.take (k + 1) = l.take k ++ [l[k]] := by rw [List.take_add_one, List.getElem?_eq_getElem hklt]; rfl
  have m1 : mxf It.rank (l.take (k + 1)) = mxf It.rank l := by
    simp only [Bool.and_eq_true, decide_eq_true_eq] at h1; exact h1.2
  have ml := mxf_mem It.rank l hl
  have before : ∀ y ∈ l.take k, y.rank < mxf It.rank l := by
    intro y hy
    have hne : l.take k ≠ [] := by intro c; rw [c] at hy; cases hy
    have ha : (topS (l.take k)).any = true := by
      cases hh : l.take k with
      | nil => exact absurd hh hne
      | cons a b => rfl
    rw [ha] at h0
    have hm : mxf It.rank (l.take k) ≠ mxf It.rank l := by
      intro c
      have : decide ((topS (l.take k)).x = (topS l).x) = true := decide_eq_true c
      rw [this] at h0; cases h0
    have mk := mxf_mem It.rank (l.take k) hne
    have h2 := mk.2 y hy
    obtain ⟨z, hz, ez⟩ := mk.1
    have h3 := ml.2 z (List.mem_of_mem_take hz)
    omega
  have here : l[k].rank = mxf It.rank l := by
    obtain ⟨z, hz, ez⟩ := (mxf_mem It.rank (l.take (k + 1)) (by intro c; have c := congrArg List.length c; rw [e, List.length_append] at c; simp at c)).1
    rw [e] at hz
    rcases List.mem_append.1 hz with hz | hz
    · have := before z hz; omega
    · simp at hz; subst hz; omega
  refine ⟨hklt, fun i y x hy hx => ?_, fun i y x hi hy hx => ?_⟩
  · rw [List.getElem?_eq_getElem hklt] at hx
    injection hx with hx
    rw [← hx, here]
    exact ml.2 y (List.mem_of_getElem? hy)
  · rw [List.getElem?_eq_getElem hklt] at hx
    injection hx with hx
    rw [← hx, here]
    exact before y (List.mem_iff_getElem?.2 ⟨i, by rw [List.getElem?_take, if_pos hi]; exact hy⟩)
/-- of two parts -/
theorem top_append_left {a b : List It} {k : Nat} (T : IsTop a k) (h : ∀ (j : Nat) (y x : It), b[j]? = some y → a[k]? = some x → y.rank ≤ x.rank) : IsTop (a ++ b) k := by
  have hk := T.lt
  refine ⟨by simp; omega, fun i y x hy hx => ?_, fun i y x hi hy hx => ?_⟩
  · rw [List.getElem?_append_left hk] at hx
    by_cases c : i < a.length
    · rw [List.getElem?_append_left c] at hy
      exact T.all i y x hy hx
    · rw [List.getElem?_append_right (by omega)] at hy
      exact h _ y x hy hx
  · rw [List.getElem?_append_left hk] at hx
    rw [List.getElem?_append_left (by omega)] at hy
    exact T.less i y x hi hy hx
theorem top_append_right {a b : List It} {k : Nat} (T : IsTop b k) (h : ∀ (j : Nat) (y x : It), a[j]? = some y → b[k]? = some x → y.rank < x.rank) : IsTop (a ++ b) (a.length + k) := by
  have hk := T.lt
  refine ⟨by simp; omega, fun i y x hy hx => ?_, fun i y x hi hy hx => ?_⟩
  · rw [List.getElem?_append_right (by omega), Nat.add_sub_cancel_left] at hx
    by_cases c : i < a.length
    · rw [List.getElem?_append_left c] at hy
      exact Int.le_of_lt (h i y x hy hx)
    · rw [List.getElem?_append_right (by omega)] at hy
      exact T.all _ y x hy hx
  · rw [List.getElem?_append_right (by omega), Nat.add_sub_cancel_left] at hx
    by_cases c : i < a.length
    · rw [List.getElem?_append_left c] at hy
      exact h i y x hy hx
    · rw [List.getElem?_append_right (by omega)] at hy
      exact T.less _ y x (by omega) hy hx

/-! ### All go by their ranks -/
/-- what waits: numbers of l, by their places -/
structure Wait (l : List Int) (L : List It) : Prop where
  of : ∀ y ∈ L, ∃ n : Nat, y.val = (n : Int) ∧ l[n]? = some y.rank
  up : L.Pairwise fun y z => y.val < z.val
/-- behind the last one that went -/
def After (last : It) (L : List It) : Prop := ∀ y ∈ L, y.rank < last.rank ∨ (y.rank = last.rank ∧ last.val < y.val)
theorem Wait.push {l : List Int} {L : List It} {i : Nat} {x : Int} (W : Wait l L) (hx : l[i]? = some x) (hb : ∀ y ∈ L, y.val < (i : Int)) : Wait l (L ++ [⟨x, i⟩]) ∧ ∀ y ∈ L ++ [(⟨x, i⟩ : It)], y.val < ((i + 1 : Nat) : Int) := by
  refine ⟨⟨fun y hy => ?_, ?_⟩, fun y hy => ?_⟩
  · rcases List.mem_append.1 hy with hy | hy
    · exact W.of y hy
    · simp at hy; subst hy; exact ⟨i, rfl, hx⟩
  · rw [List.pairwise_append]
    refine ⟨W.up, by simp, fun a ha b hb' => ?_⟩
    simp at hb'; subst hb'; exact hb a ha
  · rcases List.mem_append.1 hy with hy | hy
    · have := hb y hy; omega
    · simp at hy; subst hy; show (i : Int) < _; omega
theorem Wait.pop {l : List Int} {L : List It} {k : Nat} {x : It} (W : Wait l L) (T : IsTop L k) (hx : L[k]? = some x) : Wait l (L.take k ++ L.drop (k + 1)) ∧ After x (L.take k ++ L.drop (k + 1)) := by
  have hsub : (L.take k ++ L.drop (k + 1)).Sublist L := by
    have e : L = L.take k ++ L.drop k := (List.take_append_drop k L).symm
    have h2 : (L.take k ++ L.drop (k + 1)).Sublist (L.take k ++ L.drop k) := (List.Sublist.refl _).append (by rw [← List.drop_drop]; exact List.drop_sublist 1 _)
    rwa [← e] at h2
  refine ⟨⟨fun y hy => W.of y (hsub.subset hy), W.up.sublist hsub⟩, fun y hy => ?_⟩
  rcases List.mem_append.1 hy with hy | hy
  · obtain ⟨i, hi⟩ := List.mem_iff_getElem?.1 hy
    rw [List.getElem?_take] at hi
    by_cases c : i < k
    · rw [if_pos c] at hi
      exact .inl (T.less i y x c hi hx)
    · rw [if_neg c] at hi; cases hi
  · obtain ⟨i, hi⟩ := List.mem_iff_getElem?.1 hy
    rw [List.getElem?_drop] at hi
    have h1 := T.all _ y x hi hx
    have hl1 := (List.getElem?_eq_some_iff.1 hi).1
    have hl2 := (List.getElem?_eq_some_iff.1 hx).1
    have h2 := List.pairwise_iff_getElem.1 W.up k (k + 1 + i) hl2 hl1 (by omega)
    rw [List.getElem?_eq_getElem hl1] at hi
    rw [List.getElem?_eq_getElem hl2] at hx
    injection hi with hi
    injection hx with hx
    rw [hi, hx] at h2
    by_cases c : y.rank < x.rank
    · exact .inl c
    · exact .inr ⟨by omega, h2⟩
end Go.Pri
