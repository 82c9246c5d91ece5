/- Numbers in order, also twice: the plain law. -/
import Derived.Test.YtcafckgflpmfgaaDoorManL
namespace Go.Ord
open Go Go.Tw Go.Many

def Up (l : List Int) : Prop := l.Pairwise (· ≤ ·)
theorem up_eq {l m : List Int} (h : l.Perm m) (hl : Up l) (hm : Up m) : l = m := h.eq_of_pairwise (le := (· ≤ ·)) (fun _ _ _ _ h1 h2 => Int.le_antisymm h1 h2) hl hm
theorem up_append {a b : List Int} : Up (a ++ b) ↔ Up a ∧ Up b ∧ ∀ x ∈ a, ∀ y ∈ b, x ≤ y := List.pairwise_append
theorem up_filter {l : List Int} (p : Int → Bool) (h : Up l) : Up (l.filter p) := List.Pairwise.filter p h
theorem up_get {l : List Int} (h : Up l) {i j : Nat} (hj : j < l.length) (hij : i ≤ j) : l[i]'(by omega) ≤ l[j] := by
  rcases Nat.lt_or_eq_of_le hij with c | rfl
  · exact List.pairwise_iff_getElem.1 h i j (by omega) hj c
  · exact Int.le_refl _

/-- the first k are so, and no other ones -/
structure Ct (p : Int → Bool) (l : List Int) (k : Nat) : Prop where
  le : k ≤ l.length
  yes : ∀ y ∈ l.take k, p y = true
  no : ∀ y ∈ l.drop k, p y = false
theorem Ct.take {p : Int → Bool} {l : List Int} {k : Nat} (C : Ct p l k) : l.take k = l.filter p := by
  have e : l.filter p = (l.take k ++ l.drop k).filter p := by rw [List.take_append_drop]
  rw [e, List.filter_append, List.filter_eq_self.2 C.yes, List.filter_eq_nil_iff.2 (fun a ha => by rw [C.no a ha]; decide), List.append_nil]
theorem Ct.drop {p : Int → Bool} {l : List Int} {k : Nat} (C : Ct p l k) : l.drop k = l.filter fun y => !p y := by
  have e : (l.filter fun y => !p y) = (l.take k ++ l.drop k).filter fun y => !p y := by rw [List.take_append_drop]
  rw [e, List.filter_append, List.filter_eq_nil_iff.2 (fun a ha => by rw [C.yes a ha]; decide), List.filter_eq_self.2 (fun a ha => by rw [C.no a ha]; rfl), List.nil_append]
theorem Ct.len {p : Int → Bool} {l : List Int} {k : Nat} (C : Ct p l k) : k = (l.filter p).length := by
  rw [← C.take, List.length_take, Nat.min_eq_left C.le]

theorem last_take {l : List Int} {k : Nat} (hk : k < l.length) : lastS (l.take (k + 1)) = ⟨true, l[k]⟩ := by
  have e : l.take (k + 1) = l.take k ++ [l[k]] := by rw [List.take_add_one, List.getElem?_eq_getElem hk]; rfl
  rw [e, lastS_join]; exact (if_pos rfl).trans rfl
/-- what is found -/
theorem find_ct {l : List Int} {k : Nat} {q : Int → Bool} (hu : Up l) (hq : ∀ a b, a ≤ b → q a = true → q b = true) (hk : k ≤ l.length)
    (h0 : ((lastS (l.take k)).any && q (lastS (l.take k)).x) = false) (h1 : k < l.length → ((lastS (l.take (k + 1))).any && q (lastS (l.take (k + 1))).x) = true) : Ct (fun y => !q y) l k := by
  refine ⟨hk, fun y hy => ?_, fun y hy => ?_⟩
  · obtain ⟨i, hi⟩ := List.mem_iff_getElem?.1 hy
    rw [List.getElem?_take] at hi
    by_cases c : i < k
    · rw [if_pos c, List.getElem?_eq_getElem (by omega)] at hi
      obtain ⟨k, rfl⟩ : ∃ n, k = n + 1 := ⟨k - 1, by omega⟩
      rw [last_take (by omega)] at h0
      have h0 : q l[k] = false := by simpa using h0
      injection hi with hi
      cases e : q y with
      | false => rfl
      | true =>
        have := hq y l[k] (by rw [← hi]; exact up_get hu (by omega) (by omega)) e
        rw [h0] at this; cases this
    · rw [if_neg c] at hi; cases hi
  · obtain ⟨i, hi⟩ := List.mem_iff_getElem?.1 hy
    rw [List.getElem?_drop] at hi
    have hil := (List.getElem?_eq_some_iff.1 hi).1
    have h1 := h1 (by omega)
    rw [last_take (by omega)] at h1
    have h1 : q l[k] = true := by simpa using h1
    rw [List.getElem?_eq_getElem hil] at hi
    injection hi with hi
    rw [hq l[k] y (by rw [← hi]; exact up_get hu hil (by omega)) h1]; rfl

/-- one more -/
def ins (x : Int) (l : List Int) : List Int := (l.filter fun y => decide (y ≤ x)) ++ x :: l.filter fun y => !decide (y ≤ x)
theorem ins_perm (x : Int) (l : List Int) : (ins x l).Perm (x :: l) := List.perm_middle.trans ((List.filter_append_perm _ l).cons x)
theorem ins_up {x : Int} {l : List Int} (h : Up l) : Up (ins x l) := by
  unfold ins
  rw [up_append]
  refine ⟨up_filter _ h, ?_, fun a ha b hb => ?_⟩
  · refine List.pairwise_cons.2 ⟨fun y hy => ?_, up_filter _ h⟩
    have := (List.mem_filter.1 hy).2
    simp at this; omega
  · have ha := (List.mem_filter.1 ha).2
    simp at ha
    rcases List.mem_cons.1 hb with rfl | hb
    · exact ha
    · have := (List.mem_filter.1 hb).2
      simp at this; omega
theorem ct_insert {x : Int} {l : List Int} {k : Nat} (C : Ct (fun y => decide (y ≤ x)) l k) : l.take k ++ x :: l.drop k = ins x l := by rw [C.take, C.drop]; rfl
/-- ahead of those that are no less: as the statements' own order is made -/
def ins' (x : Int) (l : List Int) : List Int := (l.filter fun y => decide (y < x)) ++ x :: l.filter fun y => !decide (y < x)
theorem ins'_perm (x : Int) (l : List Int) : (ins' x l).Perm (x :: l) := List.perm_middle.trans ((List.filter_append_perm _ l).cons x)
theorem ins'_up {x : Int} {l : List Int} (h : Up l) : Up (ins' x l) := by
  unfold ins'
  rw [up_append]
  refine ⟨up_filter _ h, ?_, fun a ha b hb => ?_⟩
  · refine List.pairwise_cons.2 ⟨fun y hy => ?_, up_filter _ h⟩
    have := (List.mem_filter.1 hy).2
    simp at this; omega
  · have ha := (List.mem_filter.1 ha).2
    simp at ha
    rcases List.mem_cons.1 hb with rfl | hb
    · omega
    · have := (List.mem_filter.1 hb).2
      simp at this; omega
theorem up_ct {x : Int} : ∀ {l : List Int}, Up l → Ct (fun y => decide (y < x)) l (l.filter fun y => decide (y < x)).length
  | [], _ => ⟨by simp, by simp, by simp⟩
  | a :: l, h => by
    have h' := List.pairwise_cons.1 h
    have ih := up_ct (x := x) h'.2
    by_cases c : a < x
    · rw [List.filter_cons, if_pos (by simpa using c)]
      refine ⟨by have := ih.le; simp; omega, fun y hy => ?_, fun y hy => ?_⟩
      · rw [List.length_cons, List.take_succ_cons] at hy
        rcases List.mem_cons.1 hy with rfl | hy
        · simpa using c
        · exact ih.yes y hy
      · rw [List.length_cons, List.drop_succ_cons] at hy
        exact ih.no y hy
    · have e : (a :: l).filter (fun y => decide (y < x)) = [] := by
        rw [List.filter_eq_nil_iff]
        intro y hy
        rcases List.mem_cons.1 hy with rfl | hy
        · simpa using c
        · have := h'.1 y hy; simp; omega
      rw [e]
      refine ⟨by simp, by simp, fun y hy => ?_⟩
      rcases List.mem_cons.1 hy with rfl | hy
      · simpa using c
      · have := h'.1 y hy; simp; omega
theorem up_split (l : List Int) (p q : Int → Bool) (h : ∀ y, p y = true → q y = true) : (l.filter q).Perm (l.filter p ++ l.filter fun y => q y && !p y) := by
  have e1 : (l.filter q).filter p = l.filter p := by
    rw [List.filter_filter]; apply List.filter_congr; intro y _
    cases e : p y with
    | false => rfl
    | true => rw [h y e]; rfl
  have := (List.filter_append_perm p (l.filter q)).symm
  rw [e1, List.filter_filter] at this
  have e3 : l.filter (fun a => !p a && q a) = l.filter (fun y => q y && !p y) := List.filter_congr fun y _ => Bool.and_comm _ _
  rw [e3] at this; exact this
/-- how often -/
theorem count_eq (l : List Int) (x : Int) : (l.filter fun y => decide (y ≤ x)).length = (l.filter fun y => decide (y < x)).length + l.count x := by
  have := (up_split l (fun y => decide (y < x)) (fun y => decide (y ≤ x)) (fun y hy => by simp at hy ⊢; omega)).length_eq
  rw [List.length_append] at this
  rw [this, List.count_eq_length_filter]
  congr 2
  apply List.filter_congr
  intro y _
  apply Bool.eq_iff_iff.2
  simp; omega
/-- those from one to another one -/
def btw (lo hi : Int) (l : List Int) : List Int := l.filter fun y => decide (lo ≤ y) && decide (y ≤ hi)
theorem btw_eq {lo hi : Int} {l : List Int} {i j : Nat} (C1 : Ct (fun y => decide (y < lo)) l i) (C2 : Ct (fun y => decide (y ≤ hi)) l j) : (l.take j).drop i = btw lo hi l := by
  have a : l.drop i = l.filter fun y => !decide (y < lo) := C1.drop
  by_cases h : i ≤ j
  · have e : (l.take j).filter (fun y => decide (y < lo)) = (l.take j).take i := by
      have : l.take j = l.take i ++ (l.take j).drop i := by
        conv => lhs; rw [← List.take_append_drop i (l.take j)]
        rw [List.take_take, Nat.min_eq_left h]
      rw [List.take_take, Nat.min_eq_left h, this, List.filter_append, List.filter_eq_self.2 C1.yes]
      have : ((l.take j).drop i).filter (fun y => decide (y < lo)) = [] := by
        rw [List.filter_eq_nil_iff]
        intro y hy
        have hy : y ∈ l.drop i := by
          rw [List.drop_take] at hy; exact List.mem_of_mem_take hy
        rw [C1.no y hy]; decide
      rw [this, List.append_nil]
    have e2 : ((l.take j).drop i) = (l.take j).filter fun y => !decide (y < lo) := by
      have : l.take j = l.take i ++ (l.take j).drop i := by
        conv => lhs; rw [← List.take_append_drop i (l.take j)]
        rw [List.take_take, Nat.min_eq_left h]
      conv => rhs; rw [this, List.filter_append]
      rw [List.filter_eq_nil_iff.2 (fun y hy => by rw [C1.yes y hy]; decide), List.nil_append, List.filter_eq_self.2]
      intro y hy
      have hy : y ∈ l.drop i := by
        rw [List.drop_take] at hy; exact List.mem_of_mem_take hy
      rw [C1.no y hy]; rfl
    rw [e2, C2.take, List.filter_filter]
    unfold btw
    apply List.filter_congr
    intro y _
    apply Bool.eq_iff_iff.2
    simp
  · rw [List.drop_of_length_le (by rw [List.length_take]; omega)]
    unfold btw
    symm
    rw [List.filter_eq_nil_iff]
    intro y hy
    rw [← List.take_append_drop i l] at hy
    rcases List.mem_append.1 hy with hy | hy
    · have := C1.yes y hy; simp at this ⊢; omega
    · have hy : y ∈ l.drop j := by
        have e : l.drop i = (l.drop j).drop (i - j) := by rw [List.drop_drop, show j + (i - j) = i by omega]
        rw [e] at hy; exact List.mem_of_mem_drop hy
      have := C2.no y hy; simp at this ⊢; omega
/-- without it -/
def gone (x : Int) (l : List Int) : List Int := (l.filter fun y => decide (y < x)) ++ l.filter fun y => !decide (y ≤ x)
theorem gone_up {x : Int} {l : List Int} (h : Up l) : Up (gone x l) := by
  unfold gone
  rw [up_append]
  refine ⟨up_filter _ h, up_filter _ h, fun a ha b hb => ?_⟩
  have ha := (List.mem_filter.1 ha).2
  have hb := (List.mem_filter.1 hb).2
  simp at ha hb; omega
theorem gone_perm (x : Int) (l : List Int) : (gone x l).Perm (l.filter fun y => !decide (y = x)) := by
  refine ((up_split l (fun y => decide (y < x)) (fun y => !decide (y = x)) (fun y hy => by simp at hy ⊢; omega)).trans ?_).symm
  have e3 : (l.filter fun y => !decide (y = x) && !decide (y < x)) = l.filter fun y => !decide (y ≤ x) := List.filter_congr fun y _ => by apply Bool.eq_iff_iff.2; simp; omega
  rw [e3]; exact List.Perm.refl _
end Go.Ord
