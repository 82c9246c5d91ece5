/- Spans in order: the plain law. -/
import Derived.Test.YtcafckgflpmfgaaDoorOOrdL
namespace Go.Ival
open Go Go.Tw Go.Many

def UpS (l : List Spn) : Prop := Ord.Up (l.map Spn.lo)
/-- the first k are so, and no other ones -/
structure CtS (p : Spn → Bool) (l : List Spn) (k : Nat) : Prop where
  le : k ≤ l.length
  yes : ∀ y ∈ l.take k, p y = true
  no : ∀ y ∈ l.drop k, p y = false
theorem CtS.take {p : Spn → Bool} {l : List Spn} {k : Nat} (C : CtS p l k) : l.take k = l.filter p := by
  have e : l.filter p = (l.take k ++ l.drop k).filter p := by rw [List.take_append_drop]
  rw [e, List.filter_append, List.filter_eq_self.2 C.yes, List.filter_eq_nil_iff.2 (fun a ha => by rw [C.no a ha]; decide), List.append_nil]
theorem CtS.drop {p : Spn → Bool} {l : List Spn} {k : Nat} (C : CtS p l k) : l.drop k = l.filter fun y => !p y := by
  have e : (l.filter fun y => !p y) = (l.take k ++ l.drop k).filter fun y => !p y := by rw [List.take_append_drop]
  rw [e, List.filter_append, List.filter_eq_nil_iff.2 (fun a ha => by rw [C.yes a ha]; decide), List.filter_eq_self.2 (fun a ha => by rw [C.no a ha]; rfl), List.nil_append]
theorem lastS_lo (l : List Spn) : lastS (l.map Spn.lo) = ⟨(reachS l).any, (reachS l).lo⟩ := by
  have e1 : (l.map Spn.lo).isEmpty = l.isEmpty := by cases l <;> rfl
  have e2 : (l.map Spn.lo).getLastD 0 = lastLo l := by rw [List.getLastD_eq_getLast?, List.getLast?_map]; rfl
  show S2.mk _ _ = S2.mk _ _
  rw [e1, e2]; rfl
theorem find_cts {l : List Spn} {k : Nat} {x : Int} (hu : UpS l) (hk : k ≤ l.length) (h0 : ((reachS (l.take k)).any && decide (x < (reachS (l.take k)).lo)) = false) (h1 : k < l.length → ((reachS (l.take (k + 1))).any && decide (x < (reachS (l.take (k + 1))).lo)) = true) : CtS (fun y => decide (y.lo ≤ x)) l k := by
  have C := Ord.find_ct (q := fun z => decide (x < z)) (l := l.map Spn.lo) (k := k) hu (fun a b hab ha => by simp at ha ⊢; omega) (by simpa using hk) (by rw [← List.map_take, lastS_lo]; exact h0) (fun c => by rw [← List.map_take, lastS_lo]; exact h1 (by simpa using c))
  refine ⟨hk, fun y hy => ?_, fun y hy => ?_⟩
  · have := C.yes y.lo (by rw [← List.map_take]; exact List.mem_map_of_mem hy)
    simpa using this
  · have := C.no y.lo (by rw [← List.map_drop]; exact List.mem_map_of_mem hy)
    simpa using this
/-- one more -/
def insS (s : Spn) (l : List Spn) : List Spn := (l.filter fun y => decide (y.lo ≤ s.lo)) ++ s :: l.filter fun y => !decide (y.lo ≤ s.lo)
theorem insS_perm (s : Spn) (l : List Spn) : (insS s l).Perm (s :: l) := List.perm_middle.trans ((List.filter_append_perm _ l).cons s)
theorem insS_len (s : Spn) (l : List Spn) : (insS s l).length = l.length + 1 := (insS_perm s l).length_eq
theorem insS_up {s : Spn} {l : List Spn} (h : UpS l) : UpS (insS s l) := by
  have h' : l.Pairwise fun a b => a.lo ≤ b.lo := List.pairwise_map.1 h
  refine List.pairwise_map.2 ?_
  unfold insS
  rw [List.pairwise_append]
  refine ⟨h'.filter _, List.pairwise_cons.2 ⟨fun y hy => ?_, h'.filter _⟩, fun a ha b hb => ?_⟩
  · have := (List.mem_filter.1 hy).2
    simp at this; omega
  · have ha := (List.mem_filter.1 ha).2
    simp at ha
    rcases List.mem_cons.1 hb with rfl | hb
    · exact ha
    · have := (List.mem_filter.1 hb).2
      simp at this; omega
theorem CtS.ins {s : Spn} {l : List Spn} {k : Nat} (C : CtS (fun y => decide (y.lo ≤ s.lo)) l k) : l.take k ++ s :: l.drop k = insS s l := by rw [C.take, C.drop]; rfl
/-- those that have a number in common with some -/
def ovF (low high : Int) (l : List Spn) : List Spn := if high < low then [] else (l.filter fun y => decide (y.lo ≤ high)).filter fun y => decide (low ≤ y.hi)
theorem ovF_eq {low high : Int} {l : List Spn} (h : low ≤ high) : ovF low high l = l.filter fun y => decide (y.lo ≤ high) && decide (low ≤ y.hi) := by
  unfold ovF
  rw [if_neg (by omega), List.filter_filter]
  apply List.filter_congr
  intro y _
  exact Bool.and_comm _ _
theorem ovF_len (low high : Int) (l : List Spn) : (ovF low high l).length ≤ l.length := by
  unfold ovF
  split
  · simp
  · exact Nat.le_trans (List.length_filter_le ..) (List.length_filter_le ..)
/-- the first one that reaches so far -/
theorem find_hi {t : List Spn} {k : Nat} {x : Int} (hk : k ≤ t.length) (h0 : ((reachS (t.take k)).any && decide (x ≤ (reachS (t.take k)).hi)) = false) (h1 : k < t.length → ((reachS (t.take (k + 1))).any && decide (x ≤ (reachS (t.take (k + 1))).hi)) = true) :
    (∀ y ∈ t.take k, y.hi < x) ∧ ∀ y, t[k]? = some y → x ≤ y.hi := by
  have a : ∀ y ∈ t.take k, y.hi < x := by
    intro y hy
    have hne : t.take k ≠ [] := by intro c; rw [c] at hy; cases hy
    have ha : (reachS (t.take k)).any = true := by
      cases hh : t.take k with
      | nil => exact absurd hh hne
      | cons a b => rfl
    rw [ha, Bool.true_and] at h0
    have h0 : ¬ x ≤ mxf Spn.hi (t.take k) := of_decide_eq_false h0
    have := (mxf_mem Spn.hi (t.take k) hne).2 y hy
    omega
  refine ⟨a, fun y hy => ?_⟩
  have hkl := (List.getElem?_eq_some_iff.1 hy).1
  have h1 := h1 hkl
  have e : t.take (k + 1) = t.take k ++ [y] := by rw [List.take_add_one, hy]; rfl
  have h2 : x ≤ mxf Spn.hi (t.take (k + 1)) := by
    simp only [Bool.and_eq_true, decide_eq_true_eq] at h1; exact h1.2
  obtain ⟨z, hz, ez⟩ := (mxf_mem Spn.hi (t.take (k + 1)) (by rw [e]; simp)).1
  rw [e] at hz
  rcases List.mem_append.1 hz with hz | hz
  · have := a z hz; omega
  · simp at hz; subst hz; omega
theorem filter_hi {t : List Spn} {k : Nat} {x : Int} {y : Spn} (h0 : ∀ y ∈ t.take k, y.hi < x) (hy : t[k]? = some y) (h1 : x ≤ y.hi) : (t.filter fun y => decide (x ≤ y.hi)) = y :: (t.drop (k + 1)).filter fun y => decide (x ≤ y.hi) := by
  have hkl := (List.getElem?_eq_some_iff.1 hy).1
  have e : t = t.take k ++ y :: t.drop (k + 1) := by
    have e2 : t.drop k = y :: t.drop (k + 1) := by
      rw [List.drop_eq_getElem_cons hkl]
      rw [List.getElem?_eq_getElem hkl] at hy
      injection hy with hy; rw [hy]
    rw [← e2, List.take_append_drop]
  conv => lhs; rw [e]
  rw [List.filter_append, List.filter_eq_nil_iff.2 (fun a ha => by have := h0 a ha; simp; omega), List.nil_append, List.filter_cons, if_pos (by simpa using h1)]
/-- is it that one? -/
def eqS (s y : Spn) : Bool := decide (y.lo = s.lo ∧ y.hi = s.hi ∧ y.val = s.val)
theorem filter_mono (l : List Spn) (p q : Spn → Bool) (h : ∀ y, p y = true → q y = true) : (l.filter p).length ≤ (l.filter q).length := by
  have e : (l.filter q).filter p = l.filter p := by
    rw [List.filter_filter]; apply List.filter_congr; intro y _
    cases e : p y with
    | false => rfl
    | true => rw [h y e]; rfl
  rw [← e]; exact List.length_filter_le ..
end Go.Ival
