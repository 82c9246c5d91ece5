/- Many things in order, a tree with a number of things and what is told of them at each node: the plain law. -/
import Derived.Test.YtcafckgflpmfgaaDoorTwMore
namespace Go.Many
open Go Go.Tw

inductive B (α : Type) : Type
  | nil : B α
  | node (l : B α) (v : α) (r : B α) : B α
def B.l {α : Type} : B α → List α
  | .nil => []
  | .node l v r => l.l ++ v :: r.l
theorem l_nil {α : Type} {t : B α} (h : t.l = []) : t = .nil := by
  cases t with
  | nil => rfl
  | node l v r => simp [B.l] at h
theorem l_one {α : Type} {l r : B α} {v x : α} (h : (B.node l v r).l = [x]) : v = x := by
  have h : l.l ++ v :: r.l = [x] := h
  cases hl : l.l with
  | nil => rw [hl] at h; simp at h; exact h.1
  | cons a b => rw [hl] at h; simp at h

/-- an item, a span -/
structure It where
  rank : Int
  val : Int
structure Spn where
  lo : Int
  hi : Int
  val : Int
structure S2 where
  any : Bool
  x : Int
structure S3 where
  any : Bool
  lo : Int
  hi : Int
/-- the greatest -/
def mxf {α : Type} (f : α → Int) : List α → Int
  | [] => 0
  | [x] => f x
  | x :: y :: l => max (f x) (mxf f (y :: l))
theorem mxf_cons {α : Type} (f : α → Int) (x : α) {l : List α} (h : l ≠ []) : mxf f (x :: l) = max (f x) (mxf f l) := by
  cases l with
  | nil => exact absurd rfl h
  | cons y l => rfl
theorem mxf_append {α : Type} (f : α → Int) : ∀ (a b : List α), a ≠ [] → b ≠ [] → mxf f (a ++ b) = max (mxf f a) (mxf f b)
  | [], _, h, _ => absurd rfl h
  | [x], b, _, hb => by rw [List.singleton_append, mxf_cons f x hb]; rfl
  | x :: y :: a, b, _, hb => by
    have ih := mxf_append f (y :: a) b (by simp) hb
    rw [List.cons_append, mxf_cons f x (by simp), ih, mxf_cons f x (by simp), Int.max_assoc]
theorem mxf_mem {α : Type} (f : α → Int) : ∀ (l : List α), l ≠ [] → (∃ x ∈ l, f x = mxf f l) ∧ ∀ x ∈ l, f x ≤ mxf f l
  | [], h => absurd rfl h
  | [x], _ => ⟨⟨x, by simp, rfl⟩, fun y hy => by simp at hy; subst hy; exact Int.le_refl _⟩
  | x :: y :: l, _ => by
    obtain ⟨⟨z, hz, e⟩, h⟩ := mxf_mem f (y :: l) (by simp)
    rw [mxf_cons f x (by simp)]
    refine ⟨?_, fun w hw => ?_⟩
    · rcases Int.le_total (f x) (mxf f (y :: l)) with c | c
      · exact ⟨z, List.mem_cons_of_mem _ hz, by rw [Int.max_eq_right c]; exact e⟩
      · exact ⟨x, by simp, by rw [Int.max_eq_left c]⟩
    · rcases List.mem_cons.1 hw with rfl | hw
      · exact Int.le_max_left _ _
      · exact Int.le_trans (h w hw) (Int.le_max_right _ _)

def lastS (l : List Int) : S2 := ⟨!l.isEmpty, l.getLastD 0⟩
theorem lastS_join (a b : List Int) : lastS (a ++ b) = if (lastS b).any = true then lastS b else lastS a := by
  cases b with
  | nil => simp [lastS]
  | cons x b => simp [lastS, List.getLastD_eq_getLast?, List.getLast?_cons]
def topS (l : List It) : S2 := ⟨!l.isEmpty, mxf It.rank l⟩
theorem topS_join (a b : List It) : topS (a ++ b) = if (topS a).any = false ∨ ((topS b).any = true ∧ (topS a).x < (topS b).x) then topS b else topS a := by
  cases a with
  | nil => simp [topS]
  | cons x a =>
    cases b with
    | nil => simp [topS]
    | cons y b =>
      have e := mxf_append It.rank (x :: a) (y :: b) (by simp) (by simp)
      by_cases h : (topS (x :: a)).x < (topS (y :: b)).x
      · rw [if_pos (.inr ⟨rfl, h⟩)]
        have h : mxf It.rank (x :: a) < mxf It.rank (y :: b) := h
        show S2.mk _ _ = S2.mk _ _
        rw [e, Int.max_eq_right (by omega)]; rfl
      · rw [if_neg (by rintro (c | ⟨_, c⟩); exact absurd c (by simp [topS]); exact h c)]
        have h : ¬ mxf It.rank (x :: a) < mxf It.rank (y :: b) := h
        show S2.mk _ _ = S2.mk _ _
        rw [e, Int.max_eq_left (by omega)]; rfl
def lastLo (l : List Spn) : Int := (l.getLast?.map Spn.lo).getD 0
def reachS (l : List Spn) : S3 := ⟨!l.isEmpty, lastLo l, mxf Spn.hi l⟩
theorem reachS_join (a b : List Spn) : reachS (a ++ b) = if (reachS a).any = false then reachS b else if (reachS b).any = false then reachS a else ⟨true, (reachS b).lo, max (reachS a).hi (reachS b).hi⟩ := by
  cases a with
  | nil => simp [reachS]
  | cons x a =>
    cases b with
    | nil => simp [reachS]
    | cons y b =>
      have e := mxf_append Spn.hi (x :: a) (y :: b) (by simp) (by simp)
      rw [if_neg (by simp [reachS]), if_neg (by simp [reachS])]
      show S3.mk _ _ _ = S3.mk _ _ _
      rw [e]
      congr 1
      show lastLo (x :: a ++ y :: b) = lastLo (y :: b)
      simp only [lastLo, List.getLast?_append, List.getLast?_cons]; rfl
end Go.Many
