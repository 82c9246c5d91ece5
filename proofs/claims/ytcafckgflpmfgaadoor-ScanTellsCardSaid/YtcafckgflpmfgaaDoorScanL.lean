/- All beginnings: the plain law. No program in sight. -/
import Derived.Test.YtcafckgflpmfgaaDoorTwUse
namespace Go.Scan
open Go Go.Tw

/-- two by two -/
def pairs (g : Int → Int → Int) : List Int → List Int
  | a :: b :: l => g a b :: pairs g l
  | l => l
/-- what is ahead of each place -/
def before (g : Int → Int → Int) (e : Int) (l : List Int) : List Int := (List.range l.length).map fun i => (l.take i).foldl g e
def Assoc (g : Int → Int → Int) : Prop := ∀ a b c, g (g a b) c = g a (g b c)

theorem pairs_len (g : Int → Int → Int) : ∀ l, (pairs g l).length = (l.length + 1) / 2
  | [] => rfl
  | [a] => by simp [pairs]
  | a :: b :: l => by simp only [pairs, List.length_cons, pairs_len g l]; omega
theorem pairs_fold {g : Int → Int → Int} (hg : Assoc g) : ∀ (l : List Int) (e : Int), (pairs g l).foldl g e = l.foldl g e
  | [], e => rfl
  | [a], e => rfl
  | a :: b :: l, e => by simp only [pairs, List.foldl_cons]; rw [pairs_fold hg l, ← hg]
theorem pairs_take {g : Int → Int → Int} : ∀ (l : List Int) (k : Nat), 2 * k ≤ l.length → (pairs g l).take k = pairs g (l.take (2 * k))
  | l, 0, _ => by simp [pairs]
  | [], k + 1, h => by simp at h
  | [a], k + 1, h => by simp at h; omega
  | a :: b :: l, k + 1, h => by
    rw [show 2 * (k + 1) = 2 * k + 2 by omega, List.take_succ_cons, List.take_succ_cons]
    simp only [pairs, List.take_succ_cons]
    rw [pairs_take l k (by simp at h; omega)]
/-- what is ahead of a pair is what is ahead of its first one -/
theorem pairs_before {g : Int → Int → Int} (hg : Assoc g) (l : List Int) (e : Int) (k : Nat) (h : 2 * k ≤ l.length) : ((pairs g l).take k).foldl g e = (l.take (2 * k)).foldl g e := by
  rw [pairs_take l k h, pairs_fold hg]
theorem fold_from {g : Int → Int → Int} (hg : Assoc g) {e : Int} : ∀ (l : List Int) (x : Int), g x e = x → l.foldl g x = g x (l.foldl g e)
  | [], x, hx => by simp [hx]
  | a :: l, x, hx => by
    have h1 : ∀ (l : List Int) (x y : Int), l.foldl g (g x y) = g x (l.foldl g y) := by
      intro l
      induction l with
      | nil => intro x y; rfl
      | cons b l ih => intro x y; rw [List.foldl_cons, List.foldl_cons, hg, ih]
    rw [← h1, hx]
/-- two by two, and what is left: the first k pairs and what is behind -/
theorem pairs_snoc {g : Int → Int → Int} : ∀ (l : List Int) (k : Nat) (a b : Int), l.length = 2 * k → pairs g (l ++ [a, b]) = pairs g l ++ [g a b]
  | [], k, a, b, _ => rfl
  | [x], k, a, b, h => by simp at h; omega
  | x :: y :: l, k, a, b, h => by
    simp only [List.cons_append, pairs]
    rw [pairs_snoc l (k - 1) a b (by simp at h; omega)]
theorem pairs_snoc1 {g : Int → Int → Int} : ∀ (l : List Int) (k : Nat) (a : Int), l.length = 2 * k → pairs g (l ++ [a]) = pairs g l ++ [a]
  | [], k, a, _ => rfl
  | [x], k, a, h => by simp at h; omega
  | x :: y :: l, k, a, h => by
    simp only [List.cons_append, pairs]
    rw [pairs_snoc1 l (k - 1) a (by simp at h; omega)]

/-! ### The ops -/
def opG (n : Int) : Int → Int → Int := if n = 1 then fun a b => w64 (a + b) else if n = 2 then fun a b => max a b else if n = 3 then fun a b => min a b else fun a b => bXor .i64 a b
def opE (n : Int) : Int := if n = 2 then -9223372036854775808 else if n = 3 then 9223372036854775807 else 0
abbrev In64 (a : Int) : Prop := -9223372036854775808 ≤ a ∧ a < 9223372036854775808

theorem bXor_eq (a b : Int) : bXor .i64 a b = (BitVec.ofInt 64 a ^^^ BitVec.ofInt 64 b).toInt := by
  show IntKind.wrap .i64 ((BitVec.ofInt 64 a ^^^ BitVec.ofInt 64 b).toNat : Int) = _
  rw [IntKind.wrap_i64]
  generalize BitVec.ofInt 64 a ^^^ BitVec.ofInt 64 b = x
  have h1 := x.isLt
  have h2 : x.toInt = if 2 * x.toNat < 2 ^ 64 then (x.toNat : Int) else (x.toNat : Int) - 2 ^ 64 := BitVec.toInt_eq_toNat_cond x
  have h3 : (2 : Nat) ^ 64 = 18446744073709551616 := rfl
  have h4 : (2 : Int) ^ 64 = 18446744073709551616 := rfl
  rw [h2]
  split <;> omega
theorem op_assoc (n : Int) : Assoc (opG n) := by
  intro a b c
  unfold opG
  split
  · show w64 (w64 (a + b) + c) = w64 (a + w64 (b + c))
    simp only [w64, IntKind.wrap_i64]; omega
  · split
    · show max (max a b) c = max a (max b c); omega
    · split
      · show min (min a b) c = min a (min b c); omega
      · show bXor .i64 (bXor .i64 a b) c = bXor .i64 a (bXor .i64 b c)
        simp only [bXor_eq, BitVec.ofInt_toInt, BitVec.xor_assoc]
theorem op_in (n : Int) {a b : Int} (ha : In64 a) (hb : In64 b) : In64 (opG n a b) := by
  unfold opG
  split
  · show In64 (w64 (a + b))
    simp only [In64, w64, IntKind.wrap_i64]; omega
  · split
    · show In64 (max a b); omega
    · split
      · show In64 (min a b); omega
      · show In64 (bXor .i64 a b)
        rw [bXor_eq]
        have h1 := BitVec.toInt_lt (x := BitVec.ofInt 64 a ^^^ BitVec.ofInt 64 b)
        have h2 := BitVec.le_toInt (x := BitVec.ofInt 64 a ^^^ BitVec.ofInt 64 b)
        constructor <;> omega
theorem op_nought (n : Int) {a : Int} (ha : In64 a) : opG n a (opE n) = a := by
  unfold opG opE
  by_cases h1 : n = 1
  · rw [if_pos h1, if_neg (by omega), if_neg (by omega)]
    show w64 (a + 0) = a
    rw [w64_of] <;> omega
  · rw [if_neg h1]
    by_cases h2 : n = 2
    · rw [if_pos h2, if_pos h2]
      show max a (-9223372036854775808) = a; omega
    · rw [if_neg h2, if_neg h2]
      by_cases h3 : n = 3
      · rw [if_pos h3, if_pos h3]
        show min a 9223372036854775807 = a; omega
      · rw [if_neg h3, if_neg h3]
        show bXor .i64 a 0 = a
        rw [bXor_eq]
        have : BitVec.ofInt 64 0 = 0#64 := rfl
        rw [this, BitVec.xor_zero, BitVec.toInt_ofInt]
        simp only [Int.bmod]
        omega
theorem fold_in (n : Int) : ∀ (l : List Int) (e : Int), In64 e → (∀ x ∈ l, In64 x) → In64 (l.foldl (opG n) e)
  | [], e, he, _ => he
  | a :: l, e, he, hl => by
    rw [List.foldl_cons]
    exact fold_in n l _ (op_in n he (hl a (by simp))) fun x hx => hl x (by simp [hx])
theorem opE_in (n : Int) : In64 (opE n) := by
  unfold opE
  by_cases h2 : n = 2
  · rw [if_pos h2]; decide
  · rw [if_neg h2]
    by_cases h3 : n = 3
    · rw [if_pos h3]; decide
    · rw [if_neg h3]; decide
end Go.Scan
