/- What is told of many: the plain law. -/
import Derived.Test.YtmjljnbjoldeaaaTwMore
namespace Go.Mono
open Go Go.Tw

abbrev In (x : Int) : Prop := -9223372036854775808 ≤ x ∧ x < 9223372036854775808
structure M where
  n : Int
  sum : Int
  least : Int
  most : Int
  hash : Int
abbrev prime : Int := 2147483647
def M.c (m : M) : List Value := [iV m.n, iV m.sum, iV m.least, iV m.most, iV m.hash]
def lst (l : List Int) : Int := l.foldr min 9223372036854775807
def mst (l : List Int) : Int := l.foldr max (-9223372036854775808)
def stp (h x : Int) : Int := (131 * h + x % prime + 1) % prime
def hsh (l : List Int) : Int := l.foldl stp 0
def meas (l : List Int) : M := ⟨(l.length : Int), w64 l.sum, lst l, mst l, hsh l⟩

theorem lst_le (l : List Int) : lst l ≤ 9223372036854775807 := by
  induction l with
  | nil => exact Int.le_refl _
  | cons x l ih => show min x (lst l) ≤ _; omega
theorem mst_le (l : List Int) : -9223372036854775808 ≤ mst l := by
  induction l with
  | nil => exact Int.le_refl _
  | cons x l ih => show _ ≤ max x (mst l); omega
theorem lst_append (a b : List Int) : lst (a ++ b) = min (lst a) (lst b) := by
  induction a with
  | nil => have := lst_le b; show lst b = min 9223372036854775807 (lst b); omega
  | cons x a ih => show min x (lst (a ++ b)) = min (min x (lst a)) (lst b); omega
theorem mst_append (a b : List Int) : mst (a ++ b) = max (mst a) (mst b) := by
  induction a with
  | nil => have := mst_le b; show mst b = max (-9223372036854775808) (mst b); omega
  | cons x a ih => show max x (mst (a ++ b)) = max (max x (mst a)) (mst b); omega
theorem hsh_in (l : List Int) : 0 ≤ hsh l ∧ hsh l < prime := by
  rcases List.eq_nil_or_concat l with rfl | ⟨a, x, rfl⟩
  · exact ⟨by decide, by decide⟩
  · unfold hsh
    rw [List.concat_eq_append, List.foldl_append]
    exact ⟨Int.emod_nonneg _ (by decide), Int.emod_lt_of_pos _ (by decide)⟩
theorem fold_from : ∀ (l : List Int) (s : Int), 0 ≤ s → s < prime → l.foldl stp s = (s * 131 ^ l.length + hsh l) % prime
  | [], s, h0, h1 => by
    show s = (s * 1 + 0) % prime
    rw [Int.mul_one, Int.add_zero, Int.emod_eq_of_lt h0 h1]
  | x :: l, s, h0, h1 => by
    have p0 : ∀ y, 0 ≤ y % prime := fun y => Int.emod_nonneg _ (by decide)
    have p1 : ∀ y, y % prime < prime := fun y => Int.emod_lt_of_pos _ (by decide)
    have e1 := fold_from l (stp s x) (p0 _) (p1 _)
    have e2 := fold_from l (stp 0 x) (p0 _) (p1 _)
    show l.foldl stp (stp s x) = (s * 131 ^ (l.length + 1) + l.foldl stp (stp 0 x)) % prime
    rw [e1, e2]
    show ((131 * s + x % prime + 1) % prime * 131 ^ l.length + hsh l) % prime = (s * 131 ^ (l.length + 1) + ((131 * 0 + x % prime + 1) % prime * 131 ^ l.length + hsh l) % prime) % prime
    generalize x % prime = y
    rw [Int.add_emod_emod (m := s * 131 ^ (l.length + 1))]
    generalize hw : (131 : Int) ^ l.length = w
    have e3 : (131 : Int) ^ (l.length + 1) = w * 131 := by rw [Int.pow_succ, hw]
    rw [e3, ← Int.add_assoc]
    have f : ∀ a : Int, (a % prime * w + hsh l) % prime = (a * w + hsh l) % prime := fun a => by
      rw [Int.add_emod, Int.mul_emod, Int.emod_emod, ← Int.mul_emod, ← Int.add_emod]
    rw [f]
    have g : ∀ c a : Int, (c + a % prime * w + hsh l) % prime = (c + a * w + hsh l) % prime := fun c a => by
      rw [Int.add_assoc, Int.add_emod, f, ← Int.add_emod, Int.add_assoc]
    rw [g]
    congr 1
    have : (131 * s + y + 1) * w = s * (w * 131) + (131 * 0 + y + 1) * w := by
      rw [Int.mul_zero, Int.zero_add, Int.add_assoc (131 * s), Int.add_mul (131 * s)]
      congr 1
      rw [Int.mul_comm 131 s, Int.mul_assoc, Int.mul_comm 131 w]
    rw [this]
theorem hsh_append (a b : List Int) : hsh (a ++ b) = (hsh a * 131 ^ b.length + hsh b) % prime := by
  have := hsh_in a
  show (a ++ b).foldl stp 0 = _
  rw [List.foldl_append]
  exact fold_from b (hsh a) this.1 this.2
theorem w64_add (x y : Int) : w64 (w64 x + w64 y) = w64 (x + y) := by
  simp only [w64, IntKind.wrap_i64]; omega
theorem meas_append (a b : List Int) : meas (a ++ b) = ⟨(meas a).n + (meas b).n, w64 ((meas a).sum + (meas b).sum), min (meas a).least (meas b).least, max (meas a).most (meas b).most, ((meas a).hash * (131 ^ b.length % prime) + (meas b).hash) % prime⟩ := by
  have e : hsh (a ++ b) = (hsh a * (131 ^ b.length % prime) + hsh b) % prime := by
    rw [hsh_append, Int.add_emod, Int.mul_emod, Int.add_emod (hsh a * (131 ^ b.length % prime)), Int.mul_emod (hsh a) (131 ^ b.length % prime), Int.emod_emod]
  unfold meas
  simp only
  rw [w64_add, lst_append, mst_append, e, List.sum_append, List.length_append, Int.natCast_add]

/-- by the bits of n -/
theorem pow_step (b : Int) (n : Nat) : (b * b % prime) ^ (n / 2) % prime = (b ^ (2 * (n / 2))) % prime := by
  have : ∀ (x : Int) (k : Nat), (x % prime) ^ k % prime = x ^ k % prime := by
    intro x k
    induction k with
    | zero => rw [Int.pow_zero, Int.pow_zero]
    | succ k ih => rw [Int.pow_succ, Int.pow_succ, Int.mul_emod, ih, Int.emod_emod, ← Int.mul_emod]
  rw [this, Int.pow_mul]
  congr 2
  rw [Int.pow_succ, Int.pow_succ, Int.pow_zero, Int.one_mul]
theorem even_step {o b : Int} {n : Nat} (h : n % 2 = 0) : (o * (b * b % prime) ^ (n / 2)) % prime = (o * b ^ n) % prime := by
  have e : 2 * (n / 2) = n := by omega
  rw [Int.mul_emod, pow_step, e, ← Int.mul_emod]
theorem odd_step {o b : Int} {n : Nat} (h : n % 2 = 1) : ((o * b % prime) * (b * b % prime) ^ (n / 2)) % prime = (o * b ^ n) % prime := by
  have e : b ^ n = b * b ^ (2 * (n / 2)) := by
    rw [show n = 2 * (n / 2) + 1 by omega, Int.pow_succ, Int.mul_comm]
    congr 2; omega
  rw [Int.mul_emod, Int.emod_emod, pow_step, ← Int.mul_emod, e, Int.mul_assoc]
end Go.Mono
