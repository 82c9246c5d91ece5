/- The least of any: the plain law. No program in sight. -/
import Derived.Test.YtcafckgflpmfgaaDoorTwUse
namespace Go.Tab
open Go Go.Tw

/-- x is the leftmost least one of n from i on -/
def Low (v : Nat → Int) (i n x : Nat) : Prop := i ≤ x ∧ x < i + n ∧ ∀ y, i ≤ y → y < i + n → v x ≤ v y ∧ (y < x → v x < v y)
def pick (v : Nat → Int) (i j : Nat) : Nat := if v j < v i then j else i
theorem Low.uniq {v : Nat → Int} {i n x y : Nat} (hx : Low v i n x) (hy : Low v i n y) : x = y := by
  obtain ⟨x1, x2, x3⟩ := hx
  obtain ⟨y1, y2, y3⟩ := hy
  have a := x3 y y1 y2
  have b := y3 x x1 x2
  rcases Nat.lt_trichotomy x y with h | h | h
  · have := b.2 h; omega
  · exact h
  · have := a.2 h; omega
theorem Low.join {v : Nat → Int} {i n x j m y : Nat} (hx : Low v i n x) (hy : Low v j m y) (h1 : i ≤ j) (h2 : j ≤ i + n) (h3 : i + n ≤ j + m) : Low v i (j + m - i) (pick v x y) := by
  obtain ⟨x1, x2, x3⟩ := hx
  obtain ⟨y1, y2, y3⟩ := hy
  unfold pick
  split
  · rename_i h
    refine ⟨by omega, by omega, fun w w1 w2 => ?_⟩
    by_cases hw : w < i + n
    · have := x3 w w1 hw; omega
    · exact y3 w (by omega) (by omega)
  · rename_i h
    refine ⟨by omega, by omega, fun w w1 w2 => ?_⟩
    by_cases hw : w < i + n
    · exact x3 w w1 hw
    · have := y3 w (by omega) (by omega); omega
theorem Low.one (v : Nat → Int) (i : Nat) : Low v i 1 i := by
  refine ⟨Nat.le_refl _, by omega, fun y h1 h2 => ?_⟩
  obtain rfl : y = i := by omega
  exact ⟨Int.le_refl _, fun h => by omega⟩
def next (v : Nat → Int) (row : List Nat) (n : Nat) : List Nat := (List.range (row.length - n)).map fun i => pick v row[i]! row[i + n]!
def rowOf (v : Nat → Int) (N : Nat) : Nat → List Nat
  | 0 => List.range N
  | k + 1 => next v (rowOf v N k) (2 ^ k)
theorem row_len (v : Nat → Int) (N : Nat) : ∀ k, (rowOf v N k).length = N + 1 - 2 ^ k
  | 0 => by simp [rowOf]
  | k + 1 => by
    have := row_len v N k
    simp only [rowOf, next, List.length_map, List.length_range, this, Nat.pow_succ]; omega
theorem row_low (v : Nat → Int) (N : Nat) : ∀ (k i : Nat), i + 2 ^ k ≤ N → Low v i (2 ^ k) ((rowOf v N k)[i]!)
  | 0, i, h => by
    have : (rowOf v N 0)[i]! = i := by
      have h : i < N := by rw [Nat.pow_zero] at h; omega
      simp [rowOf, h]
    rw [this]; exact Low.one v i
  | k + 1, i, h => by
    have e2 : 2 ^ (k + 1) = 2 ^ k + 2 ^ k := by rw [Nat.pow_succ]; omega
    have hl := row_len v N k
    have ih := row_low v N k
    have er : rowOf v N (k + 1) = next v (rowOf v N k) (2 ^ k) := rfl
    rw [e2] at h ⊢
    rw [er]
    clear er e2
    generalize rowOf v N k = row at *
    generalize 2 ^ k = P at *
    have h1 := ih i (by omega)
    have h2 := ih (i + P) (by omega)
    have := h1.join h2 (by omega) (by omega) (by omega)
    rw [show i + P + P - i = P + P by omega] at this
    have e : (next v row P)[i]! = pick v (row[i]!) (row[i + P]!) := by
      have hi : i < row.length - P := by omega
      simp only [next]
      rw [getElem!_pos _ i (by simpa using hi)]
      simp
    rw [e]; exact this
theorem row_mem (v : Nat → Int) (N k : Nat) {a : Nat} (ha : a ∈ rowOf v N k) : a < N := by
  obtain ⟨i, hi, rfl⟩ := List.mem_iff_getElem.1 ha
  rw [row_len] at hi
  have hp := Nat.one_le_two_pow (n := k)
  have := row_low v N k i (by omega)
  rw [getElem!_pos _ i (by rw [row_len]; exact hi)] at this
  have := this.2.1; have := Nat.one_le_two_pow (n := k); omega

abbrev val_ (l : List Int) : Nat → Int := fun a => l[a]!
abbrev neg_ (l : List Int) : Nat → Int := fun a => 0 - l[a]!
end Go.Tab
