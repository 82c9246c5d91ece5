/- Sums of beginnings: the plain law. No program in sight. -/
import Derived.Test.YtcafckgflpmfgaaDoorTwRow
namespace Go.Fen
open Go Go.Tw

/-- the sum of the first i -/
def ps (v : Nat → Int) : Nat → Int
  | 0 => 0
  | i + 1 => ps v i + v i
theorem ps_congr {v u : Nat → Int} : ∀ (i : Nat), (∀ j, j < i → v j = u j) → ps v i = ps u i
  | 0, _ => rfl
  | i + 1, h => by rw [ps, ps, ps_congr i fun j hj => h j (by omega), h i (by omega)]
theorem ps_mono {v : Nat → Int} (h0 : ∀ j, 0 ≤ v j) {i : Nat} : ∀ (k : Nat), ps v i ≤ ps v (i + k)
  | 0 => Int.le_refl _
  | k + 1 => by have := ps_mono h0 (i := i) k; have := h0 (i + k); rw [← Nat.add_assoc, ps]; omega
theorem ps_le {v : Nat → Int} (h0 : ∀ j, 0 ≤ v j) {i k : Nat} (h : i ≤ k) : ps v i ≤ ps v k := by
  have := ps_mono h0 (i := i) (k - i); rwa [show i + (k - i) = k by omega] at this
/-- x more at p -/
def more (v : Nat → Int) (p : Nat) (x : Int) : Nat → Int := fun j => v j + if j = p then x else 0
theorem ps_more (v : Nat → Int) (p : Nat) (x : Int) : ∀ (i : Nat), ps (more v p x) i = ps v i + if p < i then x else 0
  | 0 => by simp [ps]
  | i + 1 => by
    rw [ps, ps, ps_more v p x i, more]
    repeat' split
    all_goals omega
theorem ps_first (g : Nat → Int) : ∀ (n : Nat), ps g (n + 1) = g 0 + ps (fun t => g (t + 1)) n
  | 0 => by simp [ps]
  | n + 1 => by rw [ps, ps_first g n, ps]; omega
theorem ps_back (g : Nat → Int) : ∀ (n : Nat), ps (fun t => g (n - 1 - t)) n = ps g n
  | 0 => rfl
  | n + 1 => by
    rw [ps_first, ps, ← ps_back g n]
    have : ps (fun t => g (n + 1 - 1 - (t + 1))) n = ps (fun t => g (n - 1 - t)) n := ps_congr n fun j hj => by congr 1; omega
    simp only [this]
    simp only [Nat.add_sub_cancel, Nat.sub_zero]; omega

/-- the lowest bit -/
def lb : Nat → Nat → Nat
  | 0, _ => 0
  | f + 1, i => bif i % 2 == 1 then 1 else 2 * lb f (i / 2)
abbrev low (i : Nat) : Nat := lb 9 i

def all (n : Nat) (p : Nat → Bool) : Bool := (List.range n).all p
theorem all_of {n : Nat} {p : Nat → Bool} (h : all n p = true) {i : Nat} (hi : i < n) : p i = true := by
  unfold all at h; rw [List.all_eq_true] at h; exact h i (List.mem_range.2 hi)

theorem low_pos {i : Nat} (h0 : 1 ≤ i) (h1 : i < 256) : 1 ≤ low i ∧ low i ≤ i := by
  have := all_of (n := 256) (p := fun i => i == 0 || (Nat.ble 1 (low i) && Nat.ble (low i) i)) (by decide +kernel) h1
  simp at this
  omega
theorem low_between {i k : Nat} (h0 : 1 ≤ i) (h1 : i < 256) (h2 : i < k) (h3 : k < i + low i) (h4 : k < 256) : i ≤ k - low k := by
  have := all_of (all_of (n := 256) (p := fun i => all 256 fun k => i == 0 || Nat.ble k i || Nat.ble (i + low i) k || Nat.ble i (k - low k)) (by decide +kernel) h1) h4
  simp at this
  omega
theorem low_next {i : Nat} (h0 : 1 ≤ i) (h1 : i < 256) (h2 : i + low i < 256) : (i + low i) - low (i + low i) ≤ i - low i := by
  have := all_of (n := 256) (p := fun i => i == 0 || Nat.ble 256 (i + low i) || Nat.ble ((i + low i) - low (i + low i)) (i - low i)) (by decide +kernel) h1
  simp at this
  omega
theorem low_step {a j : Nat} (h1 : j < 8) (h2 : a < 256) (h3 : a % (2 * 2 ^ j) = 0) : low (a + 2 ^ j) = 2 ^ j := by
  have := all_of (all_of (n := 256) (p := fun a => all 8 fun j => !(a % (2 * 2 ^ j) == 0) || low (a + 2 ^ j) == 2 ^ j) (by decide +kernel) h2) h1
  simp at this
  rcases this with h | h
  · exact absurd h3 h
  · exact h
theorem and_neg {i : Nat} (h0 : 1 ≤ i) (h1 : i < 256) : bAnd .i64 (i : Int) (w64 (0 - (i : Int))) = (low i : Int) := by
  have := all_of (n := 256) (p := fun i => i == 0 || bAnd .i64 (i : Int) (w64 (0 - (i : Int))) == (low i : Int)) (by decide +kernel) h1
  simp at this
  rcases this with h | h
  · omega
  · simpa using h
theorem and_less {i : Nat} (h0 : 1 ≤ i) (h1 : i < 256) : bAnd .i64 (i : Int) (w64 ((i : Int) - 1)) = ((i - low i : Nat) : Int) := by
  have := all_of (n := 256) (p := fun i => i == 0 || bAnd .i64 (i : Int) (w64 ((i : Int) - 1)) == ((i - low i : Nat) : Int)) (by decide +kernel) h1
  simp at this
  rcases this with h | h
  · omega
  · simpa using h

/-- what the sums are -/
def FW (m : Nat) (v : Nat → Int) (s : List Int) : Prop := ∀ i, 1 ≤ i → i ≤ m → s[i]? = some (ps v i - ps v (i - low i))
/-- on the way of an addition: those behind i are as they were -/
def FWi (m : Nat) (v : Nat → Int) (p : Nat) (x : Int) (i : Nat) (s : List Int) : Prop :=
  ∀ k, 1 ≤ k → k ≤ m → s[k]? = some (if k < i then ps (more v p x) k - ps (more v p x) (k - low k) else ps v k - ps v (k - low k))
theorem FW.start {m : Nat} {v : Nat → Int} {s : List Int} (H : FW m v s) (p : Nat) (x : Int) (hm : m < 256) : FWi m v p x (p + 1) s := fun k h1 h2 => by
  rw [H k h1 h2]
  have := low_pos h1 (by omega)
  by_cases h : k < p + 1
  · rw [if_pos h, ps_more, ps_more, if_neg (by omega), if_neg (by omega)]; simp
  · rw [if_neg h]
theorem FWi.stop {m : Nat} {v : Nat → Int} {p : Nat} {x : Int} {i : Nat} {s : List Int} (H : FWi m v p x i s) (hi : m < i) : FW m (more v p x) s := fun k h1 h2 => by
  rw [H k h1 h2, if_pos (by omega)]
theorem FWi.step {m : Nat} {v : Nat → Int} {p : Nat} {x y : Int} {i : Nat} {s : List Int} (H : FWi m v p x i s) (h1 : 1 ≤ i) (h2 : i ≤ m) (hm : m < 255) (hp : p < i) (hl : i - low i ≤ p) (hy : s[i]? = some y) (hlen : i < s.length) :
    FWi m v p x (i + low i) (s.set i (y + x)) ∧ p < i + low i ∧ (i + low i ≤ m → i + low i - low (i + low i) ≤ p) := by
  have hlo := low_pos h1 (by omega)
  refine ⟨fun k h3 h4 => ?_, by omega, fun h => Nat.le_trans (low_next h1 (by omega) (by omega)) hl⟩
  have hk := low_pos h3 (by omega)
  by_cases e : i = k
  · subst e
    have := H i h1 h2
    rw [hy, if_neg (by omega)] at this
    simp only [Option.some.injEq] at this
    rw [List.getElem?_set_self hlen, if_pos (by omega), ps_more, ps_more, if_pos hp, if_neg (by omega), this]
    congr 1; omega
  · rw [List.getElem?_set_ne e, H k h3 h4]
    by_cases h5 : k < i
    · rw [if_pos h5, if_pos (by omega)]
    · rw [if_neg h5]
      by_cases h6 : k < i + low i
      · have := low_between h1 (by omega) (by omega : i < k) h6 (by omega)
        rw [if_pos h6, ps_more, ps_more, if_pos (by omega), if_pos (by omega)]
        congr 1; omega
      · rw [if_neg h6]
end Go.Fen
