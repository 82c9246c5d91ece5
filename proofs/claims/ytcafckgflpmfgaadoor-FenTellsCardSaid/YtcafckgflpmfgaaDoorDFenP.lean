/- Sums of beginnings: what each function does. -/
import Derived.Test.YtcafckgflpmfgaaDoorDFen
import Derived.Test.YtcafckgflpmfgaaDoorFenL
import Derived.Test.YtcafckgflpmfgaaDoorTwUse
namespace Go.Proofs.YtcafckgflpmfgaaDoor
open Go Go.RowKit Go.Tw Go.Fen
set_option linter.unusedVariables false
theorem same_Ints_ok {r : World} {n n' : Nat} {h : Heap} {a b : Sl} {l m : List Int} {R : Bool → Heap → Prop} (ha : RI n h a l) (hb : RI n' h b m) (hl : l.length ≤ 4611686018427387904) (H : R (decide (l = m)) h) : same_Ints r a b h R := by
  apply same_Ints_of
  refine ⟨fun hc => ?_, fun hc => ?_⟩
  · simp [ha.len, hb.len] at hc
    have : ¬ l = m := fun e => hc (by rw [e])
    simpa [this] using H
  · simp [ha.len, hb.len] at hc
    intro X HX
    have key : ∀ d (i : Nat), i + d = l.length → l.take i = m.take i → X (i : Int) := by
      intro d
      induction d with
      | zero =>
        intro i hi he
        refine HX _ ⟨fun c => ?_, fun _ => ?_⟩
        · rw [ha.len] at c; simp at c; omega
        · have : l = m := by rw [List.take_of_length_le (by omega), List.take_of_length_le (by omega)] at he; exact he
          simpa [this] using H
      | succ d ih =>
        intro i hi he
        have h1 : i < l.length := by omega
        have h2 : i < m.length := by omega
        refine HX _ ⟨fun _ => ?_, fun c => ?_⟩
        · refine ha.ix (by omega) (by omega) fun p _ hp => ⟨_, hp, hb.ix (by omega) (by omega) fun q _ hq => ⟨_, hq, ?_⟩⟩
          simp only [Int.toNat_natCast, getElem!_pos l i h1, getElem!_pos m i h2]
          refine ⟨fun c => ?_, fun c => ?_⟩
          · have : ¬ l = m := fun e => by subst e; simp at c
            simpa [this] using H
          · have c : l[i] = m[i] := by simpa using c
            rw [show w64 ((i : Int) + 1) = ((i + 1 : Nat) : Int) by rw [w64_of] <;> omega]
            refine ih (i + 1) (by omega) ?_
            rw [List.take_add_one, List.take_add_one, he, List.getElem?_eq_getElem h1, List.getElem?_eq_getElem h2, c]
        · rw [ha.len] at c; simp at c; omega
    simpa using key l.length 0 (by omega) rfl

/-- how many bits -/
def tb (i : Nat) : Nat := if i = 0 then 0 else Nat.log2 i + 1
def bl (i : Nat) : Nat := if i < 256 then tb i else tb (i / 256) + 8
theorem tb_of {i : Nat} (h : i < 256) : i < 2 ^ tb i ∧ (i ≠ 0 → 2 ^ (tb i - 1) ≤ i) ∧ tb i ≤ 8 ∧ (i ≠ 0 → 1 ≤ tb i) := by
  have := all_of (n := 256) (p := fun i => Nat.blt i (2 ^ tb i) && (i == 0 || Nat.ble (2 ^ (tb i - 1)) i) && Nat.ble (tb i) 8 && (i == 0 || Nat.ble 1 (tb i))) (by decide +kernel) h
  simp at this
  exact ⟨this.1.1.1, fun h => this.1.1.2.resolve_left h, this.1.2, fun h => this.2.resolve_left h⟩
theorem bl_of {i : Nat} (h : i < 65536) : i < 2 ^ bl i ∧ (i ≠ 0 → 2 ^ (bl i - 1) ≤ i) ∧ bl i ≤ 16 ∧ (i ≠ 0 → 1 ≤ bl i) := by
  unfold bl
  by_cases h1 : i < 256
  · rw [if_pos h1]; have := tb_of h1; exact ⟨this.1, this.2.1, by omega, this.2.2.2⟩
  · rw [if_neg h1]
    obtain ⟨h2, h3, h4, h5⟩ := tb_of (i := i / 256) (by omega)
    have h6 : i / 256 ≠ 0 := by omega
    have h3 := h3 h6; have h5 := h5 h6
    refine ⟨?_, fun _ => ?_, by omega, fun _ => by omega⟩
    · rw [Nat.pow_add, show 2 ^ 8 = 256 from rfl]; omega
    · rw [show tb (i / 256) + 8 - 1 = tb (i / 256) - 1 + 8 by omega, Nat.pow_add, show 2 ^ 8 = 256 from rfl]; omega
theorem tab_at {i : Nat} (h : i < 256) : strAt txtDBas1 (i : Int) = (tb i : Int) ∧ (i : Int) < (ByteArray.size txtDBas1 : Int) := by
  have := all_of (n := 256) (p := fun i => strAt txtDBas1 (i : Int) == (tb i : Int)) (by decide +kernel) h
  exact ⟨by simpa using this, by
                             have : ByteArray.size txtDBas1 = 256 := by kernel_rfl
                             omega⟩

theorem len64_ok {r : World} {h : Heap} {x : Nat} {R : Int → Heap → Prop} (hx : x < 65536) (H : R (bl x : Int) h) : math_bits_Len64 r (x : Int) h R := by
  apply math_bits_Len64_of
  intro J4 HJ4
  refine ⟨fun c => by simp at c; omega, fun _ => ?_⟩
  refine HJ4 _ _ ?_
  intro J8 HJ8
  refine ⟨fun c => by simp at c; omega, fun _ => ?_⟩
  refine HJ8 _ _ ?_
  intro J12 HJ12
  have fin : ∀ (y : Nat) (n : Int), y < 256 → 0 ≤ n → n ≤ 8 → (bl x : Int) = n + tb y → J12 (y : Int) n := by
    intro y n hy h0 h1 e
    refine HJ12 _ _ ?_
    have e1 : IntKind.wrap .u8 (y : Int) = (y : Int) := by rw [IntKind.wrap_u8]; omega
    rw [e1]
    have ht := tab_at hy
    refine ⟨by omega, ht.2, fun z hz => ?_⟩
    have := (tb_of hy).2.2.1
    rw [ht.1, w64_of (n := (tb y : Int)) (by omega) (by omega), w64_of (by omega) (by omega), ← e] at hz
    rw [hz]; exact H
  refine ⟨fun c => ?_, fun c => ?_⟩
  · have c : 256 ≤ x := by simp at c; omega
    have e1 : sShr .u64 (x : Int) 8 = ((x / 256 : Nat) : Int) := by
      show Int.fdiv (x : Int) (2 ^ 8) = _
      rw [Int.fdiv_eq_ediv_of_nonneg _ (by decide)]
      omega
    have e2 : w64 (0 + 8) = 8 := by rw [w64_of] <;> omega
    rw [e1, e2]
    refine fin _ _ (by omega) (by omega) (by omega) ?_
    unfold bl; rw [if_neg (by omega)]; omega
  · have c : x < 256 := by simp at c; omega
    refine fin _ _ c (by omega) (by omega) ?_
    unfold bl; rw [if_pos c]; omega
theorem bitsLen_ok {r : World} {h : Heap} {x : Nat} {R : Int → Heap → Prop} (hx : x < 65536) (H : R (bl x : Int) h) : math_bits_Len r (x : Int) h R :=
  math_bits_Len_of (len64_ok hx H)
end Go.Proofs.YtcafckgflpmfgaaDoor
