/- How much is out of order; codes of orders; ranks: the plain law. -/
import Derived.Test.YtcafckgflpmfgaaDoorOOrdL
namespace Go.Inv
open Go Go.Tw Go.Ord

def lessN (x : Int) (l : List Int) : Nat := (l.filter fun y => decide (y < x)).length
def inv : List Int → Nat
  | [] => 0
  | x :: l => lessN x l + inv l
theorem lessN_perm {x : Int} {l m : List Int} (h : l.Perm m) : lessN x l = lessN x m := (h.filter _).length_eq
theorem lessN_append (x : Int) (l m : List Int) : lessN x (l ++ m) = lessN x l + lessN x m := by simp [lessN]
theorem lessN_le (x : Int) (l : List Int) : lessN x l ≤ l.length := List.length_filter_le ..
/-- pairs across two parts -/
def cr : List Int → List Int → Nat
  | [], _ => 0
  | x :: a, b => lessN x b + cr a b
theorem inv_append : ∀ (a b : List Int), inv (a ++ b) = inv a + inv b + cr a b
  | [], b => by simp [inv, cr]
  | x :: a, b => by
    have := inv_append a b
    simp only [List.cons_append, inv, cr, lessN_append, this]; omega
theorem cr_perm_right : ∀ (a : List Int) {b c : List Int}, b.Perm c → cr a b = cr a c
  | [], _, _, _ => rfl
  | x :: a, b, c, h => by simp only [cr, lessN_perm h, cr_perm_right a h]
theorem cr_perm_left {a c : List Int} (h : a.Perm c) (b : List Int) : cr a b = cr c b := by
  induction h with
  | nil => rfl
  | cons x _ ih => simp only [cr, ih]
  | swap x y l => simp only [cr]; omega
  | trans _ _ h1 h2 => exact h1.trans h2
theorem cr_nil (a : List Int) : cr a [] = 0 := by
  induction a with
  | nil => rfl
  | cons x a ih => simp only [cr, ih, lessN]; rfl
theorem lessN_zero {x : Int} {l : List Int} (h : ∀ y ∈ l, x ≤ y) : lessN x l = 0 := by
  unfold lessN
  rw [List.filter_eq_nil_iff.2]
  · rfl
  · intro y hy; have := h y hy; simp; omega
theorem lessN_cons (x y : Int) (l : List Int) : lessN x (y :: l) = (if y < x then 1 else 0) + lessN x l := by
  unfold lessN
  rw [List.filter_cons]
  by_cases h : y < x
  · rw [if_pos (by simpa using h), if_pos h, List.length_cons]; omega
  · rw [if_neg (by simpa using h), if_neg h]; omega
/-- the first on the right goes: all on the left are greater -/
theorem cr_right {y : Int} : ∀ (a b : List Int), (∀ x ∈ a, y < x) → cr a (y :: b) = a.length + cr a b
  | [], b, _ => by simp [cr]
  | x :: a, b, h => by
    have := cr_right a b fun z hz => h z (List.mem_cons_of_mem _ hz)
    simp only [cr, this, lessN_cons, if_pos (h x (by simp)), List.length_cons]; omega
theorem cr_snoc (a : List Int) (y : Int) : cr a [y] = (a.filter fun x => decide (y < x)).length := by
  induction a with
  | nil => rfl
  | cons x a ih =>
    simp only [cr, ih, lessN_cons, List.filter_cons]
    by_cases h : y < x
    · rw [if_pos h, if_pos (by simpa using h), List.length_cons]; simp [lessN]; omega
    · rw [if_neg h, if_neg (by simpa using h)]; simp [lessN]
theorem inv_snoc (a : List Int) (y : Int) : inv (a ++ [y]) = inv a + (a.filter fun x => decide (y < x)).length := by
  rw [inv_append, cr_snoc]; simp [inv, lessN]
theorem inv_small {l : List Int} (h : l.length < 2) : inv l = 0 := by
  match l, h with
  | [], _ => rfl
  | [x], _ => rfl
theorem inv_up : ∀ {l : List Int}, Up l → inv l = 0
  | [], _ => rfl
  | x :: l, h => by
    have h' := List.pairwise_cons.1 h
    simp only [inv, lessN_zero h'.1, inv_up h'.2]
theorem inv_le : ∀ (l : List Int), 2 * inv l ≤ l.length * (l.length - 1)
  | [] => by simp [inv]
  | x :: l => by
    have h1 := inv_le l
    have h2 := lessN_le x l
    simp only [inv, List.length_cons, Nat.add_sub_cancel]
    rcases Nat.eq_zero_or_pos l.length with h0 | h0
    · rw [h0] at h1 h2 ⊢; omega
    · obtain ⟨n, hn⟩ : ∃ n, l.length = n + 1 := ⟨l.length - 1, by omega⟩
      rw [hn] at h1 h2 ⊢
      simp only [Nat.add_sub_cancel] at h1
      have e : (n + 1 + 1) * (n + 1) = (n + 1) * n + 2 * (n + 1) := by
        rw [Nat.add_mul (n + 1) 1, Nat.mul_add (n + 1) n 1]; omega
      omega
/-- one swap -/
theorem inv_swap (pre post : List Int) (x y : Int) : (inv (pre ++ y :: x :: post) : Int) = (inv (pre ++ x :: y :: post) : Int) + (if x < y then 1 else 0) - (if y < x then 1 else 0) := by
  induction pre with
  | nil =>
    simp only [List.nil_append, inv, lessN_cons]
    split <;> split <;> omega
  | cons z pre ih =>
    simp only [List.cons_append, inv]
    have e : lessN z (pre ++ y :: x :: post) = lessN z (pre ++ x :: y :: post) := lessN_perm ((List.Perm.swap x y post).append_left pre)
    rw [e]
    push_cast
    omega
/-- the sign of two orders -/
theorem inv_map {f : Int → Int} {l m : List Int} (h : l.Perm m) : l.Nodup → (∀ x ∈ l, ∀ y ∈ l, f x = f y → x = y) → (inv l + inv m + inv (l.map f) + inv (m.map f)) % 2 = 0 := by
  induction h with
  | nil => intro _ _; rfl
  | @cons x l m hp ih =>
    intro hn hf
    have hn' := List.nodup_cons.1 hn
    have := ih hn'.2 fun a ha b hb => hf a (List.mem_cons_of_mem _ ha) b (List.mem_cons_of_mem _ hb)
    have e1 : lessN x l = lessN x m := lessN_perm hp
    have e2 : lessN (f x) (l.map f) = lessN (f x) (m.map f) := lessN_perm (hp.map f)
    simp only [List.map_cons, inv]
    omega
  | swap x y l =>
    intro hn hf
    have hxy : x ≠ y := by
      intro e; subst e
      have := (List.nodup_cons.1 hn).1
      simp at this
    have hfxy : f x ≠ f y := fun e => hxy (hf x (by simp) y (by simp) e)
    simp only [List.map_cons, inv, lessN_cons]
    repeat' split
    all_goals omega
  | @trans l m k h1 h2 ih1 ih2 =>
    intro hn hf
    have a := ih1 hn hf
    have b := ih2 (h1.nodup_iff.1 hn) fun x hx y hy => hf x (h1.mem_iff.2 hx) y (h1.mem_iff.2 hy)
    omega

/-! ### Orders -/
structure IsP (p : List Int) : Prop where
  rng : ∀ x ∈ p, 0 ≤ x ∧ x < p.length
  nd : p.Nodup
def rangeI (n : Nat) : List Int := (List.range n).map Int.ofNat
theorem rangeI_len (n : Nat) : (rangeI n).length = n := by simp [rangeI]
theorem rangeI_get {n i : Nat} (h : i < n) : (rangeI n)[i]? = some (i : Int) := by simp [rangeI, h]
theorem rangeI_nodup (n : Nat) : (rangeI n).Nodup := (List.nodup_range (n := n)).map _ (fun a b h e => h (by injection e))
theorem rangeI_mem {n : Nat} {x : Int} : x ∈ rangeI n ↔ 0 ≤ x ∧ x < n := by
  simp only [rangeI, List.mem_map, List.mem_range]
  constructor
  · rintro ⟨a, h, rfl⟩; constructor <;> simp <;> omega
  · rintro ⟨h1, h2⟩; exact ⟨x.toNat, by omega, by simp; omega⟩
abbrev Lt (l : List Int) : Prop := l.Pairwise (· < ·)
theorem rangeI_lt (n : Nat) : Lt (rangeI n) := List.pairwise_map.2 ((List.pairwise_lt_range (n := n)).imp fun h => by simpa using h)
theorem rangeI_up (n : Nat) : Up (rangeI n) := (rangeI_lt n).imp fun h => Int.le_of_lt h
theorem perm_of_sub : ∀ {p L : List Int}, p.Nodup → (∀ x ∈ p, x ∈ L) → p.length = L.length → p.Perm L
  | [], L, _, _, h => by
    obtain rfl : L = [] := List.eq_nil_of_length_eq_zero h.symm
    exact List.Perm.refl _
  | x :: p, L, hn, hs, hl => by
    have hn' := List.nodup_cons.1 hn
    have hx : x ∈ L := hs x (by simp)
    have e := List.perm_cons_erase hx
    have el := e.length_eq
    simp only [List.length_cons] at el hl
    have ih := perm_of_sub (L := L.erase x) hn'.2 (fun y hy => by
      have h1 : y ∈ x :: L.erase x := e.mem_iff.1 (hs y (List.mem_cons_of_mem _ hy))
      rcases List.mem_cons.1 h1 with rfl | h1
      · exact absurd hy hn'.1
      · exact h1) (by omega)
    exact (ih.cons x).trans e.symm
theorem IsP.perm {p : List Int} (h : IsP p) : p.Perm (rangeI p.length) := perm_of_sub h.nd (fun x hx => rangeI_mem.2 (h.rng x hx)) (by rw [rangeI_len])
theorem lt_nodup {l : List Int} (h : Lt l) : l.Nodup := h.imp fun h e => by omega

/-- how many behind each are less -/
def leh : List Int → List Int
  | [] => []
  | x :: l => (lessN x l : Int) :: leh l
theorem leh_len : ∀ l, (leh l).length = l.length
  | [] => rfl
  | x :: l => by simp [leh, leh_len l]
theorem leh_sum : ∀ l, (leh l).sum = (inv l : Int)
  | [] => rfl
  | x :: l => by simp [leh, inv, leh_sum l]
/-- a code -/
def Val : List Int → Prop
  | [] => True
  | k :: c => 0 ≤ k ∧ k < c.length + 1 ∧ Val c
theorem leh_val : ∀ l, Val (leh l)
  | [] => trivial
  | x :: l => ⟨by omega, by have := lessN_le x l; rw [leh_len]; omega, leh_val l⟩
/-- the order of a code -/
def unc : List Int → List Int → List Int
  | _, [] => []
  | L, k :: c => L[k.toNat]! :: unc (L.eraseIdx k.toNat) c
theorem unc_len : ∀ (c L : List Int), (unc L c).length = c.length
  | [], _ => rfl
  | k :: c, L => by simp [unc, unc_len c]
theorem lt_index {L : List Int} (h : Lt L) {x : Int} {l : List Int} (hp : L.Perm (x :: l)) : L[lessN x l]? = some x := by
  have hx : x ∈ L := hp.mem_iff.2 (by simp)
  obtain ⟨i, hi, e⟩ := List.mem_iff_getElem.1 hx
  have key : lessN x L = i := by
    have C : L = L.take i ++ L.drop i := (List.take_append_drop i L).symm
    rw [C, lessN_append]
    have a : lessN x (L.take i) = i := by
      unfold lessN
      rw [List.filter_eq_self.2, List.length_take, Nat.min_eq_left (by omega)]
      intro y hy
      obtain ⟨j, hj, ej⟩ := List.mem_iff_getElem.1 hy
      rw [List.length_take] at hj
      rw [List.getElem_take] at ej
      have := List.pairwise_iff_getElem.1 h j i (by omega) hi (by omega)
      rw [ej, e] at this
      simpa using this
    have b : lessN x (L.drop i) = 0 := by
      refine lessN_zero fun y hy => ?_
      obtain ⟨j, hj, ej⟩ := List.mem_iff_getElem.1 hy
      rw [List.length_drop] at hj
      rw [List.getElem_drop] at ej
      rcases Nat.eq_zero_or_pos j with rfl | hpos
      · simp only [Nat.add_zero] at ej; omega
      · have := List.pairwise_iff_getElem.1 h i (i + j) hi (by omega) (by omega)
        rw [ej, e] at this; omega
    omega
  have k2 : lessN x L = lessN x l := by
    rw [lessN_perm hp, lessN_cons, if_neg (by omega)]; omega
  rw [← k2, key, List.getElem?_eq_getElem hi, e]
theorem unc_leh : ∀ (p L : List Int), Lt L → L.Perm p → unc L (leh p) = p
  | [], L, _, _ => rfl
  | x :: l, L, h, hp => by
    have hi := lt_index h hp
    have hlt := (List.getElem?_eq_some_iff.1 hi).1
    simp only [leh, unc, Int.toNat_natCast]
    have e1 : L[lessN x l]! = x := by
      rw [getElem!_pos L _ hlt]
      rw [List.getElem?_eq_getElem hlt] at hi
      injection hi
    have p2 : (L.eraseIdx (lessN x l)).Perm l := by
      have : L.Perm (x :: L.eraseIdx (lessN x l)) := by
        rw [List.getElem?_eq_getElem hlt] at hi
        injection hi with hi
        conv => lhs; rw [← List.take_append_drop (lessN x l) L, List.drop_eq_getElem_cons hlt, hi]
        rw [List.eraseIdx_eq_take_drop_succ]
        exact List.perm_middle
      exact (List.perm_cons x).1 (this.symm.trans hp)
    rw [e1, unc_leh l _ (h.sublist (List.eraseIdx_sublist ..)) p2]

/-! ### Ranks -/
def fact : Nat → Int
  | 0 => 1
  | n + 1 => (n + 1 : Nat) * fact n
theorem fact_pos : ∀ n, 0 < fact n
  | 0 => by decide
  | n + 1 => Int.mul_pos (by omega) (fact_pos n)
theorem fact_20 : fact 20 = 2432902008176640000 := by decide
theorem fact_mono : ∀ {m n : Nat}, m ≤ n → fact m ≤ fact n
  | m, 0, h => by obtain rfl : m = 0 := by omega
                  exact Int.le_refl _
  | m, n + 1, h => by
    rcases Nat.lt_or_eq_of_le h with h1 | rfl
    · have a := fact_mono (show m ≤ n by omega)
      have b := fact_pos n
      have c : fact n ≤ ((n + 1 : Nat) : Int) * fact n := by
        have := Int.mul_le_mul_of_nonneg_right (show (1 : Int) ≤ ((n + 1 : Nat) : Int) by omega) (Int.le_of_lt b)
        rwa [Int.one_mul] at this
      exact Int.le_trans a c
    · exact Int.le_refl _
def val : List Int → Int
  | [] => 0
  | k :: c => k * fact c.length + val c
theorem val_bound : ∀ {c : List Int}, Val c → 0 ≤ val c ∧ val c < fact c.length
  | [], _ => by simp [val, fact]
  | k :: c, ⟨h1, h2, h3⟩ => by
    obtain ⟨a, b⟩ := val_bound h3
    have f := fact_pos c.length
    constructor
    · exact Int.add_nonneg (Int.mul_nonneg h1 (Int.le_of_lt f)) a
    · show k * fact c.length + val c < ((c.length + 1 : Nat) : Int) * fact c.length
      have : k * fact c.length ≤ (c.length : Int) * fact c.length := Int.mul_le_mul_of_nonneg_right (by omega) (Int.le_of_lt f)
      have e : ((c.length + 1 : Nat) : Int) * fact c.length = (c.length : Int) * fact c.length + fact c.length := by
        rw [Int.natCast_add, Int.add_mul]; simp
      omega
theorem val_inj : ∀ {c d : List Int}, c.length = d.length → Val c → Val d → val c = val d → c = d
  | [], [], _, _, _, _ => rfl
  | [], _ :: _, h, _, _, _ => by simp at h
  | _ :: _, [], h, _, _, _ => by simp at h
  | k :: c, j :: d, hl, ⟨h1, h2, h3⟩, ⟨g1, g2, g3⟩, e => by
    have hcd : c.length = d.length := by simpa using hl
    obtain ⟨a1, a2⟩ := val_bound h3
    obtain ⟨b1, b2⟩ := val_bound g3
    simp only [val] at e
    rw [← hcd] at e b2
    have f := fact_pos c.length
    have kj : k = j := by
      rcases Int.lt_trichotomy k j with h | h | h
      · have : (k + 1) * fact c.length ≤ j * fact c.length := Int.mul_le_mul_of_nonneg_right (by omega) (Int.le_of_lt f)
        rw [Int.add_mul, Int.one_mul] at this; omega
      · exact h
      · have : (j + 1) * fact c.length ≤ k * fact c.length := Int.mul_le_mul_of_nonneg_right (by omega) (Int.le_of_lt f)
        rw [Int.add_mul, Int.one_mul] at this; omega
    subst kj
    rw [val_inj hcd h3 g3 (by omega)]
/-- the digits of a rank, and what is left -/
def digs : Nat → Int → List Int × Int
  | 0, r => ([], r)
  | i + 1, r => ((digs i r).2.tmod ((i + 1 : Nat) : Int) :: (digs i r).1, (digs i r).2.tdiv ((i + 1 : Nat) : Int))
theorem digs_ok : ∀ (i : Nat) (r : Int), 0 ≤ r → (digs i r).1.length = i ∧ Val (digs i r).1 ∧ 0 ≤ (digs i r).2 ∧ val (digs i r).1 + fact i * (digs i r).2 = r
  | 0, r, h => ⟨rfl, trivial, h, by simp [digs, val, fact]⟩
  | i + 1, r, h => by
    obtain ⟨a, b, c, d⟩ := digs_ok i r h
    have hp : (0 : Int) < ((i + 1 : Nat) : Int) := by omega
    have m0 : 0 ≤ (digs i r).2.tmod ((i + 1 : Nat) : Int) := Int.tmod_nonneg _ c
    have m1 : (digs i r).2.tmod ((i + 1 : Nat) : Int) < ((i + 1 : Nat) : Int) := Int.tmod_lt_of_pos _ hp
    have q0 : 0 ≤ (digs i r).2.tdiv ((i + 1 : Nat) : Int) := Int.tdiv_nonneg c (by omega)
    refine ⟨by simp [digs, a], ⟨m0, by rw [a]; omega, b⟩, q0, ?_⟩
    simp only [digs, val, a]
    have e := Int.mul_tdiv_add_tmod (digs i r).2 ((i + 1 : Nat) : Int)
    have e2 : fact (i + 1) = ((i + 1 : Nat) : Int) * fact i := rfl
    rw [e2]
    generalize (digs i r).2.tmod ((i + 1 : Nat) : Int) = m at *
    generalize (digs i r).2.tdiv ((i + 1 : Nat) : Int) = q at *
    generalize val (digs i r).1 = v at *
    generalize (digs i r).2 = w at *
    generalize ((i + 1 : Nat) : Int) = n at *
    have h2 : fact i * w = n * fact i * q + m * fact i := by
      rw [← e, Int.mul_add, Int.mul_comm (fact i) m, ← Int.mul_assoc, Int.mul_comm (fact i) n]
    omega
/-- one behind the other -/
theorem unc_cmp : ∀ {c d : List Int} {L : List Int}, Lt L → L.length = c.length → c.length = d.length → Val c → Val d → ∀ i : Nat, (unc L c).take i = (unc L d).take i → ∀ x y, (unc L c)[i]? = some x → (unc L d)[i]? = some y → x ≠ y → (x < y ↔ val c < val d)
  | [], d, L, _, _, hl, _, _, i, _, x, y, hx, _, _ => by simp [unc] at hx
  | k :: c, [], L, _, _, hl, _, _, i, _, x, y, _, _, _ => by simp at hl
  | k :: c, j :: d, L, hL, hz, hl, ⟨h1, h2, h3⟩, ⟨g1, g2, g3⟩, i, ht, x, y, hx, hy, hxy => by
    have hcd : c.length = d.length := by simpa using hl
    have hzc : L.length = c.length + 1 := by simpa using hz
    obtain ⟨a1, a2⟩ := val_bound h3
    obtain ⟨b1, b2⟩ := val_bound g3
    simp only [val]
    rw [← hcd] at b2 ⊢
    have f := fact_pos c.length
    have hk : k.toNat < L.length := by omega
    have hj : j.toNat < L.length := by omega
    have ek : L[k.toNat]! = L[k.toNat] := getElem!_pos L _ hk
    have ej : L[j.toNat]! = L[j.toNat] := getElem!_pos L _ hj
    rcases Int.lt_trichotomy k j with h | h | h
    · have lt := List.pairwise_iff_getElem.1 hL k.toNat j.toNat hk hj (by omega)
      have i0 : i = 0 := by
        rcases Nat.eq_zero_or_pos i with h0 | h0
        · exact h0
        · obtain ⟨i, rfl⟩ : ∃ n, i = n + 1 := ⟨i - 1, by omega⟩
          simp only [unc, List.take_succ_cons] at ht
          injection ht with ht _
          rw [ek, ej] at ht; omega
      subst i0
      simp only [unc, List.getElem?_cons_zero, Option.some.injEq] at hx hy
      have : (k + 1) * fact c.length ≤ j * fact c.length := Int.mul_le_mul_of_nonneg_right (by omega) (Int.le_of_lt f)
      rw [Int.add_mul, Int.one_mul] at this
      constructor
      · intro _; omega
      · intro _; omega
    · subst h
      rcases Nat.eq_zero_or_pos i with h0 | h0
      · subst h0
        simp only [unc, List.getElem?_cons_zero, Option.some.injEq] at hx hy
        omega
      · obtain ⟨i, rfl⟩ : ∃ n, i = n + 1 := ⟨i - 1, by omega⟩
        simp only [unc, List.take_succ_cons, List.cons.injEq, true_and] at ht
        simp only [unc, List.getElem?_cons_succ] at hx hy
        have := unc_cmp (hL.sublist (List.eraseIdx_sublist ..)) (by rw [List.length_eraseIdx, if_pos hk]; omega) hcd h3 g3 i ht x y hx hy hxy
        rw [this]; omega
    · have lt := List.pairwise_iff_getElem.1 hL j.toNat k.toNat hj hk (by omega)
      have i0 : i = 0 := by
        rcases Nat.eq_zero_or_pos i with h0 | h0
        · exact h0
        · obtain ⟨i, rfl⟩ : ∃ n, i = n + 1 := ⟨i - 1, by omega⟩
          simp only [unc, List.take_succ_cons] at ht
          injection ht with ht _
          rw [ek, ej] at ht; omega
      subst i0
      simp only [unc, List.getElem?_cons_zero, Option.some.injEq] at hx hy
      have : (j + 1) * fact c.length ≤ k * fact c.length := Int.mul_le_mul_of_nonneg_right (by omega) (Int.le_of_lt f)
      rw [Int.add_mul, Int.one_mul] at this
      constructor
      · intro _; omega
      · intro _; omega
theorem unc_inj : ∀ {c d : List Int} {L : List Int}, Lt L → L.length = c.length → c.length = d.length → Val c → Val d → unc L c = unc L d → c = d
  | [], [], _, _, _, _, _, _, _ => rfl
  | [], _ :: _, _, _, _, h, _, _, _ => by simp at h
  | _ :: _, [], _, _, _, h, _, _, _ => by simp at h
  | k :: c, j :: d, L, hL, hz, hl, ⟨h1, h2, h3⟩, ⟨g1, g2, g3⟩, e => by
    have hcd : c.length = d.length := by simpa using hl
    have hzc : L.length = c.length + 1 := by simpa using hz
    have hk : k.toNat < L.length := by omega
    have hj : j.toNat < L.length := by omega
    simp only [unc, List.cons.injEq] at e
    obtain ⟨e1, e2⟩ := e
    rw [getElem!_pos L _ hk, getElem!_pos L _ hj] at e1
    have kj : k = j := by
      rcases Int.lt_trichotomy k j with h | h | h
      · have := List.pairwise_iff_getElem.1 hL k.toNat j.toNat hk hj (by omega); omega
      · exact h
      · have := List.pairwise_iff_getElem.1 hL j.toNat k.toNat hj hk (by omega); omega
    subst kj
    rw [unc_inj (hL.sublist (List.eraseIdx_sublist ..)) (by rw [List.length_eraseIdx, if_pos hk]; omega) hcd h3 g3 e2]
theorem unc_mem : ∀ {c : List Int} {L : List Int}, L.length = c.length → Val c → (unc L c).Perm L
  | [], L, h, _ => by
    obtain rfl : L = [] := List.eq_nil_of_length_eq_zero h
    exact List.Perm.refl _
  | k :: c, L, h, ⟨h1, h2, h3⟩ => by
    have h : L.length = c.length + 1 := by simpa using h
    have hk : k.toNat < L.length := by omega
    have ih := unc_mem (L := L.eraseIdx k.toNat) (by rw [List.length_eraseIdx, if_pos hk]; omega) h3
    have : L.Perm (L[k.toNat] :: L.eraseIdx k.toNat) := by
      conv => lhs; rw [← List.take_append_drop k.toNat L, List.drop_eq_getElem_cons hk]
      rw [List.eraseIdx_eq_take_drop_succ]
      exact List.perm_middle
    simp only [unc]
    rw [getElem!_pos L _ hk]
    exact (ih.cons _).trans this.symm
end Go.Inv
