/- Dealing on piles: the plain law. No program in sight. -/
import Derived.Test.YthjfnfhgnbmgcaaTwFam
namespace Go.Lis
open Go Go.Tw

/-- the number at a place -/
abbrev at_ (l : List Int) (a : Nat) : Int := l[a]!
/-- the place on top of a pile -/
def last (p : List Nat) : Nat := p.getLastD 0
/-- the first pile whose top is not less -/
def pos (l : List Int) (x : Int) : List (List Nat) → Nat
  | [] => 0
  | p :: P => if x ≤ at_ l (last p) then 0 else pos l x P + 1
def put (i : Nat) : Nat → List (List Nat) → List (List Nat)
  | _, [] => [[i]]
  | 0, p :: P => (p ++ [i]) :: P
  | k + 1, p :: P => p :: put i k P
/-- what is below: the top of the pile ahead -/
def below (P : List (List Nat)) (k : Nat) : Int := if k = 0 then -1 else (last (P.getD (k - 1) []) : Int)
def deal (l : List Int) : Nat → List (List Nat) × List Int
  | 0 => ([], [])
  | i + 1 => (put i (pos l (at_ l i) (deal l i).1) (deal l i).1, (deal l i).2 ++ [below (deal l i).1 (pos l (at_ l i) (deal l i).1)])

theorem pos_le (l : List Int) (x : Int) : ∀ P, pos l x P ≤ P.length
  | [] => Nat.le_refl _
  | p :: P => by have := pos_le l x P; unfold pos; split <;> simp; omega
theorem pos_less (l : List Int) (x : Int) : ∀ (P : List (List Nat)) (k : Nat), k < pos l x P → at_ l (last (P.getD k [])) < x
  | [], k, h => by simp [pos] at h
  | p :: P, 0, h => by
    unfold pos at h
    split at h
    · omega
    · rename_i h1; show at_ l (last p) < x; omega
  | p :: P, k + 1, h => by
    unfold pos at h
    split at h
    · omega
    · simpa using pos_less l x P k (by omega)
theorem pos_stop (l : List Int) (x : Int) : ∀ (P : List (List Nat)), pos l x P < P.length → x ≤ at_ l (last (P.getD (pos l x P) []))
  | [], h => by simp [pos] at h
  | p :: P, h => by
    unfold pos at h ⊢
    split
    · rename_i h1; simpa using h1
    · rename_i h1
      rw [if_neg h1] at h
      simpa using pos_stop l x P (by simpa using h)
/-- it is the first one -/
theorem pos_eq {l : List Int} {x : Int} {P : List (List Nat)} {k : Nat} (h0 : k ≤ P.length) (h1 : ∀ j, j < k → at_ l (last (P.getD j [])) < x) (h2 : k < P.length → x ≤ at_ l (last (P.getD k []))) : pos l x P = k := by
  rcases Nat.lt_trichotomy (pos l x P) k with h | h | h
  · have := h1 _ h; have := pos_stop l x P (by omega); omega
  · exact h
  · have := pos_less l x P k h; have := pos_le l x P; have := h2 (by omega); omega

theorem put_length (i : Nat) : ∀ (k : Nat) (P : List (List Nat)), k ≤ P.length → (put i k P).length = max P.length (k + 1)
  | 0, [], _ => rfl
  | k + 1, [], h => by simp at h
  | 0, p :: P, _ => by simp [put]
  | k + 1, p :: P, h => by simp only [put, List.length_cons, put_length i k P (by simpa using h)]; omega
theorem put_getD (i : Nat) : ∀ (k : Nat) (P : List (List Nat)) (q : Nat), k ≤ P.length → (put i k P).getD q [] = if q = k then P.getD k [] ++ [i] else P.getD q []
  | 0, [], q, _ => by cases q <;> simp [put]
  | k + 1, [], _, h => by simp at h
  | 0, p :: P, q, _ => by cases q <;> simp [put]
  | k + 1, p :: P, 0, h => by simp [put]
  | k + 1, p :: P, q + 1, h => by
    have := put_getD i k P q (by simpa using h)
    simpa [put] using this

/-- what holds of the piles of the first i -/
structure Inv (l : List Int) (i : Nat) (P : List (List Nat)) (B : List Int) : Prop where
  full : ∀ q, q < P.length → P.getD q [] ≠ []
  tops : ∀ q k, q < k → k < P.length → at_ l (last (P.getD q [])) < at_ l (last (P.getD k []))
  small : ∀ q a, a ∈ P.getD q [] → a < i
  once : P.flatten.Perm (List.range i)
  fall : ∀ q, (P.getD q []).Pairwise fun a b => a < b ∧ at_ l b ≤ at_ l a
  blen : B.length = i
  back : ∀ q a, a ∈ P.getD q [] → if q = 0 then B[a]? = some (-1) else ∃ c, B[a]? = some ((c : Nat) : Int) ∧ c ∈ P.getD (q - 1) [] ∧ c < a ∧ at_ l c < at_ l a
  apart : ∀ k b q a, b ∈ P.getD k [] → k ≤ q → a ∈ P.getD q [] → a < b → at_ l b ≤ at_ l a

theorem last_mem : ∀ {p : List Nat}, p ≠ [] → last p ∈ p
  | [], h => absurd rfl h
  | [x], _ => by simp [last]
  | x :: y :: p, _ => List.mem_cons_of_mem _ (show last (y :: p) ∈ y :: p from last_mem (by simp))
theorem last_le {l : List Int} {p : List Nat} (h : p.Pairwise fun a b => a < b ∧ at_ l b ≤ at_ l a) {a : Nat} (ha : a ∈ p) : at_ l (last p) ≤ at_ l a ∧ a ≤ last p := by
  induction p with
  | nil => cases ha
  | cons x p ih =>
    cases p with
    | nil => simp at ha; subst ha; exact ⟨Int.le_refl _, Nat.le_refl _⟩
    | cons y p =>
      have e : last (x :: y :: p) = last (y :: p) := rfl
      rw [e]
      have h' := List.pairwise_cons.1 h
      rcases List.mem_cons.1 ha with rfl | ha
      · have := h'.1 _ (last_mem (p := y :: p) (by simp)); omega
      · exact ih h'.2 ha
theorem last_snoc (p : List Nat) (i : Nat) : last (p ++ [i]) = i := by simp [last]
theorem put_flatten (i : Nat) : ∀ (k : Nat) (P : List (List Nat)), k ≤ P.length → (put i k P).flatten.Perm (P.flatten ++ [i])
  | 0, [], _ => by simp [put]
  | k + 1, [], h => by simp at h
  | 0, p :: P, _ => by
    simp only [put, List.flatten_cons, List.append_assoc]
    exact List.Perm.append_left _ List.perm_append_comm
  | k + 1, p :: P, h => by
    simp only [put, List.flatten_cons, List.append_assoc]
    exact List.Perm.append_left _ (put_flatten i k P (by simpa using h))

theorem deal_inv (l : List Int) : ∀ i, Inv l i (deal l i).1 (deal l i).2
  | 0 => ⟨fun q h => by simp [deal] at h, fun q k _ h => by simp [deal] at h, fun q a h => by simp [deal] at h, by simp [deal], fun q => by simp [deal], rfl, fun q a h => by simp [deal] at h, fun k b q a h => by simp [deal] at h⟩
  | i + 1 => by
    have I := deal_inv l i
    revert I
    simp only [deal]
    generalize (deal l i).1 = P
    generalize (deal l i).2 = B
    intro I
    have hk := pos_le l (at_ l i) P
    have hless := pos_less l (at_ l i) P
    have hstop := pos_stop l (at_ l i) P
    generalize pos l (at_ l i) P = k at hk hless hstop
    have hlen := put_length i k P hk
    have hget := fun q => put_getD i k P q hk
    have hmem : ∀ q a, a ∈ (put i k P).getD q [] → (q = k ∧ a = i) ∨ a ∈ P.getD q [] := fun q a h => by
      rw [hget] at h
      split at h
      · rename_i e; subst e
        rcases List.mem_append.1 h with h | h
        · exact .inr h
        · exact .inl ⟨rfl, by simpa using h⟩
      · exact .inr h
    have hlow : ∀ q a, k ≤ q → a ∈ P.getD q [] → at_ l i ≤ at_ l a := fun q a hq ha => by
      have hql : q < P.length := by
        apply Nat.lt_of_not_le; intro h
        rw [List.getD_eq_getElem?_getD, List.getElem?_eq_none h] at ha; cases ha
      have h1 := (last_le (I.fall q) ha).1
      have h2 := hstop (by omega)
      by_cases e : q = k
      · subst e; omega
      · have := I.tops k q (by omega) hql; omega
    refine ⟨fun q hq => ?_, fun q q' h1 h2 => ?_, fun q a ha => ?_, ?_, fun q => ?_, by simp [I.blen], fun q a ha => ?_, fun q b q' a hb hqq ha hab => ?_⟩
    · rw [hget]
      split
      · simp
      · exact I.full q (by omega)
    · rw [hget, hget]
      by_cases e1 : q = k
      · subst e1
        rw [if_pos rfl, if_neg (by omega), last_snoc]
        have := I.tops q q' h1 (by omega)
        have := hstop (by omega); omega
      · rw [if_neg e1]
        by_cases e2 : q' = k
        · subst e2
          rw [if_pos rfl, last_snoc]
          exact hless q h1
        · rw [if_neg e2]; exact I.tops q q' h1 (by omega)
    · rcases hmem q a ha with ⟨_, rfl⟩ | h
      · omega
      · have := I.small q a h; omega
    · rw [List.range_succ]
      exact (put_flatten i k P hk).trans (I.once.append_right _)
    · rw [hget]
      split
      · rename_i e; subst e
        refine List.pairwise_append.2 ⟨I.fall q, by simp, fun a ha b hb => ?_⟩
        obtain rfl : b = i := by simpa using hb
        exact ⟨I.small q a ha, hlow q a (Nat.le_refl _) ha⟩
      · exact I.fall q
    · have hB : ∀ c : Nat, c < i → (B ++ [below P k])[c]? = B[c]? := fun c hc => List.getElem?_append_left (by rw [I.blen]; exact hc)
      rcases hmem q a ha with ⟨rfl, rfl⟩ | h
      · have e : (B ++ [below P q])[a]? = some (below P q) := by rw [List.getElem?_append_right (by rw [I.blen]; exact Nat.le_refl _), I.blen]; simp
        rw [e]
        unfold below
        split
        · rfl
        · rename_i e0
          have hf := I.full (q - 1) (by omega)
          have hm := last_mem hf
          refine ⟨_, rfl, ?_, I.small _ _ hm, hless (q - 1) (by omega)⟩
          rw [hget, if_neg (by omega)]; exact hm
      · have h1 := I.back q a h
        have h2 := I.small q a h
        split at h1
        · rename_i e0; rw [if_pos e0, hB _ h2]; exact h1
        · rename_i e0
          obtain ⟨c, hc1, hc2, hc3, hc4⟩ := h1
          rw [if_neg e0]
          refine ⟨c, by rw [hB _ h2]; exact hc1, ?_, hc3, hc4⟩
          rw [hget]
          split
          · rename_i e1; rw [e1] at hc2; exact List.mem_append_left _ hc2
          · exact hc2
    · rcases hmem q b hb with ⟨rfl, rfl⟩ | h
      · rcases hmem q' a ha with ⟨_, rfl⟩ | h'
        · omega
        · exact hlow q' a hqq h'
      · rcases hmem q' a ha with ⟨_, rfl⟩ | h'
        · have := I.small q b h; omega
        · exact I.apart q b q' a h hqq h' hab

theorem flat_len : ∀ (P : List (List Nat)), (∀ q, q < P.length → P.getD q [] ≠ []) → P.length ≤ P.flatten.length
  | [], _ => Nat.le_refl _
  | p :: P, h => by
    have h0 : p ≠ [] := by simpa using h 0 (by simp)
    have := flat_len P fun q hq => by simpa using h (q + 1) (by simpa using hq)
    have : 0 < p.length := List.length_pos_iff.2 h0
    rw [List.flatten_cons, List.length_append, List.length_cons]; omega
theorem Inv.len {l : List Int} {i : Nat} {P : List (List Nat)} {B : List Int} (I : Inv l i P B) : P.length ≤ i := by
  have := flat_len P I.full
  rw [I.once.length_eq, List.length_range] at this; exact this
theorem one_len : ∀ (P : List (List Nat)) (q : Nat), (P.getD q []).length ≤ P.flatten.length
  | [], q => by simp
  | p :: P, 0 => by simp
  | p :: P, q + 1 => by
    have := one_len P q
    rw [List.flatten_cons, List.length_append]
    have e : (p :: P).getD (q + 1) [] = P.getD q [] := by simp
    rw [e]; omega
theorem Inv.one {l : List Int} {i : Nat} {P : List (List Nat)} {B : List Int} (I : Inv l i P B) (q : Nat) : (P.getD q []).length ≤ i := by
  have := one_len P q
  rw [I.once.length_eq, List.length_range] at this; exact this
theorem put_set (i : Nat) : ∀ (k : Nat) (P : List (List Nat)), k < P.length → put i k P = P.set k (P.getD k [] ++ [i])
  | _, [], h => by simp at h
  | 0, p :: P, _ => rfl
  | k + 1, p :: P, h => by
    have := put_set i k P (by simpa using h)
    simpa [put] using this
theorem put_new (i : Nat) : ∀ (P : List (List Nat)), put i P.length P = (P ++ [[]]).set P.length [i]
  | [] => rfl
  | p :: P => by
    have := put_new i P
    simpa [put] using this

theorem flat_le (m : Nat) : ∀ (P : List (List Nat)), (∀ q, (P.getD q []).length ≤ m) → P.flatten.length ≤ P.length * m
  | [], _ => by simp
  | p :: P, h => by
    have h0 : p.length ≤ m := by simpa using h 0
    have := flat_le m P fun q => by simpa using h (q + 1)
    rw [List.flatten_cons, List.length_append, List.length_cons, Nat.succ_mul]; omega
/-- what has been met, pile by pile -/
def metP (P : List (List Nat)) (i k : Nat) : List Nat := (P.take i).flatten ++ (P.getD i []).take k
theorem metP_zero (P : List (List Nat)) : metP P 0 0 = [] := by simp [metP]
theorem metP_next {P : List (List Nat)} {i k a : Nat} (h : (P.getD i [])[k]? = some a) : metP P i (k + 1) = metP P i k ++ [a] := by
  unfold metP; rw [List.take_add_one, h]; simp
theorem metP_pile {P : List (List Nat)} {i : Nat} (h : i < P.length) : metP P i (P.getD i []).length = metP P (i + 1) 0 := by
  have e : P.take (i + 1) = P.take i ++ [P[i]] := by rw [List.take_add_one, List.getElem?_eq_getElem h]; rfl
  have e2 : P.getD i [] = P[i] := by rw [List.getD_eq_getElem?_getD, List.getElem?_eq_getElem h]; rfl
  unfold metP
  rw [List.take_length, e, e2, List.flatten_append, List.take_zero, List.append_nil, List.flatten_cons, List.flatten_nil, List.append_nil]
theorem metP_all {P : List (List Nat)} : metP P P.length 0 = P.flatten := by simp [metP]
theorem metP_new {P : List (List Nat)} {i k a n : Nat} (hi : i < P.length) (h : (P.getD i [])[k]? = some a) (hP : P.flatten.Perm (List.range n)) : a ∉ metP P i k := by
  have hn : P.flatten.Nodup := hP.nodup_iff.2 List.nodup_range
  have e : P = P.take i ++ (P.getD i []) :: P.drop (i + 1) := by
    rw [List.getD_eq_getElem?_getD, List.getElem?_eq_getElem hi]
    simp
  rw [e, List.flatten_append, List.flatten_cons, ← List.append_assoc] at hn
  have h1 := (List.nodup_append.1 hn).1
  have hk := (List.getElem?_eq_some_iff.1 h).1
  have e2 : P.getD i [] = (P.getD i []).take k ++ a :: (P.getD i []).drop (k + 1) := by
    conv => lhs; rw [← List.take_append_drop k (P.getD i []), List.drop_eq_getElem_cons hk]
    rw [(List.getElem?_eq_some_iff.1 h).2]
  rw [e2, ← List.append_assoc] at h1
  intro hm
  exact (List.nodup_append.1 h1).2.2 a hm a (by simp) rfl
end Go.Lis
