/- Dealing on piles: the laws 'LisMany', 'LisFalls'. -/
import Derived.Test.YthjfnfhgnbmgcaaLisR
namespace Go.Proofs.Ythjfnfhgnbmgcaa
open Go Go.RowKit Go.Tw Go.Lis
set_option linter.unusedVariables false

theorem risen_ok {r : World} {h : Heap} {R : Bool → Heap → Prop} (H : ∀ h', Ext h.size h h' → R true h') : law5_risen r h R := by
  apply law5_risen_of
  intro p1 h1 hp hh
  subst hp; subst hh
  have hr : RI (h.push (.cells #[iV 3, iV 1, iV 2] 3)).size (h.push (.cells #[iV 3, iV 1, iV 2] 3)) ⟨some (ad h.size 0), 3, 3⟩ [3, 1, 2] :=
    RI.of_blk (b := h.size) (l := [3, 1, 2]) (c := 3) (Blk.new (cs := [iV 3, iV 1, iV 2])) (by simp) (List.prefix_refl _) (by decide)
  refine longest_ok hr (by decide) fun out p h' hp hl _ _ E => ?_
  have hlen : (deal [3, 1, 2] 3).1.length = 2 := by decide +kernel
  have : out.len = 2 := by rw [hp.len]; simpa using hl.trans hlen
  rw [this]
  exact H h' ((Ext.push (Nat.le_refl _)).trans (E.mono (by simp)))

section
variable {r : World} {h : Heap} {l1 : Sl} {l : List Int}

theorem many_law {m : Int} (hl1 : RI h.size h l1 l) (hll : l.length ≤ 1048576) (hm : -9223372036854775808 ≤ m ∧ m < 9223372036854775808) : law5_LisMany r l1 m h fun y h' => y = true ∧ Ext h.size h h' := by
  apply law5_LisMany_of
  refine risen_ok fun h1 E1 => ⟨fun q => (by cases q), fun _ => ?_⟩
  have hl1' := hl1.ext E1 (Nat.le_refl _)
  have hlen := hl1.len
  refine ⟨fun _ => ⟨rfl, E1⟩, fun q => ?_⟩
  have q : 1 ≤ m ∧ 1 ≤ l.length := by
    rw [hlen] at q; simp at q
    have := q.2; have : l.length ≠ 0 := by intro e; exact this (List.eq_nil_of_length_eq_zero e)
    omega
  refine longest_ok (hl1'.mono E1.1) hll fun out p h2 hp hpl _ _ E2 => ?_
  have E2 := E1.trans (E2.mono E1.1)
  have hout : out.len = (deal l l.length).1.length := by rw [hp.len]; simpa using hpl
  rw [hout]
  refine ⟨fun _ => ⟨rfl, E2⟩, fun q2 => ⟨by omega, ?_⟩⟩
  have q2 : ((deal l l.length).1.length : Int) ≤ m := by have := of_decide_eq_false q2; omega
  refine falls_ok ((hl1.ext E2 (Nat.le_refl _)).mono E2.1) hll fun ps ss h3 A hss E3 => ?_
  have E3 := E2.trans (E3.mono E2.1)
  have I := deal_inv l l.length
  revert A hss I q2
  generalize (deal l l.length).1 = P
  generalize (deal l l.length).2 = B
  intro q2 A hss I
  have hPl := I.len
  have ess : ps.len = P.length := by have := (A.ownI (j := 0) rfl).len; simp at this; omega
  intro X HX
  have key : ∀ d (i : Nat) (b : Nat), i + d = P.length → (∀ q, q < i → (P.getD q []).length ≤ b) → b ≤ l.length → X (b : Int) (i : Int) := by
    intro d
    induction d with
    | zero =>
      intro i b hi hb hbl
      refine HX _ _ ⟨fun q3 => by rw [ess] at q3; simp at q3; omega, fun _ => ?_⟩
      intro x21 hx
      refine ⟨?_, E3⟩
      have h1 := flat_le b P fun q => by
        by_cases hq : q < P.length
        · exact hb q (by omega)
        · rw [List.getD_eq_getElem?_getD, List.getElem?_eq_none (by omega)]; simp
      rw [I.once.length_eq, List.length_range] at h1
      rw [hlen, w64_of (n := (l.length : Int) - 1) (by omega) (by omega)] at hx
      have e1 : Int.tdiv ((l.length : Int) - 1) m = ((l.length : Int) - 1) / m := Int.tdiv_eq_ediv_of_nonneg (by omega)
      have h2 : ((l.length : Int) - 1) / m < b := by
        apply Int.ediv_lt_of_lt_mul (by omega)
        have h3 : (P.length : Int) * b ≤ m * b := Int.mul_le_mul_of_nonneg_right q2 (by omega)
        have h4 : ((P.length * b : Nat) : Int) = (P.length : Int) * b := by simp
        have h5 : (b : Int) * m = m * b := Int.mul_comm _ _
        omega
      have h0 : 0 ≤ ((l.length : Int) - 1) / m := Int.ediv_nonneg (by omega) (by omega)
      rw [e1, w64_of (by omega) (by omega)] at hx
      rw [hx]; exact decide_eq_true h2
    | succ d ih =>
      intro i b hi hb hbl
      refine HX _ _ ⟨fun _ => ?_, fun q3 => by rw [ess] at q3; simp at q3; omega⟩
      have Op := A.ownI (j := 0) rfl
      have s1 : ss[i]? = some ss[i] := List.getElem?_eq_getElem (by omega)
      have p1 : P[i]? = some P[i] := List.getElem?_eq_getElem (by omega)
      have pD : P.getD i [] = P[i] := by rw [List.getD_eq_getElem?_getD, p1]; rfl
      refine Ix.own Op (by omega) (by simp; omega) fun bp hbp => ⟨ss[i], Op.cell hbp (by simp [s1]), ?_⟩
      have Or := A.ownI (j := i + 1) (rowsF_at (e := nV) s1 p1)
      have hsl : ss[i].len = (P.getD i []).length := by have := Or.len; rw [pD]; simpa using this
      have hone := I.one i
      dsimp only
      rw [hsl, show w64 ((i : Int) + 1) = ((i + 1 : Nat) : Int) by rw [w64_of] <;> omega, show max (b : Int) ((P.getD i []).length : Int) = ((max b (P.getD i []).length : Nat) : Int) by omega]
      refine ih (i + 1) _ (by omega) (fun q hq => ?_) (by omega)
      by_cases e : q = i
      · subst e; omega
      · have := hb q (by omega); omega
  exact key P.length 0 0 (by omega) (fun q h => by omega) (by omega)

/-- make([]T, n), T of one cell -/
theorem MkS.own {h : Heap} {el by' : Nat} {z : Value} {n : Nat} {N : Nat} {K : Sl → Heap → Prop} (h1 : one z = true) (hN : N ≤ h.size) (hn : n ≤ 4294967296) (hb : by' ≤ 1024) (hK : ∀ s h', s.a = some (ad h.size 0) → Own N 1 h' s (List.replicate n z) → Ext h.size h h' → K s h') : MkS el 1 by' z (n : Int) h K := by
  have hb1 : (by' : Int) * (n : Int) ≤ 1024 * 4294967296 := Int.mul_le_mul (by omega) (by omega) (by omega) (by omega)
  refine ⟨by omega, by omega, by omega, fun s h' hs hh => ?_⟩
  subst hs; subst hh
  refine hK _ _ rfl ⟨by simp, Nat.le_refl _, .inr ⟨h.size, [], rfl, hN, ?_, by simp⟩⟩ (Ext.push (Nat.le_refl _))
  have e : (Array.range ((n : Int).toNat * 1)).map ((if (n : Int).toNat * 1 = 0 then #[] else z.cells)[· % (if (n : Int).toNat * 1 = 0 then #[] else z.cells).size]!) = (List.replicate n z ++ []).toArray := by
    have ez : z.cells = #[z] := one_cells h1
    apply Array.ext
    · simp
    · intro i hi hj
      have : 0 < n := by simp at hi; omega
      simp [ez, Nat.mod_one, show ¬ n = 0 by omega]
  rw [e]; exact Blk.new

abbrev bV (b : Bool) : Value := .bool b
/-- what has been met, as it is marked -/
abbrev marks (n : Nat) (V : List Nat) : List Value := (List.range n).map fun a => bV (decide (a ∈ V))
theorem marks_set {n a : Nat} {V : List Nat} (ha : a < n) : (marks n V).set a (bV true) = marks n (V ++ [a]) := by
  apply List.ext_getElem?
  intro t
  by_cases e : a = t
  · subst e
    rw [List.getElem?_set_self (by simpa using ha)]
    simp [marks, List.getElem?_range ha]
  · rw [List.getElem?_set_ne e]
    by_cases ht : t < n
    · simp [marks, List.getElem?_range ht, show ¬ t = a from fun q => e q.symm]
    · simp [marks, ht]

theorem falls_law (hl1 : RI h.size h l1 l) (hll : l.length ≤ 1048576) : law5_LisFalls r l1 h fun y h' => y = true ∧ Ext h.size h h' := by
  apply law5_LisFalls_of
  refine risen_ok fun h1 E1 => ⟨fun q => (by cases q), fun _ => ?_⟩
  have hl1' := hl1.ext E1 (Nat.le_refl _)
  have hlen := hl1.len
  refine falls_ok (hl1'.mono E1.1) hll fun ps ss h2 A hss E2 => ?_
  have E2 := E1.trans (E2.mono E1.1)
  have A : Fam h.size h2 (pilesF ps ss (deal l l.length).1) := ⟨fun x hx => (A.own x hx).mono E1.1, A.dis⟩
  rw [hlen]
  have fin : ∀ (h4 : Heap), Ext h.size h h4 → lis_Longest r l1 h4 fun y130 h8 => (y130.len : Int) = ((deal l l.length).1.length : Int) ∧ Ext h.size h h8 := fun h4 E4 =>
    longest_ok ((hl1.ext E4 (Nat.le_refl _)).mono E4.1) hll fun out p h5 hp hpl _ _ E5 => ⟨by rw [hp.len, List.length_map, hpl], E4.trans (E5.mono E4.1)⟩
  have I := deal_inv l l.length
  revert A hss I fin
  generalize (deal l l.length).1 = P
  generalize (deal l l.length).2 = B
  intro hss A fin I
  have hPl := I.len
  have ess : ps.len = P.length := by have := (A.ownI (j := 0) rfl).len; simp at this; omega
  refine MkS.own (N := h.size) rfl E2.1 (by omega) (by decide) fun s4 h3 hs4 O3 E3 => ?_
  have A3 : Fam h.size h3 ((1, s4, marks l.length (metP P 0 0)) :: pilesF ps ss P) := by
    refine (A.ext E3).cons ?_ fun x hx p q hp hq => ?_
    · rw [metP_zero]
      have : List.replicate l.length (Value.bool false) = marks l.length [] := by
        apply List.ext_getElem?
        intro t
        by_cases ht : t < l.length <;> simp [marks, ht]
      rw [← this]; exact O3
    · rw [hs4] at hp; cases hp
      have := ((A.own x hx).lt hq).1
      show h2.size ≠ q.block
      omega
  have E3 := E2.trans (E3.mono E2.1)
  intro X HX
  have outer : ∀ d (i n : Nat) (h4 : Heap), i + d = P.length → n = (metP P i 0).length → Fam h.size h4 ((1, s4, marks l.length (metP P i 0)) :: pilesF ps ss P) → Ext h.size h h4 → X (n : Int) (i : Int) h4 := by
    intro d
    induction d with
    | zero =>
      intro i n h4 hi hn A4 E4
      obtain rfl : i = P.length := by omega
      refine HX _ _ _ ⟨fun q => by rw [ess] at q; simp at q, fun _ => ?_⟩
      intro J HJ
      rw [metP_all, I.once.length_eq, List.length_range] at hn
      refine ⟨fun _ => ?_, fun q => by simp at q; omega⟩
      refine CallsH.mono (fin h4 E4) fun v h8 ⟨y, hv, hy, E8⟩ => ⟨y, hv, HJ _ _ ⟨?_, E8⟩⟩
      rw [ess, hy]; simp
    | succ d ih =>
      intro i n h4 hi hn A4 E4
      have hiP : i < P.length := by omega
      refine HX _ _ _ ⟨fun _ => ?_, fun q => by rw [ess] at q; simp at q; omega⟩
      have s1 : ss[i]? = some ss[i] := List.getElem?_eq_getElem (by omega)
      have p1 : P[i]? = some P[i] := List.getElem?_eq_getElem hiP
      have pD : P.getD i [] = P[i] := by rw [List.getD_eq_getElem?_getD, p1]; rfl
      have hfull := I.full i hiP
      have hfl := List.length_pos_iff.2 hfull
      have getS : ∀ {h' : Heap} {V : List Nat}, Fam h.size h' ((1, s4, marks l.length V) :: pilesF ps ss P) → ∀ {K : Addr → Prop}, (∀ q, hcell h' q = some (Sl.v ss[i]) → K q) → Ix ps (i : Int) 1 K := fun A' K hK => by
        have Op := A'.ownI (j := 1) rfl
        exact Ix.own Op (by omega) (by simp; omega) fun bp hbp => hK _ (Op.cell hbp (by simp [s1]))
      have hsl : ss[i].len = (P.getD i []).length := by
        have := (A4.ownI (j := i + 2) (rowsF_at (e := nV) s1 p1)).len
        rw [pD]; simpa using this
      refine getS A4 fun q1 hq1 => ⟨_, hq1, ?_⟩
      dsimp only
      rw [hsl]
      refine ⟨fun q => absurd (of_decide_eq_true q) (by omega), fun _ => ?_⟩
      intro X23 HX23
      have inner : ∀ d (k n : Nat) (h5 : Heap), k + d = (P.getD i []).length → n = (metP P i k).length → Fam h.size h5 ((1, s4, marks l.length (metP P i k)) :: pilesF ps ss P) → Ext h.size h h5 → X23 (n : Int) (k : Int) h5 := by
        intro d
        induction d with
        | zero =>
          intro k n h5 hk hn A5 E5
          obtain rfl : k = (P.getD i []).length := by omega
          refine HX23 _ _ _ ?_
          refine getS A5 fun q1 hq1 => ⟨_, hq1, ?_⟩
          dsimp only
          rw [hsl]
          refine ⟨fun q => by simp at q, fun _ => ?_⟩
          rw [show w64 ((i : Int) + 1) = ((i + 1 : Nat) : Int) by rw [w64_of] <;> omega]
          rw [metP_pile hiP] at hn A5
          exact ih (i + 1) n h5 (by omega) hn A5 E5
        | succ d ih2 =>
          intro k n h5 hk hn A5 E5
          have hkl : k < (P.getD i []).length := by omega
          obtain ⟨a, ha⟩ : ∃ a, (P.getD i [])[k]? = some a := ⟨_, List.getElem?_eq_getElem hkl⟩
          have ham := List.mem_of_getElem? ha
          have hal := I.small i a ham
          have getP : ∀ {h' : Heap} {V : List Nat}, Fam h.size h' ((1, s4, marks l.length V) :: pilesF ps ss P) → ∀ (k' a' : Nat), (P.getD i [])[k']? = some a' → ∀ {K : Addr → Prop}, (∀ q, hcell h' q = some (nV a') → K q) → Ix ss[i] (k' : Int) 1 K := fun A' k' a' ha' K hK => by
            have Or := A'.ownI (j := i + 2) (rowsF_at (e := nV) s1 p1)
            rw [pD] at ha'
            have := (List.getElem?_eq_some_iff.1 ha').1
            exact Ix.own Or (by omega) (by simp; omega) fun b hb => hK _ (Or.cell hb (by simp [ha']))
          refine HX23 _ _ _ ?_
          refine getS A5 fun q1 hq1 => ⟨_, hq1, ?_⟩
          dsimp only
          rw [hsl]
          refine ⟨fun _ => ?_, fun q => absurd (of_decide_eq_false q) (by omega)⟩
          refine getS A5 fun q2 hq2 => ⟨_, hq2, getP A5 k a ha fun q3 hq3 => ⟨_, hq3, ?_⟩⟩
          intro J49 HJ49
          refine ⟨fun q => by simp at q; omega, fun _ => ⟨fun q => by simp at q; omega, fun _ => ?_⟩⟩
          have hnew := metP_new hiP ha I.once
          have O4 := A5.ownI (j := 0) rfl
          refine Ix.own O4 (by omega) (by simp; omega) fun bm hbm => ⟨false, O4.cell hbm (by simp [marks, List.getElem?_range hal, hnew]), ?_⟩
          refine HJ49 _ ⟨fun q => (by cases q), fun _ => ?_⟩
          refine Ix.own O4 (by omega) (by simp; omega) fun bm2 hbm2 => ?_
          refine St.one' O4 hbm2 (by simp; omega) ?_
          have A6 := A5.setI (j := 0) (o := a) (v := bV true) rfl hbm2 (by simp; omega)
          have A6 : Fam h.size (hset h5 (ad bm2 a) (bV true)) ((1, s4, (marks l.length (metP P i k)).set a (bV true)) :: pilesF ps ss P) := A6
          rw [marks_set hal, ← metP_next ha] at A6
          have E6 := E5.trans (Ext.set (n := h.size) (a := ad bm2 a) (v := bV true) ((O4.lt' hbm2).2))
          rw [Int.toNat_natCast]
          intro J60 HJ60
          have go : J60 false := by
            refine HJ60 _ ⟨fun q => (by cases q), fun _ => ?_⟩
            rw [show w64 ((n : Int) + 1) = ((n + 1 : Nat) : Int) by
              have : (metP P i k).length ≤ l.length := by
                have h1 : (metP P i k).length ≤ P.flatten.length := by
                  have e : P = P.take i ++ P[i] :: P.drop (i + 1) := by simp
                  unfold metP
                  conv => rhs; rw [e]
                  rw [List.flatten_append, List.flatten_cons, pD]
                  simp only [List.length_append, List.length_take]
                  omega
                rw [I.once.length_eq, List.length_range] at h1; exact h1
              rw [w64_of] <;> omega, show w64 ((k : Int) + 1) = ((k + 1 : Nat) : Int) by have := I.one i; rw [w64_of] <;> omega]
            exact ih2 (k + 1) (n + 1) _ (by omega) (by rw [metP_next ha]; simp; omega) A6 E6
          refine ⟨fun q => ?_, fun _ => go⟩
          have hk0 : 0 < k := by simp at q; omega
          obtain ⟨a', ha'⟩ : ∃ a', (P.getD i [])[k - 1]? = some a' := ⟨_, List.getElem?_eq_getElem (by omega)⟩
          have hf := List.pairwise_iff_getElem.1 (I.fall i) (k - 1) k (by omega) hkl (by omega)
          rw [(List.getElem?_eq_some_iff.1 ha').2, (List.getElem?_eq_some_iff.1 ha).2] at hf
          have hal' := I.small i a' (List.mem_of_getElem? ha')
          rw [show w64 ((k : Int) - 1) = ((k - 1 : Nat) : Int) by have := I.one i; rw [w64_of] <;> omega]
          refine getS A6 fun q4 hq4 => ⟨_, hq4, getP A6 (k - 1) a' ha' fun q5 hq5 => ⟨_, hq5, ?_⟩⟩
          refine ⟨fun q => by simp at q; omega, fun _ => ?_⟩
          have hl6 := hl1.ext E6 (Nat.le_refl _)
          refine RI.ix hl6 (by omega) (by omega) fun q6 _ hq6 => ⟨_, hq6, getS A6 fun q7 hq7 => ⟨_, hq7, getP A6 (k - 1) a' ha' fun q8 hq8 => ⟨_, hq8, ?_⟩⟩⟩
          refine RI.ix hl6 (by omega) (by omega) fun q9 _ hq9 => ⟨_, hq9, ?_⟩
          simp only [Int.toNat_natCast]
          have hf2 : l[a]! ≤ l[a']! := hf.2
          rw [decide_eq_false (by omega)]
          exact go
      exact inner _ 0 n h4 (Nat.zero_add _) hn A4 E4
  exact outer P.length 0 0 h3 (by omega) (by rw [metP_zero]; rfl) A3 E3
end
end Go.Proofs.Ythjfnfhgnbmgcaa
