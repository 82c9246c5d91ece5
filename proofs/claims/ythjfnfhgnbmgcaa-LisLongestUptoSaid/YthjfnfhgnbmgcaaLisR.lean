/- Dealing on piles: 'Longest', 'Falls', 'Reverse', rows that are the same. -/
import Derived.Test.YthjfnfhgnbmgcaaLisQ
namespace Go.Proofs.Ythjfnfhgnbmgcaa
open Go Go.RowKit Go.Tw Go.Lis
set_option linter.unusedVariables false

/-- a place of one's own that holds a number -/
theorem own_int {N : Nat} {h : Heap} {s : Sl} {l : List Int} {i : Nat} {K : Addr → Prop} (O : Own N 1 h s (l.map iV)) (hi : i < l.length) (hK : ∀ b, s.a = some (ad b 0) → hcell h (ad b i) = some (iV (l[i]!)) → K (ad b i)) : Ix s (i : Int) 1 K := by
  refine Ix.own O (by omega) (by simp; omega) fun b hb => ?_
  refine hK b hb (O.cell hb ?_)
  simp [List.getElem?_eq_getElem hi, hi]

theorem set_same {α : Type} {F : List α} {j : Nat} {x : α} (hj : F[j]? = some x) : F.set j x = F := by
  obtain ⟨e1, e2⟩ := split_at hj
  exact (e2 x).trans e1.symm

theorem reverse_ok {r : World} {N j : Nat} {h : Heap} {F : List (Nat × Sl × List Value)} {s : Sl} {l : List Int} {R : Heap → Prop} (A : Fam N h F) (hj : F[j]? = some (1, s, l.map iV)) (hl : l.length ≤ 4611686018427387904)
    (H : ∀ h', Fam N h' (F.set j (1, s, l.reverse.map iV)) → Ext N h h' → R h') : slices_Reverse_int_int r s h R := by
  apply slices_Reverse_int_int_of
  intro X HX
  have hslen : s.len = l.length := by simpa using (A.ownI hj).len
  have hjl := (List.getElem?_eq_some_iff.1 hj).1
  have key : ∀ d (i : Nat) (h1 : Heap) (c : List Int), l.length - 2 * i ≤ d → 2 * i ≤ l.length + 1 → c.length = l.length → (∀ t, t < l.length → c[t]? = if t < i ∨ l.length - 1 - t < i then l[l.length - 1 - t]? else l[t]?) →
      Fam N h1 (F.set j (1, s, c.map iV)) → Ext N h h1 → X (i : Int) ((l.length : Int) - 1 - i) h1 := by
    intro d
    have stop : ∀ (i : Nat) (h1 : Heap) (c : List Int), ¬ 2 * i + 1 < l.length → c.length = l.length → (∀ t, t < l.length → c[t]? = if t < i ∨ l.length - 1 - t < i then l[l.length - 1 - t]? else l[t]?) → Fam N h1 (F.set j (1, s, c.map iV)) → Ext N h h1 → X (i : Int) ((l.length : Int) - 1 - i) h1 := by
      intro i h1 c hd hc hct A1 E1
      refine HX _ _ _ ⟨fun q => by simp at q; omega, fun _ => ?_⟩
      have e : c = l.reverse := by
        apply List.ext_getElem?
        intro t
        by_cases ht : t < l.length
        · rw [hct t ht, List.getElem?_reverse ht]
          split
          · rfl
          · congr 1; omega
        · rw [List.getElem?_eq_none (by omega), List.getElem?_eq_none (by simp; omega)]
      subst e
      exact H h1 A1 E1
    induction d with
    | zero =>
      intro i h1 c hd h2 hc hct A1 E1
      exact stop i h1 c (by omega) hc hct A1 E1
    | succ d ih =>
      intro i h1 c hd h2 hc hct A1 E1
      by_cases hlt : 2 * i + 1 < l.length
      · refine HX _ _ _ ⟨fun _ => ?_, fun q => absurd (of_decide_eq_false q) (by omega)⟩
        have e1 : (l.length : Int) - 1 - i = ((l.length - 1 - i : Nat) : Int) := by omega
        rw [e1]
        have hg : (F.set j (1, s, c.map iV))[j]? = some (1, s, c.map iV) := List.getElem?_set_self hjl
        have O1 := A1.ownI hg
        have hi : i < c.length := by omega
        have hi2 : l.length - 1 - i < c.length := by omega
        obtain ⟨b, hb⟩ : ∃ b, s.a = some (ad b 0) := O1.ex (by intro e; have := congrArg List.length e; rw [List.length_map, List.length_nil] at this; omega)
        refine own_int O1 hi2 fun b1 hb1 c1 => ⟨_, c1, own_int O1 hi fun b2 hb2 c2 => ⟨_, c2, own_int O1 hi fun b3 hb3 _ => ?_⟩⟩
        rw [hb] at hb3; cases hb3
        refine St.one' O1 hb (by simp; omega) ?_
        have A2 := A1.setI (o := i) (v := iV (c[l.length - 1 - i]!)) hg hb (by simp; omega)
        rw [List.set_set, ← List.map_set] at A2
        have hg2 : (F.set j (1, s, (c.set i (c[l.length - 1 - i]!)).map iV))[j]? = some (1, s, (c.set i (c[l.length - 1 - i]!)).map iV) := List.getElem?_set_self hjl
        have O2 := A2.ownI hg2
        refine own_int O2 (by simp; omega) fun b4 hb4 _ => ?_
        rw [hb] at hb4; cases hb4
        refine St.one' O2 hb (by simp; omega) ?_
        have A3 := A2.setI (o := l.length - 1 - i) (v := iV (c[i]!)) hg2 hb (by simp; omega)
        rw [List.set_set, ← List.map_set] at A3
        rw [show w64 ((i : Int) + 1) = ((i + 1 : Nat) : Int) by rw [w64_of] <;> omega, show w64 (((l.length - 1 - i : Nat) : Int) - 1) = (l.length : Int) - 1 - ((i + 1 : Nat) : Int) by rw [w64_of] <;> omega]
        refine ih (i + 1) _ _ (by omega) (by omega) (by simpa using hc) (fun t ht => ?_) A3 (E1.trans ((Ext.set (O1.lt' hb).2).trans (Ext.set (O1.lt' hb).2)))
        have q1 := hct i (by omega)
        have q2 := hct (l.length - 1 - i) (by omega)
        rw [if_neg (by omega)] at q1 q2
        have r1 : c[i]! = l[i]! := by
          rw [List.getElem?_eq_getElem hi, List.getElem?_eq_getElem (by omega : i < l.length)] at q1
          simp only [Option.some.injEq] at q1
          rw [getElem!_pos c i hi, getElem!_pos l i (by omega), q1]
        have r2 : c[l.length - 1 - i]! = l[l.length - 1 - i]! := by
          rw [List.getElem?_eq_getElem hi2, List.getElem?_eq_getElem (by omega : l.length - 1 - i < l.length)] at q2
          simp only [Option.some.injEq] at q2
          rw [getElem!_pos c _ hi2, getElem!_pos l _ (by omega), q2]
        rw [r1, r2]
        by_cases t1 : l.length - 1 - i = t
        · subst t1
          rw [List.getElem?_set_self (by simp; omega), if_pos (by omega), show l.length - 1 - (l.length - 1 - i) = i by omega, getElem!_pos l i (by omega), List.getElem?_eq_getElem (by omega)]
        · rw [List.getElem?_set_ne t1]
          by_cases t2 : i = t
          · subst t2
            rw [List.getElem?_set_self hi, if_pos (by omega), getElem!_pos l _ (by omega), List.getElem?_eq_getElem (by omega)]
          · rw [List.getElem?_set_ne t2, hct t ht]
            by_cases t3 : t < i ∨ l.length - 1 - t < i
            · rw [if_pos t3, if_pos (by omega)]
            · rw [if_neg t3, if_neg (by omega)]
      · exact stop i h1 c hlt hc hct A1 E1
  have := key l.length 0 h l (by omega) (by omega) rfl (fun t _ => by rw [if_neg (by omega)]) (by rw [set_same hj]; exact A) (Ext.refl _ _)
  rw [hslen]
  rw [show w64 ((l.length : Int) - 1) = (l.length : Int) - 1 - ((0 : Nat) : Int) by rw [w64_of] <;> omega]
  exact this

theorem falls_ok {r : World} {h : Heap} {l1 : Sl} {l : List Int} {R : Sl → Heap → Prop} (hl1 : RI h.size h l1 l) (hll : l.length ≤ 1048576)
    (H : ∀ ps ss h', Fam h.size h' (pilesF ps ss (deal l l.length).1) → ss.length = (deal l l.length).1.length → Ext h.size h h' → R ps h') : lis_Falls r l1 h R := by
  apply lis_Falls_of
  exact dealt_ok hl1 hll fun ps back ss h' A hss E => H ps ss h' A.tail hss E

theorem longest_ok {r : World} {h : Heap} {l1 : Sl} {l : List Int} {R : Sl → Heap → Prop} (hl1 : RI h.size h l1 l) (hll : l.length ≤ 1048576)
    (H : ∀ out (p : List Nat) h', RI h'.size h' out (p.map Int.ofNat) → p.length = (deal l l.length).1.length → (p.Pairwise fun a b => a < b ∧ at_ l a < at_ l b) → (∀ a ∈ p, a < l.length) → Ext h.size h h' → R out h') : lis_Longest r l1 h R := by
  apply lis_Longest_of
  refine dealt_ok hl1 hll fun ps back ss h1 A hss E => ?_
  have I := deal_inv l l.length
  revert A hss I H
  generalize (deal l l.length).1 = P
  generalize (deal l l.length).2 = B
  intro H A hss I
  have hPl := I.len
  have ess : ps.len = P.length := by have := (A.ownI (j := 1) rfl).len; simp at this; omega
  rw [ess]
  refine ⟨fun q => ?_, fun q => ?_⟩
  · have q : P.length = 0 := by simpa using q
    exact H _ [] _ (RI.nil _ _) (by simp [q]) .nil (by simp) E
  · have q : P.length ≠ 0 := by simpa using q
    rw [show w64 ((P.length : Int) - 1) = ((P.length - 1 : Nat) : Int) by rw [w64_of] <;> omega]
    have Op := A.ownI (j := 1) rfl
    have hk : P.length - 1 < ss.length := by omega
    have s1 : ss[P.length - 1]? = some ss[P.length - 1] := List.getElem?_eq_getElem hk
    have p1 : P[P.length - 1]? = some P[P.length - 1] := List.getElem?_eq_getElem (by omega)
    have pD : P.getD (P.length - 1) [] = P[P.length - 1] := by rw [List.getD_eq_getElem?_getD, p1]; rfl
    refine Ix.own Op (by omega) (by simp; omega) fun bp hbp => ⟨ss[P.length - 1], Op.cell hbp (by simp [s1]), ?_⟩
    have Or := A.ownI (j := P.length - 1 + 2) (rowsF_at (e := nV) s1 p1)
    have hne := I.full (P.length - 1) (by omega)
    rw [pD] at hne
    have hne0 := List.length_pos_iff.2 hne
    refine Ix.own Or (i := 0) (by omega) (by simp; omega) fun bq hbq => ?_
    obtain ⟨c0, hc0⟩ : ∃ c0, P[P.length - 1][0]? = some c0 := ⟨_, List.getElem?_eq_getElem hne0⟩
    refine ⟨(c0 : Int), Or.cell hbq (by simp [hc0]), ?_⟩
    have hm0 : c0 ∈ P.getD (P.length - 1) [] := by rw [pD]; exact List.mem_of_getElem? hc0
    intro X HX
    -- the way down
    have key : ∀ (k : Nat) (c : Nat) (out : Sl) (O : List Nat) (h2 : Heap), k < P.length → c ∈ P.getD k [] → O.length + k + 1 = P.length → (O.Pairwise fun a b => b < a ∧ at_ l b < at_ l a) → (∀ a ∈ O, c < a ∧ at_ l c < at_ l a ∧ a < l.length) →
        Fam h.size h2 ((1, out, O.map nV) :: (1, back, B.map iV) :: pilesF ps ss P) → Ext h.size h h2 → X out (c : Int) h2 := by
      intro k
      induction k with
      | zero =>
        intro c out O h2 hk hc hO hp ha A2 E2
        refine HX _ _ _ ⟨fun _ => ?_, fun q => absurd (of_decide_eq_false q) (by omega)⟩
        have hcl := I.small 0 c hc
        refine Fam.push (j := 0) (v := nV c) A2 rfl rfl rfl E2.1 (by simp; omega) fun s26 h4 A4 E4 => ?_
        have E4 := E2.trans E4
        have A4 : Fam h.size h4 ((1, s26, O.map nV ++ [nV c]) :: (1, back, B.map iV) :: pilesF ps ss P) := A4
        have hb := I.back 0 c hc
        rw [if_pos rfl] at hb
        have Ob := A4.ownI (j := 1) rfl
        have hcB : c < B.length := (List.getElem?_eq_some_iff.1 hb).1
        refine Ix.own Ob (by omega) (by rw [List.length_map]; omega) fun b hb2 => ⟨-1, Ob.cell hb2 (by simp [hb]), ?_⟩
        refine HX _ _ _ ⟨fun q => by simp at q, fun _ => ?_⟩
        refine reverse_ok (j := 0) (l := (O ++ [c]).map Int.ofNat) A4 (by simp [nV]) (by simp; omega) fun h5 A5 E5 => ?_
        have O5 := (A5.ownI (j := 0) rfl)
        refine H s26 ((O ++ [c]).reverse) h5 ?_ (by simp; omega) ?_ ?_ (E4.trans E5)
        · have := O5.rs
          rwa [← List.map_reverse] at this
        · rw [List.pairwise_reverse]
          exact List.pairwise_append.2 ⟨hp, by simp, fun a ha' b hb' => by obtain rfl : b = c := by simpa using hb'
                                                                           exact ⟨(ha a ha').1, (ha a ha').2.1⟩⟩
        · intro a ha'
          simp at ha'
          rcases ha' with rfl | ha'
          · exact hcl
          · exact (ha a ha').2.2
      | succ k ih =>
        intro c out O h2 hk hc hO hp ha A2 E2
        refine HX _ _ _ ⟨fun _ => ?_, fun q => absurd (of_decide_eq_false q) (by omega)⟩
        have hcl := I.small (k + 1) c hc
        refine Fam.push (j := 0) (v := nV c) A2 rfl rfl rfl E2.1 (by simp; omega) fun s26 h4 A4 E4 => ?_
        have E4 := E2.trans E4
        have A4 : Fam h.size h4 ((1, s26, O.map nV ++ [nV c]) :: (1, back, B.map iV) :: pilesF ps ss P) := A4
        have hb := I.back (k + 1) c hc
        rw [if_neg (by omega)] at hb
        obtain ⟨c', hb, hc1, hc2, hc3⟩ := hb
        have Ob := A4.ownI (j := 1) rfl
        have hcB : c < B.length := (List.getElem?_eq_some_iff.1 hb).1
        refine Ix.own Ob (by omega) (by rw [List.length_map]; omega) fun b hb2 => ⟨(c' : Int), Ob.cell hb2 (by simp [hb]), ?_⟩
        refine ih c' s26 (O ++ [c]) h4 (by omega) (by simpa using hc1) (by simp; omega) ?_ ?_ ?_ E4
        · exact List.pairwise_append.2 ⟨hp, by simp, fun a ha' b hb' => by obtain rfl : b = c := by simpa using hb'
                                                                           exact ⟨(ha a ha').1, (ha a ha').2.1⟩⟩
        · intro a ha'
          rcases List.mem_append.1 ha' with ha' | ha'
          · have := ha a ha'; omega
          · obtain rfl : a = c := by simpa using ha'
            exact ⟨hc2, hc3, hcl⟩
        · simpa using A4
    exact key (P.length - 1) c0 Sl.nil [] h1 (by omega) hm0 (by simp; omega) .nil (by simp) (A.empty 1) E
end Go.Proofs.Ythjfnfhgnbmgcaa
