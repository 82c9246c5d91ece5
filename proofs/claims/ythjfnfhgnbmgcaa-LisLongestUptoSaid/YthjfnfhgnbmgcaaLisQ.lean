/- Dealing on piles: 'dealt'. -/
import Derived.Test.YthjfnfhgnbmgcaaLisP
namespace Go.Proofs.Ythjfnfhgnbmgcaa
open Go Go.RowKit Go.Tw Go.Lis
set_option linter.unusedVariables false

/-- rows of one's own behind the slice that holds them -/
abbrev pilesF (ps : Sl) (ss : List Sl) (P : List (List Nat)) : List (Nat × Sl × List Value) := (1, ps, ss.map Sl.v) :: rowsF nV ss P

theorem push_own {N : Nat} {h : Heap} (hN : N ≤ h.size) {el : TypeId} {v : Value} {F : List (Nat × Sl × List Value)} (A : Fam N h F) : Fam N (h.push (.cells #[v] el)) ((1, ⟨some (ad h.size 0), 1, 1⟩, [v]) :: F) :=
  A.new (vs := [v]) hN rfl

/-- append(s, v) to one of one's own -/
theorem Fam.push {N j by' : Nat} {h : Heap} {F : List (Nat × Sl × List Value)} {s : Sl} {vs : List Value} {v z : Value} {el : TypeId} {K : Sl → Heap → Prop} (A : Fam N h F) (hj : F[j]? = some (1, s, vs)) (hz : z.cells.size = 1) (h1 : one v = true) (hN : N ≤ h.size)
    (hb : (vs.length + 1) * by' ≤ 140737488355328) (hK : ∀ s' h', Fam N h' (F.set j (1, s', vs ++ [v])) → Ext N h h' → K s' h') : New h (.cells #[v] el) fun p h' => App el 1 by' z s ⟨some p, 1, 1⟩ h' K := by
  have O := A.ownI hj
  refine App.push (cs := [v]) O rfl hz (by simpa using h1) hN (by have := O.len; rwa [show s.len = vs.length by omega]) fun s' h' G => ?_
  exact hK s' h' (A.grownI hj G) G.ext
/-- the same, the box in hand -/
theorem Fam.app {N j by' : Nat} {h : Heap} {F : List (Nat × Sl × List Value)} {s : Sl} {vs : List Value} {v z : Value} {el : TypeId} {b : Nat} {K : Sl → Heap → Prop} (A : Fam N h F) (hj : F[j]? = some (1, s, vs)) (hz : z.cells.size = 1) (h1 : one v = true) (hN : N ≤ h.size)
    (hb : (vs.length + 1) * by' ≤ 140737488355328) (hv : hcell h (ad b 0) = some v) (hK : ∀ s' h', Fam N h' (F.set j (1, s', vs ++ [v])) → Ext N h h' → K s' h') : App el 1 by' z s ⟨some (ad b 0), 1, 1⟩ h K := by
  have O := A.ownI hj
  refine App.own (ys := [v]) (m := b + 1) O ⟨rfl, Nat.le_refl _, .inr ⟨b, 0, rfl, by omega, fun i hi => ?_⟩⟩ hz (by simpa using h1) hN (by have := O.len; rwa [show s.len = vs.length by omega]) fun s' h' G => hK s' h' (A.grownI hj G) G.ext
  obtain rfl : i = 0 := by simpa using hi
  simpa using hv

/-- a store into one of one's own -/
theorem St.one' {N b o : Nat} {h : Heap} {s : Sl} {vs : List Value} {v : Value} {K : Heap → Prop} (O : Own N 1 h s vs) (hs : s.a = some (ad b 0)) (ho : o < vs.length) (hK : K (hset h (ad b o) v)) : St h (ad b o) 1 [v] K := by
  obtain ⟨tl, hB⟩ := O.blk hs
  exact St.one hB (by simp; omega) hK

section
variable {r : World} {N b2 b5 : Nat} {l1 ps : Sl} {l : List Int} {ss : List Sl} {P : List (List Nat)}

/-- the function that is handed to the search -/
theorem probe_ok {h : Heap} {b21 : Nat} {x : Int} {F : List (Nat × Sl × List Value)} {K : Value → Heap → Prop} (A : Fam N h F) (hl1 : RI N h l1 l) (hN : N ≤ h.size) (hll : l.length ≤ 4611686018427387904)
    (m2 : hcell h (ad b2 0) = some (Sl.v l1)) (m5 : hcell h (ad b5 0) = some (Sl.v ps)) (m21 : hcell h (ad b21 0) = some (iV x))
    (mp : (1, ps, ss.map Sl.v) ∈ F) (mr : ∀ y ∈ rowsF nV ss P, y ∈ F) (hss : ss.length = P.length) (I : ∀ q, q < P.length → P.getD q [] ≠ []) (Il : ∀ q a, a ∈ P.getD q [] → a < l.length) (Ilen : ∀ q, (P.getD q []).length ≤ l.length)
    {k : Nat} (hk : k < P.length) (H : K (.bool (decide (x ≤ at_ l (last (P.getD k []))))) h) :
    CallV Try.prog r (.func (.func 37) #[] #[(.pointer (some (ad b5 0))), (.pointer (some (ad b2 0))), (.pointer (some (ad b21 0)))]) [.int .i64 k] h K := by
  refine .inl ⟨_, _, _, rfl, Try.call37, ?_⟩
  have key : lis_dealt_1 r (k : Int) (ad b5 0) (ad b2 0) (ad b21 0) h fun y h' => K (.bool y) h' := by
    apply lis_dealt_1_of
    have Op := A.own _ mp
    have hks : k < ss.length := by omega
    have e1 : ss[k]? = some ss[k] := List.getElem?_eq_getElem hks
    have e2 : P[k]? = some P[k] := List.getElem?_eq_getElem hk
    have eD : P.getD k [] = P[k] := by rw [List.getD_eq_getElem?_getD, e2]; rfl
    have Or := A.own _ (mr _ (List.mem_of_getElem? (rowsF_at e1 e2)))
    refine ⟨_, m5, Ix.own Op (by omega) (by simp; omega) fun b hb => ⟨ss[k], Op.cell hb (by simp [e1]), _, m2, ?_⟩⟩
    have hne := I k hk
    have hlen := Ilen k
    have hmem := last_mem hne
    rw [eD] at hne hlen hmem
    refine top_ok Or hne (by omega) ?_
    have hlt := Il k (last P[k]) (by rw [eD]; exact hmem)
    refine RI.ix hl1 (by omega) (by omega) fun p _ hp => ⟨_, hp, _, m21, ?_⟩
    rw [eD] at H
    exact H
  refine CallsH.mono key fun v h' ⟨y, hv, hR⟩ => ?_
  rw [hv]; exact hR

theorem dealt_ok {h : Heap} {R : Sl → Sl → Heap → Prop} (hl1 : RI h.size h l1 l) (hll : l.length ≤ 1048576)
    (H : ∀ ps back ss h', Fam h.size h' ((1, back, (deal l l.length).2.map iV) :: pilesF ps ss (deal l l.length).1) → ss.length = (deal l l.length).1.length → Ext h.size h h' → R ps back h') : lis_dealt r l1 h R := by
  apply lis_dealt_of
  intro p2 h1 hp2 hh1 p5 h2 hp5 hh2
  subst hp2; subst hh1; subst hp5; subst hh2
  have A0 := push_own (N := h.size) (el := 22) (v := Sl.v l1) (Nat.le_refl _) (Fam.none h.size h)
  have A1 := push_own (N := h.size) (el := 24) (v := Sl.v Sl.nil) (by simp) A0
  have E0 : Ext h.size h ((h.push (.cells #[Sl.v l1] 22)).push (.cells #[Sl.v Sl.nil] 24)) := (Ext.push (Nat.le_refl _)).trans (Ext.push (by simp))
  have hz1 : (h.push (.cells #[Sl.v l1] 22)).size = h.size + 1 := by simp
  have m2 := (A1.ownI (j := 1) rfl).cell (o := 0) rfl rfl
  generalize hb5 : (h.push (.cells #[Sl.v l1] 22)).size = b5 at A1 ⊢
  generalize (h.push (.cells #[Sl.v l1] 22)).push (.cells #[Sl.v Sl.nil] 24) = h2 at A1 E0 m2 ⊢
  refine ⟨_, m2, ?_⟩
  intro X HX
  have hlen := hl1.len
  have key : ∀ d (i : Nat) (back ps : Sl) (ss : List Sl) (h3 : Heap), i + d = l.length → Fam h.size h3 ((1, ⟨some (ad b5 0), 1, 1⟩, [Sl.v ps]) :: (1, ⟨some (ad h.size 0), 1, 1⟩, [Sl.v l1]) :: (1, back, (deal l i).2.map iV) :: pilesF ps ss (deal l i).1) →
      ss.length = (deal l i).1.length → Ext h.size h h3 → X back (i : Int) h3 := by
    intro d
    induction d with
    | zero =>
      intro i back ps ss h3 hi A hss E
      obtain rfl : i = l.length := by omega
      refine HX _ _ _ ⟨fun q => by simp at q; omega, fun _ => ?_⟩
      have m5 := (A.ownI (j := 0) rfl).cell (o := 0) rfl rfl
      refine ⟨ps, m5, St.one' (A.ownI (j := 0) rfl) rfl (by simp) ⟨ps, ?_, ?_⟩⟩
      · exact ((A.setI (j := 0) (o := 0) (v := Sl.v ps) rfl rfl (by simp)).ownI (j := 0) rfl).cell (o := 0) rfl rfl
      · exact H _ _ ss _ (A.setI (j := 0) (o := 0) (v := Sl.v ps) rfl rfl (by simp)).tail.tail hss (E.trans (Ext.set ((A.ownI (j := 0) rfl).lt' rfl).2))
    | succ d ih =>
      intro i back ps ss h3 hi A hss E
      have I := deal_inv l i
      have ed : deal l (i + 1) = (put i (pos l (at_ l i) (deal l i).1) (deal l i).1, (deal l i).2 ++ [below (deal l i).1 (pos l (at_ l i) (deal l i).1)]) := rfl
      have hk := pos_le l (at_ l i) (deal l i).1
      have hless := pos_less l (at_ l i) (deal l i).1
      have hstop := pos_stop l (at_ l i) (deal l i).1
      have step := fun back ps ss h3 => ih (i + 1) back ps ss h3 (by omega)
      rw [ed] at step
      clear ih ed
      revert I hk hless hstop A hss step
      generalize pos l (at_ l i) (deal l i).1 = k
      generalize (deal l i).1 = P
      generalize (deal l i).2 = B
      intro A hss I hk hless hstop step
      have hil : i < l.length := by omega
      refine HX _ _ _ ⟨fun _ => ?_, fun q => by simp at q; omega⟩
      refine RI.ix (hl1.ext E (Nat.le_refl _)) (by omega) (by omega) fun p _ hp => ⟨_, hp, ?_⟩
      simp only [Int.toNat_natCast]
      intro p21 h4 hp21 hh4
      subst hp21; subst hh4
      have A4 := push_own (el := 3) (v := iV 0) E.1 A
      have E4 := E.trans (Ext.push (x := .cells #[iV 0] 3) E.1)
      generalize h3.size = b21 at A4 ⊢
      generalize h3.push (.cells #[iV 0] 3) = h4 at A4 E4 ⊢
      refine St.one' (A4.ownI (j := 0) rfl) rfl (by simp) ?_
      have A5 : Fam h.size (hset h4 (ad b21 0) (iV (l[i]!))) ((1, ⟨some (ad b21 0), 1, 1⟩, [iV (l[i]!)]) :: (1, ⟨some (ad b5 0), 1, 1⟩, [Sl.v ps]) :: (1, ⟨some (ad h.size 0), 1, 1⟩, [Sl.v l1]) :: (1, back, B.map iV) :: pilesF ps ss P) := A4.setI (j := 0) (o := 0) (v := iV (l[i]!)) rfl rfl (by simp)
      have E5 := E4.trans (Ext.set (n := h.size) (a := ad b21 0) (v := iV (l[i]!)) ((A4.ownI (j := 0) rfl).lt' rfl).2)
      generalize hset h4 (ad b21 0) (iV (l[i]!)) = h5 at A5 E5 ⊢
      have m5 : hcell h5 (ad b5 0) = some (Sl.v ps) := (A5.ownI (j := 1) rfl).cell (o := 0) rfl rfl
      have m2 : hcell h5 (ad h.size 0) = some (Sl.v l1) := (A5.ownI (j := 2) rfl).cell (o := 0) rfl rfl
      have m21 : hcell h5 (ad b21 0) = some (iV (l[i]!)) := (A5.ownI (j := 0) rfl).cell (o := 0) rfl rfl
      have hx0 : at_ l i = l[i]! := rfl
      have hPi := I.len
      have hB := I.blen
      have ess : ps.len = P.length := by
        have := (A5.ownI (j := 4) rfl).len
        simp at this; omega
      refine ⟨ps, m5, ?_⟩
      dsimp only
      rw [ess]
      refine search_ok (fun q => decide (l[i]! ≤ at_ l (last (P.getD q [])))) (by omega) (fun q hq K HK => probe_ok A5 (hl1.ext E5 (Nat.le_refl _)) E5.1 (by omega) m2 m5 m21 (by simp) (fun y hy => by simp [hy]) hss I.full (fun q a ha => by have := I.small q a ha; omega) (fun q => by have := I.one q; omega) hq HK)
        hk (fun j hj => decide_eq_false (by have := hless j hj; omega)) (fun j h1 h2 => decide_eq_true ?_) ?_
      · by_cases e : j = k
        · subst e; exact hstop h2
        · have := I.tops k j (by omega) h2; have := hstop (by omega); omega
      refine ⟨ps, m5, ?_⟩
      intro J31 HJ31
      have J : ∀ (ps1 : Sl) (ss1 : List Sl) (P1 : List (List Nat)) (h7 : Heap), Fam h.size h7 ((1, ⟨some (ad b21 0), 1, 1⟩, [iV (l[i]!)]) :: (1, ⟨some (ad b5 0), 1, 1⟩, [Sl.v ps1]) :: (1, ⟨some (ad h.size 0), 1, 1⟩, [Sl.v l1]) :: (1, back, B.map iV) :: pilesF ps1 ss1 P1) →
          ss1.length = P1.length → k < P1.length → (∀ q, q < k → P1.getD q [] = P.getD q []) → P1.set k (P1.getD k [] ++ [i]) = put i k P → (P1.getD k []).length ≤ i → Ext h.size h h7 → J31 h7 := by
        intro ps1 ss1 P1 h7 A7 hss1 hk1 hq1 hput hone E7
        refine HJ31 _ ?_
        intro J34 HJ34
        have hks : k < ss1.length := by omega
        have s1 : ss1[k]? = some ss1[k] := List.getElem?_eq_getElem hks
        have p1 : P1[k]? = some P1[k] := List.getElem?_eq_getElem hk1
        have pD : P1.getD k [] = P1[k] := by rw [List.getD_eq_getElem?_getD, p1]; rfl
        have J2 : ∀ vb, vb = below P k → J34 vb := by
          intro vb hvb
          refine HJ34 _ ?_
          refine Fam.push (j := 3) A7 rfl rfl rfl E7.1 (by simp; omega) fun s39 h9 A9 E9 => ?_
          have A9 : Fam h.size h9 ((1, ⟨some (ad b21 0), 1, 1⟩, [iV (l[i]!)]) :: (1, ⟨some (ad b5 0), 1, 1⟩, [Sl.v ps1]) :: (1, ⟨some (ad h.size 0), 1, 1⟩, [Sl.v l1]) :: (1, s39, B.map iV ++ [iV vb]) :: pilesF ps1 ss1 P1) := A9
          have E9 := E7.trans E9
          have n5 : hcell h9 (ad b5 0) = some (Sl.v ps1) := (A9.ownI (j := 1) rfl).cell (o := 0) rfl rfl
          refine ⟨ps1, n5, ps1, n5, ?_⟩
          have Op := A9.ownI (j := 4) rfl
          refine Ix.own Op (by omega) (by simp; omega) fun bp hbp => ⟨ss1[k], Op.cell hbp (by simp [s1]), ?_⟩
          intro p52 h10 hp52 hh10
          subst hp52; subst hh10
          have A10 := push_own (el := 3) (v := iV (i : Int)) E9.1 A9
          have E10 := E9.trans (Ext.push (x := .cells #[iV (i : Int)] 3) E9.1)
          generalize h9.size = b52 at A10 ⊢
          generalize h9.push (.cells #[iV (i : Int)] 3) = h10 at A10 E10 ⊢
          have o5 : hcell h10 (ad b5 0) = some (Sl.v ps1) := (A10.ownI (j := 2) rfl).cell (o := 0) rfl rfl
          refine ⟨(A10.ownI (j := 5) rfl).cell hbp (by simp [s1]), o5, o5, ?_⟩
          refine Fam.app (j := k + 6) (vs := P1[k].map nV) A10 (rowsF_at s1 p1) rfl rfl E10.1 (by rw [pD] at hone; simp; omega) ((A10.ownI (j := 0) rfl).cell (o := 0) rfl rfl) fun s58 h11 A11 E11 => ?_
          have E11 := E10.trans E11
          have A11 : Fam h.size h11 ((1, ⟨some (ad b52 0), 1, 1⟩, [iV (i : Int)]) :: (1, ⟨some (ad b21 0), 1, 1⟩, [iV (l[i]!)]) :: (1, ⟨some (ad b5 0), 1, 1⟩, [Sl.v ps1]) :: (1, ⟨some (ad h.size 0), 1, 1⟩, [Sl.v l1]) :: (1, s39, B.map iV ++ [iV vb]) :: (1, ps1, ss1.map Sl.v) :: (rowsF nV ss1 P1).set k (1, s58, P1[k].map nV ++ [iV (i : Int)])) := A11
          rw [show P1[k].map nV ++ [iV (i : Int)] = (P1[k] ++ [i]).map nV by simp, rowsF_set, ← pD, hput] at A11
          refine ⟨(A11.ownI (j := 2) rfl).cell (o := 0) rfl rfl, Ix.own (A11.ownI (j := 5) rfl) (by omega) (by simp; omega) fun b hb => ?_⟩
          refine St.one' (A11.ownI (j := 5) rfl) hb (by simp; omega) ?_
          have A12 := A11.setI (j := 5) (o := k) (v := Sl.v s58) rfl hb (by simp; omega)
          have E12 := E11.trans (Ext.set (n := h.size) (a := ad b k) (v := Sl.v s58) ((A11.ownI (j := 5) rfl).lt' hb).2)
          rw [← List.map_set] at A12
          rw [show w64 ((i : Int) + 1) = ((i + 1 : Nat) : Int) by rw [w64_of] <;> omega]
          refine step s39 ps1 (ss1.set k s58) _ ?_ ?_ E12
          · rw [← hvb, List.map_append]
            exact A12.tail.tail
          · rw [← hput]; simpa using hss1
        refine ⟨fun q => ?_, fun q => ?_⟩
        · have q : 0 < k := by simp at q; omega
          have n5 : hcell h7 (ad b5 0) = some (Sl.v ps1) := (A7.ownI (j := 1) rfl).cell (o := 0) rfl rfl
          have hks' : k - 1 < ss1.length := by omega
          have s1' : ss1[k - 1]? = some ss1[k - 1] := List.getElem?_eq_getElem hks'
          have p1' : P1[k - 1]? = some P1[k - 1] := List.getElem?_eq_getElem (by omega)
          have pD' : P1.getD (k - 1) [] = P1[k - 1] := by rw [List.getD_eq_getElem?_getD, p1']; rfl
          have Op := A7.ownI (j := 4) rfl
          refine ⟨ps1, n5, ?_⟩
          dsimp only
          rw [show w64 ((k : Int) - 1) = ((k - 1 : Nat) : Int) by rw [w64_of] <;> omega]
          refine Ix.own Op (by omega) (by simp; omega) fun bp hbp => ⟨ss1[k - 1], Op.cell hbp (by simp [s1']), ?_⟩
          have hne := I.full (k - 1) (by omega)
          have hol := I.one (k - 1)
          rw [← hq1 (k - 1) (by omega), pD'] at hne hol
          refine top_ok (A7.own _ (List.mem_of_getElem? (i := k - 1 + 5) (rowsF_at s1' p1'))) hne (by omega) ?_
          refine J2 _ ?_
          unfold below
          rw [if_neg (by omega), ← hq1 (k - 1) (by omega), pD']
        · have q : k = 0 := by simp at q; omega
          refine J2 _ ?_
          unfold below; rw [if_pos q]
      refine ⟨fun q => ?_, fun q => ?_⟩
      · have q : k = P.length := by rw [ess] at q; simp at q; omega
        refine ⟨ps, m5, ?_⟩
        refine Fam.push (j := 4) (v := Sl.v Sl.nil) A5 rfl rfl rfl E5.1 (by simp; omega) fun s92 h14 A14 E14 => ?_
        have A14 : Fam h.size h14 ((1, ⟨some (ad b21 0), 1, 1⟩, [iV (l[i]!)]) :: (1, ⟨some (ad b5 0), 1, 1⟩, [Sl.v ps]) :: (1, ⟨some (ad h.size 0), 1, 1⟩, [Sl.v l1]) :: (1, back, B.map iV) :: (1, s92, ss.map Sl.v ++ [Sl.v Sl.nil]) :: rowsF nV ss P) := A14
        have E14 := E5.trans E14
        refine St.one' (A14.ownI (j := 1) rfl) rfl (by simp) ?_
        have A15 := A14.setI (j := 1) (o := 0) (v := Sl.v s92) rfl rfl (by simp)
        have E15 := E14.trans (Ext.set (n := h.size) (a := ad b5 0) (v := Sl.v s92) ((A14.ownI (j := 1) rfl).lt' rfl).2)
        refine J s92 (ss ++ [Sl.nil]) (P ++ [[]]) _ ?_ (by simp [hss]) (by simp; omega) (fun q' h' => ?_) ?_ ?_ E15
        · have A16 := A15.empty 1
          rw [pilesF, rowsF_snoc hss, List.map_append]
          refine A16.perm ?_
          exact (List.perm_append_comm (l₁ := [_]) (l₂ := _))
        · simp only [List.getD_eq_getElem?_getD]; rw [List.getElem?_append_left (by omega)]
        · rw [q, put_new]; simp
        · rw [q]; simp
      · have q : k < P.length := by rw [ess] at q; simp at q; omega
        exact J ps ss P h5 A5 hss q (fun _ _ => rfl) (put_set i k P q).symm (I.one k) E5
  exact key l.length 0 Sl.nil Sl.nil [] h2 (by omega) (((A1.empty 1).empty 1).perm ((List.perm_append_comm (l₁ := [_, _]) (l₂ := [_, _])))) rfl E0
end
end Go.Proofs.Ythjfnfhgnbmgcaa
