/- Dealing on piles: 'Piles', the reference, the laws 'LisLongest', 'LisPiles'. -/
import Derived.Test.YthjfnfhgnbmgcaaLisS
namespace Go.Proofs.Ythjfnfhgnbmgcaa
open Go Go.RowKit Go.Tw Go.Lis
set_option linter.unusedVariables false

/-- the numbers on the piles -/
abbrev nums (l : List Int) (P : List (List Nat)) : List (List Int) := P.map (·.map (at_ l))

theorem rowsF_nV (ss : List Sl) (P : List (List Nat)) : rowsF nV ss P = rowsF iV ss (P.map (·.map Int.ofNat)) := by
  unfold rowsF
  rw [List.zipWith_map_right]
  simp only [List.map_map]
  rfl

section
variable {r : World} {h : Heap} {l1 : Sl} {l : List Int}

theorem piles_ok {R : Sl → Heap → Prop} (hl1 : RI h.size h l1 l) (hll : l.length ≤ 1048576)
    (H : ∀ ps ss h', Fam h.size h' ((1, ps, ss.map Sl.v) :: rowsF iV ss (nums l (deal l l.length).1)) → ss.length = (deal l l.length).1.length → Ext h.size h h' → R ps h') : lis_Piles r l1 h R := by
  apply lis_Piles_of
  refine dealt_ok hl1 hll fun ps back ss h1 A hss E => ?_
  have A := A.tail
  have I := deal_inv l l.length
  revert A hss I H
  generalize (deal l l.length).1 = P
  generalize (deal l l.length).2 = B
  intro H hss A I
  have hPl := I.len
  have ess : ps.len = P.length := by have := (A.ownI (j := 0) rfl).len; simp at this; omega
  intro X HX
  -- the piles ahead are turned, the others not yet
  let Q : Nat → List (List Int) := fun i => nums l (P.take i) ++ (P.drop i).map (·.map Int.ofNat)
  have hQl : ∀ i, (Q i).length = P.length := fun i => by simp [Q]; omega
  have hQs : ∀ i (p : List Nat), P[i]? = some p → (Q i)[i]? = some (p.map Int.ofNat) ∧ (Q i).set i (p.map (at_ l)) = Q (i + 1) := by
    intro i p hp
    have hi := (List.getElem?_eq_some_iff.1 hp).1
    have hd : P.drop i = p :: P.drop (i + 1) := by rw [List.drop_eq_getElem_cons hi, (List.getElem?_eq_some_iff.1 hp).2]
    have hln : (nums l (P.take i)).length = i := by simp; omega
    have ht : P.take (i + 1) = P.take i ++ [p] := by rw [List.take_add_one, hp]; rfl
    constructor
    · show (nums l (P.take i) ++ (P.drop i).map (·.map Int.ofNat))[i]? = _
      rw [List.getElem?_append_right (by omega), hln, hd]; simp
    · show (nums l (P.take i) ++ (P.drop i).map (·.map Int.ofNat)).set i _ = nums l (P.take (i + 1)) ++ _
      rw [List.set_append_right _ _ (by omega), hln, hd, ht]
      simp [nums]
  have outer : ∀ d (i : Nat) (h2 : Heap), i + d = P.length → Fam h.size h2 ((1, ps, ss.map Sl.v) :: rowsF iV ss (Q i)) → Ext h.size h h2 → X (i : Int) h2 := by
    intro d
    induction d with
    | zero =>
      intro i h2 hi A2 E2
      obtain rfl : i = P.length := by omega
      refine HX _ _ ⟨fun q => absurd (of_decide_eq_true q) (by omega), fun _ => H ps ss h2 ?_ hss E2⟩
      have : Q P.length = nums l P := by
        show nums l (P.take P.length) ++ (P.drop P.length).map (·.map Int.ofNat) = _
        rw [List.take_length, List.drop_length, List.map_nil, List.append_nil]
      rwa [this] at A2
    | succ d ih =>
      intro i h2 hi A2 E2
      have hiP : i < P.length := by omega
      refine HX _ _ ⟨fun _ => ?_, fun q => absurd (of_decide_eq_false q) (by omega)⟩
      have s1 : ss[i]? = some ss[i] := List.getElem?_eq_getElem (by omega)
      have p1 : P[i]? = some P[i] := List.getElem?_eq_getElem hiP
      have pD : P.getD i [] = P[i] := by rw [List.getD_eq_getElem?_getD, p1]; rfl
      obtain ⟨q1, q2⟩ := hQs i P[i] p1
      have Op := A2.ownI (j := 0) rfl
      refine Ix.own Op (by omega) (by simp; omega) fun bp hbp => ⟨ss[i], Op.cell hbp (by simp [s1]), ?_⟩
      have hsl : ss[i].len = P[i].length := by
        have := (A2.ownI (j := i + 1) (rowsF_at (e := iV) s1 q1)).len
        simpa using this
      have hfull := I.full i hiP
      rw [pD] at hfull
      have hone := I.one i
      rw [pD] at hone
      obtain ⟨b, hb⟩ := (A2.ownI (j := i + 1) (rowsF_at (e := iV) s1 q1)).ex (by simpa using hfull)
      intro X15 HX15
      have inner : ∀ d (k : Nat) (h3 : Heap), k + d = P[i].length → Fam h.size h3 ((1, ps, ss.map Sl.v) :: rowsF iV ss ((Q i).set i ((P[i].take k).map (at_ l) ++ (P[i].drop k).map Int.ofNat))) → Ext h.size h h3 → X15 (k : Int) h3 := by
        intro d
        induction d with
        | zero =>
          intro k h3 hk A3 E3
          obtain rfl : k = P[i].length := by omega
          refine HX15 _ _ ⟨fun q => absurd (of_decide_eq_true q) (by omega), fun _ => ?_⟩
          rw [show w64 ((i : Int) + 1) = ((i + 1 : Nat) : Int) by rw [w64_of] <;> omega]
          rw [List.take_length, List.drop_length, List.map_nil, List.append_nil, q2] at A3
          exact ih (i + 1) h3 (by omega) A3 E3
        | succ d ih2 =>
          intro k h3 hk A3 E3
          have hkl : k < P[i].length := by omega
          refine HX15 _ _ ⟨fun _ => ?_, fun q => absurd (of_decide_eq_false q) (by omega)⟩
          have hg : ((Q i).set i ((P[i].take k).map (at_ l) ++ (P[i].drop k).map Int.ofNat))[i]? = some ((P[i].take k).map (at_ l) ++ (P[i].drop k).map Int.ofNat) := List.getElem?_set_self (by rw [hQl]; exact hiP)
          have hr := rowsF_at (e := iV) s1 hg
          have Or := A3.ownI (j := i + 1) hr
          have hc : (((P[i].take k).map (at_ l) ++ (P[i].drop k).map Int.ofNat).map iV)[k]? = some (nV P[i][k]) := by
            rw [List.getElem?_map, List.getElem?_append_right (by simp; omega), List.length_map, List.length_take, Nat.min_eq_left (by omega), Nat.sub_self, List.drop_eq_getElem_cons hkl]; rfl
          have hcl : k < (((P[i].take k).map (at_ l) ++ (P[i].drop k).map Int.ofNat).map iV).length := (List.getElem?_eq_some_iff.1 hc).1
          have hal : P[i][k] < l.length := I.small i _ (by rw [pD]; exact List.getElem_mem hkl)
          refine Ix.own Or (by omega) (by omega) fun b1 hb1 => ⟨_, Or.cell hb1 hc, ?_⟩
          refine RI.ix (hl1.ext E3 (Nat.le_refl _)) (by omega) (by omega) fun p _ hp => ⟨_, hp, ?_⟩
          refine Ix.own Or (by omega) (by omega) fun b2 hb2 => ?_
          rw [hb] at hb2; cases hb2
          refine St.one' Or hb (by rw [Int.toNat_natCast]; exact hcl) ?_
          simp only [Int.toNat_natCast]
          have A4 := A3.setI (j := i + 1) (o := k) (v := iV (at_ l P[i][k])) hr hb hcl
          rw [show w64 ((k : Int) + 1) = ((k + 1 : Nat) : Int) by rw [w64_of] <;> omega]
          refine ih2 (k + 1) _ (by omega) ?_ (E3.trans (Ext.set (Or.lt' hb).2))
          have A4 : Fam h.size (hset h3 (ad b k) (iV (at_ l P[i][k]))) ((1, ps, ss.map Sl.v) :: (rowsF iV ss ((Q i).set i ((P[i].take k).map (at_ l) ++ (P[i].drop k).map Int.ofNat))).set i (1, ss[i], (((P[i].take k).map (at_ l) ++ (P[i].drop k).map Int.ofNat).map iV).set k (iV (at_ l P[i][k])))) := A4
          rw [← List.map_set, rowsF_set, List.set_set] at A4
          have es : ss.set i ss[i] = ss := set_same s1
          have el : ((P[i].take k).map (at_ l) ++ (P[i].drop k).map Int.ofNat).set k (at_ l P[i][k]) = (P[i].take (k + 1)).map (at_ l) ++ (P[i].drop (k + 1)).map Int.ofNat := by
            rw [List.set_append_right _ _ (by rw [List.length_map, List.length_take]; omega), List.length_map, List.length_take, Nat.min_eq_left (by omega), Nat.sub_self, List.drop_eq_getElem_cons hkl, List.take_add_one, List.getElem?_eq_getElem hkl]
            simp only [List.map_cons, List.set_cons_zero, Option.toList_some, List.map_append, List.map_nil, List.append_assoc, List.cons_append, List.nil_append]
          rw [es, el] at A4
          exact A4
      refine inner P[i].length 0 h2 (by omega) ?_ E2
      have e0 : (Q i).set i ((P[i].take 0).map (at_ l) ++ (P[i].drop 0).map Int.ofNat) = Q i := by simpa using set_same q1
      rw [e0]; exact A2
  refine outer P.length 0 h1 (by omega) ?_ E
  have e0 : Q 0 = P.map (·.map Int.ofNat) := by simp [Q]
  rw [e0, ← rowsF_nV]; exact A

theorem last_num {l : List Int} {p : List Nat} (h : p ≠ []) : (p.map (at_ l))[p.length - 1]? = some (at_ l (last p)) := by
  rw [List.getElem?_map, last_at h]; rfl

theorem put_nums (l : List Int) (i : Nat) : ∀ (k : Nat) (P : List (List Nat)), k < P.length → nums l (put i k P) = (nums l P).set k ((P.getD k []).map (at_ l) ++ [at_ l i])
  | k, P, h => by rw [put_set i k P h, nums, List.map_set]; simp

/-- the reference's piles -/
theorem piled_ok {R : Sl → Heap → Prop} (hl1 : RI h.size h l1 l) (hll : l.length ≤ 1048576)
    (H : ∀ ps ss h', Fam h.size h' ((1, ps, ss.map Sl.v) :: rowsF iV ss (nums l (deal l l.length).1)) → ss.length = (deal l l.length).1.length → Ext h.size h h' → R ps h') : ref1_Piled r l1 h R := by
  apply ref1_Piled_of
  intro X HX
  have hlen := hl1.len
  have key : ∀ d (i : Nat) (ps : Sl) (ss : List Sl) (h3 : Heap), i + d = l.length → Fam h.size h3 ((1, ps, ss.map Sl.v) :: rowsF iV ss (nums l (deal l i).1)) → ss.length = (deal l i).1.length → Ext h.size h h3 → X ps (i : Int) h3 := by
    intro d
    induction d with
    | zero =>
      intro i ps ss h3 hi A hss E
      obtain rfl : i = l.length := by omega
      exact HX _ _ _ ⟨fun q => absurd (of_decide_eq_true q) (by omega), fun _ => H ps ss h3 A hss E⟩
    | succ d ih =>
      intro i ps ss h3 hi A hss E
      have I := deal_inv l i
      have ed : (deal l (i + 1)).1 = put i (pos l (at_ l i) (deal l i).1) (deal l i).1 := rfl
      have hk := pos_le l (at_ l i) (deal l i).1
      have hless := pos_less l (at_ l i) (deal l i).1
      have hstop := pos_stop l (at_ l i) (deal l i).1
      have step := fun ps ss h3 => ih (i + 1) ps ss h3 (by omega)
      rw [ed] at step
      clear ih ed
      revert I hk hless hstop A hss step
      generalize pos l (at_ l i) (deal l i).1 = k
      generalize (deal l i).1 = P
      generalize (deal l i).2 = B
      intro A hss I hk hless hstop step
      have hil : i < l.length := by omega
      have hPi := I.len
      have ess : ps.len = P.length := by have := (A.ownI (j := 0) rfl).len; simp at this; omega
      have hnl : (nums l P).length = P.length := by simp
      refine HX _ _ _ ⟨fun _ => ?_, fun q => absurd (of_decide_eq_false q) (by omega)⟩
      have hl3 := hl1.ext E (Nat.le_refl _)
      intro X6 HX6
      -- the number is put on pile k
      have J : ∀ (ps1 : Sl) (ss1 : List Sl) (Q : List (List Int)) (h7 : Heap), Fam h.size h7 ((1, ps1, ss1.map Sl.v) :: rowsF iV ss1 Q) → ss1.length = Q.length → k < Q.length → (Q.getD k []).length ≤ i → Q.set k (Q.getD k [] ++ [at_ l i]) = nums l (put i k P) → Ext h.size h h7 →
          Ix ps1 (k : Int) 1 fun q17 => LdS h7 q17 fun x19 => Ix l1 (i : Int) 1 fun q25 => LdI h7 q25 fun x27 => New h7 (.cells #[(.int .i64 x27)] 3) fun p29 h3 => (hcell h3 q17 = some (Sl.v x19)) ∧ App 3 1 8 (.int .i64 0) x19 ((⟨some p29, 1, 1⟩ : Sl)) h3 fun s33 h4 => Ix ps1 (k : Int) 1 fun q38 => St h4 q38 1 [(Sl.v s33)] fun h5 => X ps1 (w64 ((i : Int) + 1)) h5 := by
        intro ps1 ss1 Q h7 A7 hss1 hkQ hone hput E7
        have s1 : ss1[k]? = some ss1[k] := List.getElem?_eq_getElem (by omega)
        have p1 : Q[k]? = some Q[k] := List.getElem?_eq_getElem hkQ
        have pD : Q.getD k [] = Q[k] := by rw [List.getD_eq_getElem?_getD, p1]; rfl
        have Op := A7.ownI (j := 0) rfl
        refine Ix.own Op (by omega) (by simp; omega) fun bp hbp => ⟨ss1[k], Op.cell hbp (by simp [s1]), ?_⟩
        refine RI.ix (hl1.ext E7 (Nat.le_refl _)) (by omega) (by omega) fun p _ hp => ⟨_, hp, ?_⟩
        simp only [Int.toNat_natCast]
        intro p29 h8 hp29 hh8
        subst hp29; subst hh8
        have A8 := push_own (el := 3) (v := iV (l[i]!)) E7.1 A7
        have E8 := E7.trans (Ext.push (x := .cells #[iV (l[i]!)] 3) E7.1)
        generalize h7.size = b29 at A8 ⊢
        generalize h7.push (.cells #[iV (l[i]!)] 3) = h8 at A8 E8 ⊢
        refine ⟨(A8.ownI (j := 1) rfl).cell hbp (by simp [s1]), ?_⟩
        refine Fam.app (j := k + 2) (vs := Q[k].map iV) A8 (rowsF_at s1 p1) rfl rfl E8.1 (by rw [pD] at hone; simp; omega) ((A8.ownI (j := 0) rfl).cell (o := 0) rfl rfl) fun s33 h9 A9 E9 => ?_
        have E9 := E8.trans E9
        have A9 : Fam h.size h9 ((1, ⟨some (ad b29 0), 1, 1⟩, [iV (l[i]!)]) :: (1, ps1, ss1.map Sl.v) :: (rowsF iV ss1 Q).set k (1, s33, Q[k].map iV ++ [iV (l[i]!)])) := A9
        rw [show Q[k].map iV ++ [iV (l[i]!)] = (Q[k] ++ [at_ l i]).map iV by simp, rowsF_set, ← pD, hput] at A9
        refine Ix.own (A9.ownI (j := 1) rfl) (by omega) (by simp; omega) fun b hb => ?_
        refine St.one' (A9.ownI (j := 1) rfl) hb (by simp; omega) ?_
        have A10 := A9.setI (j := 1) (o := k) (v := Sl.v s33) rfl hb (by simp; omega)
        have E10 := E9.trans (Ext.set (n := h.size) (a := ad b k) (v := Sl.v s33) ((A9.ownI (j := 1) rfl).lt' hb).2)
        rw [← List.map_set] at A10
        rw [show w64 ((i : Int) + 1) = ((i + 1 : Nat) : Int) by rw [w64_of] <;> omega]
        refine step ps1 (ss1.set k s33) _ A10.tail ?_ E10
        have := congrArg List.length hput
        simp at this; simp; omega
      have search : ∀ d (j : Nat), j + d = k → X6 (j : Int) := by
        intro d
        induction d with
        | zero =>
          intro j hj
          obtain rfl : j = k := by omega
          refine HX6 _ ?_
          intro J8 HJ8
          have go : J8 false := by
            refine HJ8 _ ⟨fun q => (by cases q), fun _ => ?_⟩
            intro J11 HJ11
            refine ⟨fun q => ?_, fun q => ?_⟩
            · have q : j = P.length := by rw [ess] at q; simp at q; omega
              refine Fam.push (j := 0) (v := Sl.v Sl.nil) A rfl rfl rfl E.1 (by simp; omega) fun s45 h14 A14 E14 => ?_
              have A14 : Fam h.size h14 ((1, s45, ss.map Sl.v ++ [Sl.v Sl.nil]) :: rowsF iV ss (nums l P)) := A14
              refine HJ11 _ _ (J s45 (ss ++ [Sl.nil]) (nums l P ++ [[]]) h14 ?_ (by simp [hss]) (by simp; omega) ?_ ?_ (E.trans E14))
              · rw [rowsF_snoc (by simp [hss]), List.map_append]
                exact (A14.empty 1).perm (List.perm_append_comm (l₁ := [_]) (l₂ := _))
              · rw [q]; simp
              · rw [q, put_new, nums, nums, List.map_set, List.map_append]; simp
            · have q : j < P.length := by rw [ess] at q; simp at q; omega
              refine HJ11 _ _ (J ps ss (nums l P) h3 A (by simp [hss]) (by simp; omega) ?_ ?_ E)
              · have := I.one j
                rw [List.getD_eq_getElem?_getD, List.getElem?_map]
                rw [List.getD_eq_getElem?_getD] at this
                rw [List.getElem?_eq_getElem q] at this ⊢
                simpa using this
              · rw [put_nums l i j P q]
                congr 2
                rw [List.getD_eq_getElem?_getD, List.getD_eq_getElem?_getD, List.getElem?_map, List.getElem?_eq_getElem q]; rfl
          refine ⟨fun q => ?_, fun _ => go⟩
          have q : j < P.length := by rw [ess] at q; simp at q; omega
          have s1 : ss[j]? = some ss[j] := List.getElem?_eq_getElem (by omega)
          have p1 : (nums l P)[j]? = some (P[j].map (at_ l)) := by rw [List.getElem?_map, List.getElem?_eq_getElem q]; rfl
          have pD : P.getD j [] = P[j] := by rw [List.getD_eq_getElem?_getD, List.getElem?_eq_getElem q]; rfl
          have hne := I.full j q
          have hone := I.one j
          have hst := hstop q
          rw [pD] at hne hone hst
          have hne0 := List.length_pos_iff.2 hne
          have Op := A.ownI (j := 0) rfl
          have Or := A.ownI (j := j + 1) (rowsF_at (e := iV) s1 p1)
          have hsl : ss[j].len = P[j].length := by simpa using Or.len
          refine Ix.own Op (by omega) (by simp; omega) fun bp hbp => ⟨ss[j], Op.cell hbp (by simp [s1]), Ix.own Op (by omega) (by simp; omega) fun bp2 hbp2 => ⟨ss[j], Op.cell hbp2 (by simp [s1]), ?_⟩⟩
          dsimp only
          rw [hsl, show w64 ((P[j].length : Int) - 1) = ((P[j].length - 1 : Nat) : Int) by rw [w64_of] <;> omega]
          refine Ix.own Or (by omega) (by simp; omega) fun b hb => ⟨at_ l (last P[j]), Or.cell hb (by rw [Int.toNat_natCast, List.getElem?_map, last_num hne]; rfl), ?_⟩
          refine RI.ix hl3 (by omega) (by omega) fun p _ hp => ⟨_, hp, ?_⟩
          simp only [Int.toNat_natCast]
          have : at_ l i = l[i]! := rfl
          rw [decide_eq_false (by omega)]; exact go
        | succ d ih2 =>
          intro j hj
          refine HX6 _ ?_
          intro J8 HJ8
          have go : J8 true := by
            refine HJ8 _ ⟨fun _ => ?_, fun q => (by cases q)⟩
            rw [show w64 ((j : Int) + 1) = ((j + 1 : Nat) : Int) by rw [w64_of] <;> omega]
            exact ih2 (j + 1) (by omega)
          have q : j < P.length := by omega
          refine ⟨fun _ => ?_, fun q' => absurd (of_decide_eq_false q') (by omega)⟩
          have s1 : ss[j]? = some ss[j] := List.getElem?_eq_getElem (by omega)
          have p1 : (nums l P)[j]? = some (P[j].map (at_ l)) := by rw [List.getElem?_map, List.getElem?_eq_getElem q]; rfl
          have pD : P.getD j [] = P[j] := by rw [List.getD_eq_getElem?_getD, List.getElem?_eq_getElem q]; rfl
          have hne := I.full j q
          have hone := I.one j
          have hst := hless j (by omega)
          rw [pD] at hne hone hst
          have hne0 := List.length_pos_iff.2 hne
          have Op := A.ownI (j := 0) rfl
          have Or := A.ownI (j := j + 1) (rowsF_at (e := iV) s1 p1)
          have hsl : ss[j].len = P[j].length := by simpa using Or.len
          refine Ix.own Op (by omega) (by simp; omega) fun bp hbp => ⟨ss[j], Op.cell hbp (by simp [s1]), Ix.own Op (by omega) (by simp; omega) fun bp2 hbp2 => ⟨ss[j], Op.cell hbp2 (by simp [s1]), ?_⟩⟩
          dsimp only
          rw [hsl, show w64 ((P[j].length : Int) - 1) = ((P[j].length - 1 : Nat) : Int) by rw [w64_of] <;> omega]
          refine Ix.own Or (by omega) (by simp; omega) fun b hb => ⟨at_ l (last P[j]), Or.cell hb (by rw [Int.toNat_natCast, List.getElem?_map, last_num hne]; rfl), ?_⟩
          refine RI.ix hl3 (by omega) (by omega) fun p _ hp => ⟨_, hp, ?_⟩
          simp only [Int.toNat_natCast]
          have : at_ l i = l[i]! := rfl
          rw [decide_eq_true (by omega)]; exact go
      exact search k 0 (by omega)
  exact key l.length 0 Sl.nil [] h (by omega) ((Fam.none h.size h).empty 1) rfl (Ext.refl _ _)
end
end Go.Proofs.Ythjfnfhgnbmgcaa
