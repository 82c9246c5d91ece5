/- Dealing on piles: the laws 'LisPiles', 'LisLongest'. -/
import Derived.Test.YthjfnfhgnbmgcaaLisT
namespace Go.Proofs.Ythjfnfhgnbmgcaa
open Go Go.RowKit Go.Tw Go.Lis
set_option linter.unusedVariables false

/-- rows of whole numbers that are read -/
def RR (n : Nat) (h : Heap) (s : Sl) (Q : List (List Int)) : Prop := ∃ ss : List Sl, ss.length = Q.length ∧ Rs n 1 h s (ss.map Sl.v) ∧ ∀ (k : Nat) (s' : Sl) (q : List Int), ss[k]? = some s' → Q[k]? = some q → RI n h s' q
theorem RR.of_fam {N : Nat} {h : Heap} {ps : Sl} {ss : List Sl} {Q : List (List Int)} (A : Fam N h ((1, ps, ss.map Sl.v) :: rowsF iV ss Q)) (hl : ss.length = Q.length) : RR h.size h ps Q :=
  ⟨ss, hl, (A.ownI (j := 0) rfl).rs, fun k s' q h1 h2 => (A.ownI (j := k + 1) (rowsF_at h1 h2)).rs⟩
theorem RR.ext {n m : Nat} {h h' : Heap} {s : Sl} {Q : List (List Int)} (H : RR n h s Q) (E : Ext m h h') (hm : n ≤ m) : RR n h' s Q := by
  obtain ⟨ss, h1, h2, h3⟩ := H
  exact ⟨ss, h1, h2.ext E hm, fun k s' q a b => (h3 k s' q a b).ext E hm⟩
theorem RR.len {n : Nat} {h : Heap} {s : Sl} {Q : List (List Int)} (H : RR n h s Q) : s.len = Q.length := by
  obtain ⟨ss, h1, h2, _⟩ := H
  have := h2.len; simp at this; omega
/-- a row of it -/
theorem RR.ix {n i : Nat} {h : Heap} {s : Sl} {Q : List (List Int)} {K : Addr → Prop} (H : RR n h s Q) (hi : i < Q.length) (hK : ∀ p s', p.block < n → hcell h p = some (Sl.v s') → RI n h s' Q[i] → K p) : Ix s (i : Int) 1 K := by
  obtain ⟨ss, h1, h2, h3⟩ := H
  have s1 : ss[i]? = some ss[i] := List.getElem?_eq_getElem (by omega)
  refine Rs.ix h2 (by omega) (by have := h2.len; simp at this; omega) (by decide) fun b o hb _ hc => hK _ ss[i] hb ?_ (h3 i _ _ s1 (List.getElem?_eq_getElem hi))
  have := hc 0 (by decide)
  simpa [s1] using this

section
variable {r : World} {h : Heap} {l1 : Sl} {l : List Int}

theorem same_Rows_ok {n n' : Nat} {a b : Sl} {P Q : List (List Int)} {R : Bool → Heap → Prop} (ha : RR n h a P) (hb : RR n' h b Q) (hl : P.length ≤ 4611686018427387904) (hls : ∀ q ∈ P, q.length ≤ 4611686018427387904) (H : R (decide (P = Q)) h) : same_Rows r a b h R := by
  apply same_Rows_of
  unfold same_Rows_F
  rw [ha.len, hb.len]
  refine ⟨fun q => ?_, fun q => ?_⟩
  · have q : P.length ≠ Q.length := by simp at q; omega
    rw [decide_eq_false (fun e => q (by rw [e]))] at H; exact H
  · have q : P.length = Q.length := by simp at q; omega
    intro X HX
    have key : ∀ d (i : Nat), i + d = P.length → P.take i = Q.take i → X (i : Int) h := by
      intro d
      induction d with
      | zero =>
        intro i hi he
        refine HX _ _ ⟨fun q => absurd (of_decide_eq_true q) (by omega), fun _ => ?_⟩
        have : P = Q := by rw [List.take_of_length_le (by omega), List.take_of_length_le (by omega)] at he; exact he
        rw [decide_eq_true this] at H; exact H
      | succ d ih =>
        intro i hi he
        have h1 : i < P.length := by omega
        have h2 : i < Q.length := by omega
        refine HX _ _ ⟨fun _ => ?_, fun q => absurd (of_decide_eq_false q) (by omega)⟩
        refine ha.ix h1 fun p s1 _ hp r1 => ⟨s1, hp, hb.ix h2 fun p2 s2 _ hp2 r2 => ⟨s2, hp2, ?_⟩⟩
        refine same_Ints_ok r1 r2 (hls _ (List.getElem_mem h1)) ⟨fun q => ?_, fun q => ?_⟩
        · have : ¬ P = Q := fun e => by subst e; simp at q
          rw [decide_eq_false this] at H; exact H
        · have q : P[i] = Q[i] := by simpa using q
          rw [show w64 ((i : Int) + 1) = ((i + 1 : Nat) : Int) by rw [w64_of] <;> omega]
          refine ih (i + 1) (by omega) ?_
          rw [List.take_add_one, List.take_add_one, he, List.getElem?_eq_getElem h1, List.getElem?_eq_getElem h2, q]
    exact key P.length 0 (by omega) rfl

theorem nums_len (l : List Int) (q : List Int) (hq : q ∈ nums l (deal l l.length).1) : q.length ≤ l.length := by
  obtain ⟨p, hp, rfl⟩ := List.mem_map.1 hq
  obtain ⟨k, hk, rfl⟩ := List.mem_iff_getElem.1 hp
  have := (deal_inv l l.length).one k
  rw [List.getD_eq_getElem?_getD, List.getElem?_eq_getElem hk] at this
  simpa using this

theorem piles_law (hl1 : RI h.size h l1 l) (hll : l.length ≤ 1048576) : law5_LisPiles r l1 h fun y h' => y = true ∧ Ext h.size h h' := by
  apply law5_LisPiles_of
  refine risen_ok fun h1 E1 => ?_
  refine piles_ok ((hl1.ext E1 (Nat.le_refl _)).mono E1.1) hll fun ps ss h2 A hss E2 => ?_
  have E2' := E1.trans (E2.mono E1.1)
  refine piled_ok ((hl1.ext E2' (Nat.le_refl _)).mono E2'.1) hll fun ps' ss' h3 A' hss' E3 => ?_
  have E3' := E2'.trans (E3.mono E2'.1)
  have hPl := (deal_inv l l.length).len
  refine same_Rows_ok ((RR.of_fam A (by simpa using hss)).ext E3 (Nat.le_refl _)) (RR.of_fam A' (by simpa using hss')) (by simp; omega) (fun q hq => by have := nums_len l q hq; omega) ⟨by simp, E3'⟩

theorem mem_pile {l : List Int} {n : Nat} {P : List (List Nat)} {B : List Int} (I : Inv l n P B) {a : Nat} (ha : a < n) : ∃ q, q < P.length ∧ a ∈ P.getD q [] := by
  have h1 : a ∈ P.flatten := I.once.mem_iff.2 (List.mem_range.2 ha)
  obtain ⟨p, hp, hap⟩ := List.mem_flatten.1 h1
  obtain ⟨k, hk, rfl⟩ := List.mem_iff_getElem.1 hp
  exact ⟨k, hk, by rw [List.getD_eq_getElem?_getD, List.getElem?_eq_getElem hk]; exact hap⟩

theorem longest_law {vi : Sl} {bl : List Bool} (hl1 : RI h.size h l1 l) (hb1 : Rs h.size 1 h vi (bl.map bV)) (hll : l.length ≤ 1048576) : law5_LisLongest r l1 vi h fun y h' => y = true ∧ Ext h.size h h' := by
  apply law5_LisLongest_of
  refine risen_ok fun h1 E1 => ⟨fun q => (by cases q), fun _ => ?_⟩
  refine longest_ok ((hl1.ext E1 (Nat.le_refl _)).mono E1.1) hll fun out p h2 hp hpl hpw hpa E2 => ?_
  have E2 := E1.trans (E2.mono E1.1)
  have hl2 := hl1.ext E2 (Nat.le_refl _)
  have hb2 := hb1.ext E2 (Nat.le_refl _)
  have hbl : vi.len = bl.length := by have := hb1.len; simpa using this
  have hol : out.len = p.length := by rw [hp.len]; simp
  have I := deal_inv l l.length
  have fin : lis_Piles r l1 h2 fun y h' => y.len = (deal l l.length).1.length ∧ Ext h.size h h' :=
    piles_ok ((hl1.ext E2 (Nat.le_refl _)).mono E2.1) hll fun ps ss h3 A hss E3 => ⟨by have := (A.ownI (j := 0) rfl).len; simp at this; omega, E2.trans (E3.mono E2.1)⟩
  revert I hpl fin
  generalize (deal l l.length).1 = P
  generalize (deal l l.length).2 = B
  intro hpl I fin
  have hPl := I.len
  have hlen := hl1.len
  have getP : ∀ (i : Nat), i < p.length → ∀ {K : Addr → Prop}, (∀ q, hcell h2 q = some (nV (p[i]!)) → K q) → Ix out (i : Int) 1 K := fun i hi K hK => by
    refine hp.ix (by omega) (by simp; omega) fun q _ hq => hK q ?_
    rw [hq]; simp [hi, nV]
  have getL : ∀ (a : Nat), a < l.length → ∀ {K : Addr → Prop}, (∀ q, hcell h2 q = some (iV (at_ l a)) → K q) → Ix l1 (a : Int) 1 K := fun a ha K hK => by
    refine RI.ix hl2 (by omega) (by omega) fun q _ hq => hK q ?_
    rw [hq]; rfl
  rw [hol]
  intro X6 HX6
  have outer : ∀ d (i : Nat), i + d = p.length → X6 (i : Int) := by
    intro d
    induction d with
    | zero =>
      intro i hi
      refine HX6 _ ⟨fun q => absurd (of_decide_eq_true q) (by omega), fun _ => ?_⟩
      rw [hlen]
      intro X82 HX82
      have loop : ∀ d (i n : Nat) (la : Int), i + d = l.length → (n = 0 ∨ ∃ a q, a < i ∧ q < P.length ∧ a ∈ P.getD q [] ∧ at_ l a = la ∧ n ≤ q + 1) → X82 (n : Int) la (i : Int) := by
        intro d
        induction d with
        | zero =>
          intro i n la hi hn
          refine HX82 _ _ _ ⟨fun q => absurd (of_decide_eq_true q) (by omega), fun _ => ?_⟩
          intro J HJ
          have hnP : n ≤ p.length := by
            rcases hn with rfl | ⟨a, q, _, hq, _, _, hnq⟩ <;> omega
          refine ⟨fun _ => ?_, fun q => absurd (of_decide_eq_false q) (by omega)⟩
          refine CallsH.mono fin fun v h8 ⟨y, hv, hy, E8⟩ => ⟨y, hv, ?_⟩
          dsimp only
          rw [hy]
          refine ⟨fun _ => ?_, fun q => absurd (of_decide_eq_false q) (by omega)⟩
          intro x hx
          refine HJ _ _ ⟨?_, E8⟩
          rw [hx]
          by_cases h0 : l.length = 0
          · rw [decide_eq_false (by omega), decide_eq_false (by omega)]; rfl
          · obtain ⟨q, hq, _⟩ := mem_pile I (a := 0) (by omega)
            rw [decide_eq_true (by omega), decide_eq_true (by omega)]; rfl
        | succ d ih =>
          intro i n la hi hn
          refine HX82 _ _ _ ⟨fun _ => ?_, fun q => absurd (of_decide_eq_false q) (by omega)⟩
          have hil : i < l.length := by omega
          obtain ⟨q', hq', hm'⟩ := mem_pile I hil
          have hnP : n ≤ p.length := by
            rcases hn with rfl | ⟨a, q, _, hq, _, _, hnq⟩ <;> omega
          have ei : w64 ((i : Int) + 1) = ((i + 1 : Nat) : Int) := by rw [w64_of] <;> omega
          intro J85 HJ85 J88 HJ88
          have no : J88 false := HJ88 _ ⟨fun q => (by cases q), fun _ => HJ85 _ _ (by
            rw [ei]
            refine ih (i + 1) n la (by omega) (hn.imp id fun ⟨a, q, h1, h2⟩ => ⟨a, q, by omega, h2⟩))⟩
          have yes : (n = 0 ∨ la < at_ l i) → J88 true := fun hc => HJ88 _ ⟨fun _ => getL i hil fun q hq => ⟨_, hq, HJ85 _ _ (by
            rw [ei, show w64 ((n : Int) + 1) = ((n + 1 : Nat) : Int) by rw [w64_of] <;> omega]
            refine ih (i + 1) (n + 1) _ (by omega) (.inr ⟨i, q', by omega, hq', hm', rfl, ?_⟩)
            rcases hn with rfl | ⟨a, q, h1, h2, h3, h4, h5⟩
            · omega
            · by_cases h0 : n = 0
              · omega
              · have hlt : la < at_ l i := by rcases hc with h | h; exact absurd h h0; exact h
                have : q < q' := by
                  apply Nat.lt_of_not_le; intro hle
                  have := I.apart q' i q a hm' hle h3 h1
                  omega
                omega)⟩, fun q => (by cases q)⟩
          refine ⟨fun q => ?_, fun _ => no⟩
          have q : i < bl.length := by have := of_decide_eq_true q; omega
          refine Rs.ix hb2 (by omega) (by omega) (by decide) fun b o _ _ hc => ⟨bl[i], by
            have := hc 0 (by decide)
            simpa [List.getElem?_eq_getElem q] using this, fun _ => ⟨fun q2 => yes (.inl (by have := of_decide_eq_true q2; omega)), fun _ => ?_⟩, fun _ => no⟩
          refine getL i hil fun q3 hq3 => ⟨_, hq3, ?_⟩
          dsimp only
          by_cases hlt : la < at_ l i
          · rw [decide_eq_true hlt]; exact yes (.inr hlt)
          · rw [decide_eq_false hlt]; exact no
      exact loop l.length 0 0 0 (by omega) (.inl rfl)
    | succ d ih =>
      intro i hi
      have hip : i < p.length := by omega
      refine HX6 _ ⟨fun _ => ?_, fun q => absurd (of_decide_eq_false q) (by omega)⟩
      intro J8 HJ8
      have go : J8 false := HJ8 _ ⟨fun q => (by cases q), fun _ => by
        rw [show w64 ((i : Int) + 1) = ((i + 1 : Nat) : Int) by rw [w64_of] <;> omega]
        exact ih (i + 1) (by omega)⟩
      have hal : p[i]! < l.length := by rw [getElem!_pos p i hip]; exact hpa _ (List.getElem_mem hip)
      refine getP i hip fun q1 hq1 => ⟨_, hq1, fun q => absurd (of_decide_eq_true q) (by omega), fun _ => ?_⟩
      refine getP i hip fun q2 hq2 => ⟨_, hq2, ?_⟩
      rw [hlen]
      refine ⟨fun q => absurd (of_decide_eq_true q) (by omega), fun _ => ⟨fun q => ?_, fun _ => go⟩⟩
      have hi0 : 0 < i := by have := of_decide_eq_true q; omega
      have hip' : i - 1 < p.length := by omega
      have hal' : p[i - 1]! < l.length := by rw [getElem!_pos p _ hip']; exact hpa _ (List.getElem_mem hip')
      have hf := List.pairwise_iff_getElem.1 hpw (i - 1) i hip' hip (by omega)
      rw [← getElem!_pos p i hip, ← getElem!_pos p _ hip'] at hf
      rw [show w64 ((i : Int) - 1) = ((i - 1 : Nat) : Int) by rw [w64_of] <;> omega]
      refine getP i hip fun q3 hq3 => ⟨_, hq3, getP (i - 1) hip' fun q4 hq4 => ⟨_, hq4, fun q => absurd (of_decide_eq_true q) (by omega), fun _ => ?_⟩⟩
      refine getP i hip fun q5 hq5 => ⟨_, hq5, getL _ hal fun q6 hq6 => ⟨_, hq6, getP (i - 1) hip' fun q7 hq7 => ⟨_, hq7, getL _ hal' fun q8 hq8 => ⟨_, hq8, ?_⟩⟩⟩⟩
      dsimp only
      rw [decide_eq_false (by omega)]; exact go
  exact outer p.length 0 (by omega)
end
end Go.Proofs.Ythjfnfhgnbmgcaa
