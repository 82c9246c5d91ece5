/- Trees with both ends at hand: put and taken at the ends. -/
import Derived.Test.YtmjljnbjoldeaaaFingP
namespace Go.Proofs.Ytmjljnbjoldeaaa
open Go Go.RowKit Go.Tw Go.Mono Go.Fing
set_option linter.unusedVariables false

theorem own_blk {N : Nat} {h : Heap} {b : Nat} {cs : List Value} (B : Blk h b cs) (hN : N ≤ b) : Own N 1 h ⟨some (ad b 0), cs.length, cs.length⟩ cs :=
  ⟨by simp, Nat.le_refl _, .inr ⟨b, [], rfl, hN, by simpa using B, by simp⟩⟩
theorem prs_snoc (v : Fing.F) (ts : List Fing.T) (t : Fing.T) : prs v (ts ++ [t]) = pr t (prs v ts) := by
  induction ts generalizing v with
  | nil => rfl
  | cons u ts ih => exact ih (pr u v)
theorem dL_nil {m : Fing.F} {r : List Fing.T} (hm : m ≠ .nil) : dL [] m r = .deep (popL m).1.kids (popL m).2 r := by
  cases m with
  | nil => exact absurd rfl hm
  | one => rfl
  | deep => rfl
theorem dR_nil {m : Fing.F} {l : List Fing.T} (hm : m ≠ .nil) : dR l m [] = .deep l (popR m).2 (popR m).1.kids := by
  cases m with
  | nil => exact absurd rfl hm
  | one => rfl
  | deep => rfl

section
variable {A : Nat → Prop} {r : World}

theorem pushLeft_ok : ∀ (v : Fing.F) (k : Nat) (t : Fing.T) (p : Addr) (q : Option Addr) (h : Heap) (R : Option Addr → Heap → Prop), v.ok k → Lv A h v q → Th A h t p → t.l.length + v.l.length < 4611686018427387904 → (∀ b, h.size ≤ b → A b) →
    (∀ q' h', Fw h h' → Lv A h' (pl t v) q' → R q' h') → finger_pushLeft r (some p) q h R
  | .nil, k, t, p, q, h, R, ho, L, Tp, hz, hA, H => by
    have L : q = none := L
    subst L
    apply finger_pushLeft_of
    exact ⟨fun _ => alone_ok Tp hA fun q' h' E L' => H q' h' E L', fun c => (by cases c)⟩
  | .one u, k, t, p, q, h, R, ho, L, Tp, hz, hA, H => by
    obtain ⟨c, s, rfl, hc, B, Du⟩ := L
    apply finger_pushLeft_of
    refine ⟨fun c => (by cases c), fun _ => ⟨_, rfl, _, B.ld 6 rfl, fun _ => ?_, fun c => (by cases c)⟩⟩
    refine New.cells fun h2 E2 z2 B2 => ⟨_, rfl, _, (E2.blk B).ld 5 rfl, ?_⟩
    have D1 : Dg A h2 ⟨some (ad h.size 0), 1, 1⟩ [t] := Dg.new (h0 := h) (ps := [p]) B2 (hA _ (Nat.le_refl _)) rfl ⟨Tp.fw E2, trivial⟩
    refine deep_ok (m := .nil) D1 (Du.fw E2) rfl ?_ (by simp) (by simp) (new_A hA E2) fun q' h' E L' => H q' h' (E2.trans E) L'
    have hz : t.l.length + u.l.length < 4611686018427387904 := hz
    simp [ls, Fing.F.l]; exact hz
  | .deep l m w, k, t, p, q, h, R, ho, L, Tp, hz, hA, H => by
    obtain ⟨c, s, u, qm, rfl, hc, B, D1, D2, Lm⟩ := L
    have hz : t.l.length + (ls l ++ (m.l ++ ls w)).length < 4611686018427387904 := hz
    simp only [List.length_append] at hz
    have hl4 := ho.1.2.1
    have hw4 := ho.2.1.2.1
    apply finger_pushLeft_of
    have l1 := D1.len
    refine ⟨fun c => (by cases c), fun _ => ⟨_, rfl, _, B.ld 6 rfl, fun c => absurd c (by rw [D2.some ho.2.1.ne]; decide), fun _ => ⟨_, rfl, _, B.ld 5 rfl, fun c4 => ?_, fun c4 => ?_⟩⟩⟩
    · have c4 : l.length < 4 := by have := of_decide_eq_true c4; omega
      refine ⟨_, rfl, _, B.ld 5 rfl, _, rfl, _, B.ld 7 rfl, _, rfl, _, B.ld 6 rfl, ?_⟩
      refine New.cells fun h4 E4 z4 B4 => ⟨(E4.blk B).ld 6 rfl, (E4.blk B).ld 7 rfl, (E4.blk B).ld 5 rfl, ?_⟩
      obtain ⟨ps, P, T⟩ := D1
      have hT := T.len
      refine App.things (ps := [p]) (own_blk B4 (Nat.le_refl _)) (P.fw E4) E4.1 (by simp; omega) fun s' h5 E5 O5 => ?_
      have E05 : Fw h h5 := Ext.trans E4 E5
      refine ⟨(E05.blk B).ld 6 rfl, (E05.blk B).ld 7 rfl, ?_⟩
      have D5 : Dg A h5 s' (t :: l) := ⟨_, Own.toPs O5 hA, Tp.fw E05, T.fw E05⟩
      refine deep_ok D5 (D2.fw E05) (Lm.fw E05) (by rw [ls_cons]; simp; omega) (by simp; omega) (by omega) (new_A hA E05) fun q' h' E L' => H q' h' (E05.trans E) ?_
      unfold pl; rw [if_pos c4]; exact L'
    · have c4 : l.length = 4 := by have := of_decide_eq_false c4; omega
      obtain ⟨a, b, d, e, rfl⟩ := four c4
      have e0 : (ls [a, b, d, e]).length = a.l.length + b.l.length + d.l.length + e.l.length := by simp [ls]; omega
      have e1 : (ls [b, d, e]).length = b.l.length + d.l.length + e.l.length := by simp [ls]; omega
      have e2 : (ls [t, a]).length = t.l.length + a.l.length := by simp [ls]
      have eg : (grp [b, d, e]).l = ls [b, d, e] := grp_l (.inr rfl)
      intro J HJ
      refine ⟨_, rfl, _, B.ld 5 rfl, D1.ix (i := 0) rfl fun q0 pa hq0 hb0 Ta => ⟨some pa, hq0, _, rfl, _, B.ld 5 rfl, ?_⟩⟩
      dsimp only
      rw [l1]
      refine D1.sub (lo := 1) (hi := 4) (by decide) (by simp) fun s3 D3 => ?_
      have D3 : Dg A h s3 [b, d, e] := D3
      have hq : ∀ {h'}, Fw h h' → hcell h' q0 = some (pV pa) := fun E => by rw [E.cell hb0]; exact hq0
      have hpl : pl t (.deep [a, b, d, e] m w) = .deep [t, a] (pl (grp [b, d, e]) m) w := rfl
      refine ⟨_, rfl, _, B.ld 7 rfl, _, rfl, _, B.ld 6 rfl, ?_, ?_⟩
      · refine New.cells fun h8 E8 z8 B8 => ⟨(E8.blk B).ld 6 rfl, (E8.blk B).ld 7 rfl, (E8.blk B).ld 5 rfl, ?_⟩
        refine group_ok (D3.fw E8) (.inr rfl) (by omega) (new_A hA E8) fun pg h9 E9 Tg => ?_
        have E09 := E8.trans E9
        refine ⟨(E09.blk B).ld 6 rfl, (E09.blk B).ld 7 rfl, hq E09, (E09.blk B).ld 5 rfl, ?_⟩
        refine pushLeft_ok m (k + 1) _ _ _ _ _ ho.2.2 (Lm.fw E09) Tg (by rw [eg]; omega) (new_A hA E09) fun q' h10 E10 L10 => ?_
        have E0 := E09.trans E10
        refine ⟨(E0.blk B).ld 6 rfl, hq E0, (E0.blk B).ld 5 rfl, ?_⟩
        have D5 : Dg A h10 ⟨some (ad h.size 0), 2, 2⟩ [t, a] := Dg.new (h0 := h) (ps := [p, pa]) ((E9.trans E10).blk B8) (hA _ (Nat.le_refl _)) rfl ⟨Tp.fw E0, Ta.fw E0, trivial⟩
        refine deep_ok D5 (D2.fw E0) L10 (by rw [pl_l _ _ (k + 1) ho.2.2, eg]; simp only [List.length_append]; omega) (by simp) (by omega) (new_A hA E0) fun q' h' E L' => HJ _ _ (H q' h' (E0.trans E) (by rw [hpl]; exact L'))
      · refine group_ok D3 (.inr rfl) (by omega) hA fun pg h9 E9 Tg => ?_
        refine ⟨(E9.blk B).ld 6 rfl, (E9.blk B).ld 7 rfl, hq E9, (E9.blk B).ld 5 rfl, ?_, ?_⟩
        · refine New.cells fun h8 E8 z8 B8 => ?_
          have E09 := E9.trans E8
          refine ⟨(E09.blk B).ld 6 rfl, (E09.blk B).ld 7 rfl, (E09.blk B).ld 5 rfl, ?_⟩
          refine pushLeft_ok m (k + 1) _ _ _ _ _ ho.2.2 (Lm.fw E09) (Tg.fw E8) (by rw [eg]; omega) (new_A hA E09) fun q' h10 E10 L10 => ?_
          have E0 := E09.trans E10
          refine ⟨(E0.blk B).ld 6 rfl, hq E0, (E0.blk B).ld 5 rfl, ?_⟩
          have D5 : Dg A h10 ⟨some (ad h9.size 0), 2, 2⟩ [t, a] := Dg.new (h0 := h) (ps := [p, pa]) (E10.blk B8) (hA _ E9.1) rfl ⟨Tp.fw E0, Ta.fw E0, trivial⟩
          refine deep_ok D5 (D2.fw E0) L10 (by rw [pl_l _ _ (k + 1) ho.2.2, eg]; simp only [List.length_append]; omega) (by simp) (by omega) (new_A hA E0) fun q' h' E L' => HJ _ _ (H q' h' (E0.trans E) (by rw [hpl]; exact L'))
        · refine pushLeft_ok m (k + 1) _ _ _ _ _ ho.2.2 (Lm.fw E9) Tg (by rw [eg]; omega) (new_A hA E9) fun q' h10 E10 L10 => ?_
          have E0 := E9.trans E10
          refine ⟨(E0.blk B).ld 6 rfl, hq E0, (E0.blk B).ld 5 rfl, ?_⟩
          refine New.cells fun h8 E8 z8 B8 => ?_
          have E08 := E0.trans E8
          refine ⟨(E08.blk B).ld 6 rfl, (E08.blk B).ld 7 rfl, (E08.blk B).ld 5 rfl, ?_⟩
          have D5 : Dg A h8 ⟨some (ad h10.size 0), 2, 2⟩ [t, a] := Dg.new (h0 := h) (ps := [p, pa]) B8 (hA _ E0.1) rfl ⟨Tp.fw E08, Ta.fw E08, trivial⟩
          refine deep_ok D5 (D2.fw E08) (L10.fw E8) (by rw [pl_l _ _ (k + 1) ho.2.2, eg]; simp only [List.length_append]; omega) (by simp) (by omega) (new_A hA E08) fun q' h' E L' => HJ _ _ (H q' h' (E08.trans E) (by rw [hpl]; exact L'))

theorem pushRight_ok : ∀ (v : Fing.F) (k : Nat) (t : Fing.T) (p : Addr) (q : Option Addr) (h : Heap) (R : Option Addr → Heap → Prop), v.ok k → Lv A h v q → Th A h t p → t.l.length + v.l.length < 4611686018427387904 → (∀ b, h.size ≤ b → A b) →
    (∀ q' h', Fw h h' → Lv A h' (pr t v) q' → R q' h') → finger_pushRight r q (some p) h R
  | .nil, k, t, p, q, h, R, ho, L, Tp, hz, hA, H => by
    have L : q = none := L
    subst L
    apply finger_pushRight_of
    exact ⟨fun _ => alone_ok Tp hA fun q' h' E L' => H q' h' E L', fun c => (by cases c)⟩
  | .one u, k, t, p, q, h, R, ho, L, Tp, hz, hA, H => by
    obtain ⟨c, s, rfl, hc, B, Du⟩ := L
    apply finger_pushRight_of
    refine ⟨fun c => (by cases c), fun _ => ⟨_, rfl, _, B.ld 6 rfl, fun _ => ⟨_, rfl, _, B.ld 5 rfl, ?_⟩, fun c => (by cases c)⟩⟩
    refine New.cells fun h2 E2 z2 B2 => ?_
    have D1 : Dg A h2 ⟨some (ad h.size 0), 1, 1⟩ [t] := Dg.new (h0 := h) (ps := [p]) B2 (hA _ (Nat.le_refl _)) rfl ⟨Tp.fw E2, trivial⟩
    refine deep_ok (m := .nil) (Du.fw E2) D1 rfl ?_ (by simp) (by simp) (new_A hA E2) fun q' h' E L' => H q' h' (E2.trans E) L'
    have hz : t.l.length + u.l.length < 4611686018427387904 := hz
    simp [ls, Fing.F.l]; omega
  | .deep l m w, k, t, p, q, h, R, ho, L, Tp, hz, hA, H => by
    obtain ⟨c, s, u, qm, rfl, hc, B, D1, D2, Lm⟩ := L
    have hz : t.l.length + (ls l ++ (m.l ++ ls w)).length < 4611686018427387904 := hz
    simp only [List.length_append] at hz
    have hl4 := ho.1.2.1
    have hw4 := ho.2.1.2.1
    apply finger_pushRight_of
    have l2 := D2.len
    refine ⟨fun c => (by cases c), fun _ => ⟨_, rfl, _, B.ld 6 rfl, fun c => absurd c (by rw [D2.some ho.2.1.ne]; decide), fun _ => ⟨_, rfl, _, B.ld 6 rfl, fun c4 => ?_, fun c4 => ?_⟩⟩⟩
    · have c4 : w.length < 4 := by have := of_decide_eq_true c4; omega
      have hpr : pr t (.deep l m w) = .deep l m (w ++ [t]) := by unfold pr; rw [if_pos c4]
      intro J HJ
      refine ⟨_, rfl, _, B.ld 5 rfl, _, rfl, _, B.ld 7 rfl, _, rfl, _, B.ld 6 rfl, ?_, ?_⟩
      · refine clone_ok D2 (by omega) fun s' h5 ps E5 O5 T5 => ⟨(E5.blk B).ld 7 rfl, (E5.blk B).ld 5 rfl, ?_⟩
        refine New.cells fun h6 E6 z6 B6 => ?_
        have E06 := E5.trans E6
        refine ⟨(E06.blk B).ld 6 rfl, (E06.blk B).ld 7 rfl, (E06.blk B).ld 5 rfl, ?_⟩
        have P6 : Ps A h6 ⟨some (ad h5.size 0), 1, 1⟩ [p] := ⟨rfl, Nat.le_refl _, .inr ⟨h5.size, 0, rfl, hA _ E5.1, B6.lt, fun i hi => by rw [Nat.zero_add, B6.cell]; rfl⟩⟩
        have hT := T5.len
        refine App.things (O5.ext E6) P6 E06.1 (by simp; omega) fun s2 h7 E7 O7 => ?_
        have E07 : Fw h h7 := Ext.trans E06 E7
        refine ⟨(E07.blk B).ld 7 rfl, (E07.blk B).ld 5 rfl, ?_⟩
        have D5 : Dg A h7 s2 (w ++ [t]) := ⟨_, Own.toPs O7 hA, (T5.fw E07).append ⟨Tp.fw E07, trivial⟩⟩
        refine deep_ok (D1.fw E07) D5 (Lm.fw E07) (by rw [ls_append, ls_one]; simp; omega) (by omega) (by simp; omega) (new_A hA E07) fun q' h' E L' => HJ _ _ (H q' h' (E07.trans E) (by rw [hpr]; exact L'))
      · refine New.cells fun h6 E6 z6 B6 => ⟨(E6.blk B).ld 6 rfl, (E6.blk B).ld 7 rfl, (E6.blk B).ld 5 rfl, ?_⟩
        refine clone_ok (D2.fw E6) (by omega) fun s' h5 ps E5 O5 T5 => ?_
        have E05 := E6.trans E5
        refine ⟨(E05.blk B).ld 7 rfl, (E05.blk B).ld 5 rfl, ?_⟩
        have B5 := E5.blk B6
        have P6 : Ps A h5 ⟨some (ad h.size 0), 1, 1⟩ [p] := ⟨rfl, Nat.le_refl _, .inr ⟨h.size, 0, rfl, hA _ (Nat.le_refl _), B5.lt, fun i hi => by rw [Nat.zero_add, B5.cell]; rfl⟩⟩
        have hT := T5.len
        refine App.things O5 P6 E5.1 (by simp; omega) fun s2 h7 E7 O7 => ?_
        have E67 : Fw h6 h7 := Ext.trans E5 E7
        have E07 : Fw h h7 := E6.trans E67
        refine ⟨(E07.blk B).ld 7 rfl, (E07.blk B).ld 5 rfl, ?_⟩
        have D5 : Dg A h7 s2 (w ++ [t]) := ⟨_, Own.toPs O7 (new_A hA E6), (T5.fw E67).append ⟨Tp.fw E07, trivial⟩⟩
        refine deep_ok (D1.fw E07) D5 (Lm.fw E07) (by rw [ls_append, ls_one]; simp; omega) (by omega) (by simp; omega) (new_A hA E07) fun q' h' E L' => HJ _ _ (H q' h' (E07.trans E) (by rw [hpr]; exact L'))
    · have c4 : w.length = 4 := by have := of_decide_eq_false c4; omega
      obtain ⟨a, b, d, e, rfl⟩ := four c4
      have e0 : (ls [a, b, d, e]).length = a.l.length + b.l.length + d.l.length + e.l.length := by simp [ls]; omega
      have e1 : (ls [a, b, d]).length = a.l.length + b.l.length + d.l.length := by simp [ls]; omega
      have e2 : (ls [e, t]).length = e.l.length + t.l.length := by simp [ls]
      have eg : (grp [a, b, d]).l = ls [a, b, d] := grp_l (.inr rfl)
      intro J HJ
      refine ⟨_, rfl, _, B.ld 5 rfl, _, rfl, _, B.ld 7 rfl, _, rfl, _, B.ld 6 rfl, ?_⟩
      refine D2.sub (lo := 0) (hi := 3) (by decide) (by simp) fun s3 D3 => ?_
      have D3 : Dg A h s3 [a, b, d] := D3
      refine ⟨_, rfl, _, B.ld 6 rfl, D2.ix (i := 3) rfl fun q0 pa hq0 hb0 Ta => ⟨some pa, hq0, ?_⟩⟩
      have hq : ∀ {h'}, Fw h h' → hcell h' q0 = some (pV pa) := fun E => by rw [E.cell hb0]; exact hq0
      have hpr : pr t (.deep l m [a, b, d, e]) = .deep l (pr (grp [a, b, d]) m) [e, t] := rfl
      refine ⟨?_, ?_⟩
      · refine group_ok D3 (.inr rfl) (by omega) hA fun pg h9 E9 Tg => ?_
        refine ⟨hq E9, (E9.blk B).ld 6 rfl, (E9.blk B).ld 7 rfl, (E9.blk B).ld 5 rfl, ?_, ?_⟩
        · refine pushRight_ok m (k + 1) _ _ _ _ _ ho.2.2 (Lm.fw E9) Tg (by rw [eg]; omega) (new_A hA E9) fun q' h10 E10 L10 => ?_
          have E0 := E9.trans E10
          refine ⟨hq E0, (E0.blk B).ld 6 rfl, (E0.blk B).ld 5 rfl, ?_⟩
          refine New.cells fun h8 E8 z8 B8 => ?_
          have E08 := E0.trans E8
          refine ⟨(E08.blk B).ld 6 rfl, (E08.blk B).ld 7 rfl, (E08.blk B).ld 5 rfl, ?_⟩
          have D5 : Dg A h8 ⟨some (ad h10.size 0), 2, 2⟩ [e, t] := Dg.new (h0 := h) (ps := [pa, p]) B8 (hA _ E0.1) rfl ⟨Ta.fw E08, Tp.fw E08, trivial⟩
          refine deep_ok (D1.fw E08) D5 (L10.fw E8) (by rw [pr_l _ _ (k + 1) ho.2.2, eg]; simp only [List.length_append]; omega) (by omega) (by simp) (new_A hA E08) fun q' h' E L' => HJ _ _ (H q' h' (E08.trans E) (by rw [hpr]; exact L'))
        · refine New.cells fun h8 E8 z8 B8 => ?_
          have E09 := E9.trans E8
          refine ⟨(E09.blk B).ld 6 rfl, (E09.blk B).ld 7 rfl, (E09.blk B).ld 5 rfl, ?_⟩
          refine pushRight_ok m (k + 1) _ _ _ _ _ ho.2.2 (Lm.fw E09) (Tg.fw E8) (by rw [eg]; omega) (new_A hA E09) fun q' h10 E10 L10 => ?_
          have E0 := E09.trans E10
          refine ⟨hq E0, (E0.blk B).ld 6 rfl, (E0.blk B).ld 5 rfl, ?_⟩
          have D5 : Dg A h10 ⟨some (ad h9.size 0), 2, 2⟩ [e, t] := Dg.new (h0 := h) (ps := [pa, p]) (E10.blk B8) (hA _ E9.1) rfl ⟨Ta.fw E0, Tp.fw E0, trivial⟩
          refine deep_ok (D1.fw E0) D5 L10 (by rw [pr_l _ _ (k + 1) ho.2.2, eg]; simp only [List.length_append]; omega) (by omega) (by simp) (new_A hA E0) fun q' h' E L' => HJ _ _ (H q' h' (E0.trans E) (by rw [hpr]; exact L'))
      · refine New.cells fun h8 E8 z8 B8 => ⟨(E8.blk B).ld 6 rfl, (E8.blk B).ld 7 rfl, (E8.blk B).ld 5 rfl, ?_⟩
        refine group_ok (D3.fw E8) (.inr rfl) (by omega) (new_A hA E8) fun pg h9 E9 Tg => ?_
        have E09 := E8.trans E9
        refine ⟨hq E09, (E09.blk B).ld 6 rfl, (E09.blk B).ld 7 rfl, (E09.blk B).ld 5 rfl, ?_⟩
        refine pushRight_ok m (k + 1) _ _ _ _ _ ho.2.2 (Lm.fw E09) Tg (by rw [eg]; omega) (new_A hA E09) fun q' h10 E10 L10 => ?_
        have E0 := E09.trans E10
        refine ⟨hq E0, (E0.blk B).ld 6 rfl, (E0.blk B).ld 5 rfl, ?_⟩
        have D5 : Dg A h10 ⟨some (ad h.size 0), 2, 2⟩ [e, t] := Dg.new (h0 := h) (ps := [pa, p]) ((E9.trans E10).blk B8) (hA _ (Nat.le_refl _)) rfl ⟨Ta.fw E0, Tp.fw E0, trivial⟩
        refine deep_ok (D1.fw E0) D5 L10 (by rw [pr_l _ _ (k + 1) ho.2.2, eg]; simp only [List.length_append]; omega) (by omega) (by simp) (new_A hA E0) fun q' h' E L' => HJ _ _ (H q' h' (E0.trans E) (by rw [hpr]; exact L'))

theorem prs_part (ts : List Fing.T) (i : Nat) (hi : i < ts.length) : ts.take (i + 1) = ts.take i ++ [ts[i]] := by
  rw [List.take_add_one, List.getElem?_eq_getElem hi]; rfl

theorem some_ok {k : Nat} {ts : List Fing.T} {s : Sl} {h : Heap} {R : Option Addr → Heap → Prop} (Dd : Dg A h s ts) (hd : ∀ t ∈ ts, t.dep k) (hn : ts.length < 1073741824) (hz : (ls ts).length < 4611686018427387904) (hA : ∀ b, h.size ≤ b → A b)
    (H : ∀ q' h', Fw h h' → Lv A h' (prs .nil ts) q' → R q' h') : finger_some r s h R := by
  apply finger_some_of
  have hl := Dd.len
  intro X HX
  have key : ∀ (d i : Nat) (q : Option Addr) (h1 : Heap), i + d = ts.length → Fw h h1 → Lv A h1 (prs .nil (ts.take i)) q → X q (i : Int) h1 := by
    intro d
    induction d with
    | zero =>
      intro i q h1 hi E1 L1
      refine HX _ _ _ ⟨fun c => absurd (of_decide_eq_true c) (by omega), fun _ => H q h1 E1 ?_⟩
      rwa [List.take_of_length_le (by omega)] at L1
    | succ d ih =>
      intro i q h1 hi E1 L1
      have hit : i < ts.length := by omega
      refine HX _ _ _ ⟨fun _ => (Dd.fw E1).ix (List.getElem?_eq_getElem hit) fun q0 p hq0 _ Tp => ⟨some p, hq0, ?_⟩, fun c => absurd (of_decide_eq_false c) (by omega)⟩
      have hpl := prs_l (ts.take i) .nil k trivial fun t ht => hd t (List.mem_of_mem_take ht)
      have el : ls ts = ls (ts.take (i + 1)) ++ ls (ts.drop (i + 1)) := by rw [← ls_append, List.take_append_drop]
      rw [prs_part ts i hit, ls_append, ls_one] at el
      refine pushRight_ok _ k _ _ _ _ _ hpl.2 L1 Tp (by rw [hpl.1]; rw [el] at hz; simp only [List.length_append] at hz ⊢; simp only [Fing.F.l, List.length_nil]; omega) (new_A hA E1) fun q' h2 E2 L2 => ?_
      rw [w64_of (by omega) (by omega)]
      refine ih (i + 1) q' h2 (by omega) (E1.trans E2) ?_
      rw [prs_part ts i hit, prs_snoc]; exact L2
  exact key ts.length 0 none h (by omega) (Fw.refl _) rfl

abbrev PopL (A : Nat → Prop) (r : World) (m : Fing.F) : Prop := ∀ (q : Option Addr) (h : Heap) (R : Option Addr → Option Addr → Heap → Prop), Lv A h m q → m.l.length < 4611686018427387904 → (∀ b, h.size ≤ b → A b) →
    (∀ p' q' h', Fw h h' → Th A h' (popL m).1 p' → Lv A h' (popL m).2 q' → R (some p') q' h') → finger_popLeft r q h R
abbrev PopR (A : Nat → Prop) (r : World) (m : Fing.F) : Prop := ∀ (q : Option Addr) (h : Heap) (R : Option Addr → Option Addr → Heap → Prop), Lv A h m q → m.l.length < 4611686018427387904 → (∀ b, h.size ≤ b → A b) →
    (∀ p' q' h', Fw h h' → Th A h' (popR m).1 p' → Lv A h' (popR m).2 q' → R (some p') q' h') → finger_popRight r q h R

theorem deepLeft_of {k : Nat} {l w : List Fing.T} {m : Fing.F} {s1 s2 : Sl} {q : Option Addr} {h : Heap} {R : Option Addr → Heap → Prop} (hl : D0 l k) (hm : m.ok (k + 1)) (hw : D w k) (D1 : Dg A h s1 l) (D2 : Dg A h s2 w) (L : Lv A h m q) (hz : (ls l ++ (m.l ++ ls w)).length < 4611686018427387904) (hA : ∀ b, h.size ≤ b → A b)
    (hp : m ≠ .nil → PopL A r m) (H : ∀ q' h', Fw h h' → Lv A h' (dL l m w) q' → R q' h') : finger_deepLeft r s1 q s2 h R := by
  apply finger_deepLeft_of
  have l1 := D1.len
  have hl4 := hl.1
  have hw4 := hw.2.1
  simp only [List.length_append] at hz
  refine ⟨fun c => ?_, fun c => ?_⟩
  · have c : l ≠ [] := fun e => by subst e; have := of_decide_eq_true c; simp at l1; omega
    refine deep_ok D1 D2 L (by simp only [List.length_append]; omega) (by omega) (by omega) hA fun q' h' E L' => H q' h' E ?_
    unfold dL; rw [if_neg c]; exact L'
  · have c : l = [] := List.eq_nil_of_length_eq_zero (by have := of_decide_eq_false c; omega)
    subst c
    refine ⟨fun e => ?_, fun e => ?_⟩
    · have e := L.none.1 e
      subst e
      refine some_ok (k := k) D2 hw.2.2 (by omega) (by omega) hA fun q' h' E L' => H q' h' E L'
    · have hm0 : m ≠ .nil := fun e' => by rw [L.none.2 e'] at e; cases e
      refine hp hm0 q h _ L (by omega) hA fun p' q' h3 E3 T3 L3 => ?_
      have hok := pop_ok m (k + 1) hm hm0
      obtain ⟨c', x, s', rfl, _, B, Dk, _⟩ := T3.view
      refine ⟨_, rfl, _, B.ld 6 rfl, ?_⟩
      have hk := dep_kids hok.1
      have e3 := congrArg List.length hok.2.2
      simp only [List.length_append] at e3
      refine deep_ok Dk (D2.fw E3) L3 (by rw [hk.2.1]; simp only [List.length_append]; omega) (by rcases hk.1 with h | h <;> omega) (by omega) (new_A hA E3) fun q4 h4 E4 L4 => H q4 h4 (E3.trans E4) ?_
      rw [dL_nil hm0]; exact L4

theorem deepRight_of {k : Nat} {l w : List Fing.T} {m : Fing.F} {s1 s2 : Sl} {q : Option Addr} {h : Heap} {R : Option Addr → Heap → Prop} (hl : D l k) (hm : m.ok (k + 1)) (hw : D0 w k) (D1 : Dg A h s1 l) (D2 : Dg A h s2 w) (L : Lv A h m q) (hz : (ls l ++ (m.l ++ ls w)).length < 4611686018427387904) (hA : ∀ b, h.size ≤ b → A b)
    (hp : m ≠ .nil → PopR A r m) (H : ∀ q' h', Fw h h' → Lv A h' (dR l m w) q' → R q' h') : finger_deepRight r s1 q s2 h R := by
  apply finger_deepRight_of
  have l2 := D2.len
  have hl4 := hl.2.1
  have hw4 := hw.1
  simp only [List.length_append] at hz
  refine ⟨fun c => ?_, fun c => ?_⟩
  · have c : w ≠ [] := fun e => by subst e; have := of_decide_eq_true c; simp at l2; omega
    refine deep_ok D1 D2 L (by simp only [List.length_append]; omega) (by omega) (by omega) hA fun q' h' E L' => H q' h' E ?_
    unfold dR; rw [if_neg c]; exact L'
  · have c : w = [] := List.eq_nil_of_length_eq_zero (by have := of_decide_eq_false c; omega)
    subst c
    refine ⟨fun e => ?_, fun e => ?_⟩
    · have e := L.none.1 e
      subst e
      refine some_ok (k := k) D1 hl.2.2 (by omega) (by omega) hA fun q' h' E L' => H q' h' E L'
    · have hm0 : m ≠ .nil := fun e' => by rw [L.none.2 e'] at e; cases e
      refine hp hm0 q h _ L (by omega) hA fun p' q' h3 E3 T3 L3 => ?_
      have hok := popr_ok m (k + 1) hm hm0
      obtain ⟨c', x, s', rfl, _, B, Dk, _⟩ := T3.view
      refine ⟨_, rfl, _, B.ld 6 rfl, ?_⟩
      have hk := dep_kids hok.1
      have e3 := congrArg List.length hok.2.2
      simp only [List.length_append] at e3
      refine deep_ok (D1.fw E3) Dk L3 (by rw [hk.2.1]; simp only [List.length_append]; omega) (by omega) (by rcases hk.1 with h | h <;> omega) (new_A hA E3) fun q4 h4 E4 L4 => H q4 h4 (E3.trans E4) ?_
      rw [dR_nil hm0]; exact L4

theorem popLeft_ok : ∀ (v : Fing.F) (k : Nat), v.ok k → v ≠ .nil → PopL A r v
  | .nil, _, _, hn => absurd rfl hn
  | .one t, k, ho, _ => fun q h R L hz hA H => by
    obtain ⟨c, s, rfl, hc, B, Du⟩ := L
    apply finger_popLeft_of
    refine ⟨_, rfl, _, B.ld 6 rfl, fun _ => ⟨_, rfl, _, B.ld 5 rfl, Du.ix (i := 0) rfl fun q0 p hq0 _ Tp => ⟨some p, hq0, H p none h (Fw.refl _) Tp rfl⟩⟩, fun c => (by cases c)⟩
  | .deep l m w, k, ho, _ => fun q h R L hz hA H => by
    obtain ⟨c, s, u, qm, rfl, hc, B, D1, D2, Lm⟩ := L
    apply finger_popLeft_of
    match l, ho, D1, B, hz, H with
    | [], ho, _, _, _, _ => exact absurd rfl ho.1.ne
    | t :: l, ho, D1, B, hz, H =>
      have l1 := D1.len
      rw [popL_deep] at H
      have hz : (ls (t :: l) ++ (m.l ++ ls w)).length < 4611686018427387904 := hz
      rw [ls_cons] at hz
      simp only [List.length_append] at hz
      refine ⟨_, rfl, _, B.ld 6 rfl, fun c => absurd c (by rw [D2.some ho.2.1.ne]; decide), fun _ => ⟨_, rfl, _, B.ld 5 rfl, D1.ix (i := 0) rfl fun q0 p hq0 hb0 Tp => ⟨some p, hq0, _, rfl, _, B.ld 5 rfl, ?_⟩⟩⟩
      dsimp only
      rw [l1]
      refine D1.sub (lo := 1) (hi := (t :: l).length) (by simp) (Nat.le_refl _) fun s3 D3 => ?_
      have D3 : Dg A h s3 l := by
        have : ((t :: l).drop 1).take ((t :: l).length - 1) = l := by simp
        rwa [this] at D3
      refine ⟨_, rfl, _, B.ld 7 rfl, _, rfl, _, B.ld 6 rfl, ?_⟩
      refine deepLeft_of (tail_D0 ho.1) ho.2.2 ho.2.1 D3 D2 Lm (by simp only [List.length_append]; omega) hA (popLeft_ok m (k + 1) ho.2.2) fun q' h1 E1 L1 => ?_
      exact ⟨by rw [E1.cell hb0]; exact hq0, (E1.blk B).ld 5 rfl, H p q' h1 E1 (Tp.fw E1) L1⟩

theorem popRight_ok : ∀ (v : Fing.F) (k : Nat), v.ok k → v ≠ .nil → PopR A r v
  | .nil, _, _, hn => absurd rfl hn
  | .one t, k, ho, _ => fun q h R L hz hA H => by
    obtain ⟨c, s, rfl, hc, B, Du⟩ := L
    apply finger_popRight_of
    refine ⟨_, rfl, _, B.ld 6 rfl, fun _ => ⟨_, rfl, _, B.ld 5 rfl, Du.ix (i := 0) rfl fun q0 p hq0 _ Tp => ⟨some p, hq0, H p none h (Fw.refl _) Tp rfl⟩⟩, fun c => (by cases c)⟩
  | .deep l m w, k, ho, _ => fun q h R L hz hA H => by
    obtain ⟨c, s, u, qm, rfl, hc, B, D1, D2, Lm⟩ := L
    apply finger_popRight_of
    rcases List.eq_nil_or_concat w with e | ⟨w', t, e⟩
    · subst e; exact absurd rfl ho.2.1.ne
    rw [List.concat_eq_append] at e
    subst e
    have l2 := D2.len
    have hw4 := ho.2.1.2.1
    rw [popR_deep] at H
    simp only [List.dropLast_concat, List.getLastD_concat] at H
    have hz : (ls l ++ (m.l ++ ls (w' ++ [t]))).length < 4611686018427387904 := hz
    rw [ls_append] at hz
    simp only [List.length_append] at hz l2 hw4
    simp only [List.length_cons, List.length_nil] at l2 hw4
    refine ⟨_, rfl, _, B.ld 6 rfl, fun c => absurd c (by rw [D2.some ho.2.1.ne]; decide), fun _ => ⟨_, rfl, _, B.ld 6 rfl, _, rfl, _, B.ld 6 rfl, ?_⟩⟩
    have ei : w64 ((u.len : Int) - 1) = (w'.length : Int) := by rw [l2, w64_of] <;> omega
    dsimp only
    rw [ei]
    refine D2.ix (i := w'.length) (by rw [List.getElem?_append_right (Nat.le_refl _), Nat.sub_self]; rfl) fun q0 p hq0 hb0 Tp => ⟨some p, hq0, _, rfl, _, B.ld 5 rfl, _, rfl, _, B.ld 7 rfl, _, rfl, _, B.ld 6 rfl, ?_⟩
    refine D2.sub (lo := 0) (hi := w'.length) (Nat.zero_le _) (by simp) fun s3 D3 => ?_
    have D3 : Dg A h s3 w' := by
      have : ((w' ++ [t]).drop 0).take (w'.length - 0) = w' := by simp
      rwa [this] at D3
    refine deepRight_of ho.1 ho.2.2 (snoc_D0 ho.2.1) D1 D3 Lm (by simp only [List.length_append]; omega) hA (popRight_ok m (k + 1) ho.2.2) fun q' h1 E1 L1 => ?_
    exact ⟨by rw [E1.cell hb0]; exact hq0, (E1.blk B).ld 6 rfl, H p q' h1 E1 (Tp.fw E1) L1⟩
end
end Go.Proofs.Ytmjljnbjoldeaaa
