/- Trees with both ends at hand: joined. -/
import Derived.Test.YtmjljnbjoldeaaaFingQ
namespace Go.Proofs.Ytmjljnbjoldeaaa
open Go Go.RowKit Go.Tw Go.Mono Go.Fing
set_option linter.unusedVariables false

/-- a row of cells is there -/
def IsC (h : Heap) (b : Nat) : Prop := ∃ o, h[b]? = some o ∧ notCells o = false
theorem IsC.lt {h : Heap} {b : Nat} (H : IsC h b) : b < h.size := by obtain ⟨o, h1, _⟩ := H; exact (Array.getElem?_eq_some_iff.1 h1).1
theorem isC_blk {h : Heap} {b : Nat} {cs : List Value} (B : Blk h b cs) : IsC h b := by obtain ⟨el, B⟩ := B; exact ⟨_, B, rfl⟩
theorem isC_cell {h : Heap} {b o : Nat} {v : Value} (H : hcell h (ad b o) = some v) : IsC h b := by
  unfold hcell at H
  have hb : (ad b o).block = b := rfl
  rw [hb] at H
  cases ho : h[b]? with
  | none => rw [ho] at H; cases H
  | some o' =>
    refine ⟨o', ho, ?_⟩
    cases o' with
    | cells => rfl
    | _ => rw [ho] at H; cases H
/-- rows of cells of A stay, and are of A' -/
def To (A A' : Nat → Prop) (h h' : Heap) : Prop := h.size ≤ h'.size ∧ ∀ b, A b → IsC h b → h'[b]? = h[b]? ∧ A' b
section
variable {A A' A'' : Nat → Prop} {h h' h'' : Heap}
theorem To.blk {b : Nat} {cs : List Value} (S : To A A' h h') (hA : A b) (B : Blk h b cs) : Blk h' b cs := B.of_eq (S.2 b hA (isC_blk B)).1
theorem To.weak (hw : ∀ b, A b → A' b) (h : Heap) : To A A' h h := ⟨Nat.le_refl _, fun b hb _ => ⟨rfl, hw b hb⟩⟩
theorem To.old (E : Fw h h') (hw : ∀ b, A b → b < h.size → A' b) : To A A' h h' := ⟨E.1, fun b hb hl => ⟨E.2 b hl.lt, hw b hb hl.lt⟩⟩
theorem To.fw (E : Fw h h') : To A A h h' := To.old E fun _ hb _ => hb
theorem To.trans (S : To A A' h h') (S' : To A' A'' h' h'') : To A A'' h h'' := ⟨Nat.le_trans S.1 S'.1, fun b hb hc => by
  obtain ⟨e1, a1⟩ := S.2 b hb hc
  obtain ⟨o, ho, hn⟩ := hc
  obtain ⟨e2, a2⟩ := S'.2 b a1 ⟨o, by rw [e1]; exact ho, hn⟩
  exact ⟨e2.trans e1, a2⟩⟩
theorem To.hput {c : Nat} {o o' : Obj} (hc : h[c]? = some o) (hn : notCells o = true) : To A A h (Tw.hput h c o') := ⟨by rw [hput_size]; exact Nat.le_refl _, fun b hb hi => ⟨hput_other (fun e => by
  subst e
  obtain ⟨o2, h1, h2⟩ := hi
  rw [hc] at h1; cases h1
  rw [hn] at h2; cases h2), hb⟩⟩
theorem To.over {c : Nat} (hc : ¬ A c) (ho : ∀ d, d ≠ c → h'[d]? = h[d]?) (hz : h'.size = h.size) : To A A h h' := ⟨by rw [hz]; exact Nat.le_refl _, fun b hb _ => ⟨ho b fun e => hc (e ▸ hb), hb⟩⟩
theorem Ps.to {s : Sl} {ps : List Addr} (S : To A A' h h') (H : Ps A h s ps) : Ps A' h' s ps := by
  refine ⟨H.len, H.cap, ?_⟩
  rcases H.at_ with e | ⟨b, o, h1, h2, h3, h4⟩
  · exact .inl e
  · cases ps with
    | nil => exact .inl rfl
    | cons p ps =>
      have hc : IsC h b := isC_cell (h4 0 (by simp))
      have hS := S.2 b h2 hc
      exact .inr ⟨b, o, h1, hS.2, Nat.lt_of_lt_of_le h3 S.1, fun i hi => by rw [hcell_of_eq (h := h) hS.1]; exact h4 i hi⟩
theorem Th.to (S : To A A' h h') : ∀ {t : Fing.T} {p : Addr}, Th A h t p → Th A' h' t p
  | .num x, p, ⟨c, e, hA, B⟩ => ⟨c, e, (S.2 c hA (isC_blk B)).2, S.blk hA B⟩
  | .n2 a b, p, ⟨c, s, pa, pb, e, hA, B, P, ta, tb⟩ => ⟨c, s, pa, pb, e, (S.2 c hA (isC_blk B)).2, S.blk hA B, P.to S, ta.to S, tb.to S⟩
  | .n3 a b d, p, ⟨c, s, pa, pb, pd, e, hA, B, P, ta, tb, td⟩ => ⟨c, s, pa, pb, pd, e, (S.2 c hA (isC_blk B)).2, S.blk hA B, P.to S, ta.to S, tb.to S, td.to S⟩
theorem Ths.to (S : To A A' h h') : ∀ {ts : List Fing.T} {ps : List Addr}, Ths A h ts ps → Ths A' h' ts ps
  | [], [], _ => trivial
  | t :: ts, p :: ps, ⟨a, b⟩ => ⟨a.to S, b.to S⟩
  | [], _ :: _, H => H.elim
  | _ :: _, [], H => H.elim
theorem Dg.to {s : Sl} {ts : List Fing.T} (S : To A A' h h') (H : Dg A h s ts) : Dg A' h' s ts := by obtain ⟨ps, a, b⟩ := H; exact ⟨ps, a.to S, b.to S⟩
theorem Lv.to (S : To A A' h h') : ∀ {v : Fing.F} {q : Option Addr}, Lv A h v q → Lv A' h' v q
  | .nil, _, e => e
  | .one t, _, ⟨c, s, e, hA, B, d⟩ => ⟨c, s, e, (S.2 c hA (isC_blk B)).2, S.blk hA B, d.to S⟩
  | .deep l m r, _, ⟨c, s, u, q, e, hA, B, d1, d2, L⟩ => ⟨c, s, u, q, e, (S.2 c hA (isC_blk B)).2, S.blk hA B, d1.to S, d2.to S, L.to S⟩
end

/-- of A, and not a slice's block -/
def Ao (A : Nat → Prop) (s : Sl) : Nat → Prop := fun b => A b ∧ ∀ p, s.a = some p → p.block ≠ b

section
variable {A : Nat → Prop} {r : World} {h : Heap}

/-- one more thing in a slice of one's own -/
theorem App.thing {N : Nat} {out : Sl} {ps : List Addr} {ts : List Fing.T} {t : Fing.T} {p : Addr} {K : Sl → Heap → Prop} (O : Own N 1 h out (ps.map pV)) (T : Ths (Ao A out) h ts ps) (Tp : Th (Ao A out) h t p) (hN : N ≤ h.size) (hn : ps.length < 1048576)
    (hK : ∀ s' h', Tw.Ext N h h' → Own N 1 h' s' ((ps ++ [p]).map pV) → Ths (Ao A s') h' (ts ++ [t]) (ps ++ [p]) → K s' h') : New h (.cells #[.pointer (some p)] 69) fun p15 h3 => App 69 1 8 (.pointer none) out ⟨some p15, 1, 1⟩ h3 K := by
  have hz1 : (Value.pointer none).cells.size = 1 := rfl
  have ls : out.len = ps.length := by have := O.len; simp at this; omega
  refine App.push (by' := 8) (cs := [pV p]) O rfl hz1 (one_all rfl) hN (by omega) fun s' h' G => ?_
  have S : To (Ao A out) (Ao A s') h h' := by
    refine ⟨G.ext.1, fun b hb hl => ⟨G.others b hl.lt fun q hq => hb.2 q hq, hb.1, fun q hq => ?_⟩⟩
    have hl := hl.lt
    rcases G.blk with e | ⟨c, hc, e⟩
    · exact hb.2 q (by rw [← e]; exact hq)
    · rw [e] at hq; cases hq
      show c ≠ b; omega
  refine hK s' h' G.ext ?_ ((T.to S).append ⟨Tp.to S, trivial⟩)
  have := G.own
  simpa using this

theorem groups_ok' {s : Sl} {l : List Fing.T} {R : Sl → Heap → Prop} (Dd : Dg A h s l) (hz : (ls l).length < 4611686018427387904) (hn : l.length < 1048576) (hA : ∀ b, h.size ≤ b → A b)
    (H : ∀ s' h', Fw h h' → Dg A h' s' (groups l) → R s' h') : finger_groups r s h R := by
  apply finger_groups_of
  intro X HX
  -- what is left, what is done
  have part : ∀ (out : Sl) (ps : List Addr) (done f w : List Fing.T) (s2 : Sl) (h1 : Heap) (K : Option Addr → Heap → Prop), Few f → (ls (f ++ w)).length < 4611686018427387904 → Dg A h s2 f → Fw h h1 → Own h.size 1 h1 out (ps.map pV) → Ths (Ao A out) h1 done ps →
      (∀ p h2, Fw h1 h2 → Own h.size 1 h2 out (ps.map pV) → Ths (Ao A out) h2 done ps → Th (Ao A out) h2 (grp f) p → K (some p) h2) → finger_group r s2 h1 K := by
    intro out ps done f w s2 h1 K hf hzf D2 E1 O1 T1 HK
    have S : To A (Ao A out) h h1 := To.old E1 fun b hb hl => ⟨hb, fun p hp => by have := (O1.lt hp).2; omega⟩
    refine group_ok (D2.to S) hf (by rw [ls_append] at hzf; simp at hzf; omega) (fun b hb => ⟨hA b (Nat.le_trans E1.1 hb), fun p hp => by have := (O1.lt hp).1; omega⟩) fun p h2 E2 Tg => ?_
    exact HK p h2 E2 (O1.ext E2) (T1.fw E2) Tg
  have fin : ∀ (out : Sl) (ps : List Addr) (done : List Fing.T) (h1 : Heap), Fw h h1 → Own h.size 1 h1 out (ps.map pV) → Ths (Ao A out) h1 done ps → done = groups l → R out h1 := by
    intro out ps done h1 E1 O1 T1 e
    subst e
    exact H out h1 E1 ⟨ps, Own.toPs O1 hA, T1.to (To.weak (fun b hb => hb.1) h1)⟩
  have second : ∀ (n : Nat) (w done : List Fing.T) (s2 out : Sl) (ps : List Addr) (h1 : Heap) (X27 : Sl → Sl → Heap → Prop),
      (∀ (l25 : Sl) (out26 : Sl) (h5 : Heap), (Br (decide (1 < ((l25.len : Int)))) (
          Sub l25 0 2 ((l25.cap : Int)) 1 fun s28 =>
          finger_group r s28 h5 fun y34 h6 =>
          New h6 (.cells #[(.pointer y34)] 69) fun p35 h7 =>
          App 69 1 8 (.pointer none) out26 ((⟨some p35, 1, 1⟩ : Sl)) h7 fun s38 h8 =>
          Sub l25 2 ((l25.len : Int)) ((l25.cap : Int)) 1 fun s39 =>
          X27 s39 s38 h8) (
          R out26 h5)) → X27 l25 out26 h5) →
      w.length ≤ n → (ls w).length < 4611686018427387904 → Dg A h s2 w → Fw h h1 → Own h.size 1 h1 out (ps.map pV) → Ths (Ao A out) h1 done ps → done ++ twos w = groups l → ps.length + w.length < 1048576 → X27 s2 out h1 := by
    intro n
    induction n with
    | zero =>
      intro w done s2 out ps h1 X27 HX27 hw hzw D2 E1 O1 T1 e hb
      have hwn : w = [] := List.eq_nil_of_length_eq_zero (by omega)
      subst hwn
      have l2 := D2.len
      exact HX27 _ _ _ ⟨fun c => absurd (of_decide_eq_true c) (by simp at l2; omega), fun _ => fin out ps done h1 E1 O1 T1 (by simpa [twos] using e)⟩
    | succ n ih =>
      intro w done s2 out ps h1 X27 HX27 hw hzw D2 E1 O1 T1 e hb
      have l2 := D2.len
      match w, hw, hzw, D2, e, hb, l2 with
      | [], hw, hzw, D2, e, hb, l2 => exact HX27 _ _ _ ⟨fun c => absurd (of_decide_eq_true c) (by simp at l2; omega), fun _ => fin out ps done h1 E1 O1 T1 (by simpa [twos] using e)⟩
      | [a], hw, hzw, D2, e, hb, l2 => exact HX27 _ _ _ ⟨fun c => absurd (of_decide_eq_true c) (by simp at l2; omega), fun _ => fin out ps done h1 E1 O1 T1 (by simpa [twos] using e)⟩
      | a :: b :: w, hw, hzw, D2, e, hb, l2 =>
        simp only [List.length_cons] at l2 hb hw
        refine HX27 _ _ _ ⟨fun _ => ?_, fun c => absurd (of_decide_eq_false c) (by omega)⟩
        refine D2.sub (lo := 0) (hi := 2) (by decide) (by simp) fun s3 D3 => ?_
        have D3 : Dg A h s3 [a, b] := D3
        refine part out ps done [a, b] w s3 h1 _ (.inl rfl) hzw D3 E1 O1 T1 fun p h2 E2 O2 T2 Tg => ?_
        refine App.thing O2 T2 Tg (Nat.le_trans E1.1 E2.1) (by omega) fun s4 h4 E4 O4 T4 => ?_
        rw [l2]
        refine D2.sub (lo := 2) (hi := w.length + 1 + 1) (by omega) (by simp) fun s5 D5 => ?_
        have D5 : Dg A h s5 w := by
          have : ((a :: b :: w).drop 2).take (w.length + 1 + 1 - 2) = w := by simp
          rwa [this] at D5
        refine ih w (done ++ [.n2 a b]) s5 s4 (ps ++ [p]) h4 X27 HX27 (by omega) (by rw [ls_cons, ls_cons] at hzw; simp at hzw; omega) D5 (Ext.trans (E1.trans E2) E4) O4 T4 (by rw [← e]; simp [twos]) (by simp; omega)
  have first : ∀ (n : Nat) (w done : List Fing.T) (s2 out : Sl) (ps : List Addr) (h1 : Heap), w.length ≤ n → (ls w).length < 4611686018427387904 → Dg A h s2 w → Fw h h1 → Own h.size 1 h1 out (ps.map pV) → Ths (Ao A out) h1 done ps → done ++ groups w = groups l → ps.length + w.length < 1048576 → X s2 out h1 := by
    intro n
    induction n with
    | zero =>
      intro w done s2 out ps h1 hw hzw D2 E1 O1 T1 e hb
      have hwn : w = [] := List.eq_nil_of_length_eq_zero (by omega)
      subst hwn
      have l2 := D2.len
      refine HX _ _ _ ⟨fun c => by simp [l2] at c, fun _ => ?_⟩
      intro X27 HX27
      exact second 0 [] done s2 out ps h1 X27 HX27 (by simp) hzw D2 E1 O1 T1 (by rw [groups_end (by simp)] at e; exact e) hb
    | succ n ih =>
      intro w done s2 out ps h1 hw hzw D2 E1 O1 T1 e hb
      have l2 := D2.len
      refine HX _ _ _ ⟨fun c => ?_, fun c => ?_⟩
      · have c : w.length > 4 ∨ w.length = 3 := by
          rw [Bool.or_eq_true, decide_eq_true_eq, decide_eq_true_eq] at c
          omega
        match w, c, hw, hzw, D2, e, hb, l2 with
        | [], c, _, _, _, _, _, _ => exact absurd c (by simp)
        | [_], c, _, _, _, _, _, _ => exact absurd c (by simp)
        | [_, _], c, _, _, _, _, _, _ => exact absurd c (by simp)
        | a :: b :: d :: w, c, hw, hzw, D2, e, hb, l2 =>
          simp only [List.length_cons] at l2 hb hw c
          refine D2.sub (lo := 0) (hi := 3) (by decide) (by simp) fun s3 D3 => ?_
          have D3 : Dg A h s3 [a, b, d] := D3
          refine part out ps done [a, b, d] w s3 h1 _ (.inr rfl) hzw D3 E1 O1 T1 fun p h2 E2 O2 T2 Tg => ?_
          refine App.thing O2 T2 Tg (Nat.le_trans E1.1 E2.1) (by omega) fun s4 h4 E4 O4 T4 => ?_
          rw [l2]
          refine D2.sub (lo := 3) (hi := w.length + 1 + 1 + 1) (by omega) (by simp) fun s5 D5 => ?_
          have D5 : Dg A h s5 w := by
            have : ((a :: b :: d :: w).drop 3).take (w.length + 1 + 1 + 1 - 3) = w := by simp
            rwa [this] at D5
          refine ih w (done ++ [.n3 a b d]) s5 s4 (ps ++ [p]) h4 (by omega) (by rw [ls_cons, ls_cons, ls_cons] at hzw; simp at hzw; omega) D5 (Ext.trans (E1.trans E2) E4) O4 T4 (by rw [← e, groups_step (by omega)]; simp) (by simp; omega)
      · have c : ¬ (w.length > 4 ∨ w.length = 3) := by
          rw [Bool.or_eq_false_iff, decide_eq_false_iff_not, decide_eq_false_iff_not] at c
          omega
        intro X27 HX27
        exact second w.length w done s2 out ps h1 X27 HX27 (Nat.le_refl _) hzw D2 E1 O1 T1 (by rw [groups_end c] at e; exact e) hb
  exact first l.length l [] s Sl.nil [] h (Nat.le_refl _) hz Dd (Fw.refl _) (Own.nil _ _ _) trivial rfl (by simpa using hn)

theorem grow_ok {n : Nat} {R : Sl → Heap → Prop} (hn : n ≤ 1048576) (H : ∀ s h', Fw h h' → Own h.size 1 h' s [] → R s h') : slices_Grow_finger_thing_finger_thing r Sl.nil (n : Int) h R := by
  apply slices_Grow_finger_thing_finger_thing_of
  intro J HJ
  refine ⟨fun c => absurd (of_decide_eq_true c) (by omega), fun _ => HJ _ fun x5 hx5 => ?_⟩
  have e5 : x5 = (n : Int) := by
    rw [hx5, show w64 ((Sl.nil.cap : Int) - (Sl.nil.len : Int)) = 0 by rw [w64_of] <;> decide, w64_of] <;> omega
  subst e5
  intro J8 HJ8
  refine ⟨fun c => ?_, fun c => HJ8 _ _ (H _ _ (Fw.refl _) (Own.nil _ _ _))⟩
  have c := of_decide_eq_true c
  refine ⟨by decide, by decide, by decide, by decide, fun t ht => ?_⟩
  have et : t = Sl.nil := by rw [ht]; rfl
  subst et
  refine ⟨by omega, by omega, by omega, by show 0 < 0 + _; omega, by show (0 + (n : Int).toNat) * 8 ≤ _; omega, [], rfl, .inl rfl, fun cap hcap _ => ?_⟩
  have hcap : n ≤ cap := by have : 0 + (n : Int).toNat ≤ cap := hcap; omega
  refine ⟨by decide, by simp [Sl.nil], by simp [Sl.nil], by simp, fun t ht => ?_⟩
  have ez : ∀ m, (Builtin.zeroCells (Value.pointer none).cells m).size = m := fun m => by
    have : (Value.pointer none).cells = #[.pointer none] := rfl
    simp [Builtin.zeroCells, this]
  refine HJ8 _ _ (H _ _ (Ext.push (Nat.le_refl _)) ?_)
  have et : t = ⟨some (ad h.size 0), 0, cap⟩ := by
    rw [ht]
    simp only [sliceA, Sl.nil, Int.toNat_natCast]
    split <;> rfl
  rw [et]
  refine ⟨rfl, by simp, .inr ⟨h.size, ((#[] ++ Builtin.zeroCells (Value.pointer none).cells (n : Int).toNat) ++ Builtin.zeroCells (Value.pointer none).cells (cap - (0 + (n : Int).toNat))).toList, rfl, Nat.le_refl _, ?_, ?_⟩⟩
  · have := Blk.new (h := h) (cs := ((#[] ++ Builtin.zeroCells (Value.pointer none).cells (n : Int).toNat) ++ Builtin.zeroCells (Value.pointer none).cells (cap - (0 + (n : Int).toNat))).toList) (el := 69)
    rw [Array.toArray_toList] at this
    exact this
  · simp [ez]
    omega

theorem concat_ok {b : Nat} {s t u : Sl} {x y z : List Fing.T} {R : Sl → Heap → Prop} (B : Blk h b [Sl.v s, Sl.v t, Sl.v u]) (hs : Dg A h s x) (ht : Dg A h t y) (hu : Dg A h u z) (hz : x.length + (y.length + z.length) ≤ 1048576) (hA : ∀ b, h.size ≤ b → A b)
    (H : ∀ s' h', Fw h h' → Dg A h' s' (x ++ (y ++ z)) → R s' h') : slices_Concat_finger_thing_finger_thing r ⟨some (ad b 0), 3, 3⟩ h R := by
  apply slices_Concat_finger_thing_finger_thing_of
  have l1 := hs.len
  have l2 := ht.len
  have l3 := hu.len
  obtain ⟨ps, P1, T1⟩ := hs
  obtain ⟨qs, P2, T2⟩ := ht
  obtain ⟨rs, P3, T3⟩ := hu
  have m1 := T1.len
  have m2 := T2.len
  have m3 := T3.len
  intro X HX
  have g : ∀ {h'} (i : Nat) {v : Value}, Fw h h' → [Sl.v s, Sl.v t, Sl.v u][i]? = some v → hcell h' (ad b i) = some v := fun i v E hv => by
    have := (E.blk B).ld i hv
    rwa [ad_add, Nat.zero_add] at this
  have ix : ∀ {K : Addr → Prop} (i : Nat), i < 3 → K (ad b i) → Ix ⟨some (ad b 0), 3, 3⟩ (i : Int) 1 K := fun i hi hK => Ix.mk rfl (by omega) (by simp; omega) (by simpa using hK)
  have e01 : w64 (0 + 1) = 1 := by rw [w64_of] <;> omega
  have e12 : w64 (1 + 1) = 2 := by rw [w64_of] <;> omega
  have e23 : w64 (2 + 1) = 3 := by rw [w64_of] <;> omega
  refine HX _ _ _ ⟨fun _ => ?_, fun c => absurd (of_decide_eq_false c) (by simp)⟩
  intro J HJ
  refine ix 0 (by omega) ⟨s, g 0 (Fw.refl _) rfl, fun c => absurd (of_decide_eq_true c) (by rw [w64_of] <;> omega), fun _ => HJ _ _ ?_⟩
  rw [show w64 (0 + (s.len : Int)) = (x.length : Int) by rw [w64_of] <;> omega, e01]
  refine HX _ _ _ ⟨fun _ => ?_, fun c => absurd (of_decide_eq_false c) (by simp)⟩
  intro J HJ
  refine ix 1 (by omega) ⟨t, g 1 (Fw.refl _) rfl, fun c => absurd (of_decide_eq_true c) (by rw [w64_of] <;> omega), fun _ => HJ _ _ ?_⟩
  rw [show w64 ((x.length : Int) + (t.len : Int)) = ((x.length + y.length : Nat) : Int) by rw [w64_of] <;> omega, e12]
  refine HX _ _ _ ⟨fun _ => ?_, fun c => absurd (of_decide_eq_false c) (by simp)⟩
  intro J HJ
  refine ix 2 (by omega) ⟨u, g 2 (Fw.refl _) rfl, fun c => absurd (of_decide_eq_true c) (by rw [w64_of] <;> omega), fun _ => HJ _ _ ?_⟩
  rw [show w64 (((x.length + y.length : Nat) : Int) + (u.len : Int)) = ((x.length + (y.length + z.length) : Nat) : Int) by rw [w64_of] <;> omega, e23]
  refine HX _ _ _ ⟨fun c => absurd (of_decide_eq_true c) (by simp), fun _ => ?_⟩
  refine grow_ok hz fun n h1 E1 O1 => ?_
  intro X2 HX2
  refine HX2 _ _ _ ⟨fun _ => ix 0 (by omega) ⟨s, g 0 E1 rfl, ?_⟩, fun c => absurd (of_decide_eq_false c) (by simp)⟩
  refine App.things (ps := []) O1 (P1.fw E1) E1.1 (by simp; omega) fun s2 h2 E2' O2 => ?_
  have E2 : Fw h h2 := Ext.trans E1 E2'
  rw [e01]
  refine HX2 _ _ _ ⟨fun _ => ix 1 (by omega) ⟨t, g 1 E2 rfl, ?_⟩, fun c => absurd (of_decide_eq_false c) (by simp)⟩
  refine App.things O2 (P2.fw E2) E2.1 (by simp; omega) fun s3 h3 E3' O3 => ?_
  have E3 : Fw h h3 := Ext.trans E2 E3'
  rw [e12]
  refine HX2 _ _ _ ⟨fun _ => ix 2 (by omega) ⟨u, g 2 E3 rfl, ?_⟩, fun c => absurd (of_decide_eq_false c) (by simp)⟩
  refine App.things O3 (P3.fw E3) E3.1 (by simp; omega) fun s4 h4 E4' O4 => ?_
  have E4 : Fw h h4 := Ext.trans E3 E4'
  rw [e23]
  refine HX2 _ _ _ ⟨fun c => absurd (of_decide_eq_true c) (by simp), fun _ => H s4 h4 E4 ⟨_, Own.toPs O4 hA, ?_⟩⟩
  rw [List.nil_append, List.append_assoc]
  exact (T1.fw E4).append ((T2.fw E4).append (T3.fw E4))

/-- one ahead of the other -/
theorem backward_ok {A0 : Nat → Prop} {h0 : Heap} {L c : Nat} {s : Sl} {l : List Fing.T} {R : Heap → Prop} {I : List Fing.T → Heap → Prop} (hl : l.length ≤ 1048576) (Dd : Dg A0 h0 s l) (I0 : I [] h) (keep : ∀ d h', I d h' → hcell h' (ad c 0) = some (Sl.v s) ∧ To A0 A0 h0 h')
    (step : ∀ d x t (i : Int) p h' K, I d h' → l = t ++ x :: d → Th A0 h' x p → (∀ h'', I (x :: d) h'' → K (.bool true) h'') → YieldH Try.prog r L [iV i, .pointer (some p)] h' K) (fin : ∀ h', I l h' → R h') : slices_Backward_finger_thing_finger_thing_1 r (.func (.yield L) #[] #[]) (ad c 0) h R := by
  apply slices_Backward_finger_thing_finger_thing_1_of
  have k0 := keep _ _ I0
  refine ⟨s, k0.1, ?_⟩
  have hlen := Dd.len
  intro X HX
  have key : ∀ (k : Nat) (h' : Heap), k ≤ l.length → I (l.drop k) h' → X ((k : Int) - 1) h' := by
    intro k
    induction k with
    | zero =>
      intro h' _ hI
      exact HX _ _ ⟨fun c => absurd (of_decide_eq_true c) (by omega), fun _ => fin h' hI⟩
    | succ k ih =>
      intro h' hk hI
      have kk := keep _ _ hI
      rw [show ((k + 1 : Nat) : Int) - 1 = (k : Int) by omega]
      have hkl : k < l.length := by omega
      refine HX _ _ ⟨fun _ => ⟨s, kk.1, (Dd.to kk.2).ix (List.getElem?_eq_getElem hkl) fun q p hq _ Tp => ⟨some p, hq, .inr ⟨L, rfl, ?_⟩⟩⟩, fun c => absurd (of_decide_eq_false c) (by omega)⟩
      have e2 : l.drop k = l[k] :: l.drop (k + 1) := List.drop_eq_getElem_cons hkl
      refine step (l.drop (k + 1)) _ (l.take k) _ p h' _ hI (by rw [← e2, List.take_append_drop]) Tp fun h'' hI' => ⟨true, rfl, fun c => (by cases c), fun _ => ?_⟩
      rw [w64_of (by omega) (by omega)]
      exact ih h'' (by omega) (by rw [e2]; exact hI')
  rw [hlen, w64_of (by omega) (by omega)]
  exact key l.length h (Nat.le_refl _) (by rw [List.drop_length]; exact I0)
end
end Go.Proofs.Ytmjljnbjoldeaaa
