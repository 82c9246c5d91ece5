/- Trees with both ends at hand: 'joined'. -/
import Derived.Test.YtmjljnbjoldeaaaFingR
namespace Go.Proofs.Ytmjljnbjoldeaaa
open Go Go.RowKit Go.Tw Go.Mono Go.Fing
set_option linter.unusedVariables false

section
variable {A : Nat → Prop} {r : World}

/-- the second one is built upon -/
theorem jleft_ok {A' : Nat → Prop} {k c : Nat} {b : Fing.F} {l10 : List Fing.T} {s10 : Sl} {q : Option Addr} {h0 h2 : Heap} {R : Option Addr → Heap → Prop} (hA'e : A' = fun b => A b ∧ b ≠ c) (hb : b.ok k) (hl : l10.length ≤ 5) (hd10 : ∀ t ∈ l10, t.dep k) (E0 : Fw h0 h2) (hc0 : h0.size ≤ c) (B : Blk h2 c [.pointer q])
    (D10 : Dg A' h2 s10 l10) (Lb : Lv A' h2 b q) (hz10 : (ls l10).length + b.l.length < 4611686018427387904) (hA : ∀ b, h2.size ≤ b → A b) (HR : ∀ q' h', Fw h0 h' → Lv A h' (pls l10 b) q' → R q' h') :
    slices_Backward_finger_thing_finger_thing r s10 h2 fun y13 h3 =>
        ∀ (D14 : Nat) (o15 : Obj) (h4 : Heap), D14 = Array.size h3 → h4 = (h3.push (.deferred (some []))).push o15 → notCells o15 = true →
          (∀ (a24 : Int) (a25 : Option Addr) (h5 : Heap) (K16 : Value → Heap → Prop), (h5[D14 + 1]? = some o15) →
            (∀ h8 : Heap, h8 = Tw.hput h5 (D14 + 1) (busyO o15) →
              LdP h8 (ad c 0) fun x26 =>
              finger_pushLeft r a25 x26 h8 fun y28 h9 =>
              St h9 (ad c 0) 1 [(.pointer y28)] fun h10 =>
              (h10[D14 + 1]? = some (busyO o15)) ∧ K16 (.bool true) (Tw.hput h10 (D14 + 1) o15)) →
            YieldH Try.prog r (D14 + 1) [(.int .i64 a24), (.pointer a25)] h5 K16) →
        CallF Try.prog r y13 [.func (.yield (D14 + 1)) #[] #[]] h4 fun _ h6 => (h6[D14 + 1]? = some o15) ∧ ∀ (o23 : Obj) (h7 : Heap), h7 = Tw.hput h6 (D14 + 1) o23 →
        LdP h7 (ad c 0) fun x31 =>
        (h7[D14]? = some (.deferred (some []))) ∧ ∀ h11 : Heap, h11 = Tw.hput h7 D14 (.deferred none) →
        R x31 h11 := by
  apply slices_Backward_finger_thing_finger_thing_of
  refine New.cells fun h3 E3 z3 B3 => ?_
  intro D o h4 hD hh4 hno HY
  have E4 : Fw h3 h4 := by subst hh4; exact (Ext.push (Nat.le_refl _)).trans (Ext.push (by simp))
  have hDe : h4[D]? = some (.deferred (some [])) := by
    subst hh4; rw [push_old (by simp [hD]), hD]; simp
  have hLo : h4[D + 1]? = some o := by
    subst hh4; rw [hD, Array.getElem?_push, if_pos (by simp)]
  clear hh4
  have E24 : Fw h2 h4 := E3.trans E4
  have E04 : Fw h0 h4 := E0.trans E24
  have h0s := E0.1
  have hcl := B.lt
  have h3s := E3.1
  refine ⟨_, _, _, rfl, Try.call73, ?_⟩
  have hA' : ∀ {g : Heap}, h2.size ≤ g.size → ∀ b, g.size ≤ b → A' b := fun hg b hb => by rw [hA'e]; exact ⟨hA b (by omega), by omega⟩
  have h4s := E4.1
  have hnA : ¬ A' c := fun hh => by rw [hA'e] at hh; exact hh.2 rfl
  let I : List Fing.T → Heap → Prop := fun d h' => h'[D + 1]? = some o ∧ h'[D]? = some (.deferred (some [])) ∧ Fw h0 h' ∧ To A' A' h4 h' ∧ Blk h' h2.size [Sl.v s10] ∧ ∃ q', Blk h' c [.pointer q'] ∧ Lv A' h' (pls d b) q'
  have Lb' : Lv A' h4 b q := Lb.fw E24
  have main : slices_Backward_finger_thing_finger_thing_1 r (.func (.yield (D + 1)) #[] #[]) (ad h2.size 0) h4 fun h6 => (h6[D + 1]? = some o) ∧ ∀ (o23 : Obj) (h7 : Heap), h7 = Tw.hput h6 (D + 1) o23 →
      LdP h7 (ad c 0) fun x31 => (h7[D]? = some (.deferred (some []))) ∧ ∀ h11 : Heap, h11 = Tw.hput h7 D (.deferred none) → R x31 h11 := by
    refine Go.Proofs.Ytmjljnbjoldeaaa.backward_ok (I := I) (A0 := A') (h0 := h4) (l := l10) (s := s10) (by omega) (D10.fw (E3.trans E4)) ⟨hLo, hDe, E04, To.weak (fun _ hb => hb) h4, E4.blk B3, q, E24.blk B, Lb'⟩ (fun d h' hI => ?_) ?_ ?_
    · refine ⟨?_, hI.2.2.2.1⟩
      have := hI.2.2.2.2.1.ld 0 (v := Sl.v s10) rfl
      rwa [ad_add] at this
    · intro d x t i p' h5 K hI hdl Tp hK
      obtain ⟨i1, i2, i3, i4, i5, q', i6, i7⟩ := hI
      refine HY i (some p') h5 K i1 fun h8 hh8 => ?_
      have hl2 : d.length + 1 ≤ l10.length := by rw [hdl]; simp
      have hdd : ∀ t ∈ d, t.dep k := fun y hy => hd10 y (by rw [hdl]; simp [hy])
      have hxd : x.dep k := hd10 x (by rw [hdl]; simp)
      have hls : (ls l10).length = (ls t).length + (x.l.length + (ls d).length) := by rw [hdl, ls_append, ls_cons]; simp
      have hpl := pls_l d b k hb hdd
      have b9 := i6.hput (o' := busyO o) i1 hno
      have c9 := i5.hput (o' := busyO o) i1 hno
      have S9 : To A' A' h5 (Tw.hput h5 (D + 1) (busyO o)) := To.hput i1 hno
      have r9 : (Tw.hput h5 (D + 1) (busyO o))[D + 1]? = some (busyO o) := hput_self i1
      have d9 : (Tw.hput h5 (D + 1) (busyO o))[D]? = some (.deferred (some [])) := by rw [hput_other (by omega)]; exact i2
      have f9 : Fw h0 (Tw.hput h5 (D + 1) (busyO o)) := i3.hput (by omega)
      rw [← hh8] at b9 c9 S9 r9 d9 f9
      have hz8 : h2.size ≤ h8.size := Nat.le_trans E24.1 (i4.trans S9).1
      refine ⟨q', by have := b9.ld 0 (v := .pointer q') rfl; rwa [ad_add] at this, ?_⟩
      refine pushLeft_ok _ k _ _ _ _ _ hpl.2 (i7.to S9) (Tp.to S9) (by rw [hpl.1]; simp; omega) (hA' hz8) fun q2 h9 E9 L9 => ?_
      have b10 := E9.blk b9
      refine St.whole b10 rfl rfl fun h10 b11 o11 z11 => ?_
      have hn := notCells_busy hno
      have r11 := other_at o11 (E9.at_ r9) (fun e => b10.not (E9.at_ r9) hn e.symm)
      have d11 := other_at o11 (E9.at_ d9) (fun e => b10.not (E9.at_ d9) rfl e.symm)
      have S11 : To A' A' h9 h10 := To.over hnA o11 z11
      have S12 : To A' A' h10 (Tw.hput h10 (D + 1) o) := To.hput r11 hn
      refine ⟨r11, hK _ ⟨hput_self r11, by rw [hput_other (by omega)]; exact d11, ((f9.trans E9).over hc0 o11 z11).hput (by omega), ((((i4.trans S9).trans (To.fw E9)).trans S11).trans S12), ((E9.blk c9).other o11 (by omega)).hput r11 hn, q2, b11.hput r11 hn, (L9.to S11).to S12⟩⟩
    · intro h6 hI
      obtain ⟨i1, i2, i3, i4, i5, q', i6, i7⟩ := hI
      refine ⟨i1, fun o23 h7 hh7 => ?_⟩
      have b8 := i6.hput (o' := o23) i1 hno
      have S8 : To A' A' h6 (Tw.hput h6 (D + 1) o23) := To.hput i1 hno
      have d8 : (Tw.hput h6 (D + 1) o23)[D]? = some (.deferred (some [])) := by rw [hput_other (by omega)]; exact i2
      have f8 : Fw h0 (Tw.hput h6 (D + 1) o23) := i3.hput (by omega)
      rw [← hh7] at b8 S8 d8 f8
      refine ⟨q', by have := b8.ld 0 (v := .pointer q') rfl; rwa [ad_add] at this, d8, fun h11 hh11 => ?_⟩
      subst hh11
      refine HR q' _ (f8.hput (by omega)) ?_
      exact ((i7.to S8).to (To.hput d8 rfl)).to (To.weak (fun b hb => by rw [hA'e] at hb; exact hb.1) _)
  exact CallsH.mono main fun v h7 hx => hx.2

/-- the first one is built upon -/
theorem jright_ok {k : Nat} {a : Fing.F} {l57 : List Fing.T} {s57 : Sl} {p : Option Addr} {h : Heap} {R : Option Addr → Heap → Prop} (ha : a.ok k) (hl : l57.length ≤ 5) (hd57 : ∀ t ∈ l57, t.dep k) (D57 : Dg A h s57 l57) (La : Lv A h a p) (hz57 : (ls l57).length + a.l.length < 4611686018427387904) (hA : ∀ b, h.size ≤ b → A b)
    (HR : ∀ q' h', Fw h h' → Lv A h' (prs a l57) q' → R q' h') (X62 : Option Addr → Int → Heap → Prop) (HX : ∀ (a60 : Option Addr) (x61 : Int) (h15 : Heap),
              (Br (decide (x61 < ((s57.len : Int)))) (
                Ix s57 x61 1 fun q67 =>
                LdP h15 q67 fun x69 =>
                finger_pushRight r a60 x69 h15 fun y71 h16 =>
                X62 y71 (w64 (x61 + 1)) h16) (
                R a60 h15)) →
              X62 a60 x61 h15) : X62 p 0 h := by
  have l1 := D57.len
  have key : ∀ (n i : Nat) (q' : Option Addr) (h15 : Heap), i + n = l57.length → Fw h h15 → Lv A h15 (prs a (l57.take i)) q' → X62 q' (i : Int) h15 := by
    intro n
    induction n with
    | zero =>
      intro i q' h15 hi E15 L15
      refine HX _ _ _ ⟨fun c => absurd (of_decide_eq_true c) (by omega), fun _ => HR q' h15 E15 ?_⟩
      rwa [List.take_of_length_le (by omega)] at L15
    | succ n ihn =>
      intro i q' h15 hi E15 L15
      have hit : i < l57.length := by omega
      refine HX _ _ _ ⟨fun _ => (D57.fw E15).ix (List.getElem?_eq_getElem hit) fun q0 p0 hq0 _ Tp => ⟨some p0, hq0, ?_⟩, fun c => absurd (of_decide_eq_false c) (by omega)⟩
      have hpl := prs_l (l57.take i) a k ha fun t ht => hd57 t (List.mem_of_mem_take ht)
      have el : ls l57 = ls (l57.take (i + 1)) ++ ls (l57.drop (i + 1)) := by rw [← ls_append, List.take_append_drop]
      rw [prs_part l57 i hit, ls_append, ls_one] at el
      have el := congrArg List.length el
      simp only [List.length_append] at el
      refine pushRight_ok _ k _ _ _ _ _ hpl.2 L15 Tp (by rw [hpl.1]; simp only [List.length_append]; omega) (new_A hA E15) fun q2 h16 E16 L16 => ?_
      rw [w64_of (by omega) (by omega)]
      refine ihn (i + 1) q2 h16 (by omega) (E15.trans E16) ?_
      rw [prs_part l57 i hit, prs_snoc]; exact L16
  exact key l57.length 0 p h (by omega) (Fw.refl _) La


theorem joined_ok : ∀ (a : Fing.F) (ts : List Fing.T) (b : Fing.F) (k : Nat) (p : Option Addr) (s : Sl) (q : Option Addr) (h : Heap) (R : Option Addr → Heap → Prop), a.ok k → b.ok k → (∀ t ∈ ts, t.dep k) → ts.length ≤ 4 → Lv A h a p → Dg A h s ts → Lv A h b q →
    a.l.length + ((ls ts).length + b.l.length) < 4611686018427387904 → (∀ b, h.size ≤ b → A b) → (∀ q' h', Fw h h' → Lv A h' (jn a ts b) q' → R q' h') → finger_joined r p s q h R
  | .nil, ts, b, k, p, s, q, h, R, ha, hb, hd, hn, La, Ds, Lb, hz, hA, H => by
    have La : p = none := La
    subst La
    apply finger_joined_of
    refine New.cells (cs := [.pointer q]) fun h1 E1 z1 B1 => ?_
    intro J8 HJ8
    have ho : ∀ x, A x → x < h.size → (A x ∧ x ≠ h.size) := fun x hx hl => ⟨hx, by omega⟩
    refine ⟨fun _ => HJ8 _ ⟨fun _ => ?_, fun c => (by cases c)⟩, fun c => (by cases c)⟩
    intro J11 HJ11
    refine ⟨fun c => (by cases c), fun _ => HJ11 _ _ ?_⟩
    exact jleft_ok (A := A) (k := k) (c := h.size) (h0 := h) rfl hb (by omega) hd E1 (Nat.le_refl _) B1 (Ds.to (To.old E1 ho)) (Lb.to (To.old E1 ho)) (by simpa [Fing.F.l] using hz) (new_A hA E1) H
  | .one u, ts, b, k, p, s, q, h, R, ha, hb, hd, hn, La, Ds, Lb, hz, hA, H => by
    obtain ⟨c, s1, rfl, hc, B, Du⟩ := La
    apply finger_joined_of
    refine New.cells (cs := [.pointer q]) fun h1 E1 z1 B1 => ?_
    have hz : u.l.length + ((ls ts).length + b.l.length) < 4611686018427387904 := hz
    intro J8 HJ8
    have ho : ∀ x, A x → x < h.size → (A x ∧ x ≠ h.size) := fun x hx hl => ⟨hx, by omega⟩
    refine ⟨fun c => (by cases c), fun _ => ⟨_, rfl, _, (E1.blk B).ld 6 rfl, HJ8 _ ⟨fun _ => ?_, fun c => (by cases c)⟩⟩⟩
    intro J11 HJ11
    refine ⟨fun _ => ⟨_, rfl, _, (E1.blk B).ld 5 rfl, Du.ix (i := 0) rfl fun q0 p0 hq0 hb0 Tp => ⟨some p0, by rw [E1.cell hb0]; exact hq0, ?_⟩⟩, fun c => (by cases c)⟩
    refine New.cells (cs := [pV p0]) fun h2 E2 z2 B2 => ?_
    obtain ⟨ps, P, T⟩ := Ds
    have E12 := E1.trans E2
    have hT := T.len
    refine App.things (ps := [p0]) (own_blk B2 (Nat.le_refl _)) (P.fw E12) E2.1 (by simp; omega) fun s' h3 E3 O3 => HJ11 _ _ ?_
    have E23 : Fw h1 h3 := Ext.trans E2 E3
    have E03 : Fw h h3 := E1.trans E23
    have D3 : Dg (fun x => A x ∧ x ≠ h.size) h3 s' (u :: ts) := ⟨_, Own.toPs O3 (fun x hx => ⟨hA x (by omega), by omega⟩), Tp.to (To.old E03 ho), T.to (To.old E03 ho)⟩
    exact jleft_ok (A := A) (k := k) (c := h.size) (h0 := h) rfl hb (by simp; omega) (by intro x hx; rcases List.mem_cons.1 hx with rfl | hx; exact ha; exact hd x hx) E03 (Nat.le_refl _) (E23.blk B1) D3 (Lb.to (To.old E03 ho)) (by rw [ls_cons]; simp; omega) (new_A hA E03) H
  | .deep l m w, ts, .nil, k, p, s, q, h, R, ha, hb, hd, hn, La, Ds, Lb, hz, hA, H => by
    have La' := La
    obtain ⟨c, s1, u1, qm, rfl, hc, B, D1, D2, Lm⟩ := La
    have Lb : q = none := Lb
    subst Lb
    apply finger_joined_of
    refine New.cells (cs := [.pointer none]) fun h1 E1 z1 B1 => ?_
    have g0 : hcell h1 (ad h.size 0) = some (.pointer none) := by have := B1.ld 0 (v := .pointer none) rfl; rwa [ad_add] at this
    intro J8 HJ8
    refine ⟨fun c => (by cases c), fun _ => ⟨_, rfl, _, (E1.blk B).ld 6 rfl, ?_⟩⟩
    dsimp only
    rw [D2.some ha.2.1.ne]
    refine HJ8 _ ⟨fun c => (by cases c), fun _ => ?_⟩
    intro J53 HJ53
    refine ⟨_, g0, fun _ => HJ53 _ ⟨fun _ => ⟨_, g0, ?_⟩, fun c => (by cases c)⟩, fun c => (by cases c)⟩
    intro J58 HJ58
    refine ⟨fun c => (by cases c), fun _ => HJ58 _ _ fun X HX => ?_⟩
    have hz : (Fing.F.deep l m w).l.length + ((ls ts).length + 0) < 4611686018427387904 := hz
    exact jright_ok (A := A) ha (by omega) hd (Ds.fw E1) (La'.fw E1) (by omega) (new_A hA E1) (fun q' h' E L' => H q' h' (E1.trans E) L') X HX
  | .deep l m w, ts, .one u, k, p, s, q, h, R, ha, hb, hd, hn, La, Ds, Lb, hz, hA, H => by
    have La' := La
    obtain ⟨c, s1, u1, qm, rfl, hc, B, D1, D2, Lm⟩ := La
    obtain ⟨c2, s2, rfl, hc2, C, Du⟩ := Lb
    apply finger_joined_of
    refine New.cells (cs := [.pointer (some (ad c2 0))]) fun h1 E1 z1 B1 => ?_
    have g0 : ∀ {h'}, Fw h1 h' → hcell h' (ad h.size 0) = some (.pointer (some (ad c2 0))) := fun E => by have := (E.blk B1).ld 0 (v := .pointer (some (ad c2 0))) rfl; rwa [ad_add] at this
    intro J8 HJ8
    refine ⟨fun c => (by cases c), fun _ => ⟨_, rfl, _, (E1.blk B).ld 6 rfl, ?_⟩⟩
    dsimp only
    rw [D2.some ha.2.1.ne]
    refine HJ8 _ ⟨fun c => (by cases c), fun _ => ?_⟩
    intro J53 HJ53
    refine ⟨_, g0 (Fw.refl _), fun c => (by cases c), fun _ => ⟨_, g0 (Fw.refl _), _, rfl, _, (E1.blk C).ld 6 rfl, HJ53 _ ⟨fun _ => ⟨_, g0 (Fw.refl _), ?_⟩, fun c => (by cases c)⟩⟩⟩
    intro J58 HJ58
    have hz : (Fing.F.deep l m w).l.length + ((ls ts).length + u.l.length) < 4611686018427387904 := hz
    have last : ∀ (s' : Sl) (h3 : Heap), Fw h h3 → Dg A h3 s' (ts ++ [u]) → J58 s' h3 := fun s' h3 E3 D3 => HJ58 _ _ fun X HX =>
      jright_ok (A := A) ha (by simp; omega) (by intro x hx; rcases List.mem_append.1 hx with hx | hx; exact hd x hx; simp at hx; subst hx; exact hb) D3 (La'.fw E3) (by rw [ls_append, ls_one]; simp; omega) (new_A hA E3) (fun q' h' E L' => H q' h' (E3.trans E) L') X HX
    refine ⟨fun _ => ⟨_, g0 (Fw.refl _), _, rfl, _, (E1.blk C).ld 5 rfl, Du.ix (i := 0) rfl fun q0 p0 hq0 hb0 Tp => ⟨some p0, by rw [E1.cell hb0]; exact hq0, ?_, ?_⟩⟩, fun c => (by cases c)⟩
    · refine clone_ok (Ds.fw E1) (by omega) fun s' h3 ps E3 O3 T3 => ?_
      have E03 := E1.trans E3
      refine ⟨by rw [E03.cell hb0]; exact hq0, (E03.blk C).ld 5 rfl, g0 E3, ?_⟩
      refine New.cells (cs := [pV p0]) fun h4 E4 z4 B4 => ?_
      have E04 := E03.trans E4
      have hT := T3.len
      have P4 : Ps A h4 ⟨some (ad h3.size 0), 1, 1⟩ [p0] := ⟨rfl, Nat.le_refl _, .inr ⟨h3.size, 0, rfl, hA _ E03.1, B4.lt, fun i hi => by rw [Nat.zero_add, B4.cell]; rfl⟩⟩
      refine App.things (O3.ext E4) P4 (E3.trans E4).1 (by simp; omega) fun s5 h5 E5 O5 => ?_
      have E15 : Fw h1 h5 := Ext.trans (E3.trans E4) E5
      exact last s5 h5 (E1.trans E15) ⟨_, Own.toPs O5 (new_A hA E1), (T3.fw E15).append ⟨Tp.fw (E1.trans E15), trivial⟩⟩
    · refine New.cells (cs := [pV p0]) fun h4 E4 z4 B4 => ?_
      have E04 := E1.trans E4
      refine clone_ok (Ds.fw E04) (by omega) fun s' h3 ps E3 O3 T3 => ?_
      have E03 := E04.trans E3
      refine ⟨by rw [E03.cell hb0]; exact hq0, (E03.blk C).ld 5 rfl, g0 (E4.trans E3), ?_⟩
      have hT := T3.len
      have B5 := E3.blk B4
      have P4 : Ps A h3 ⟨some (ad h1.size 0), 1, 1⟩ [p0] := ⟨rfl, Nat.le_refl _, .inr ⟨h1.size, 0, rfl, hA _ E1.1, B5.lt, fun i hi => by rw [Nat.zero_add, B5.cell]; rfl⟩⟩
      refine App.things O3 P4 E3.1 (by simp; omega) fun s5 h5 E5 O5 => ?_
      have E45 : Fw h4 h5 := Ext.trans E3 E5
      exact last s5 h5 (E04.trans E45) ⟨_, Own.toPs O5 (new_A hA E04), (T3.fw E45).append ⟨Tp.fw (E04.trans E45), trivial⟩⟩
  | .deep l m w, ts, .deep l' m' w', k, p, s, q, h, R, ha, hb, hd, hn, La, Ds, Lb, hz, hA, H => by
    obtain ⟨c, s1, u1, qm, rfl, hc, B, D1, D2, Lm⟩ := La
    obtain ⟨c2, s2, u2, qm', rfl, hc2, C, D3, D4, Lm'⟩ := Lb
    have hz : (ls l ++ (m.l ++ ls w)).length + ((ls ts).length + (ls l' ++ (m'.l ++ ls w')).length) < 4611686018427387904 := hz
    simp only [List.length_append] at hz
    have n1 := ha.1.2.1
    have n2 := ha.2.1.2.1
    have n3 := hb.1.2.1
    have n4 := hb.2.1.2.1
    have n2' := ha.2.1.1
    have n3' := hb.1.1
    apply finger_joined_of
    refine New.cells (cs := [.pointer (some (ad c2 0))]) fun h1 E1 z1 B1 => ?_
    have g0 : ∀ {h'}, Fw h1 h' → hcell h' (ad h.size 0) = some (.pointer (some (ad c2 0))) := fun E => by have := (E.blk B1).ld 0 (v := .pointer (some (ad c2 0))) rfl; rwa [ad_add] at this
    have gb : ∀ {h'}, Fw h1 h' → Blk h' c _ := fun E => (E1.trans E).blk B
    have gc : ∀ {h'}, Fw h1 h' → Blk h' c2 _ := fun E => (E1.trans E).blk C
    have R0 := Fw.refl h1
    intro J8 HJ8
    refine ⟨fun c => (by cases c), fun _ => ⟨_, rfl, _, (gb R0).ld 6 rfl, ?_⟩⟩
    dsimp only
    rw [D2.some ha.2.1.ne]
    refine HJ8 _ ⟨fun c => (by cases c), fun _ => ?_⟩
    intro J53 HJ53
    refine ⟨_, g0 R0, fun c => (by cases c), fun _ => ⟨_, g0 R0, _, rfl, _, (gc R0).ld 6 rfl, ?_⟩⟩
    dsimp only
    rw [D4.some hb.2.1.ne]
    refine HJ53 _ ⟨fun c => (by cases c), fun _ => ?_⟩
    refine ⟨_, rfl, _, (gb R0).ld 5 rfl, _, rfl, _, (gb R0).ld 7 rfl, _, rfl, _, (gb R0).ld 6 rfl, _, g0 R0, _, rfl, _, (gc R0).ld 5 rfl, _, g0 R0, _, rfl, _, (gc R0).ld 7 rfl, _, g0 R0, _, rfl, _, (gc R0).ld 6 rfl, ?_⟩
    refine New.cells (cs := [Sl.v u1, Sl.v s, Sl.v s2]) fun h2 E2 z2 B2 => ?_
    refine ⟨(gc E2).ld 6 rfl, g0 E2, (gc E2).ld 7 rfl, g0 E2, (gb E2).ld 7 rfl, (gb E2).ld 5 rfl, ?_⟩
    have E02 := E1.trans E2
    refine concat_ok B2 (D2.fw E02) (Ds.fw E02) (D3.fw E02) (by omega) (new_A hA E02) fun s3 h3 E3 D5 => ?_
    have E13 := E2.trans E3
    have E03 := E1.trans E13
    refine ⟨(gc E13).ld 6 rfl, g0 E13, (gc E13).ld 7 rfl, g0 E13, (gb E13).ld 7 rfl, (gb E13).ld 5 rfl, ?_⟩
    have hdd : ∀ t ∈ w ++ (ts ++ l'), t.dep k := by
      intro t ht
      rcases List.mem_append.1 ht with ht | ht
      · exact ha.2.1.2.2 t ht
      · rcases List.mem_append.1 ht with ht | ht
        · exact hd t ht
        · exact hb.1.2.2 t ht
    have hgl : (w ++ (ts ++ l')).length ≤ 12 := by simp; omega
    obtain ⟨gr1, gr2, gr3⟩ := groups_ok _ (w ++ (ts ++ l')) k rfl (by simp; omega) hdd
    have hlz : (ls (w ++ (ts ++ l'))).length = (ls w).length + ((ls ts).length + (ls l').length) := by rw [ls_append, ls_append]; simp
    refine groups_ok' D5 (by omega) (by omega) (new_A hA E03) fun s4 h4 E4 D6 => ?_
    have E14 := E13.trans E4
    have E04 := E1.trans E14
    refine ⟨(gc E14).ld 6 rfl, g0 E14, (gc E14).ld 7 rfl, g0 E14, (gb E14).ld 7 rfl, (gb E14).ld 5 rfl, ?_⟩
    refine joined_ok m (groups (w ++ (ts ++ l'))) m' (k + 1) _ _ _ _ _ ha.2.2 hb.2.2 gr2 (by omega) (Lm.fw E04) D6 (Lm'.fw E04) (by rw [gr1]; omega) (new_A hA E04) fun q5 h5 E5 L5 => ?_
    have E15 := E14.trans E5
    have E05 := E1.trans E15
    refine ⟨(gc E15).ld 6 rfl, g0 E15, (gb E15).ld 5 rfl, ?_⟩
    have hj := (jn_ok m (groups (w ++ (ts ++ l'))) m' (k + 1) ha.2.2 hb.2.2 gr2).2
    refine deep_ok (D1.fw E05) (D4.fw E05) L5 (by rw [hj, gr1]; simp only [List.length_append]; omega) (by omega) (by omega) (new_A hA E05) fun q6 h6 E6 L6 => H q6 h6 (E05.trans E6) L6
end
end Go.Proofs.Ytmjljnbjoldeaaa
