/- Trees with both ends at hand: cut where a beginning is so. -/
import Derived.Test.YtmjljnbjoldeaaaFingC
import Derived.Test.YtmjljnbjoldeaaaFingS
namespace Go.Proofs.Ytmjljnbjoldeaaa
open Go Go.RowKit Go.Tw Go.Mono Go.Fing
set_option linter.unusedVariables false

/-- a function that tells of beginnings -/
def AskV (r : World) (p1 : Value) (f : List Int → Bool) (h0 : Heap) : Prop := ∀ h', Fw h0 h' → ∀ (s : List Int), s.length < 4611686018427387904 → ∀ K : Value → Heap → Prop, (∀ h'', Fw h' h'' → K (.bool (f s)) h'') →
  CallV Try.prog r p1 [.agg #[iV (meas s).n, iV (meas s).sum, iV (meas s).least, iV (meas s).most, iV (meas s).hash]] h' K
theorem AskV.fw {r : World} {p1 : Value} {f : List Int → Bool} {h h' : Heap} (H : AskV r p1 f h) (E : Fw h h') : AskV r p1 f h' := fun h2 E2 => H h2 (E.trans E2)

section
variable {A : Nat → Prop} {r : World} {p1 : Value} {f : List Int → Bool}

theorem place_ok {s0 : List Int} {ts : List Fing.T} {sl : Sl} {h : Heap} {R : Int → Int → Int → Int → Int → Int → Heap → Prop} (Dd : Dg A h sl ts) (hask : AskV r p1 f h) (h0 : f s0 = false) (h1 : f (s0 ++ ls ts) = true) (hn : ts ≠ []) (hl : ts.length ≤ 4) (hz : s0.length + (ls ts).length < 4611686018427387904)
    (H : ∀ (a : List Fing.T) (t : Fing.T) (b : List Fing.T) (h' : Heap), ts = a ++ t :: b → f (s0 ++ ls a) = false → f (s0 ++ (ls a ++ t.l)) = true → Fw h h' → R (a.length : Int) (meas (s0 ++ ls a)).n (meas (s0 ++ ls a)).sum (meas (s0 ++ ls a)).least (meas (s0 ++ ls a)).most (meas (s0 ++ ls a)).hash h') :
    finger_asker_place r p1 (meas s0).n (meas s0).sum (meas s0).least (meas s0).most (meas s0).hash sl h R := by
  apply finger_asker_place_of
  have hlen := Dd.len
  obtain ⟨n, hn1⟩ : ∃ n, ts.length = n + 1 := ⟨ts.length - 1, by have := List.length_pos_iff.2 hn; omega⟩
  refine New.cells fun g1 E1 z1 B1 => New.cells fun g2 E2 z2 B2 => ?_
  have ew : w64 ((sl.len : Int) - 1) = (n : Int) := by rw [w64_of] <;> omega
  rw [ew]
  have E12 := E1.trans E2
  refine Dd.sub (lo := 0) (hi := n) (Nat.zero_le _) (by omega) fun s14 D14 => ?_
  have D14 : Dg A h s14 (ts.take n) := by simpa using D14
  have l14 := D14.len
  have l14 : s14.len = n := by rw [l14]; simp; omega
  intro X HX
  have hc8 := B1.lt
  have hc11 := B2.lt
  have key : ∀ (d i : Nat) (h3 : Heap), i + d = n → Fw h h3 → Blk h3 h.size (meas (s0 ++ ls (ts.take i))).c → Blk h3 g1.size [iV 0, iV 0, iV 0, iV 0, iV 0] → f (s0 ++ ls (ts.take i)) = false → X (i : Int) h3 := by
    intro d
    induction d with
    | zero =>
      intro i h3 hi E3 B3 C3 hf
      obtain rfl : i = n := by omega
      refine HX _ _ ⟨fun c => absurd (of_decide_eq_true c) (by omega), fun _ => ⟨_, B3.ld 0 rfl, _, B3.ld 1 rfl, _, B3.ld 2 rfl, _, B3.ld 3 rfl, _, B3.ld 4 rfl, ?_⟩⟩
      refine St.whole C3 rfl rfl fun h4 B4 o4 z4 => ⟨_, B4.ld 0 rfl, _, B4.ld 1 rfl, _, B4.ld 2 rfl, _, B4.ld 3 rfl, _, B4.ld 4 rfl, ?_⟩
      have e1 : ts = ts.take i ++ ts[i]'(by omega) :: [] := by
        have := prs_part ts i (by omega)
        rw [List.take_of_length_le (by omega)] at this
        exact this
      have := H (ts.take i) (ts[i]'(by omega)) [] h4 e1 hf (by rw [← ls_one, ← ls_append, ← e1]; exact h1) (E3.over E1.1 o4 z4)
      rw [List.length_take, Nat.min_eq_left (by omega)] at this
      exact this
    | succ d ih =>
      intro i h3 hi E3 B3 C3 hf
      have hit : i < ts.length := by omega
      have eg : (ts.take n)[i]? = some ts[i] := by rw [List.getElem?_take, if_pos (by omega), List.getElem?_eq_getElem hit]
      refine HX _ _ ⟨fun _ => (D14.fw E3).ix eg fun q0 p0 hq0 _ Tp => ⟨some p0, hq0, ?_⟩, fun c => absurd (of_decide_eq_false c) (by omega)⟩
      obtain ⟨c, x, s', rfl, _, B, _, _⟩ := Tp.view
      intro J HJ
      have es : ts.take (i + 1) = ts.take i ++ [ts[i]] := prs_part ts i hit
      have ets : ts = ts.take i ++ ts[i] :: ts.drop (i + 1) := by rw [← List.drop_eq_getElem_cons hit, List.take_append_drop]
      have elen := congrArg (fun z => (ls z).length) ets
      simp only [ls_append, ls_cons, List.length_append] at elen
      have em : (s0 ++ ls (ts.take i)) ++ ts[i].l = s0 ++ ls (ts.take (i + 1)) := by rw [es, ls_append, ls_one, List.append_assoc]
      have fin : ∀ (c30 : Nat) (h4 : Heap), Fw h3 h4 → Blk h4 c30 (meas (s0 ++ ls (ts.take (i + 1)))).c → J (ad c30 0) h4 := by
        intro c30 h4 E4 B4
        refine HJ _ _ ⟨_, B4.ld 0 rfl, _, B4.ld 1 rfl, _, B4.ld 2 rfl, _, B4.ld 3 rfl, _, B4.ld 4 rfl, ?_⟩
        have E04 := E3.trans E4
        refine hask h4 E04 _ (by rw [← em]; simp; omega) _ fun h5 E5 => ⟨_, rfl, fun hy => ?_, fun hy => ?_⟩
        · have B5 := (E4.trans E5).blk B3
          have C5 := (E4.trans E5).blk C3
          refine ⟨_, B5.ld 0 rfl, _, B5.ld 1 rfl, _, B5.ld 2 rfl, _, B5.ld 3 rfl, _, B5.ld 4 rfl, ?_⟩
          refine St.whole C5 rfl rfl fun h6 B6 o6 z6 => ⟨_, B6.ld 0 rfl, _, B6.ld 1 rfl, _, B6.ld 2 rfl, _, B6.ld 3 rfl, _, B6.ld 4 rfl, ?_⟩
          have := H (ts.take i) ts[i] (ts.drop (i + 1)) h6 ets hf (by rw [← List.append_assoc, em]; exact hy) ((E04.trans E5).over E1.1 o6 z6)
          rw [List.length_take, Nat.min_eq_left (by omega)] at this
          exact this
        · have B5 := E5.blk B4
          have C5 := (E4.trans E5).blk B3
          have D5 := (E4.trans E5).blk C3
          refine ⟨_, B5.ld 0 rfl, _, B5.ld 1 rfl, _, B5.ld 2 rfl, _, B5.ld 3 rfl, _, B5.ld 4 rfl, ?_⟩
          refine St.whole C5 rfl rfl fun h7 B7 o7 z7 => ?_
          rw [w64_of (by omega) (by omega)]
          have E7 := (E04.trans E5).over (Nat.le_refl _) o7 z7
          exact ih (i + 1) h7 (by omega) E7 B7 (D5.other o7 (by omega)) hy
      have hjz : (s0 ++ ls (ts.take i)).length + ts[i].l.length < 4611686018427387904 := by simp; omega
      refine ⟨_, B3.ld 0 rfl, _, B3.ld 1 rfl, _, B3.ld 2 rfl, _, B3.ld 3 rfl, _, B3.ld 4 rfl, _, rfl, _, B.ld2 0 0 rfl, _, B.ld2 0 1 rfl, _, B.ld2 0 2 rfl, _, B.ld2 0 3 rfl, _, B.ld2 0 4 rfl, ?_, ?_⟩
      · refine join_ok hjz fun h8 E8 => ?_
        rw [em]
        refine New.cells fun h9 E9 z9 B9 => ?_
        have E89 := E8.trans E9
        have Bt := E89.blk B
        have B8 := E89.blk B3
        refine ⟨Bt.ld2 0 0 rfl, Bt.ld2 0 1 rfl, Bt.ld2 0 2 rfl, Bt.ld2 0 3 rfl, Bt.ld2 0 4 rfl, B8.ld 0 rfl, B8.ld 1 rfl, B8.ld 2 rfl, B8.ld 3 rfl, B8.ld 4 rfl, ?_⟩
        exact St.whole B9 rfl rfl fun h10 B10 o10 z10 => fin _ h10 (E89.over (c := h8.size) E8.1 o10 z10) B10
      · refine New.cells fun h9 E9 z9 B9 => ?_
        have Bt := E9.blk B
        have B8 := E9.blk B3
        refine ⟨Bt.ld2 0 0 rfl, Bt.ld2 0 1 rfl, Bt.ld2 0 2 rfl, Bt.ld2 0 3 rfl, Bt.ld2 0 4 rfl, B8.ld 0 rfl, B8.ld 1 rfl, B8.ld 2 rfl, B8.ld 3 rfl, B8.ld 4 rfl, ?_⟩
        refine join_ok hjz fun h8 E8 => ?_
        rw [em]
        exact St.whole (E8.blk B9) rfl rfl fun h10 B10 o10 z10 => fin _ h10 ((E9.trans E8).over (c := h3.size) (Nat.le_refl _) o10 z10) B10
  refine key n 0 g2 (by omega) E12 ?_ B2 ?_
  · have e : s0 ++ ls (ts.take 0) = s0 := by simp [ls]
    rw [e]; exact E2.blk B1
  · have e : s0 ++ ls (ts.take 0) = s0 := by simp [ls]
    rw [e]; exact h0

theorem cut_ok : ∀ (v : Fing.F) (k : Nat) (s0 : List Int) (q : Option Addr) (h : Heap) (R : Option Addr → Option Addr → Option Addr → Heap → Prop), v.ok k → v ≠ .nil → Lv A h v q → AskV r p1 f h → f s0 = false → f (s0 ++ v.l) = true → s0.length + v.l.length < 4611686018427387904 → (∀ b, h.size ≤ b → A b) →
    (∀ a t b qa pt qb h', Fw h h' → Fing.F.ok a k → Fing.T.dep t k → Fing.F.ok b k → a.l ++ (t.l ++ b.l) = v.l → f (s0 ++ a.l) = false → f (s0 ++ (a.l ++ t.l)) = true → Lv A h' a qa → Th A h' t pt → Lv A h' b qb → R qa (some pt) qb h') →
    finger_asker_cut r p1 (meas s0).n (meas s0).sum (meas s0).least (meas s0).most (meas s0).hash q h R
  | .nil, _, _, _, _, _, _, hn, _, _, _, _, _, _, _ => absurd rfl hn
  | .one u, k, s0, q, h, R, ho, _, L, hask, hf0, hf1, hz, hA, H => by
    have L' := L
    obtain ⟨c, s, rfl, hc, B, Du⟩ := L
    apply finger_asker_cut_of
    refine New.cells fun h1 E1 z1 B1 => ⟨_, rfl, _, (E1.blk B).ld 6 rfl, fun _ => ⟨_, rfl, _, (E1.blk B).ld 5 rfl, (Du.fw E1).ix (i := 0) rfl fun q0 p0 hq0 _ Tp => ⟨some p0, hq0, ?_⟩⟩, fun c => (by cases c)⟩
    exact H .nil u .nil none p0 none h1 E1 trivial ho trivial (by simp [Fing.F.l]) (by simpa [Fing.F.l] using hf0) (by simpa [Fing.F.l] using hf1) rfl Tp rfl
  | .deep l m w, k, s0, q, h, R, ho, _, L, hask, hf0, hf1, hz, hA, H => by
    obtain ⟨c, s, u, qm, rfl, hc, B, D1, D2, Lm⟩ := L
    have hf1 : f (s0 ++ (ls l ++ (m.l ++ ls w))) = true := hf1
    have hz : s0.length + (ls l ++ (m.l ++ ls w)).length < 4611686018427387904 := hz
    simp only [List.length_append] at hz
    have n1 := ho.1.2.1
    have n2 := ho.2.1.2.1
    have hvl : (Fing.F.deep l m w).l = ls l ++ (m.l ++ ls w) := rfl
    rw [hvl] at H
    apply finger_asker_cut_of
    refine New.cells fun h1 E1 z1 B8 => ⟨_, rfl, _, (E1.blk B).ld 6 rfl, fun c => absurd c (by rw [D2.some ho.2.1.ne]; decide), fun _ => ?_⟩
    have gb : ∀ {h'}, Fw h1 h' → Blk h' c _ := fun E => (E1.trans E).blk B
    have g8 : ∀ {h'}, Fw h1 h' → Blk h' h.size (meas s0).c := fun E => E.blk B8
    intro J28 HJ28
    have hS1 : (s0 ++ ls l).length = s0.length + (ls l).length := by simp
    have hS2 : ((s0 ++ ls l) ++ m.l).length = s0.length + (ls l).length + m.l.length := by simp; omega
    have fin28 : ∀ (c27 : Nat) (h2 : Heap), Fw h1 h2 → Blk h2 c27 (meas (s0 ++ ls l)).c → J28 (ad c27 0) h2 := by
      intro c27 h2 E2 B27
      refine HJ28 _ _ ⟨_, B27.ld 0 rfl, _, B27.ld 1 rfl, _, B27.ld 2 rfl, _, B27.ld 3 rfl, _, B27.ld 4 rfl, ?_⟩
      refine hask h2 (E1.trans E2) (s0 ++ ls l) (by omega) _ fun h3 E3 => ⟨_, rfl, fun hl => ?_, fun hl => ?_⟩
      · -- in the left digit
        have E13 := E2.trans E3
        intro J42 HJ42
        have fin42 : ∀ (a : List Fing.T) (t : Fing.T) (b : List Fing.T) (h4 : Heap), l = a ++ t :: b → f (s0 ++ ls a) = false → f (s0 ++ (ls a ++ t.l)) = true → Fw h1 h4 → J42 (a.length : Int) h4 := by
          intro a t b h4 el ha ht E4
          have E04 := E1.trans E4
          have hll : l.length = a.length + (b.length + 1) := by rw [el]; simp
          have hls : (ls l).length = (ls a).length + (t.l.length + (ls b).length) := by rw [el, ls_append, ls_cons]; simp
          have hda : ∀ x ∈ a, x.dep k := fun x hx => ho.1.2.2 x (by rw [el]; simp [hx])
          have hdb : ∀ x ∈ b, x.dep k := fun x hx => ho.1.2.2 x (by rw [el]; simp [hx])
          have hdt : t.dep k := ho.1.2.2 t (by rw [el]; simp)
          refine HJ42 _ _ ⟨_, rfl, _, (gb E4).ld 5 rfl, D1.sub (lo := 0) (hi := a.length) (Nat.zero_le _) (by omega) fun s48 D48 => ?_⟩
          have D48 : Dg A h s48 a := by
            have : (l.drop 0).take (a.length - 0) = a := by rw [el]; simp
            rwa [this] at D48
          refine ⟨_, rfl, _, (gb E4).ld 5 rfl, D1.ix (i := a.length) (by rw [el, List.getElem?_append_right (Nat.le_refl _), Nat.sub_self]; rfl) fun q0 p0 hq0 hb0 Tp => ⟨some p0, by rw [E04.cell hb0]; exact hq0, _, rfl, _, (gb E4).ld 5 rfl, ?_⟩⟩
          dsimp only
          rw [show w64 ((a.length : Int) + 1) = ((a.length + 1 : Nat) : Int) by rw [w64_of] <;> omega, D1.len]
          refine D1.sub (lo := a.length + 1) (hi := l.length) (by omega) (Nat.le_refl _) fun s70 D70 => ?_
          have D70 : Dg A h s70 b := by
            have : (l.drop (a.length + 1)).take (l.length - (a.length + 1)) = b := by
              rw [List.take_of_length_le (by simp), el, List.drop_append]
              simp
            rwa [this] at D70
          refine ⟨_, rfl, _, (gb E4).ld 7 rfl, _, rfl, _, (gb E4).ld 6 rfl, ?_⟩
          refine some_ok (k := k) (D48.fw E04) hda (by omega) (by omega) (new_A hA E04) fun qa h5 E5 L5 => ?_
          have E15 := E4.trans E5
          have E05 := E1.trans E15
          refine ⟨(gb E15).ld 6 rfl, (gb E15).ld 7 rfl, (gb E15).ld 5 rfl, by rw [E05.cell hb0]; exact hq0, (gb E15).ld 5 rfl, ?_⟩
          have hb0' : D0 b k := ⟨by omega, hdb⟩
          refine deepLeft_of hb0' ho.2.2 ho.2.1 (D70.fw E05) (D2.fw E05) (Lm.fw E05) (by simp only [List.length_append]; omega) (new_A hA E05) (popLeft_ok m (k + 1) ho.2.2) fun qb h6 E6 L6 => ?_
          have E16 := E15.trans E6
          have E06 := E1.trans E16
          refine ⟨by rw [E06.cell hb0]; exact hq0, (gb E16).ld 5 rfl, ?_⟩
          obtain ⟨pl1, pl2⟩ := prs_l a .nil k trivial hda
          have pl1 : (prs .nil a).l = ls a := by rw [pl1]; rfl
          obtain ⟨dl1, dl2⟩ := dL_ok hb0' ho.2.2 ho.2.1
          exact H (prs .nil a) t (dL b m w) qa p0 qb h6 E06 pl2 hdt dl1 (by rw [pl1, dl2, el, ls_append, ls_cons]; simp) (by rw [pl1]; exact ha) (by rw [pl1]; exact ht) (L5.fw E6) (Tp.fw E06) L6
        have B3 := g8 E13
        refine ⟨_, B3.ld 0 rfl, _, B3.ld 1 rfl, _, B3.ld 2 rfl, _, B3.ld 3 rfl, _, B3.ld 4 rfl, _, rfl, _, (gb E13).ld 5 rfl, ?_, ?_⟩
        · refine place_ok (D1.fw (E1.trans E13)) (hask.fw (E1.trans E13)) hf0 hl ho.1.ne n1 (by omega) fun a t b h7 el ha ht E7 => ?_
          refine New.cells fun h8 E8 z8 B9 => ?_
          have E17 := (E13.trans E7).trans E8
          have B3 := g8 E17
          refine ⟨(gb E17).ld 5 rfl, B3.ld 0 rfl, B3.ld 1 rfl, B3.ld 2 rfl, B3.ld 3 rfl, B3.ld 4 rfl, ?_⟩
          exact St.whole B9 rfl rfl fun h9 B10 o10 z10 => fin42 a t b h9 el ha ht (E17.over (c := h7.size) (E13.trans E7).1 o10 z10)
        · refine New.cells fun h8 E8 z8 B9 => ?_
          have E17 := E13.trans E8
          have B3 := g8 E17
          refine ⟨(gb E17).ld 5 rfl, B3.ld 0 rfl, B3.ld 1 rfl, B3.ld 2 rfl, B3.ld 3 rfl, B3.ld 4 rfl, ?_⟩
          refine place_ok (D1.fw (E1.trans E17)) (hask.fw (E1.trans E17)) hf0 hl ho.1.ne n1 (by omega) fun a t b h7 el ha ht E7 => ?_
          exact St.whole (E7.blk B9) rfl rfl fun h9 B10 o10 z10 => fin42 a t b h9 el ha ht ((E17.trans E7).over (c := h3.size) E13.1 o10 z10)
      · -- further on
        have E13 := E2.trans E3
        have B27 := E3.blk B27
        intro J142 HJ142
        have fin142 : ∀ (c141 : Nat) (h13 : Heap), Fw h3 h13 → Blk h13 c141 (meas ((s0 ++ ls l) ++ m.l)).c → J142 (ad c141 0) h13 := by
          intro c141 h13 E313 B141
          have E113 := E13.trans E313
          have B27 := E313.blk B27
          refine HJ142 _ _ ?_
          intro J145 HJ145
          -- in the right digit
          have no : ∀ h14, Fw h13 h14 → f ((s0 ++ ls l) ++ m.l) = false → J145 false h14 := by
            intro h14 E1314 hm
            have E114 := E113.trans E1314
            have B141 := E1314.blk B141
            refine HJ145 _ _ ⟨fun c => (by cases c), fun _ => ?_⟩
            intro J338 HJ338
            have fin338 : ∀ (a : List Fing.T) (t : Fing.T) (b : List Fing.T) (h36 : Heap), w = a ++ t :: b → f (((s0 ++ ls l) ++ m.l) ++ ls a) = false → f (((s0 ++ ls l) ++ m.l) ++ (ls a ++ t.l)) = true → Fw h1 h36 → J338 (a.length : Int) h36 := by
              intro a t b h36 el ha ht E4
              have E04 := E1.trans E4
              have hll : w.length = a.length + (b.length + 1) := by rw [el]; simp
              have hls : (ls w).length = (ls a).length + (t.l.length + (ls b).length) := by rw [el, ls_append, ls_cons]; simp
              have hda : ∀ x ∈ a, x.dep k := fun x hx => ho.2.1.2.2 x (by rw [el]; simp [hx])
              have hdb : ∀ x ∈ b, x.dep k := fun x hx => ho.2.1.2.2 x (by rw [el]; simp [hx])
              have hdt : t.dep k := ho.2.1.2.2 t (by rw [el]; simp)
              refine HJ338 _ _ ⟨_, rfl, _, (gb E4).ld 5 rfl, _, rfl, _, (gb E4).ld 7 rfl, _, rfl, _, (gb E4).ld 6 rfl, D2.sub (lo := 0) (hi := a.length) (Nat.zero_le _) (by omega) fun s48 D48 => ?_⟩
              have D48 : Dg A h s48 a := by
                have : (w.drop 0).take (a.length - 0) = a := by rw [el]; simp
                rwa [this] at D48
              refine ⟨_, rfl, _, (gb E4).ld 6 rfl, D2.ix (i := a.length) (by rw [el, List.getElem?_append_right (Nat.le_refl _), Nat.sub_self]; rfl) fun q0 p0 hq0 hb0 Tp => ⟨some p0, by rw [E04.cell hb0]; exact hq0, _, rfl, _, (gb E4).ld 6 rfl, ?_⟩⟩
              dsimp only
              rw [show w64 ((a.length : Int) + 1) = ((a.length + 1 : Nat) : Int) by rw [w64_of] <;> omega, D2.len]
              refine D2.sub (lo := a.length + 1) (hi := w.length) (by omega) (Nat.le_refl _) fun s70 D70 => ?_
              have D70 : Dg A h s70 b := by
                have : (w.drop (a.length + 1)).take (w.length - (a.length + 1)) = b := by
                  rw [List.take_of_length_le (by simp), el, List.drop_append]
                  simp
                rwa [this] at D70
              have ha0' : D0 a k := ⟨by omega, hda⟩
              refine deepRight_of ho.1 ho.2.2 ha0' (D1.fw E04) (D48.fw E04) (Lm.fw E04) (by simp only [List.length_append]; omega) (new_A hA E04) (popRight_ok m (k + 1) ho.2.2) fun qa h5 E5 L5 => ?_
              have E15 := E4.trans E5
              have E05 := E1.trans E15
              refine ⟨(gb E15).ld 6 rfl, by rw [E05.cell hb0]; exact hq0, (gb E15).ld 6 rfl, ?_⟩
              refine some_ok (k := k) (D70.fw E05) hdb (by omega) (by omega) (new_A hA E05) fun qb h6 E6 L6 => ?_
              have E16 := E15.trans E6
              have E06 := E1.trans E16
              refine ⟨by rw [E06.cell hb0]; exact hq0, (gb E16).ld 6 rfl, ?_⟩
              obtain ⟨pl1, pl2⟩ := prs_l b .nil k trivial hdb
              have pl1 : (prs .nil b).l = ls b := by rw [pl1]; rfl
              obtain ⟨dl1, dl2⟩ := dR_ok ho.1 ho.2.2 ha0'
              exact H (dR l m a) t (prs .nil b) qa p0 qb h6 E06 dl1 hdt pl2 (by rw [pl1, dl2, el, ls_append, ls_cons]; simp) (by rw [dl2]; simpa using ha) (by rw [dl2]; simpa using ht) (L5.fw E6) (Tp.fw E06) L6
            have hf2 : f (((s0 ++ ls l) ++ m.l) ++ ls w) = true := by simpa using hf1
            refine ⟨_, B141.ld 0 rfl, _, B141.ld 1 rfl, _, B141.ld 2 rfl, _, B141.ld 3 rfl, _, B141.ld 4 rfl, _, rfl, _, (gb E114).ld 6 rfl, ?_, ?_⟩
            · refine place_ok (D2.fw (E1.trans E114)) (hask.fw (E1.trans E114)) hm hf2 ho.2.1.ne n2 (by omega) fun a t b h7 el ha ht E7 => ?_
              refine New.cells fun h8 E8 z8 B9 => ?_
              have E17 := (E114.trans E7).trans E8
              have B3 := (E7.trans E8).blk B141
              refine ⟨(gb E17).ld 6 rfl, B3.ld 0 rfl, B3.ld 1 rfl, B3.ld 2 rfl, B3.ld 3 rfl, B3.ld 4 rfl, ?_⟩
              exact St.whole B9 rfl rfl fun h9 B10 o10 z10 => fin338 a t b h9 el ha ht (E17.over (c := h7.size) (E114.trans E7).1 o10 z10)
            · refine New.cells fun h8 E8 z8 B9 => ?_
              have E17 := E114.trans E8
              have B3 := E8.blk B141
              refine ⟨(gb E17).ld 6 rfl, B3.ld 0 rfl, B3.ld 1 rfl, B3.ld 2 rfl, B3.ld 3 rfl, B3.ld 4 rfl, ?_⟩
              refine place_ok (D2.fw (E1.trans E17)) (hask.fw (E1.trans E17)) hm hf2 ho.2.1.ne n2 (by omega) fun a t b h7 el ha ht E7 => ?_
              exact St.whole (E7.blk B9) rfl rfl fun h9 B10 o10 z10 => fin338 a t b h9 el ha ht ((E17.trans E7).over (c := h14.size) E114.1 o10 z10)
          refine ⟨_, rfl, _, (gb E113).ld 7 rfl, fun hm => ?_, fun hm => no h13 (Fw.refl _) ?_⟩
          · have hm0 : m ≠ .nil := fun e => by rw [Lm.none.2 e] at hm; cases hm
            refine ⟨_, B141.ld 0 rfl, _, B141.ld 1 rfl, _, B141.ld 2 rfl, _, B141.ld 3 rfl, _, B141.ld 4 rfl, ?_⟩
            refine hask h13 (E1.trans E113) ((s0 ++ ls l) ++ m.l) (by omega) _ fun h14 E14 => ⟨_, rfl, ?_⟩
            cases hfm : f ((s0 ++ ls l) ++ m.l) with
            | false => exact no h14 E14 hfm
            | true =>
              refine HJ145 _ _ ⟨fun _ => ?_, fun c => (by cases c)⟩
              have E114 := E113.trans E14
              have E014 := E1.trans E114
              have B27 := E14.blk B27
              refine ⟨_, B27.ld 0 rfl, _, B27.ld 1 rfl, _, B27.ld 2 rfl, _, B27.ld 3 rfl, _, B27.ld 4 rfl, _, rfl, _, (gb E114).ld 7 rfl, ?_⟩
              refine cut_ok m (k + 1) (s0 ++ ls l) _ h14 _ ho.2.2 hm0 (Lm.fw E014) (hask.fw E014) hl hfm (by omega) (new_A hA E014) fun a' t' b' qa pt qb h15 E15 oka okt okb eab fa ft La Tt Lb => ?_
              have E115 := E114.trans E15
              have E015 := E1.trans E115
              have B27 := E15.blk B27
              obtain ⟨ct, x, sk, rfl, _, Bt, Dk, _⟩ := Tt.view
              have hk := dep_kids okt
              have hkl : t'.kids.length ≤ 4 := by rcases hk.1 with h | h <;> omega
              have hkn : t'.kids ≠ [] := by intro e; rcases hk.1 with h | h <;> rw [e] at h <;> simp at h
              have eabl := congrArg List.length eab
              simp only [List.length_append] at eabl
              have htl : (ls t'.kids).length = t'.l.length := by rw [hk.2.1]
              intro J165 HJ165
              have fin165 : ∀ (a : List Fing.T) (t : Fing.T) (b : List Fing.T) (h16 : Heap), t'.kids = a ++ t :: b → f (((s0 ++ ls l) ++ a'.l) ++ ls a) = false → f (((s0 ++ ls l) ++ a'.l) ++ (ls a ++ t.l)) = true → Fw h15 h16 → J165 (a.length : Int) h16 := by
                intro a t b h16 el ha ht E16
                have E116 := E115.trans E16
                have E016 := E1.trans E116
                have hll : t'.kids.length = a.length + (b.length + 1) := by rw [el]; simp
                have hls : t'.l.length = (ls a).length + (t.l.length + (ls b).length) := by rw [← htl, el, ls_append, ls_cons]; simp
                have hda : ∀ x ∈ a, x.dep k := fun x hx => hk.2.2 x (by rw [el]; simp [hx])
                have hdb : ∀ x ∈ b, x.dep k := fun x hx => hk.2.2 x (by rw [el]; simp [hx])
                have hdt : t.dep k := hk.2.2 t (by rw [el]; simp)
                have Bt := E16.blk Bt
                refine HJ165 _ _ ⟨_, rfl, _, (gb E116).ld 5 rfl, _, rfl, _, Bt.ld 6 rfl, Dk.sub (lo := 0) (hi := a.length) (Nat.zero_le _) (by omega) fun s48 D48 => ?_⟩
                have D48 : Dg A h15 s48 a := by
                  have : (t'.kids.drop 0).take (a.length - 0) = a := by rw [el]; simp
                  rwa [this] at D48
                refine ⟨_, rfl, _, Bt.ld 6 rfl, Dk.ix (i := a.length) (by rw [el, List.getElem?_append_right (Nat.le_refl _), Nat.sub_self]; rfl) fun q0 p0 hq0 hb0 Tp => ⟨some p0, by rw [E16.cell hb0]; exact hq0, _, rfl, _, Bt.ld 6 rfl, ?_⟩⟩
                dsimp only
                rw [show w64 ((a.length : Int) + 1) = ((a.length + 1 : Nat) : Int) by rw [w64_of] <;> omega, Dk.len]
                refine Dk.sub (lo := a.length + 1) (hi := t'.kids.length) (by omega) (Nat.le_refl _) fun s70 D70 => ?_
                have D70 : Dg A h15 s70 b := by
                  have : (t'.kids.drop (a.length + 1)).take (t'.kids.length - (a.length + 1)) = b := by
                    rw [List.take_of_length_le (by simp), el, List.drop_append]
                    simp
                  rwa [this] at D70
                have ha0' : D0 a k := ⟨by omega, hda⟩
                have hb0' : D0 b k := ⟨by omega, hdb⟩
                refine ⟨_, rfl, _, (gb E116).ld 6 rfl, ?_⟩
                refine deepRight_of ho.1 oka ha0' (D1.fw E016) (D48.fw E16) (La.fw E16) (by simp only [List.length_append]; omega) (new_A hA E016) (popRight_ok a' (k + 1) oka) fun qa2 h17 E17 L17 => ?_
                have E117 := E116.trans E17
                have E017 := E1.trans E117
                have Bt := E17.blk Bt
                refine ⟨(gb E117).ld 6 rfl, Bt.ld 6 rfl, by rw [(E16.trans E17).cell hb0]; exact hq0, Bt.ld 6 rfl, ?_⟩
                refine deepLeft_of hb0' okb ho.2.1 (D70.fw (E16.trans E17)) (D2.fw E017) (Lb.fw (E16.trans E17)) (by simp only [List.length_append]; omega) (new_A hA E017) (popLeft_ok b' (k + 1) okb) fun qb2 h18 E18 L18 => ?_
                have E1518 := (E16.trans E17).trans E18
                refine ⟨by rw [E1518.cell hb0]; exact hq0, (E18.blk Bt).ld 6 rfl, ?_⟩
                obtain ⟨dr1, dr2⟩ := dR_ok ho.1 oka ha0'
                obtain ⟨dl1, dl2⟩ := dL_ok hb0' okb ho.2.1
                refine H (dR l a' a) t (dL b b' w) qa2 p0 qb2 h18 (E015.trans E1518) dr1 hdt dl1 ?_ (by rw [dr2]; simpa using ha) (by rw [dr2]; simpa using ht) (L17.fw E18) (Tp.fw E1518) L18
                rw [dr2, dl2, ← eab, ← hk.2.1, el, ls_append, ls_cons]
                simp
              have hf0' : f ((s0 ++ ls l) ++ a'.l) = false := fa
              have hf1' : f (((s0 ++ ls l) ++ a'.l) ++ ls t'.kids) = true := by rw [hk.2.1, List.append_assoc]; exact ft
              have hjz : (s0 ++ ls l).length + a'.l.length < 4611686018427387904 := by omega
              have place : ∀ (h19 : Heap) (R' : Int → Int → Int → Int → Int → Int → Heap → Prop), Fw h15 h19 → (∀ a t b h', t'.kids = a ++ t :: b → f (((s0 ++ ls l) ++ a'.l) ++ ls a) = false → f (((s0 ++ ls l) ++ a'.l) ++ (ls a ++ t.l)) = true → Fw h19 h' → ∀ y1 y2 y3 y4 y5, R' (a.length : Int) y1 y2 y3 y4 y5 h') →
                  finger_asker_place r p1 (meas ((s0 ++ ls l) ++ a'.l)).n (meas ((s0 ++ ls l) ++ a'.l)).sum (meas ((s0 ++ ls l) ++ a'.l)).least (meas ((s0 ++ ls l) ++ a'.l)).most (meas ((s0 ++ ls l) ++ a'.l)).hash sk h19 R' := fun h19 R' E19 HR =>
                place_ok (Dk.fw E19) (hask.fw (E015.trans E19)) hf0' hf1' hkn hkl (by simp only [List.length_append]; omega) fun a t b h' el ha ht E' => HR a t b h' el ha ht E' _ _ _ _ _
              refine ⟨_, B27.ld 0 rfl, _, B27.ld 1 rfl, _, B27.ld 2 rfl, _, B27.ld 3 rfl, _, B27.ld 4 rfl, _, rfl, _, Bt.ld 6 rfl, ?_, ?_⟩
              · refine lmeasure_ok La fun h19 E19 => ?_
                have B27a := E19.blk B27
                refine ⟨(E19.blk Bt).ld 6 rfl, B27a.ld 0 rfl, B27a.ld 1 rfl, B27a.ld 2 rfl, B27a.ld 3 rfl, B27a.ld 4 rfl, ?_, ?_⟩
                · refine join_ok hjz fun h20 E20 => ?_
                  have E1520 := E19.trans E20
                  refine ⟨(E1520.blk Bt).ld 6 rfl, ?_, ?_⟩
                  · refine place h20 _ E1520 fun a t b h21 el ha ht E21 y1 y2 y3 y4 y5 => ?_
                    refine New.cells fun h22 E22 z22 B22 => ?_
                    have E1522 := (E1520.trans E21).trans E22
                    have B27b := E1522.blk B27
                    refine ⟨(E1522.blk Bt).ld 6 rfl, B27b.ld 0 rfl, B27b.ld 1 rfl, B27b.ld 2 rfl, B27b.ld 3 rfl, B27b.ld 4 rfl, ?_⟩
                    exact St.whole B22 rfl rfl fun h23 B23 o23 z23 => fin165 a t b h23 el ha ht (E1522.over (c := h21.size) (E1520.trans E21).1 o23 z23)
                  · refine New.cells fun h22 E22 z22 B22 => ?_
                    have E1522 := E1520.trans E22
                    have B27b := E1522.blk B27
                    refine ⟨(E1522.blk Bt).ld 6 rfl, B27b.ld 0 rfl, B27b.ld 1 rfl, B27b.ld 2 rfl, B27b.ld 3 rfl, B27b.ld 4 rfl, ?_⟩
                    refine place h22 _ E1522 fun a t b h21 el ha ht E21 y1 y2 y3 y4 y5 => ?_
                    exact St.whole (E21.blk B22) rfl rfl fun h23 B23 o23 z23 => fin165 a t b h23 el ha ht ((E1522.trans E21).over (c := h20.size) E1520.1 o23 z23)
                · refine New.cells fun h22 E22 z22 B22 => ?_
                  have E1522 := E19.trans E22
                  have B27b := E1522.blk B27
                  refine ⟨(E1522.blk Bt).ld 6 rfl, B27b.ld 0 rfl, B27b.ld 1 rfl, B27b.ld 2 rfl, B27b.ld 3 rfl, B27b.ld 4 rfl, ?_⟩
                  refine join_ok hjz fun h20 E20 => ?_
                  have E1520 := E1522.trans E20
                  refine ⟨(E1520.blk Bt).ld 6 rfl, ?_⟩
                  refine place h20 _ E1520 fun a t b h21 el ha ht E21 y1 y2 y3 y4 y5 => ?_
                  exact St.whole (E21.blk (E20.blk B22)) rfl rfl fun h23 B23 o23 z23 => fin165 a t b h23 el ha ht ((E1520.trans E21).over (c := h19.size) E19.1 o23 z23)
              · refine New.cells fun h22 E22 z22 B22 => ?_
                have B27b := E22.blk B27
                refine ⟨(E22.blk Bt).ld 6 rfl, B27b.ld 0 rfl, B27b.ld 1 rfl, B27b.ld 2 rfl, B27b.ld 3 rfl, B27b.ld 4 rfl, ?_⟩
                refine lmeasure_ok (La.fw E22) fun h19 E19 => ?_
                have E1519 := E22.trans E19
                have B27a := E1519.blk B27
                refine ⟨(E1519.blk Bt).ld 6 rfl, B27a.ld 0 rfl, B27a.ld 1 rfl, B27a.ld 2 rfl, B27a.ld 3 rfl, B27a.ld 4 rfl, ?_⟩
                refine join_ok hjz fun h20 E20 => ?_
                have E1520 := E1519.trans E20
                refine ⟨(E1520.blk Bt).ld 6 rfl, ?_⟩
                refine place h20 _ E1520 fun a t b h21 el ha ht E21 y1 y2 y3 y4 y5 => ?_
                exact St.whole (E21.blk (E20.blk (E19.blk B22))) rfl rfl fun h23 B23 o23 z23 => fin165 a t b h23 el ha ht ((E1520.trans E21).over (c := h15.size) (Nat.le_refl _) o23 z23)
          · have hm0 : m = .nil := Lm.none.1 (by simpa using hm)
            subst hm0
            simpa [Fing.F.l] using hl
        have hjm : (s0 ++ ls l).length + m.l.length < 4611686018427387904 := by omega
        refine ⟨_, B27.ld 0 rfl, _, B27.ld 1 rfl, _, B27.ld 2 rfl, _, B27.ld 3 rfl, _, B27.ld 4 rfl, _, rfl, _, (gb E13).ld 7 rfl, ?_, ?_⟩
        · refine lmeasure_ok (Lm.fw (E1.trans E13)) fun h46 E46 => ?_
          have B27a := E46.blk B27
          refine ⟨B27a.ld 0 rfl, B27a.ld 1 rfl, B27a.ld 2 rfl, B27a.ld 3 rfl, B27a.ld 4 rfl, ?_, ?_⟩
          · refine join_ok hjm fun h47 E47 => New.cells fun h48 E48 z48 B48 => ?_
            have E348 := (E46.trans E47).trans E48
            have B27b := E348.blk B27
            refine ⟨(gb (E13.trans E348)).ld 7 rfl, B27b.ld 0 rfl, B27b.ld 1 rfl, B27b.ld 2 rfl, B27b.ld 3 rfl, B27b.ld 4 rfl, ?_⟩
            exact St.whole B48 rfl rfl fun h49 B49 o49 z49 => fin142 _ h49 (E348.over (c := h47.size) (E46.trans E47).1 o49 z49) B49
          · refine New.cells fun h48 E48 z48 B48 => ?_
            have E348 := E46.trans E48
            have B27b := E348.blk B27
            refine ⟨(gb (E13.trans E348)).ld 7 rfl, B27b.ld 0 rfl, B27b.ld 1 rfl, B27b.ld 2 rfl, B27b.ld 3 rfl, B27b.ld 4 rfl, ?_⟩
            refine join_ok hjm fun h47 E47 => ?_
            exact St.whole (E47.blk B48) rfl rfl fun h49 B49 o49 z49 => fin142 _ h49 ((E348.trans E47).over (c := h46.size) E46.1 o49 z49) B49
        · refine New.cells fun h48 E48 z48 B48 => ?_
          have B27b := E48.blk B27
          refine ⟨(gb (E13.trans E48)).ld 7 rfl, B27b.ld 0 rfl, B27b.ld 1 rfl, B27b.ld 2 rfl, B27b.ld 3 rfl, B27b.ld 4 rfl, ?_⟩
          refine lmeasure_ok (Lm.fw (E1.trans (E13.trans E48))) fun h46 E46 => ?_
          have E346 := E48.trans E46
          have B27a := E346.blk B27
          refine ⟨B27a.ld 0 rfl, B27a.ld 1 rfl, B27a.ld 2 rfl, B27a.ld 3 rfl, B27a.ld 4 rfl, ?_⟩
          refine join_ok hjm fun h47 E47 => ?_
          exact St.whole (E47.blk (E46.blk B48)) rfl rfl fun h49 B49 o49 z49 => fin142 _ h49 ((E346.trans E47).over (c := h3.size) (Nat.le_refl _) o49 z49) B49
    have hjl : s0.length + (ls l).length < 4611686018427387904 := by omega
    have R0 := Fw.refl h1
    refine ⟨_, B8.ld 0 rfl, _, B8.ld 1 rfl, _, B8.ld 2 rfl, _, B8.ld 3 rfl, _, B8.ld 4 rfl, _, rfl, _, (gb R0).ld 5 rfl, ?_, ?_⟩
    · refine measured_ok (D1.fw E1) (by omega) (by omega) fun h57 E57 => ?_
      have B8a := E57.blk B8
      refine ⟨B8a.ld 0 rfl, B8a.ld 1 rfl, B8a.ld 2 rfl, B8a.ld 3 rfl, B8a.ld 4 rfl, ?_, ?_⟩
      · refine join_ok hjl fun h58 E58 => New.cells fun h59 E59 z59 B59 => ?_
        have E159 := (E57.trans E58).trans E59
        have B8b := E159.blk B8
        refine ⟨(gb E159).ld 5 rfl, B8b.ld 0 rfl, B8b.ld 1 rfl, B8b.ld 2 rfl, B8b.ld 3 rfl, B8b.ld 4 rfl, ?_⟩
        exact St.whole B59 rfl rfl fun h60 B60 o60 z60 => fin28 _ h60 (E159.over (c := h58.size) (E57.trans E58).1 o60 z60) B60
      · refine New.cells fun h59 E59 z59 B59 => ?_
        have E159 := E57.trans E59
        have B8b := E159.blk B8
        refine ⟨(gb E159).ld 5 rfl, B8b.ld 0 rfl, B8b.ld 1 rfl, B8b.ld 2 rfl, B8b.ld 3 rfl, B8b.ld 4 rfl, ?_⟩
        refine join_ok hjl fun h58 E58 => ?_
        exact St.whole (E58.blk B59) rfl rfl fun h60 B60 o60 z60 => fin28 _ h60 ((E159.trans E58).over (c := h57.size) E57.1 o60 z60) B60
    · refine New.cells fun h59 E59 z59 B59 => ?_
      have B8b := E59.blk B8
      refine ⟨(gb E59).ld 5 rfl, B8b.ld 0 rfl, B8b.ld 1 rfl, B8b.ld 2 rfl, B8b.ld 3 rfl, B8b.ld 4 rfl, ?_⟩
      refine measured_ok (D1.fw (E1.trans E59)) (by omega) (by omega) fun h57 E57 => ?_
      have E157 := E59.trans E57
      have B8a := E157.blk B8
      refine ⟨B8a.ld 0 rfl, B8a.ld 1 rfl, B8a.ld 2 rfl, B8a.ld 3 rfl, B8a.ld 4 rfl, ?_⟩
      refine join_ok hjl fun h58 E58 => ?_
      exact St.whole (E58.blk (E57.blk B59)) rfl rfl fun h60 B60 o60 z60 => fin28 _ h60 ((E157.trans E58).over (c := h1.size) (Nat.le_refl _) o60 z60) B60
end
end Go.Proofs.Ytmjljnbjoldeaaa
