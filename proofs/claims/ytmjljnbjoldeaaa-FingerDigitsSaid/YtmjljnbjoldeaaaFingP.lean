/- Trees with both ends at hand: what lies in memory; one more thing at an end. -/
import Derived.Test.YtmjljnbjoldeaaaFing
import Derived.Test.YtmjljnbjoldeaaaMonoP
import Derived.Test.YtmjljnbjoldeaaaFingL
namespace Go.Proofs.Ytmjljnbjoldeaaa
open Go Go.RowKit Go.Tw Go.Mono Go.Fing
set_option linter.unusedVariables false

abbrev pV (p : Addr) : Value := .pointer (some p)
/-- a slice of these; its block is one of A -/
structure Ps (A : Nat → Prop) (h : Heap) (s : Sl) (ps : List Addr) : Prop where
  len : s.len = ps.length
  cap : s.len ≤ s.cap
  at_ : ps = [] ∨ ∃ b o, s.a = some (ad b o) ∧ A b ∧ b < h.size ∧ ∀ i, i < ps.length → hcell h (ad b (o + i)) = (ps.map pV)[i]?
def Th (A : Nat → Prop) (h : Heap) : Fing.T → Addr → Prop
  | .num x, p => ∃ c, p = ad c 0 ∧ A c ∧ Blk h c ((meas [x]).c ++ [iV x, Sl.v Sl.nil])
  | .n2 a b, p => ∃ c s pa pb, p = ad c 0 ∧ A c ∧ Blk h c ((meas (a.l ++ b.l)).c ++ [iV 0, Sl.v s]) ∧ Ps A h s [pa, pb] ∧ Th A h a pa ∧ Th A h b pb
  | .n3 a b d, p => ∃ c s pa pb pd, p = ad c 0 ∧ A c ∧ Blk h c ((meas (a.l ++ (b.l ++ d.l))).c ++ [iV 0, Sl.v s]) ∧ Ps A h s [pa, pb, pd] ∧ Th A h a pa ∧ Th A h b pb ∧ Th A h d pd
def Ths (A : Nat → Prop) (h : Heap) : List Fing.T → List Addr → Prop
  | [], [] => True
  | t :: ts, p :: ps => Th A h t p ∧ Ths A h ts ps
  | _, _ => False
def Dg (A : Nat → Prop) (h : Heap) (s : Sl) (ts : List Fing.T) : Prop := ∃ ps, Ps A h s ps ∧ Ths A h ts ps
def Lv (A : Nat → Prop) (h : Heap) : Fing.F → Option Addr → Prop
  | .nil, p => p = none
  | .one t, p => ∃ c s, p = some (ad c 0) ∧ A c ∧ Blk h c ((meas t.l).c ++ [Sl.v s, Sl.v Sl.nil, .pointer none]) ∧ Dg A h s [t]
  | .deep l m r, p => ∃ c s u q, p = some (ad c 0) ∧ A c ∧ Blk h c ((meas (ls l ++ (m.l ++ ls r))).c ++ [Sl.v s, Sl.v u, .pointer q]) ∧ Dg A h s l ∧ Dg A h u r ∧ Lv A h m q

section
variable {A : Nat → Prop} {h h' : Heap} {s : Sl} {ts us : List Fing.T} {ps : List Addr} {t : Fing.T} {v : Fing.F} {p : Addr} {q : Option Addr}
/-- blocks of A that are there stay -/
def Stay (A : Nat → Prop) (h h' : Heap) : Prop := h.size ≤ h'.size ∧ ∀ b, A b → b < h.size → h'[b]? = h[b]?
theorem Stay.fw (E : Fw h h') : Stay A h h' := ⟨E.1, fun b _ hb => E.2 b hb⟩
theorem Stay.over {c : Nat} (hc : ¬ A c) (ho : ∀ d, d ≠ c → h'[d]? = h[d]?) (hz : h.size ≤ h'.size) : Stay A h h' := ⟨hz, fun b hb _ => ho b fun e => hc (e ▸ hb)⟩
theorem Ps.stay (S : Stay A h h') (H : Ps A h s ps) : Ps A h' s ps :=
  ⟨H.len, H.cap, H.at_.imp id fun ⟨b, o, h1, h2, h3, h4⟩ => ⟨b, o, h1, h2, Nat.lt_of_lt_of_le h3 S.1, fun i hi => by rw [hcell_of_eq (h := h) (S.2 b h2 h3)]; exact h4 i hi⟩⟩
theorem Blk.stay {b : Nat} {cs : List Value} (S : Stay A h h') (hA : A b) (B : Blk h b cs) : Blk h' b cs := B.of_eq (S.2 b hA B.lt)
theorem Th.stay (S : Stay A h h') : ∀ {t : Fing.T} {p : Addr}, Th A h t p → Th A h' t p
  | .num x, p, ⟨c, e, hA, B⟩ => ⟨c, e, hA, Blk.stay S hA B⟩
  | .n2 a b, p, ⟨c, s, pa, pb, e, hA, B, P, ta, tb⟩ => ⟨c, s, pa, pb, e, hA, Blk.stay S hA B, P.stay S, ta.stay S, tb.stay S⟩
  | .n3 a b d, p, ⟨c, s, pa, pb, pd, e, hA, B, P, ta, tb, td⟩ => ⟨c, s, pa, pb, pd, e, hA, Blk.stay S hA B, P.stay S, ta.stay S, tb.stay S, td.stay S⟩
theorem Ths.stay (S : Stay A h h') : ∀ {ts : List Fing.T} {ps : List Addr}, Ths A h ts ps → Ths A h' ts ps
  | [], [], _ => trivial
  | t :: ts, p :: ps, ⟨a, b⟩ => ⟨a.stay S, b.stay S⟩
  | [], _ :: _, H => H.elim
  | _ :: _, [], H => H.elim
theorem Dg.stay (S : Stay A h h') (H : Dg A h s ts) : Dg A h' s ts := by obtain ⟨ps, a, b⟩ := H; exact ⟨ps, a.stay S, b.stay S⟩
theorem Lv.stay (S : Stay A h h') : ∀ {v : Fing.F} {q : Option Addr}, Lv A h v q → Lv A h' v q
  | .nil, _, e => e
  | .one t, _, ⟨c, s, e, hA, B, d⟩ => ⟨c, s, e, hA, Blk.stay S hA B, d.stay S⟩
  | .deep l m r, _, ⟨c, s, u, q, e, hA, B, d1, d2, L⟩ => ⟨c, s, u, q, e, hA, Blk.stay S hA B, d1.stay S, d2.stay S, L.stay S⟩
theorem Th.fw (H : Th A h t p) (E : Fw h h') : Th A h' t p := H.stay (Stay.fw E)
theorem Dg.fw (H : Dg A h s ts) (E : Fw h h') : Dg A h' s ts := H.stay (Stay.fw E)
theorem Lv.fw (H : Lv A h v q) (E : Fw h h') : Lv A h' v q := H.stay (Stay.fw E)
theorem Ps.fw (H : Ps A h s ps) (E : Fw h h') : Ps A h' s ps := H.stay (Stay.fw E)
theorem Ths.fw (H : Ths A h ts ps) (E : Fw h h') : Ths A h' ts ps := H.stay (Stay.fw E)

theorem Ths.len : ∀ {ts : List Fing.T} {ps : List Addr}, Ths A h ts ps → ts.length = ps.length
  | [], [], _ => rfl
  | t :: ts, p :: ps, ⟨_, b⟩ => by simp [b.len]
  | [], _ :: _, H => H.elim
  | _ :: _, [], H => H.elim
theorem Ths.get : ∀ {ts : List Fing.T} {ps : List Addr} {i : Nat} {t : Fing.T}, Ths A h ts ps → ts[i]? = some t → ∃ p, ps[i]? = some p ∧ Th A h t p
  | [], [], i, t, _, e => by simp at e
  | t :: ts, p :: ps, 0, u, ⟨a, _⟩, e => by simp at e; subst e; exact ⟨p, rfl, a⟩
  | t :: ts, p :: ps, i + 1, u, ⟨_, b⟩, e => b.get (i := i) (by simpa using e)
  | [], _ :: _, _, _, H, _ => H.elim
  | _ :: _, [], _, _, H, _ => H.elim
theorem Ths.append : ∀ {ts us : List Fing.T} {ps qs : List Addr}, Ths A h ts ps → Ths A h us qs → Ths A h (ts ++ us) (ps ++ qs)
  | [], us, [], qs, _, b => b
  | t :: ts, us, p :: ps, qs, ⟨a, c⟩, b => ⟨a, c.append b⟩
  | [], _, _ :: _, _, H, _ => H.elim
  | _ :: _, _, [], _, H, _ => H.elim
theorem Ths.take : ∀ {ts : List Fing.T} {ps : List Addr} (n : Nat), Ths A h ts ps → Ths A h (ts.take n) (ps.take n)
  | [], [], n, _ => by simp [Ths]
  | t :: ts, p :: ps, 0, _ => trivial
  | t :: ts, p :: ps, n + 1, ⟨a, b⟩ => ⟨a, b.take n⟩
  | [], _ :: _, _, H => H.elim
  | _ :: _, [], _, H => H.elim
theorem Ths.drop : ∀ {ts : List Fing.T} {ps : List Addr} (n : Nat), Ths A h ts ps → Ths A h (ts.drop n) (ps.drop n)
  | [], [], n, _ => by simp [Ths]
  | t :: ts, p :: ps, 0, H => H
  | t :: ts, p :: ps, n + 1, ⟨a, b⟩ => b.drop n
  | [], _ :: _, _, H => H.elim
  | _ :: _, [], _, H => H.elim

theorem Ps.rs (H : Ps A h s ps) : Rs h.size 1 h s (ps.map pV) :=
  ⟨by simpa using H.len, H.cap, H.at_.imp (fun e => by rw [e]; rfl) fun ⟨b, o, h1, _, h3, h4⟩ => ⟨b, o, h1, h3, fun i hi => h4 i (by simpa using hi)⟩⟩
theorem Ps.nil (A : Nat → Prop) (h : Heap) : Ps A h Sl.nil [] := ⟨rfl, Nat.le_refl _, .inl rfl⟩
theorem Dg.nil (A : Nat → Prop) (h : Heap) : Dg A h Sl.nil [] := ⟨[], Ps.nil A h, trivial⟩
theorem Ps.ix {i : Nat} {K : Addr → Prop} (H : Ps A h s ps) (hi : ps[i]? = some p) (hK : ∀ q, hcell h q = some (pV p) → q.block < h.size → K q) : Ix s (i : Int) 1 K := by
  have hl := (List.getElem?_eq_some_iff.1 hi).1
  rcases H.at_ with e | ⟨b, o, h1, _, h3, h4⟩
  · subst e; simp at hi
  · refine Ix.mk h1 (by omega) (by have := H.len; omega) (hK _ ?_ h3)
    rw [Int.toNat_natCast, Nat.mul_one, h4 i hl, List.getElem?_map, hi]; rfl
theorem Dg.ix {i : Nat} {K : Addr → Prop} (H : Dg A h s ts) (hi : ts[i]? = some t) (hK : ∀ q p, hcell h q = some (pV p) → q.block < h.size → Th A h t p → K q) : Ix s (i : Int) 1 K := by
  obtain ⟨ps, P, T⟩ := H
  obtain ⟨p, hp, tp⟩ := T.get hi
  exact P.ix hp fun q hq hb => hK q p hq hb tp
theorem Dg.len (H : Dg A h s ts) : s.len = ts.length := by obtain ⟨ps, P, T⟩ := H; rw [P.len, T.len]
theorem Dg.cap (H : Dg A h s ts) : s.len ≤ s.cap := by obtain ⟨ps, P, T⟩ := H; exact P.cap
theorem Dg.some (H : Dg A h s ts) (hn : ts ≠ []) : s.a.isNone = false := by
  obtain ⟨ps, P, T⟩ := H
  rcases P.at_ with e | ⟨b, o, h1, _⟩
  · subst e; cases ts with
    | nil => exact absurd rfl hn
    | cons => exact T.elim
  · rw [h1]; rfl
theorem Ps.sub {lo hi : Nat} {K : Sl → Prop} (H : Ps A h s ps) (h1 : lo ≤ hi) (h2 : hi ≤ ps.length) (hK : ∀ t, Ps A h t ((ps.drop lo).take (hi - lo)) → K t) : Sub s (lo : Int) (hi : Int) (s.cap : Int) 1 K := by
  have hc := H.cap
  have hl := H.len
  refine ⟨by omega, by omega, by omega, by omega, fun t ht => hK t ?_⟩
  have et : t = ⟨sliceA s.a s.cap lo 1, hi - lo, s.cap - lo⟩ := by rw [ht]; simp only [Int.toNat_natCast]
  rw [et]
  refine ⟨by simp; omega, by simp; omega, ?_⟩
  by_cases he : lo = hi
  · exact .inl (by rw [he]; simp)
  · rcases H.at_ with e | ⟨b, o, e1, e2, e3, e4⟩
    · rw [e] at h2; simp at h2; omega
    · refine .inr ⟨b, o + lo, ?_, e2, e3, fun i hi' => ?_⟩
      · unfold sliceA
        rw [if_neg (by omega), e1]
        show some (Addr.add (ad b o) (lo * 1)) = _
        rw [ad_add, Nat.mul_one]
      · simp at hi'
        rw [show o + lo + i = o + (lo + i) by omega, e4 (lo + i) (by omega), List.getElem?_map, List.getElem?_map, List.getElem?_take, if_pos (by omega), List.getElem?_drop]
theorem Dg.sub {lo hi : Nat} {K : Sl → Prop} (H : Dg A h s ts) (h1 : lo ≤ hi) (h2 : hi ≤ ts.length) (hK : ∀ t, Dg A h t ((ts.drop lo).take (hi - lo)) → K t) : Sub s (lo : Int) (hi : Int) (s.cap : Int) 1 K := by
  obtain ⟨ps, P, T⟩ := H
  exact P.sub h1 (by rw [← T.len]; exact h2) fun t Pt => hK t ⟨_, Pt, (T.drop lo).take _⟩
/-- a new array of these -/
theorem Dg.new {c n : Nat} {ps : List Addr} {h0 : Heap} (B : Blk h c (ps.map pV)) (hA : A c) (hn : n = ps.length) (T : Ths A h ts ps) : Dg A h ⟨.some (ad c 0), n, n⟩ ts :=
  ⟨ps, ⟨hn, Nat.le_refl _, .inr ⟨c, 0, rfl, hA, B.lt, fun i hi => by rw [Nat.zero_add, B.cell]⟩⟩, T⟩
theorem Own.toPs {N : Nat} (O : Own N 1 h s (ps.map pV)) (hA : ∀ b, N ≤ b → A b) : Ps A h s ps := by
  refine ⟨by simpa using O.len, O.cap, ?_⟩
  rcases O.at_ with ⟨e1, e2⟩ | ⟨b, tl, e1, e2, e3, e4⟩
  · have := O.len; have := O.cap
    exact .inl (List.eq_nil_of_length_eq_zero (by have := O.len; simp at this; omega))
  · refine .inr ⟨b, 0, e1, hA b e2, e3.lt, fun i hi => ?_⟩
    rw [e3.cell, Nat.zero_add, List.getElem?_append_left (by simpa using hi)]

/-- what is there of a thing -/
theorem Th.view : ∀ {t : Fing.T} {p : Addr}, Th A h t p → ∃ c x s, p = ad c 0 ∧ A c ∧ Blk h c ((meas t.l).c ++ [iV x, Sl.v s]) ∧ Dg A h s t.kids ∧ (∀ y, t = .num y → x = y ∧ s = Sl.nil)
  | .num x, p, ⟨c, e, hA, B⟩ => ⟨c, x, Sl.nil, e, hA, B, Dg.nil A h, fun y e => by cases e; exact ⟨rfl, rfl⟩⟩
  | .n2 a b, p, ⟨c, s, pa, pb, e, hA, B, P, ta, tb⟩ => ⟨c, 0, s, e, hA, B, ⟨_, P, ta, tb, trivial⟩, fun y e => by cases e⟩
  | .n3 a b d, p, ⟨c, s, pa, pb, pd, e, hA, B, P, ta, tb, td⟩ => ⟨c, 0, s, e, hA, B, ⟨_, P, ta, tb, td, trivial⟩, fun y e => by cases e⟩
theorem Th.group {c : Nat} (hf : Few ts) (hA : A c) (B : Blk h c ((meas (ls ts)).c ++ [iV 0, Sl.v s])) (Dd : Dg A h s ts) : Th A h (grp ts) (ad c 0) := by
  obtain ⟨ps, P, T⟩ := Dd
  rcases few_cases hf with ⟨a, b, rfl⟩ | ⟨a, b, d, rfl⟩
  · match ps, T with
    | [pa, pb], ⟨ta, tb, _⟩ => exact ⟨c, s, pa, pb, rfl, hA, by simpa [ls] using B, P, ta, tb⟩
  · match ps, T with
    | [pa, pb, pd], ⟨ta, tb, td, _⟩ => exact ⟨c, s, pa, pb, pd, rfl, hA, by simpa [ls] using B, P, ta, tb, td⟩
/-- what is there of a level -/
theorem Lv.top (L : Lv A h v q) (hv : v ≠ .nil) : ∃ c cs, q = some (ad c 0) ∧ A c ∧ Blk h c ((meas v.l).c ++ cs) := by
  match v, L with
  | .nil, _ => exact absurd rfl hv
  | .one t, ⟨c, s, e, hA, B, d⟩ => exact ⟨c, _, e, hA, B⟩
  | .deep l m r, ⟨c, s, u, q, e, hA, B, d1, d2, L⟩ => exact ⟨c, _, e, hA, B⟩
theorem Lv.none (L : Lv A h v q) : q.isNone = true ↔ v = .nil := by
  match v, L with
  | .nil, e => have e : q = _ := e; rw [e]; simp
  | .one t, ⟨c, s, e, hA, B, d⟩ => rw [e]; simp
  | .deep l m r, ⟨c, s, u, q, e, hA, B, d1, d2, L⟩ => rw [e]; simp
end

section
variable {A : Nat → Prop} {r : World} {h : Heap} {s : Sl} {ts : List Fing.T} {t : Fing.T} {v : Fing.F} {p : Addr} {q : Option Addr}
theorem new_A {h h' : Heap} (hA : ∀ b, h.size ≤ b → A b) (E : Fw h h') : ∀ b, h'.size ≤ b → A b := fun b hb => hA b (Nat.le_trans E.1 hb)

theorem number_ok {x : Int} {R : Option Addr → Heap → Prop} (hx : In x) (hA : ∀ b, h.size ≤ b → A b) (H : ∀ p h', Fw h h' → Th A h' (.num x) p → R (some p) h') : finger_number r x h R := by
  apply finger_number_of
  refine one_ok hx fun h1 E1 => New.cells fun h2 E2 z2 B2 => H _ h2 (E1.trans E2) ⟨h1.size, rfl, hA _ E1.1, B2⟩

theorem measured_ok {R : Int → Int → Int → Int → Int → Heap → Prop} (Dd : Dg A h s ts) (hz : (ls ts).length < 4611686018427387904) (hn : ts.length < 1073741824) (H : ∀ h', Fw h h' → R (meas (ls ts)).n (meas (ls ts)).sum (meas (ls ts)).least (meas (ls ts)).most (meas (ls ts)).hash h') : finger_measured r s h R := by
  apply finger_measured_of
  have hlen := Dd.len
  refine New.cells fun h1 E1 z1 B1 => none_ok fun h2 E2 => New.cells fun h3 E3 z3 B3 => St.whole B3 rfl rfl fun h4 B4 o4 z4 => ?_
  have E14 : Fw h h4 := ((E1.trans E2).trans E3).over (c := h2.size) (E1.trans E2).1 o4 z4
  have C4 : Blk h4 h.size _ := (E3.blk (E2.blk B1)).other o4 (by have := E2.1; omega)
  have hc2 := (E1.trans E2).1
  have hc3 : h.size < h2.size := by have := E2.1; omega
  generalize h2.size = c2 at *
  intro X HX
  have key : ∀ (k i : Nat) (h5 : Heap), i + k = ts.length → Fw h h5 → Blk h5 h.size [iV 0, iV 0, iV 0, iV 0, iV 0] → Blk h5 c2 (meas (ls (ts.take i))).c → X (i : Int) h5 := by
    intro k
    induction k with
    | zero =>
      intro i h5 hi E5 C5 B5
      refine HX _ _ ⟨fun c => absurd (of_decide_eq_true c) (by omega), fun _ => ?_⟩
      rw [List.take_of_length_le (by omega)] at B5
      refine ⟨_, B5.ld 0 rfl, _, B5.ld 1 rfl, _, B5.ld 2 rfl, _, B5.ld 3 rfl, _, B5.ld 4 rfl, ?_⟩
      refine St.whole C5 rfl rfl fun h8 B8 o8 z8 => ⟨_, B8.ld 0 rfl, _, B8.ld 1 rfl, _, B8.ld 2 rfl, _, B8.ld 3 rfl, _, B8.ld 4 rfl, ?_⟩
      exact H h8 (E5.over (Nat.le_refl _) o8 z8)
    | succ k ih =>
      intro i h5 hi E5 C5 B5
      have hit : i < ts.length := by omega
      refine HX _ _ ⟨fun _ => (Dd.fw E5).ix (List.getElem?_eq_getElem hit) fun q p hq _ tp => ⟨some p, hq, ?_⟩, fun c => absurd (of_decide_eq_false c) (by omega)⟩
      obtain ⟨c, x, s', rfl, _, B, _, _⟩ := tp.view
      refine ⟨_, B5.ld 0 rfl, _, B5.ld 1 rfl, _, B5.ld 2 rfl, _, B5.ld 3 rfl, _, B5.ld 4 rfl, _, rfl, _, B.ld2 0 0 rfl, _, B.ld2 0 1 rfl, _, B.ld2 0 2 rfl, _, B.ld2 0 3 rfl, _, B.ld2 0 4 rfl, ?_⟩
      have e : ls (ts.take (i + 1)) = ls (ts.take i) ++ ts[i].l := by rw [List.take_add_one, List.getElem?_eq_getElem hit, Option.toList_some, ls_append, ls_one]
      have el : ls ts = ls (ts.take (i + 1)) ++ ls (ts.drop (i + 1)) := by rw [← ls_append, List.take_append_drop]
      refine join_ok (by rw [el, e] at hz; simp at hz; omega) fun h6 E6 => ?_
      refine St.whole (E6.blk B5) rfl rfl fun h7 B7 o7 z7 => ?_
      rw [w64_of (by omega) (by omega)]
      refine ih (i + 1) h7 (by omega) ((E5.trans E6).over hc2 o7 z7) ((E6.blk C5).other o7 (by omega)) ?_
      rw [e]; exact B7
  exact key ts.length 0 h4 (by omega) E14 C4 B4

theorem group_ok {R : Option Addr → Heap → Prop} (Dd : Dg A h s ts) (hf : Few ts) (hz : (ls ts).length < 4611686018427387904) (hA : ∀ b, h.size ≤ b → A b) (H : ∀ p h', Fw h h' → Th A h' (grp ts) p → R (some p) h') : finger_group r s h R := by
  apply finger_group_of
  refine measured_ok Dd hz (by rcases hf with h | h <;> omega) fun h1 E1 => New.cells fun h2 E2 z2 B2 => H _ h2 (E1.trans E2) ?_
  exact Th.group hf (hA _ E1.1) B2 (Dd.fw (E1.trans E2))

theorem lmeasure_ok {R : Int → Int → Int → Int → Int → Heap → Prop} (L : Lv A h v q) (H : ∀ h', Fw h h' → R (meas v.l).n (meas v.l).sum (meas v.l).least (meas v.l).most (meas v.l).hash h') : finger_level_measure r q h R := by
  apply finger_level_measure_of
  refine New.cells fun h1 E1 z1 B1 => ⟨fun c => ?_, fun c => ?_⟩
  · have e := L.none.1 c
    subst e
    refine none_ok fun h2 E2 => St.whole (E2.blk B1) rfl rfl fun h3 B3 o3 z3 => ⟨_, B3.ld 0 rfl, _, B3.ld 1 rfl, _, B3.ld 2 rfl, _, B3.ld 3 rfl, _, B3.ld 4 rfl, ?_⟩
    exact H h3 ((E1.trans E2).over (Nat.le_refl _) o3 z3)
  · have hv : v ≠ .nil := fun e => by rw [L.none.2 e] at c; cases c
    obtain ⟨c', cs, rfl, _, B⟩ := L.top hv
    have B := E1.blk B
    refine ⟨_, rfl, _, B.ld2 0 0 rfl, _, B.ld2 0 1 rfl, _, B.ld2 0 2 rfl, _, B.ld2 0 3 rfl, _, B.ld2 0 4 rfl, ?_⟩
    refine St.whole B1 rfl rfl fun h3 B3 o3 z3 => ⟨_, B3.ld 0 rfl, _, B3.ld 1 rfl, _, B3.ld 2 rfl, _, B3.ld 3 rfl, _, B3.ld 4 rfl, ?_⟩
    exact H h3 (E1.over (Nat.le_refl _) o3 z3)

theorem alone_ok {R : Option Addr → Heap → Prop} (Tp : Th A h t p) (hA : ∀ b, h.size ≤ b → A b) (H : ∀ q h', Fw h h' → Lv A h' (.one t) q → R q h') : finger_alone r (some p) h R := by
  apply finger_alone_of
  obtain ⟨c, x, s', e, _, B, _, _⟩ := Tp.view
  subst e
  refine ⟨_, rfl, _, B.ld2 0 0 rfl, _, B.ld2 0 1 rfl, _, B.ld2 0 2 rfl, _, B.ld2 0 3 rfl, _, B.ld2 0 4 rfl, ?_⟩
  refine New.cells fun h1 E1 z1 B1 => New.cells fun h2 E2 z2 B2 => H _ h2 (E1.trans E2) ?_
  exact ⟨h1.size, _, rfl, hA _ E1.1, B2, Dg.new (h0 := h) (ps := [ad c 0]) (E2.blk B1) (hA _ (Nat.le_refl _)) rfl ⟨Tp.fw (E1.trans E2), trivial⟩⟩

theorem deep_ok {l : List Fing.T} {m : Fing.F} {u : List Fing.T} {s1 s2 : Sl} {R : Option Addr → Heap → Prop} (D1 : Dg A h s1 l) (D2 : Dg A h s2 u) (L : Lv A h m q) (hz : (ls l ++ (m.l ++ ls u)).length < 4611686018427387904) (hl : l.length < 1073741824) (hu : u.length < 1073741824) (hA : ∀ b, h.size ≤ b → A b)
    (H : ∀ q' h', Fw h h' → Lv A h' (.deep l m u) q' → R q' h') : finger_deep r s1 q s2 h R := by
  apply finger_deep_of
  simp only [List.length_append] at hz
  refine measured_ok D1 (by omega) hl fun h1 E1 => lmeasure_ok (L.fw E1) fun h2 E2 => ?_
  refine join_ok (by omega) fun h3 E3 => ?_
  have E13 := (E1.trans E2).trans E3
  refine measured_ok (D2.fw E13) (by omega) hu fun h4 E4 => ?_
  refine join_ok (by simp; omega) fun h5 E5 => ?_
  have E15 := (E13.trans E4).trans E5
  refine New.cells fun h6 E6 z6 B6 => H _ h6 (E15.trans E6) ?_
  rw [List.append_assoc] at B6
  exact ⟨h5.size, s1, s2, q, rfl, hA _ E15.1, B6, D1.fw (E15.trans E6), D2.fw (E15.trans E6), L.fw (E15.trans E6)⟩

theorem clone_ok {R : Sl → Heap → Prop} (Dd : Dg A h s ts) (hn : ts.length < 1048576) (H : ∀ s' h' ps, Fw h h' → Own h.size 1 h' s' (ps.map pV) → Ths A h ts ps → R s' h') : slices_Clone_finger_thing_finger_thing r s h R := by
  apply slices_Clone_finger_thing_finger_thing_of
  obtain ⟨ps, P, T⟩ := Dd
  have hl := P.len
  have hT := T.len
  refine ⟨fun c => ?_, fun c => ?_⟩
  · have e : ps = [] := by
      rcases P.at_ with e | ⟨b, o, e, _⟩
      · exact e
      · rw [e] at c; simp at c
    subst e
    exact H _ _ [] (Fw.refl _) (Own.nil _ _ _) T
  · refine New.cells (cs := []) fun h1 E1 z1 B1 => ?_
    have O1 : Own h.size 1 h1 ⟨some (ad h.size 0), 0, 0⟩ [] := ⟨rfl, Nat.le_refl _, .inr ⟨h.size, [], rfl, Nat.le_refl _, B1, rfl⟩⟩
    refine App.own O1 (P.fw E1).rs rfl (by intro v hv; obtain ⟨x, _, rfl⟩ := List.mem_map.1 hv; rfl) E1.1 (by simp; omega) fun s' h' G => ?_
    have E : Fw h h' := E1.trans' G.ext
    exact H s' h' ps E (by simpa using G.own) T

/-- append: one's own and others -/
theorem App.things {el : TypeId} {N : Nat} {s x : Sl} {ps qs : List Addr} {K : Sl → Heap → Prop} (O : Own N 1 h s (ps.map pV)) (X : Ps A h x qs) (hN : N ≤ h.size) (hz : ps.length + qs.length < 1073741824) (hK : ∀ s' h', Tw.Ext N h h' → Own N 1 h' s' ((ps ++ qs).map pV) → K s' h') : App el 1 8 (.pointer none) s x h K := by
  have ls : s.len = ps.length := by have := O.len; simp at this; omega
  have lx := X.len
  refine App.own O X.rs rfl (by intro v hv; obtain ⟨x, _, rfl⟩ := List.mem_map.1 hv; rfl) hN (by omega) fun s' h' G => hK s' h' G.ext ?_
  have := G.own
  simpa using this
end
end Go.Proofs.Ytmjljnbjoldeaaa
