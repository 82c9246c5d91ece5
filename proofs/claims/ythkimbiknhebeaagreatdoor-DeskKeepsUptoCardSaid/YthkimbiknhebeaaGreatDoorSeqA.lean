/- Trees with both ends at hand: what may be asked of one. Numbers in places: what the functions do. -/
import Derived.Test.YthkimbiknhebeaaGreatDoorGTree
import Derived.Test.YthkimbiknhebeaaGreatDoorFinA
import Derived.Test.YthkimbiknhebeaaGreatDoorGSeqs
namespace Go.Proofs.YthkimbiknhebeaaGreatDoor.Mo
open Go Go.RowKit Go.Tw Go.Mono Go.Fing
set_option linter.unusedVariables false
/-- a tree of these -/
def Tr (A : Nat → Prop) (h : Heap) (q : Option Addr) (l : List Int) : Prop := ∃ v : Fing.F, v.ok 0 ∧ v.l = l ∧ Lv A h v q
section
variable {A A' : Nat → Prop} {r : World} {h h' : Heap} {q : Option Addr} {l : List Int}
theorem Tr.to (S : To A A' h h') (T : Tr A h q l) : Tr A' h' q l := by obtain ⟨v, a, b, c⟩ := T; exact ⟨v, a, b, c.to S⟩
theorem Tr.fw (T : Tr A h q l) (E : Fw h h') : Tr A h' q l := T.to (To.fw E)
theorem Tr.nil (A : Nat → Prop) (h : Heap) : Tr A h none [] := ⟨.nil, trivial, rfl, rfl⟩
theorem Tr.none (T : Tr A h q l) : q.isNone = true ↔ l = [] := by
 obtain ⟨v, a, b, c⟩ := T
 rw [c.none]
 constructor
 ·intro e; subst e; exact b.symm
 ·intro e; exact l_nil a (b.trans e)
/-- beside a place that is written -/
abbrev Bs (A : Nat → Prop) (c : Nat) : Nat → Prop := fun b => A b ∧ b ≠ c
theorem bs_new {c : Nat} (hA : ∀ b, h.size ≤ b → A b) (hc : c < h'.size) (E : Fw h h') : ∀ b, h'.size ≤ b → Bs A c b := fun b hb => ⟨hA b (Nat.le_trans E.1 hb), by omega⟩
theorem Tr.aside {c : Nat} (T : Tr A h q l) (E : Fw h h') (hc : h.size ≤ c) : Tr (Bs A c) h' q l := T.to (To.old E fun b hb hl => ⟨hb, by omega⟩)
theorem Tr.back {c : Nat} (T : Tr (Bs A c) h q l) (ho : ∀ d, d ≠ c → h'[d]? = h[d]?) (hz : h'.size = h.size) : Tr A h' q l := (T.to (To.over (fun e => e.2 rfl) ho hz)).to (To.weak (fun b hb => hb.1) _)
theorem Tr.weak (hw : ∀ b, A b → A' b) (T : Tr A h q l) : Tr A' h q l := T.to (To.weak hw h)
theorem tpr_ok {x : Int} {R : Option Addr → Heap → Prop} (T : Tr A h q l) (hx : In x) (hz : l.length + 1 < 4611686018427387904) (hA : ∀ b, h.size ≤ b → A b) (H : ∀ q' h', Fw h h' → Tr A h' q' (l ++ [x]) → R q' h') : finger_Tree_PushRight r q x h R := by
 apply finger_Tree_PushRight_of
 refine New.cells fun h1 E1 z1 B1 => New.cells fun h2 E2 z2 B2 => ⟨_, (E2.blk B1).ld 0 rfl, ?_⟩
 have E12 := E1.trans E2
 have hA2 := bs_new (c := h1.size) hA B2.lt E12
 refine number_ok (A := Bs A h1.size) hx hA2 fun p h3 E3 Tp => ⟨(E3.blk (E2.blk B1)).ld 0 rfl, ?_⟩
 obtain ⟨v, a, b, c⟩ := T.aside (c := h1.size) (E12.trans E3) E1.1
 subst b
 refine pushRight_ok v 0 _ _ _ _ _ a c Tp (by simp [Fing.T.l]; omega) (new_A hA2 E3) fun q' h4 E4 L4 => ?_
 refine St.whole (E4.blk (E3.blk B2)) rfl rfl fun h5 B5 o5 z5 => ⟨_, B5.ld 0 rfl, ?_⟩
 refine H q' h5 (((E12.trans E3).trans E4).over E1.1 o5 z5) (Tr.back ⟨_, pr_ok v (.num x) 0 a trivial, ?_, L4⟩ o5 z5)
 rw [pr_l v _ 0 a]; rfl
theorem tpopl_ok {R : Int → Option Addr → Bool → Heap → Prop} (T : Tr A h q l) (hz : l.length < 4611686018427387904) (hA : ∀ b, h.size ≤ b → A b) (H0 : l = [] → ∀ h', Fw h h' → R 0 none false h')
  (H1 : ∀ x t q' h', l = x :: t → Fw h h' → Tr A h' q' t → R x q' true h') : finger_Tree_PopLeft r q h R := by
 apply finger_Tree_PopLeft_of
 refine New.cells fun h1 E1 z1 B1 => New.cells fun h2 E2 z2 B2 => ⟨_, (E2.blk B1).ld 0 rfl, fun c => ?_, fun c => ?_⟩
 ·refine St.whole B2 rfl rfl fun h3 B3 o3 z3 => ⟨_, B3.ld 0 rfl, ?_⟩
  exact H0 (T.none.1 c) h3 ((E1.trans E2).over E1.1 o3 z3)
 ·have E12 := E1.trans E2
  have hA2 := bs_new (c := h1.size) hA B2.lt E12
  have hl : l ≠ [] := fun e => by rw [T.none.2 e] at c; cases c
  obtain ⟨v, a, b, c⟩ := T.aside (c := h1.size) E12 E1.1
  subst b
  have hv : v ≠ .nil := fun e => by subst e; exact hl rfl
  refine ⟨_, (E2.blk B1).ld 0 rfl, popLeft_ok v 0 a hv _ _ _ c hz hA2 fun p' q' h4 E4 T4 L4 => ?_⟩
  have hok := pop_ok v 0 a hv
  obtain ⟨x, ex⟩ := dep_num hok.1
  have hk := hok.2.2
  rw [ex] at T4 hk
  obtain ⟨c', x', s', rfl, _, Bt, _, hx'⟩ := T4.view
  obtain ⟨rfl, _⟩ := hx' x rfl
  refine ⟨_, rfl, _, Bt.ld 5 rfl, ?_⟩
  refine St.whole (E4.blk B2) rfl rfl fun h5 B5 o5 z5 => ⟨_, B5.ld 0 rfl, ?_⟩
  exact H1 x' (popL v).2.l q' h5 hk.symm ((E12.trans E4).over E1.1 o5 z5) (Tr.back ⟨_, hok.2.1, rfl, L4⟩ o5 z5)
theorem tjoin_ok {q2 : Option Addr} {m : List Int} {R : Option Addr → Heap → Prop} (T : Tr A h q l) (U : Tr A h q2 m) (hz : l.length + m.length < 4611686018427387904) (hA : ∀ b, h.size ≤ b → A b) (H : ∀ q' h', Fw h h' → Tr A h' q' (l ++ m) → R q' h') : finger_Tree_Join r q q2 h R := by
 apply finger_Tree_Join_of
 refine New.cells fun h1 E1 z1 B1 => New.cells fun h2 E2 z2 B2 => New.cells fun h3 E3 z3 B3 => ⟨_, (E3.blk (E2.blk B1)).ld 0 rfl, _, (E3.blk B2).ld 0 rfl, ?_⟩
 have E13 := (E1.trans E2).trans E3
 have hA2 := bs_new (c := h2.size) hA B3.lt E13
 obtain ⟨v, a, b, c⟩ := T.aside (c := h2.size) E13 (E1.trans E2).1
 obtain ⟨v', a', b', c'⟩ := U.aside (c := h2.size) E13 (E1.trans E2).1
 subst b; subst b'
 refine joined_ok v [] v' 0 _ _ _ _ _ a a' (by simp) (by simp) c (Dg.nil _ _) c' (by simpa [ls] using hz) hA2 fun q' h4 E4 L4 => ?_
 refine St.whole (E4.blk B3) rfl rfl fun h5 B5 o5 z5 => ⟨_, B5.ld 0 rfl, ?_⟩
 obtain ⟨j1, j2⟩ := jn_ok v [] v' 0 a a' (by simp)
 exact H q' h5 ((E13.trans E4).over (E1.trans E2).1 o5 z5) (Tr.back ⟨_, j1, by rw [j2]; simp [ls], L4⟩ o5 z5)
theorem tmeasure_ok {R : Int → Int → Int → Int → Int → Heap → Prop} (T : Tr A h q l) (H : ∀ h', Fw h h' → R (meas l).n (meas l).sum (meas l).least (meas l).most (meas l).hash h') : finger_Tree_Measure r q h R := by
 apply finger_Tree_Measure_of
 refine New.cells fun h1 E1 z1 B1 => New.cells fun h2 E2 z2 B2 => ⟨_, (E2.blk B1).ld 0 rfl, ?_⟩
 obtain ⟨v, a, b, c⟩ := T
 subst b
 refine lmeasure_ok (c.fw (E1.trans E2)) fun h3 E3 => ?_
 refine St.whole (E3.blk B2) rfl rfl fun h4 B4 o4 z4 => ⟨_, B4.ld 0 rfl, _, B4.ld 1 rfl, _, B4.ld 2 rfl, _, B4.ld 3 rfl, _, B4.ld 4 rfl, ?_⟩
 exact H h4 (((E1.trans E2).trans E3).over E1.1 o4 z4)
/-- how numbers are split by a teller of beginnings -/
structure Spl (f : List Int → Bool) (l a b : List Int) : Prop where
 all : a ++ b = l
 none : l = [] ∨ f l = false → a = l ∧ b = []
 first : l ≠ [] → f l = true → f [] = true → a = [] ∧ b = l
 here : l ≠ [] → f l = true → f [] = false → f a = false ∧ ∃ x t, b = x :: t ∧ f (a ++ [x]) = true
theorem tsplit_ok {p1 : Value} {f : List Int → Bool} {R : Option Addr → Option Addr → Heap → Prop} (T : Tr A h q l) (hask : AskV r p1 f h) (hz : l.length < 4611686018427387904) (hA : ∀ b, h.size ≤ b → A b) (H : ∀ a b q1 q2 h', Fw h h' → Spl f l a b → Tr A h' q1 a → Tr A h' q2 b → R q1 q2 h') : finger_Tree_Split r q p1 h R := by
 apply finger_Tree_Split_of
 refine New.cells fun h1 E1 z1 B1 => New.cells fun h2 E2 z2 B2 => New.cells fun h3 E3 z3 B3 => ?_
 have E13 := (E1.trans E2).trans E3
 have C1 := E3.blk (E2.blk B1)
 have C2 := E3.blk B2
 have hc2 : h.size ≤ h1.size := E1.1
 have hc3 : h.size ≤ h2.size := (E1.trans E2).1
 have e12 : h1.size < h2.size := B2.lt
 intro J HJ
 -- both are laid down
 have lay : ∀ (h4 : Heap) (q1 q2 : Option Addr) (a b : List Int), Fw h3 h4 → Spl f l a b → Tr (Bs (Bs A h1.size) h2.size) h4 q1 a → Tr (Bs (Bs A h1.size) h2.size) h4 q2 b →
   St h4 (ad h1.size 0) 1 [.pointer q1] fun h5 => hcell h5 (Addr.add (ad h.size 0) 0) = some (.pointer q) ∧ St h5 (ad h2.size 0) 1 [.pointer q2] fun h6 => LdP h6 (Addr.add (ad h1.size 0) 0) fun x21 => LdP h6 (Addr.add (ad h2.size 0) 0) fun x23 => R x21 x23 h6 := by
  intro h4 q1 q2 a b E4 hs Ta Tb
  refine St.whole (E4.blk C2) rfl rfl fun h5 B5 o5 z5 => ⟨((E4.blk C1).other o5 (by have := B1.lt; have := E2.1; omega)).ld 0 rfl, ?_⟩
  refine St.whole ((E4.blk B3).other o5 (by omega)) rfl rfl fun h6 B6 o6 z6 => ⟨_, (B5.other o6 (by omega)).ld 0 rfl, _, B6.ld 0 rfl, ?_⟩
  have hS : To (Bs (Bs A h1.size) h2.size) (Bs (Bs A h1.size) h2.size) h4 h5 := To.over (fun e => e.1.2 rfl) o5 z5
  have hS2 : To (Bs (Bs A h1.size) h2.size) (Bs (Bs A h1.size) h2.size) h5 h6 := To.over (fun e => e.2 rfl) o6 z6
  exact H a b q1 q2 h6 (((E13.trans E4).over hc2 o5 z5).over hc3 o6 z6) hs (((Ta.to hS).to hS2).weak fun b hb => hb.1.1) (((Tb.to hS).to hS2).weak fun b hb => hb.1.1)
 have aside : ∀ (h4 : Heap), Fw h3 h4 → Tr (Bs (Bs A h1.size) h2.size) h4 q l := fun h4 E4 => T.to (To.old (E13.trans E4) fun b hb hl => ⟨⟨hb, by omega⟩, by omega⟩)
 have hA3 : ∀ (h4 : Heap), Fw h3 h4 → ∀ b, h4.size ≤ b → Bs (Bs A h1.size) h2.size b := fun h4 E4 b hb => ⟨⟨hA b (by have := E13.1; have := E4.1; omega), by have := E4.1; have := B3.lt; omega⟩, by have := E4.1; have := B3.lt; omega⟩
 have yes : ∀ h4, Fw h3 h4 → (l = [] ∨ f l = false) → J true h4 := by
  intro h4 E4 hl
  refine HJ _ _ ⟨fun _ => ⟨_, (E4.blk C1).ld 0 rfl, ?_⟩, fun c => (by cases c)⟩
  have hs : Spl f l l [] := ⟨by simp, fun _ => ⟨rfl, rfl⟩, fun h1 h2 => (by rcases hl with h | h; exact absurd h h1; rw [h] at h2; cases h2), fun h1 h2 => (by rcases hl with h | h; exact absurd h h1; rw [h] at h2; cases h2)⟩
  have := lay h4 q none l [] E4 hs (aside h4 E4) (Tr.nil _ _)
  exact ⟨this.1, fun h5 e5 => (this.2 h5 e5).2⟩
 have no : ∀ h4, Fw h3 h4 → l ≠ [] → f l = true → J false h4 := by
  intro h4 E4 hl hf
  refine HJ _ _ ⟨fun c => (by cases c), fun _ => ?_⟩
  refine none_ok fun h7 E7 => ?_
  have E37 := E4.trans E7
  refine hask h7 (E13.trans E37) [] (by simp) _ fun h8 E8 => ⟨_, rfl, fun h0 => ?_, fun h0 => ?_⟩
  ·have E38 := E37.trans E8
   refine ⟨_, (E38.blk C1).ld 0 rfl, ?_⟩
   exact lay h8 none q [] l E38 ⟨rfl, fun h => (by rcases h with h | h; exact absurd h hl; rw [h] at hf; cases hf), fun _ _ _ => ⟨rfl, rfl⟩, fun _ _ h => (by rw [h0] at h; cases h)⟩ (Tr.nil _ _) (aside h8 E38)
  ·have E38 := E37.trans E8
   refine ⟨_, (E38.blk C1).ld 0 rfl, none_ok fun h11 E11 => ⟨(E11.blk (E38.blk C1)).ld 0 rfl, ?_⟩⟩
   have E311 := E38.trans E11
   obtain ⟨v, ok, ev, L⟩ := aside h11 E311
   have hv : v ≠ .nil := fun e => by subst e; exact hl ev.symm
   refine cut_ok v 0 [] _ h11 _ ok hv L (hask.fw (E13.trans E311)) h0 (by rw [List.nil_append, ev]; exact hf) (by rw [ev]; simpa using hz) (hA3 h11 E311) fun a t b qa pt qb h12 E12 oka okt okb eab fa ft La Tt Lb => ?_
   have E312 := E311.trans E12
   obtain ⟨x, ex⟩ := dep_num okt
   subst ex
   have eabl := congrArg List.length eab
   simp only [List.length_append] at eabl
   have etl : (Fing.T.num x).l = [x] := rfl
   refine pushLeft_ok b 0 _ _ _ _ _ okb Lb Tt (by rw [ev] at eabl; omega) (hA3 h12 E312) fun q' h13 E13' L13 => ?_
   have E313 := E312.trans E13'
   have := lay h13 qa q' a.l (pl (.num x) b).l E313 ⟨(by rw [pl_l b _ 0 okb]; exact eab.trans ev), fun h => (by rcases h with h | h; exact absurd h hl; rw [h] at hf; cases hf), fun _ _ h => (by rw [h0] at h; cases h), fun _ _ _ => ⟨by simpa using fa, x, b.l, by rw [pl_l b _ 0 okb]; rfl, by simpa [etl] using ft⟩⟩ ⟨a, oka, rfl, La.fw E13'⟩ ⟨_, pl_ok b (.num x) 0 okb trivial, rfl, L13⟩
   exact ⟨this.1, fun h5 e5 => (this.2 h5 e5).2⟩
 refine ⟨_, C1.ld 0 rfl, fun c => yes h3 (Fw.refl _) (.inl (T.none.1 c)), fun c => ⟨_, C1.ld 0 rfl, ?_⟩⟩
 have hl : l ≠ [] := fun e => by rw [T.none.2 e] at c; cases c
 obtain ⟨v, ok, ev, L⟩ := T.fw E13
 have hv : v ≠ .nil := fun e => by subst e; exact hl ev.symm
 obtain ⟨cc, cs, rfl, _, B⟩ := L.top hv
 rw [ev] at B
 refine ⟨_, rfl, _, B.ld2 0 0 rfl, _, B.ld2 0 1 rfl, _, B.ld2 0 2 rfl, _, B.ld2 0 3 rfl, _, B.ld2 0 4 rfl, ?_⟩
 refine hask h3 E13 l hz _ fun h16 E16 => ⟨_, rfl, ?_⟩
 cases hf : f l with
 | true => exact no h16 E16 hl hf
 | false => exact yes h16 E16 (.inr hf)
/-! ### All -/
def walkV (b5 b8 : Nat) : Value := .func (.func 82) #[] #[.pointer (some (ad b5 0)), .pointer (some (ad b8 0))]
def levelsV (b8 b13 : Nat) : Value := .func (.func 83) #[] #[.pointer (some (ad b8 0)), .pointer (some (ad b13 0))]
/-- what is told so far -/
structure Told (h0 h : Heap) (b5 b8 b13 : Nat) (done : List Int) : Prop where
 fw : Fw h0 h
 ex : ∃ out, Fam h0.size h [(1, ⟨some (ad b5 0), 1, 1⟩, [Sl.v out]), (1, out, done.map iV), (1, ⟨some (ad b8 0), 1, 1⟩, [walkV b5 b8]), (1, ⟨some (ad b13 0), 1, 1⟩, [levelsV b8 b13])]
theorem walk_nil {h0 h : Heap} {s : Sl} {c2 c3 : Addr} {R : Heap → Prop} (Dd : Dg A h0 s []) (H : R h) : finger_Tree_Ints_1 r s c2 c3 h R := by
 apply finger_Tree_Ints_1_of
 have hlen := Dd.len
 intro X HX
 exact HX _ _ ⟨fun c => absurd (of_decide_eq_true c) (by simp at hlen; omega), fun _ => H⟩
theorem walk_ok {h0 : Heap} {b5 b8 b13 : Nat} : ∀ (k : Nat) (ts : List Fing.T) (done : List Int) (s : Sl) (h : Heap) (R : Heap → Prop), (∀ t ∈ ts, t.dep k) → Dg A h0 s ts → Told h0 h b5 b8 b13 done → done.length + (ls ts).length ≤ 17592186044416 → ts.length < 1073741824 →
  (∀ h', Told h0 h' b5 b8 b13 (done ++ ls ts) → R h') → finger_Tree_Ints_1 r s (ad b5 0) (ad b8 0) h R := by
 intro k
 induction k with
 | zero =>
  intro ts done s h R hd Dd T hz hn H
  apply finger_Tree_Ints_1_of
  have hlen := Dd.len
  intro X HX
  have key : ∀ (d i : Nat) (h1 : Heap), i + d = ts.length → Told h0 h1 b5 b8 b13 (done ++ ls (ts.take i)) → X (i : Int) h1 := by
   intro d
   induction d with
   | zero =>
    intro i h1 hi T1
    rw [List.take_of_length_le (by omega)] at T1
    exact HX _ _ ⟨fun c => absurd (of_decide_eq_true c) (by omega), fun _ => H h1 T1⟩
   | succ d ihd =>
    intro i h1 hi T1
    have hit : i < ts.length := by omega
    have hdt := hd _ (List.getElem_mem hit)
    have eg : ts[i]? = some ts[i] := List.getElem?_eq_getElem hit
    obtain ⟨E1, out, F1⟩ := T1
    refine HX _ _ ⟨fun _ => Dd.ix eg fun q0 p0 hq0 hb0 Tp => ⟨some p0, by rw [E1.cell hb0]; exact hq0, ?_⟩, fun c => absurd (of_decide_eq_false c) (by omega)⟩
    have es : ts.take (i + 1) = ts.take i ++ [ts[i]] := prs_part ts i hit
    have el : ls ts = ls (ts.take (i + 1)) ++ ls (ts.drop (i + 1)) := by rw [← ls_append, List.take_append_drop]
    rw [es, ls_append, ls_one] at el
    have el := congrArg List.length el
    simp only [List.length_append] at el
    have ed : done ++ ls (ts.take (i + 1)) = (done ++ ls (ts.take i)) ++ ts[i].l := by rw [es, ls_append, ls_one, List.append_assoc]
    have ihd := ihd (i + 1)
    rw [ed] at ihd
    have wi : w64 ((i : Int) + 1) = ((i + 1 : Nat) : Int) := by rw [w64_of] <;> omega
    have hdl : (done ++ ls (ts.take i)).length = done.length + (ls (ts.take i)).length := by simp
    generalize ts[i] = t at *
    generalize done ++ ls (ts.take i) = dn at *
    obtain ⟨ct, xv, sk, rfl, _, Bt, Dk, hnum⟩ := Tp.view
    obtain ⟨x, ex⟩ := dep_num hdt
    subst ex
    obtain ⟨rfl, rfl⟩ := hnum x rfl
    refine ⟨_, rfl, _, (E1.blk Bt).ld 6 rfl, ?_⟩
    intro J HJ
    refine ⟨fun _ => ⟨out, (F1.ownI (j := 0) rfl).cell (o := 0) rfl rfl, _, rfl, _, (E1.blk Bt).ld 5 rfl, ?_⟩, fun c => (by cases c)⟩
    intro p33 h4 hp hh
    subst hp; subst hh
    have F4 := push_own (el := 3) (v := iV xv) E1.1 F1
    have E4 : Fw h0 (h1.push (.cells #[iV xv] 3)) := E1.trans (Ext.push (Nat.le_refl _))
    generalize h1.push (.cells #[iV xv] 3) = h4 at F4 E4 ⊢
    refine ⟨(F4.ownI (j := 1) rfl).cell (o := 0) rfl rfl, ?_⟩
    have hxl : (Fing.T.num xv).l = [xv] := rfl
    rw [hxl] at el ihd
    simp only [List.length_cons, List.length_nil] at el
    refine Fam.app (j := 2) F4 rfl rfl rfl E4.1 (by simp; omega) ((F4.ownI (j := 0) rfl).cell (o := 0) rfl rfl) fun s37 h5 F5 E5 => ?_
    have O1 := F5.ownI (j := 1) rfl
    refine St.one' (b := b5) (o := 0) O1 rfl (by simp) ?_
    have F6 := F5.setI (j := 1) (o := 0) (v := Sl.v s37) rfl rfl (by simp)
    have E6 : Fw h0 (hset h5 (ad b5 0) (Sl.v s37)) := Ext.trans (Ext.trans E4 E5) (Ext.set (O1.lt' rfl).2)
    generalize hset h5 (ad b5 0) (Sl.v s37) = h6 at F6 E6 ⊢
    have F7 : Fam h0.size h6 [(1, ⟨some (ad b5 0), 1, 1⟩, [Sl.v s37]), (1, s37, (dn ++ [xv]).map iV), (1, ⟨some (ad b8 0), 1, 1⟩, [walkV b5 b8]), (1, ⟨some (ad b13 0), 1, 1⟩, [levelsV b8 b13])] := by
     rw [List.map_append]; exact F6.tail
    refine HJ _ ⟨_, (F7.ownI (j := 2) rfl).cell (o := 0) rfl rfl, _, rfl, _, (E6.blk Bt).ld 6 rfl, ?_⟩
    refine .inl ⟨_, _, _, rfl, Tryz.call82, CallsH.mono (walk_nil (A := A) (h0 := h0) (R := fun h' => X (w64 ((i : Int) + 1)) h') (Dg.nil A h0) ?_) fun v h' ⟨hv, hR⟩ => ⟨hv, hR⟩⟩
    rw [wi]
    exact ihd h6 (by omega) ⟨E6, s37, F7⟩
  exact key ts.length 0 h (by omega) (by simpa [ls] using T)
 | succ k ih =>
  intro ts done s h R hd Dd T hz hn H
  apply finger_Tree_Ints_1_of
  have hlen := Dd.len
  intro X HX
  have key : ∀ (d i : Nat) (h1 : Heap), i + d = ts.length → Told h0 h1 b5 b8 b13 (done ++ ls (ts.take i)) → X (i : Int) h1 := by
   intro d
   induction d with
   | zero =>
    intro i h1 hi T1
    rw [List.take_of_length_le (by omega)] at T1
    exact HX _ _ ⟨fun c => absurd (of_decide_eq_true c) (by omega), fun _ => H h1 T1⟩
   | succ d ihd =>
    intro i h1 hi T1
    have hit : i < ts.length := by omega
    have hdt := hd _ (List.getElem_mem hit)
    have eg : ts[i]? = some ts[i] := List.getElem?_eq_getElem hit
    obtain ⟨E1, out, F1⟩ := T1
    refine HX _ _ ⟨fun _ => Dd.ix eg fun q0 p0 hq0 hb0 Tp => ⟨some p0, by rw [E1.cell hb0]; exact hq0, ?_⟩, fun c => absurd (of_decide_eq_false c) (by omega)⟩
    have es : ts.take (i + 1) = ts.take i ++ [ts[i]] := prs_part ts i hit
    have el : ls ts = ls (ts.take (i + 1)) ++ ls (ts.drop (i + 1)) := by rw [← ls_append, List.take_append_drop]
    rw [es, ls_append, ls_one] at el
    have el := congrArg List.length el
    simp only [List.length_append] at el
    have ed : done ++ ls (ts.take (i + 1)) = (done ++ ls (ts.take i)) ++ ts[i].l := by rw [es, ls_append, ls_one, List.append_assoc]
    have ihd := ihd (i + 1)
    rw [ed] at ihd
    have wi : w64 ((i : Int) + 1) = ((i + 1 : Nat) : Int) := by rw [w64_of] <;> omega
    have hdl : (done ++ ls (ts.take i)).length = done.length + (ls (ts.take i)).length := by simp
    generalize ts[i] = t at *
    generalize done ++ ls (ts.take i) = dn at *
    obtain ⟨ct, xv, sk, rfl, _, Bt, Dk, hnum⟩ := Tp.view
    have hk := dep_kids hdt
    have hkn : t.kids ≠ [] := by intro e; rcases hk.1 with h | h <;> rw [e] at h <;> simp at h
    refine ⟨_, rfl, _, (E1.blk Bt).ld 6 rfl, ?_⟩
    intro J HJ
    refine ⟨fun c => absurd c (by rw [Dk.some hkn]; decide), fun _ => ?_⟩
    refine HJ _ ⟨_, (F1.ownI (j := 2) rfl).cell (o := 0) rfl rfl, _, rfl, _, (E1.blk Bt).ld 6 rfl, ?_⟩
    refine .inl ⟨_, _, _, rfl, Tryz.call82, CallsH.mono (ih t.kids dn sk h1 (fun h' => X (w64 ((i : Int) + 1)) h') hk.2.2 Dk ⟨E1, out, F1⟩ (by rw [hk.2.1]; omega) (by rcases hk.1 with h | h <;> omega) fun h' T' => ?_) fun v h' ⟨hv, hR⟩ => ⟨hv, hR⟩⟩
    rw [wi]
    rw [hk.2.1] at T'
    exact ihd h' (by omega) T'
  exact key ts.length 0 h (by omega) (by simpa [ls] using T)
theorem levels_nil {h : Heap} {c2 c3 : Addr} {R : Heap → Prop} (H : R h) : finger_Tree_Ints_2 r none c2 c3 h R := by
 apply finger_Tree_Ints_2_of
 exact ⟨fun c => (by cases c), fun _ => H⟩
theorem levels_ok {h0 : Heap} {b5 b8 b13 : Nat} : ∀ (v : Fing.F) (k : Nat) (done : List Int) (q : Option Addr) (h : Heap) (R : Heap → Prop), v.ok k → Lv A h0 v q → Told h0 h b5 b8 b13 done → done.length + v.l.length ≤ 17592186044416 →
  (∀ h', Told h0 h' b5 b8 b13 (done ++ v.l) → R h') → finger_Tree_Ints_2 r q (ad b8 0) (ad b13 0) h R
 | .nil, k, done, q, h, R, ho, L, T, hz, H => by
  have L : q = none := L
  subst L
  apply finger_Tree_Ints_2_of
  exact ⟨fun c => (by cases c), fun _ => H h (by simpa [Fing.F.l] using T)⟩
 | .one t, k, done, q, h, R, ho, L, T, hz, H => by
  obtain ⟨c, s, rfl, hc, B, Du⟩ := L
  obtain ⟨E1, out, F1⟩ := T
  apply finger_Tree_Ints_2_of
  have hz : done.length + t.l.length ≤ 17592186044416 := hz
  have e1 : ls [t] = t.l := ls_one t
  refine ⟨fun _ => ⟨_, (F1.ownI (j := 2) rfl).cell (o := 0) rfl rfl, _, rfl, _, (E1.blk B).ld 5 rfl, ?_⟩, fun c => (by cases c)⟩
  refine .inl ⟨_, _, _, rfl, Tryz.call82, CallsH.mono (walk_ok (A := A) k [t] done s h _ (by intro x hx; simp at hx; subst hx; exact ho) Du ⟨E1, out, F1⟩ (by rw [e1]; omega) (by simp) fun h1 T1 => ?_) fun v h' ⟨hv, hR⟩ => ⟨hv, hR⟩⟩
  obtain ⟨E2, out2, F2⟩ := T1
  refine ⟨_, (F2.ownI (j := 3) rfl).cell (o := 0) rfl rfl, _, rfl, _, (E2.blk B).ld 7 rfl, ?_⟩
  refine .inl ⟨_, _, _, rfl, Tryz.call83, CallsH.mono (levels_nil (r := r) (R := fun h2 => _) ?_) fun v h' ⟨hv, hR⟩ => ⟨hv, hR⟩⟩
  refine ⟨_, (F2.ownI (j := 2) rfl).cell (o := 0) rfl rfl, _, rfl, _, (E2.blk B).ld 6 rfl, ?_⟩
  refine .inl ⟨_, _, _, rfl, Tryz.call82, CallsH.mono (walk_nil (A := A) (h0 := h0) (R := R) (Dg.nil A h0) (H h1 ⟨E2, out2, ?_⟩)) fun v h' ⟨hv, hR⟩ => ⟨hv, hR⟩⟩
  rw [e1] at F2
  exact F2
 | .deep l m w, k, done, q, h, R, ho, L, T, hz, H => by
  obtain ⟨c, s, u, qm, rfl, hc, B, D1, D2, Lm⟩ := L
  obtain ⟨E1, out, F1⟩ := T
  apply finger_Tree_Ints_2_of
  have hz : done.length + (ls l ++ (m.l ++ ls w)).length ≤ 17592186044416 := hz
  simp only [List.length_append] at hz
  have n1 := ho.1.2.1
  have n2 := ho.2.1.2.1
  refine ⟨fun _ => ⟨_, (F1.ownI (j := 2) rfl).cell (o := 0) rfl rfl, _, rfl, _, (E1.blk B).ld 5 rfl, ?_⟩, fun c => (by cases c)⟩
  refine .inl ⟨_, _, _, rfl, Tryz.call82, CallsH.mono (walk_ok (A := A) k l done s h _ ho.1.2.2 D1 ⟨E1, out, F1⟩ (by omega) (by omega) fun h1 T1 => ?_) fun v h' ⟨hv, hR⟩ => ⟨hv, hR⟩⟩
  obtain ⟨E2, out2, F2⟩ := T1
  refine ⟨_, (F2.ownI (j := 3) rfl).cell (o := 0) rfl rfl, _, rfl, _, (E2.blk B).ld 7 rfl, ?_⟩
  refine .inl ⟨_, _, _, rfl, Tryz.call83, CallsH.mono (levels_ok m (k + 1) (done ++ ls l) qm h1 _ ho.2.2 Lm ⟨E2, out2, F2⟩ (by simp only [List.length_append]; omega) fun h2 T2 => ?_) fun v h' ⟨hv, hR⟩ => ⟨hv, hR⟩⟩
  obtain ⟨E3, out3, F3⟩ := T2
  refine ⟨_, (F3.ownI (j := 2) rfl).cell (o := 0) rfl rfl, _, rfl, _, (E3.blk B).ld 6 rfl, ?_⟩
  refine .inl ⟨_, _, _, rfl, Tryz.call82, CallsH.mono (walk_ok (A := A) k w ((done ++ ls l) ++ m.l) u h2 R ho.2.1.2.2 D2 ⟨E3, out3, F3⟩ (by simp only [List.length_append]; omega) (by omega) fun h3 T3 => H h3 ?_) fun v h' ⟨hv, hR⟩ => ⟨hv, hR⟩⟩
  have e : done ++ (Fing.F.deep l m w).l = ((done ++ ls l) ++ m.l) ++ ls w := by simp [Fing.F.l]
  rw [e]; exact T3
theorem tints_ok {R : Sl → Heap → Prop} (T : Tr A h q l) (hz : l.length ≤ 17592186044416) (H : ∀ s h', Fw h h' → Own h.size 1 h' s (l.map iV) → R s h') : finger_Tree_Ints r q h R := by
 apply finger_Tree_Ints_of
 refine New.cells fun h1 E1 z1 B1 => ?_
 intro p5 h2 hp hh
 subst hp; subst hh
 have F0 := (Fam.none h.size h1).empty 1
 have F2 := push_own (el := 26) (v := Sl.v Sl.nil) E1.1 F0
 have E2 : Fw h (h1.push (.cells #[Sl.v Sl.nil] 26)) := E1.trans (Ext.push (Nat.le_refl _))
 have C2 := (Ext.push (n := h1.size) (x := .cells #[Sl.v Sl.nil] 26) (Nat.le_refl _)).blk B1 B1.lt
 generalize h1.size = b5 at F2 C2 ⊢
 generalize h1.push (.cells #[Sl.v Sl.nil] 26) = h2 at F2 E2 C2 ⊢
 intro p8 h3 hp hh
 subst hp; subst hh
 have F3 := push_own (el := 124) (v := .nilFunc) E2.1 F2
 have E3 : Fw h (h2.push (.cells #[.nilFunc] 124)) := E2.trans (Ext.push (Nat.le_refl _))
 have C3 := (Ext.push (n := h2.size) (x := .cells #[.nilFunc] 124) (Nat.le_refl _)).blk C2 C2.lt
 have c38 : h.size ≠ h2.size := by have := C2.lt; omega
 generalize h2.size = b8 at F3 C3 c38 ⊢
 generalize h2.push (.cells #[.nilFunc] 124) = h3 at F3 E3 C3 ⊢
 have O3 := F3.ownI (j := 0) rfl
 refine St.one' (b := b8) (o := 0) O3 rfl (by simp) ?_
 have F4 := F3.setI (j := 0) (o := 0) (v := walkV b5 b8) rfl rfl (by simp)
 have E4 : Fw h (hset h3 (ad b8 0) (walkV b5 b8)) := Ext.trans E3 (Ext.set (O3.lt' rfl).2)
 have C4 : Blk (hset h3 (ad b8 0) (walkV b5 b8)) h.size _ := C3.set_ne (fun e => c38 (by have e : b8 = h.size := e; omega))
 have e4 : hset h3 (ad b8 0) (walkV b5 b8) = hset h3 (ad b8 0) (.func (.func 82) #[] #[(.pointer (some (ad b5 0))), (.pointer (some (ad b8 0)))]) := rfl
 rw [e4] at F4 E4 C4
 generalize hset h3 (ad b8 0) (.func (.func 82) #[] #[(.pointer (some (ad b5 0))), (.pointer (some (ad b8 0)))]) = h4 at F4 E4 C4 ⊢
 intro p13 h5 hp hh
 subst hp; subst hh
 have F5 := push_own (el := 125) (v := .nilFunc) E4.1 F4
 have E5 : Fw h (h4.push (.cells #[.nilFunc] 125)) := E4.trans (Ext.push (Nat.le_refl _))
 have C5 := (Ext.push (n := h4.size) (x := .cells #[.nilFunc] 125) (Nat.le_refl _)).blk C4 C4.lt
 have c413 : h.size ≠ h4.size := by have := C4.lt; omega
 generalize h4.size = b13 at F5 C5 c413 ⊢
 generalize h4.push (.cells #[.nilFunc] 125) = h5 at F5 E5 C5 ⊢
 have O5 := F5.ownI (j := 0) rfl
 refine St.one' (b := b13) (o := 0) O5 rfl (by simp) ?_
 have F6 := F5.setI (j := 0) (o := 0) (v := levelsV b8 b13) rfl rfl (by simp)
 have E6 : Fw h (hset h5 (ad b13 0) (levelsV b8 b13)) := Ext.trans E5 (Ext.set (O5.lt' rfl).2)
 have C6 : Blk (hset h5 (ad b13 0) (levelsV b8 b13)) h.size _ := C5.set_ne (fun e => c413 (by have e : b13 = h.size := e; omega))
 have e6 : hset h5 (ad b13 0) (levelsV b8 b13) = hset h5 (ad b13 0) (.func (.func 83) #[] #[(.pointer (some (ad b8 0))), (.pointer (some (ad b13 0)))]) := rfl
 rw [e6] at F6 E6 C6
 generalize hset h5 (ad b13 0) (.func (.func 83) #[] #[(.pointer (some (ad b8 0))), (.pointer (some (ad b13 0)))]) = h6 at F6 E6 C6 ⊢
 have F7 : Fam h.size h6 [(1, ⟨some (ad b5 0), 1, 1⟩, [Sl.v Sl.nil]), (1, Sl.nil, ([] : List Int).map iV), (1, ⟨some (ad b8 0), 1, 1⟩, [walkV b5 b8]), (1, ⟨some (ad b13 0), 1, 1⟩, [levelsV b8 b13])] :=
  Fam.perm F6 (by
   show List.Perm [_, _, _, _] [_, _, _, _]
   exact (List.reverse_perm _).symm.trans (by simp only [List.reverse_cons, List.reverse_nil, List.nil_append, List.cons_append]; exact List.Perm.swap _ _ _))
 refine ⟨_, (F7.ownI (j := 3) rfl).cell (o := 0) rfl rfl, _, C6.ld 0 rfl, ?_⟩
 obtain ⟨v, ok, ev, L⟩ := T
 subst ev
 refine .inl ⟨_, _, _, rfl, Tryz.call83, CallsH.mono (levels_ok (A := A) (h0 := h) v 0 [] q h6 _ ok L ⟨E6, Sl.nil, F7⟩ (by simpa using hz) fun h7 T7 => ?_) fun v h' ⟨hv, hR⟩ => ⟨hv, hR⟩⟩
 obtain ⟨E7, out7, F8⟩ := T7
 exact ⟨out7, (F8.ownI (j := 0) rfl).cell (o := 0) rfl rfl, H out7 h7 E7 (by simpa using F8.ownI (j := 1) rfl)⟩
end
end Go.Proofs.YthkimbiknhebeaaGreatDoor.Mo
namespace Go.Proofs.YthkimbiknhebeaaGreatDoor.Mo
open Go Go.RowKit Go.Tw Go.Mono Go.Fing
set_option linter.unusedVariables false
section
variable {A : Nat → Prop} {r : World} {h : Heap} {q : Option Addr} {l : List Int}
theorem var1 {el : TypeId} {q : Option Addr} {K : Addr → Heap → Prop} (H : ∀ h', Fw h h' → Blk h' h.size [.pointer q] → K (ad h.size 0) h') : New h (.cells #[.pointer none] el) fun p h3 => St h3 p 1 [.pointer q] fun h4 => K p h4 :=
 New.cells fun h3 E3 z3 B3 => St.whole B3 rfl rfl fun h4 B4 o4 z4 => H h4 (E3.over (Nat.le_refl _) o4 z4) B4
theorem var2 {el : TypeId} {q1 q2 : Option Addr} {K : Addr → Addr → Heap → Prop} (H : ∀ c1 c2 h', Fw h h' → Blk h' c1 [.pointer q1] → Blk h' c2 [.pointer q2] → K (ad c1 0) (ad c2 0) h') :
  New h (.cells #[.pointer none] el) fun p h3 => New h3 (.cells #[.pointer none] el) fun p2 h4 => St h4 p 1 [.pointer q1] fun h5 => St h5 p2 1 [.pointer q2] fun h6 => K p p2 h6 :=
 New.cells fun h3 E3 z3 B3 => New.cells fun h4 E4 z4 B4 => St.whole (E4.blk B3) rfl rfl fun h5 B5 o5 z5 => St.whole (B4.other o5 (by omega)) rfl rfl fun h6 B6 o6 z6 =>
  H _ _ h6 (((E3.trans E4).over (Nat.le_refl _) o5 z5).over E3.1 o6 z6) (B5.other o6 (by omega)) B6
theorem sints_ok {R : Sl → Heap → Prop} (T : Tr A h q l) (hz : l.length ≤ 17592186044416) (H : ∀ s h', Fw h h' → Own h.size 1 h' s (l.map iV) → R s h') : seq_Seq_Ints r q h R := by
 apply seq_Seq_Ints_of
 refine New.cells fun h1 E1 z1 B1 => ⟨_, B1.ld2 0 0 rfl, tints_ok (T.fw E1) hz fun s h2 E2 O2 => H s h2 (E1.trans E2) (O2.mono E1.1)⟩
theorem slen_ok {R : Int → Heap → Prop} (T : Tr A h q l) (H : ∀ h', Fw h h' → R (l.length : Int) h') : seq_Seq_Len r q h R := by
 apply seq_Seq_Len_of
 refine New.cells fun h1 E1 z1 B1 => ⟨_, B1.ld2 0 0 rfl, tmeasure_ok (T.fw E1) fun h2 E2 => H h2 (E1.trans E2)⟩
theorem scut_ok {i : Nat} {R : Option Addr → Option Addr → Heap → Prop} (T : Tr A h q l) (hi : i ≤ l.length) (hz : l.length < 4611686018427387904) (hA : ∀ b, h.size ≤ b → A b) (H : ∀ q1 q2 h', Fw h h' → Tr A h' q1 (l.take i) → Tr A h' q2 (l.drop i) → R q1 q2 h') : seq_Seq_cut r q (i : Int) h R := by
 apply seq_Seq_cut_of
 refine New.cells fun h1 E1 z1 B1 => New.cells (cs := [iV (i : Int)]) fun h2 E2 z2 B2 => New.cells fun h3 E3 z3 B3 => New.cells fun h4 E4 z4 B4 => ?_
 have E14 := ((E1.trans E2).trans E3).trans E4
 have hz3 := B4.lt
 refine ⟨_, ((E2.trans (E3.trans E4)).blk B1).ld2 0 0 rfl, ?_⟩
 have C6 := (E3.trans E4).blk B2
 have hask : AskV r (.func (.func 67) #[] #[.pointer (some (ad h1.size 0))]) (fun s => decide ((i : Int) < (s.length : Int))) h4 := by
  intro h' E s hs K HK
  have main : seq_Seq_cut_1 r (meas s).n (meas s).sum (meas s).least (meas s).most (meas s).hash (ad h1.size 0) h' fun y h'' => K (.bool y) h'' := by
   apply seq_Seq_cut_1_of
   refine New.cells fun g1 F1 w1 D1 => ⟨_, D1.ld 0 rfl, _, ?_, HK g1 F1⟩
   have := ((E.trans F1).blk C6).ld 0 (v := iV (i : Int)) rfl
   rwa [ad_add] at this
  exact .inl ⟨_, _, _, rfl, Tryz.call67, CallsH.mono main fun v h'' ⟨y, hv, hR⟩ => by rw [hv]; exact hR⟩
 have Ta : Tr (Bs (Bs A h2.size) h3.size) h4 q l := T.to (To.old E14 fun b hb hl => ⟨⟨hb, by omega⟩, by omega⟩)
 refine tsplit_ok Ta hask hz (fun b hb => ⟨⟨hA b (by have := E14.1; omega), by omega⟩, by omega⟩) fun a b q1 q2 h5 E5 hs Ta Tb => ?_
 refine St.whole (E5.blk (E4.blk B3)) rfl rfl fun h6 B6 o6 z6 => ?_
 refine St.whole ((E5.blk B4).other o6 (by omega)) rfl rfl fun h7 B7 o7 z7 => ⟨_, (B6.other o7 (by omega)).ld 0 rfl, _, B7.ld 0 rfl, ?_⟩
 have S6 : To (Bs (Bs A h2.size) h3.size) (Bs (Bs A h2.size) h3.size) h5 h6 := To.over (fun e => e.1.2 rfl) o6 z6
 have S7 : To (Bs (Bs A h2.size) h3.size) (Bs (Bs A h2.size) h3.size) h6 h7 := To.over (fun e => e.2 rfl) o7 z7
 have hal : a.length = i := by
  by_cases hl : l = []
  ·rw [(hs.none (.inl hl)).1, hl]; rw [hl] at hi; simp at hi; simp [hi]
  ·by_cases hf : (i : Int) < (l.length : Int)
   ·obtain ⟨fa, x, t, eb, fx⟩ := hs.here hl (decide_eq_true hf) (decide_eq_false (by simp))
    have fa := of_decide_eq_false fa
    have fx := of_decide_eq_true fx
    simp at fx
    omega
   ·rw [(hs.none (.inr (decide_eq_false hf))).1]; omega
 have e1 : a = l.take i := by rw [← hs.all, ← hal, List.take_left' rfl]
 have e2 : b = l.drop i := by rw [← hs.all, ← hal, List.drop_left' rfl]
 subst e1; subst e2
 refine H q1 q2 h7 (((E14.trans E5).over (by omega) o6 z6).over (by omega) o7 z7) (((Ta.to S6).to S7).weak fun b hb => hb.1.1) (((Tb.to S6).to S7).weak fun b hb => hb.1.1)
theorem sinsert_ok {i x : Int} {R : Option Addr → Bool → Heap → Prop} (T : Tr A h q l) (hx : In x) (hz : l.length + 1 < 4611686018427387904) (hA : ∀ b, h.size ≤ b → A b) (H0 : ¬ (0 ≤ i ∧ i ≤ l.length) → ∀ h', Fw h h' → R none false h')
  (H1 : ∀ (n : Nat) q' h', i = n → n ≤ l.length → Fw h h' → Tr A h' q' (l.take n ++ x :: l.drop n) → R q' true h') : seq_Seq_Insert r q i x h R := by
 apply seq_Seq_Insert_of
 refine New.cells fun h1 E1 z1 B1 => New.cells fun h2 E2 z2 B2 => ?_
 have E12 := E1.trans E2
 have hb2 := B2.lt
 intro J HJ
 have no : ∀ h3, Fw h2 h3 → ¬ (0 ≤ i ∧ i ≤ l.length) → J true h3 := fun h3 E3 hn => HJ _ _ ⟨fun _ => St.whole (E3.blk B2) rfl rfl fun h4 B4 o4 z4 => ⟨_, B4.ld 0 rfl, H0 hn h4 ((E12.trans E3).over E1.1 o4 z4)⟩, fun c => (by cases c)⟩
 refine ⟨fun c => no h2 (Fw.refl _) (by have := of_decide_eq_true c; omega), fun c => ⟨_, (E2.blk B1).ld 0 rfl, slen_ok (T.fw E12) fun h3 E3 => ?_⟩⟩
 have c := of_decide_eq_false c
 by_cases hi : i ≤ l.length
 ·rw [decide_eq_false (by omega)]
  refine HJ _ _ ⟨fun c => (by cases c), fun _ => ⟨_, ((E2.trans E3).blk B1).ld 0 rfl, ?_⟩⟩
  obtain ⟨n, rfl⟩ : ∃ n : Nat, i = n := ⟨i.toNat, by omega⟩
  have E13 := E12.trans E3
  have hA2 := bs_new (c := h1.size) hA (by have := E3.1; omega) E13
  refine scut_ok (A := Bs A h1.size) (T.aside E13 E1.1) (by omega) (by omega) hA2 fun q1 q2 h5 E5 T1 T2 => ?_
  refine var2 fun c1 c2 h9 E9 B9 C9 => ⟨_, B9.ld 0 rfl, _, C9.ld 0 rfl, ?_⟩
  refine tpr_ok (T1.fw E9) hx (by simp; omega) (new_A hA2 (E5.trans E9)) fun q3 h10 E10 T10 => ⟨(E10.blk C9).ld 0 rfl, ?_⟩
  refine tjoin_ok T10 (T2.fw (E9.trans E10)) (by simp; omega) (new_A hA2 ((E5.trans E9).trans E10)) fun q4 h11 E11 T11 => ?_
  have E311 := ((E5.trans E9).trans E10).trans E11
  refine St.whole ((E3.trans E311).blk B2) rfl rfl fun h12 B12 o12 z12 => ⟨_, B12.ld 0 rfl, H1 n q4 h12 rfl (by omega) ((E13.trans E311).over E1.1 o12 z12) ?_⟩
  have := T11.back o12 z12
  simpa using this
 ·rw [decide_eq_true (by omega)]
  exact no h3 E3 (by omega)
theorem sdelete_ok {i : Int} {R : Option Addr → Bool → Heap → Prop} (T : Tr A h q l) (hz : l.length < 4611686018427387904) (hA : ∀ b, h.size ≤ b → A b) (H0 : ¬ (0 ≤ i ∧ i < l.length) → ∀ h', Fw h h' → R none false h')
  (H1 : ∀ (n : Nat) q' h', i = n → n < l.length → Fw h h' → Tr A h' q' (l.take n ++ l.drop (n + 1)) → R q' true h') : seq_Seq_Delete r q i h R := by
 apply seq_Seq_Delete_of
 refine New.cells fun h1 E1 z1 B1 => New.cells fun h2 E2 z2 B2 => ?_
 have E12 := E1.trans E2
 have hb2 := B2.lt
 intro J HJ
 have no : ∀ h3, Fw h2 h3 → ¬ (0 ≤ i ∧ i < l.length) → J true h3 := fun h3 E3 hn => HJ _ _ ⟨fun _ => St.whole (E3.blk B2) rfl rfl fun h4 B4 o4 z4 => ⟨_, B4.ld 0 rfl, H0 hn h4 ((E12.trans E3).over E1.1 o4 z4)⟩, fun c => (by cases c)⟩
 refine ⟨fun c => no h2 (Fw.refl _) (by have := of_decide_eq_true c; omega), fun c => ⟨_, (E2.blk B1).ld 0 rfl, slen_ok (T.fw E12) fun h3 E3 => ?_⟩⟩
 have c := of_decide_eq_false c
 by_cases hi : i < l.length
 ·rw [decide_eq_false (by omega)]
  refine HJ _ _ ⟨fun c => (by cases c), fun _ => ⟨_, ((E2.trans E3).blk B1).ld 0 rfl, ?_⟩⟩
  obtain ⟨n, rfl⟩ : ∃ n : Nat, i = n := ⟨i.toNat, by omega⟩
  have E13 := E12.trans E3
  have hA2 := bs_new (c := h1.size) hA (by have := E3.1; omega) E13
  refine scut_ok (A := Bs A h1.size) (T.aside E13 E1.1) (by omega) (by omega) hA2 fun q1 q2 h5 E5 T1 T2 => ?_
  refine var2 fun c1 c2 h9 E9 B9 C9 => ⟨_, C9.ld 0 rfl, ?_⟩
  refine tpopl_ok (T2.fw E9) (by simp; omega) (new_A hA2 (E5.trans E9)) (fun e => by have := congrArg List.length e; simp at this; omega) fun x t q3 h10 e E10 T10 => ?_
  refine var1 fun h12 E12' B12 => ⟨_, ((E10.trans E12').blk B9).ld 0 rfl, _, B12.ld 0 rfl, ?_⟩
  have et : t = l.drop (n + 1) := by
   have := congrArg List.tail e
   simpa using this.symm
  subst et
  have E312 := ((E5.trans E9).trans E10).trans E12'
  refine tjoin_ok (T1.fw ((E9.trans E10).trans E12')) (T10.fw E12') (by simp; omega) (new_A hA2 E312) fun q4 h13 E13' T13 => ?_
  have E313 := E312.trans E13'
  refine St.whole ((E3.trans E313).blk B2) rfl rfl fun h14 B14 o14 z14 => ⟨_, B14.ld 0 rfl, H1 n q4 h14 rfl (by omega) ((E13.trans E313).over E1.1 o14 z14) (T13.back o14 z14)⟩
 ·rw [decide_eq_true (by omega)]
  exact no h3 E3 (by omega)
theorem sslice_ok {i j : Int} {R : Option Addr → Bool → Heap → Prop} (T : Tr A h q l) (hz : l.length < 4611686018427387904) (hA : ∀ b, h.size ≤ b → A b) (H0 : ¬ (0 ≤ i ∧ i ≤ j ∧ j ≤ l.length) → ∀ h', Fw h h' → R none false h')
  (H1 : ∀ (a b : Nat) q' h', i = a → j = b → a ≤ b → b ≤ l.length → Fw h h' → Tr A h' q' ((l.take b).drop a) → R q' true h') : seq_Seq_Slice r q i j h R := by
 apply seq_Seq_Slice_of
 refine New.cells fun h1 E1 z1 B1 => New.cells fun h2 E2 z2 B2 => ?_
 have E12 := E1.trans E2
 have hb2 := B2.lt
 intro J HJ
 have no : ∀ h3, Fw h2 h3 → ¬ (0 ≤ i ∧ i ≤ j ∧ j ≤ l.length) → J true h3 := fun h3 E3 hn => HJ _ _ ⟨fun _ => St.whole (E3.blk B2) rfl rfl fun h4 B4 o4 z4 => ⟨_, B4.ld 0 rfl, H0 hn h4 ((E12.trans E3).over E1.1 o4 z4)⟩, fun c => (by cases c)⟩
 refine ⟨fun c => no h2 (Fw.refl _) (by have := of_decide_eq_true c; omega), fun c => ⟨fun c1 => no h2 (Fw.refl _) (by have := of_decide_eq_true c1; omega), fun c1 => ⟨_, (E2.blk B1).ld 0 rfl, slen_ok (T.fw E12) fun h3 E3 => ?_⟩⟩⟩
 have c := of_decide_eq_false c
 have c1 := of_decide_eq_false c1
 by_cases hi : j ≤ l.length
 ·rw [decide_eq_false (by omega)]
  refine HJ _ _ ⟨fun c => (by cases c), fun _ => ⟨_, ((E2.trans E3).blk B1).ld 0 rfl, ?_⟩⟩
  obtain ⟨a, rfl⟩ : ∃ n : Nat, i = n := ⟨i.toNat, by omega⟩
  obtain ⟨b, rfl⟩ : ∃ n : Nat, j = n := ⟨j.toNat, by omega⟩
  have E13 := E12.trans E3
  have hA2 := bs_new (c := h1.size) hA (by have := E3.1; omega) E13
  refine scut_ok (A := Bs A h1.size) (T.aside E13 E1.1) (by omega) (by omega) hA2 fun q1 q2 h5 E5 T1 T2 => ?_
  refine var2 fun c1 c2 h9 E9 B9 C9 => ⟨_, B9.ld 0 rfl, ?_⟩
  have E39 := E5.trans E9
  refine scut_ok (T1.fw E9) (by simp; omega) (by simp; omega) (new_A hA2 E39) fun q3 q4 h10 E10 T3 T4 => ?_
  refine var2 fun c3 c4 h14 E14 B14 C14 => ⟨_, C14.ld 0 rfl, ?_⟩
  have E314 := (E39.trans E10).trans E14
  refine St.whole ((E3.trans E314).blk B2) rfl rfl fun h15 B15 o15 z15 => ⟨_, B15.ld 0 rfl, H1 a b q4 h15 rfl rfl (by omega) (by omega) ((E13.trans E314).over E1.1 o15 z15) ((T4.fw E14).back o15 z15)⟩
 ·rw [decide_eq_true (by omega)]
  exact no h3 E3 (by omega)
theorem smeasure_ok {i j : Int} {R : Int → Int → Int → Int → Int → Bool → Heap → Prop} (T : Tr A h q l) (hz : l.length < 4611686018427387904) (hA : ∀ b, h.size ≤ b → A b) (H0 : ¬ (0 ≤ i ∧ i ≤ j ∧ j ≤ l.length) → ∀ h', Fw h h' → R 0 0 0 0 0 false h')
  (H1 : ∀ (a b : Nat) h', i = a → j = b → a ≤ b → b ≤ l.length → Fw h h' → R (meas ((l.take b).drop a)).n (meas ((l.take b).drop a)).sum (meas ((l.take b).drop a)).least (meas ((l.take b).drop a)).most (meas ((l.take b).drop a)).hash true h') : seq_Seq_Measure r q i j h R := by
 apply seq_Seq_Measure_of
 refine New.cells fun h1 E1 z1 B1 => New.cells fun h2 E2 z2 B2 => ⟨_, (E2.blk B1).ld 0 rfl, ?_⟩
 have E12 := E1.trans E2
 refine sslice_ok (T.fw E12) hz (new_A hA E12) (fun hn h3 E3 => ?_) fun a b q' h3 ea eb hab hbl E3 T3 => ?_
 ·refine var1 fun h5 E5 B5 => ⟨fun _ => ?_, fun c => (by cases c)⟩
  have E25 := E3.trans E5
  exact St.whole (E25.blk B2) rfl rfl fun h6 B6 o6 z6 => ⟨_, B6.ld 0 rfl, _, B6.ld 1 rfl, _, B6.ld 2 rfl, _, B6.ld 3 rfl, _, B6.ld 4 rfl, H0 hn h6 ((E12.trans E25).over E1.1 o6 z6)⟩
 ·refine var1 fun h5 E5 B5 => ⟨fun c => (by cases c), fun _ => ⟨_, B5.ld2 0 0 rfl, tmeasure_ok (T3.fw E5) fun h7 E7 => ?_⟩⟩
  have E27 := (E3.trans E5).trans E7
  exact St.whole (E27.blk B2) rfl rfl fun h8 B8 o8 z8 => ⟨_, B8.ld 0 rfl, _, B8.ld 1 rfl, _, B8.ld 2 rfl, _, B8.ld 3 rfl, _, B8.ld 4 rfl, H1 a b h8 ea eb hab hbl ((E12.trans E27).over E1.1 o8 z8)⟩
end
end Go.Proofs.YthkimbiknhebeaaGreatDoor.Mo
