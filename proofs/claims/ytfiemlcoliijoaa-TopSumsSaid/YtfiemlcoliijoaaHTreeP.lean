/- Trees with both ends at hand: what may be asked of one. -/
import Derived.Test.YtfiemlcoliijoaaHTree
import Derived.Test.YtfiemlcoliijoaaHFingT
namespace Go.Proofs.Ytfiemlcoliijoaa.Mo
open Go Go.RowKit Go.Tw Go.Mono Go.Fing
set_option linter.unusedVariables false
/-- a tree of these -/
def Tr (A : Nat → Prop) (h : Heap) (q : Option Addr) (l : List Int) : Prop := ∃ v : Fing.F, v.ok 0 ∧ v.l = l ∧ Lv A h v q
section
variable {A A' : Nat → Prop} {r : World} {h h' : Heap} {q : Option Addr} {l : List Int}
theorem Tr.to (S : To A A' h h') (T : Tr A h q l) : Tr A' h' q l := by obtain ⟨v, a, b, c⟩ := T; exact ⟨v, a, b, c.to S⟩
theorem Tr.fw (T : Tr A h q l) (E : Fw h h') : Tr A h' q l := T.to (To.fw E)
theorem Tr.nil (A : Nat → Prop) (h : Heap) : Tr A h none [] := ⟨.nil, trivial, rfl, rfl⟩
theorem Tr.none (T : Tr A h q l) : q.isNone = true ↔ l = [] := by
  obtain ⟨v, a, b, c⟩ := T
  rw [c.none]
  constructor
  · intro e; subst e; exact b.symm
  · intro e; exact l_nil a (b.trans e)
/-- beside a place that is written -/
abbrev Bs (A : Nat → Prop) (c : Nat) : Nat → Prop := fun b => A b ∧ b ≠ c
theorem bs_new {c : Nat} (hA : ∀ b, h.size ≤ b → A b) (hc : c < h'.size) (E : Fw h h') : ∀ b, h'.size ≤ b → Bs A c b := fun b hb => ⟨hA b (Nat.le_trans E.1 hb), by omega⟩
theorem Tr.aside {c : Nat} (T : Tr A h q l) (E : Fw h h') (hc : h.size ≤ c) : Tr (Bs A c) h' q l := T.to (To.old E fun b hb hl => ⟨hb, by omega⟩)
theorem Tr.back {c : Nat} (T : Tr (Bs A c) h q l) (ho : ∀ d, d ≠ c → h'[d]? = h[d]?) (hz : h'.size = h.size) : Tr A h' q l := (T.to (To.over (fun e => e.2 rfl) ho hz)).to (To.weak (fun b hb => hb.1) _)
theorem Tr.weak (hw : ∀ b, A b → A' b) (T : Tr A h q l) : Tr A' h q l := T.to (To.weak hw h)

theorem tpr_ok {x : Int} {R : Option Addr → Heap → Prop} (T : Tr A h q l) (hx : In x) (hz : l.length + 1 < 4611686018427387904) (hA : ∀ b, h.size ≤ b → A b) (H : ∀ q' h', Fw h h' → Tr A h' q' (l ++ [x]) → R q' h') : finger_Tree_PushRight r q x h R := by
  apply finger_Tree_PushRight_of
  refine New.cells fun h1 E1 z1 B1 => New.cells fun h2 E2 z2 B2 => ⟨_, (E2.blk B1).ld 0 rfl, ?_⟩
  have E12 := E1.trans E2
  have hA2 := bs_new (c := h1.size) hA B2.lt E12
  refine number_ok (A := Bs A h1.size) hx hA2 fun p h3 E3 Tp => ⟨(E3.blk (E2.blk B1)).ld 0 rfl, ?_⟩
  obtain ⟨v, a, b, c⟩ := T.aside (c := h1.size) (E12.trans E3) E1.1
  subst b
  refine pushRight_ok v 0 _ _ _ _ _ a c Tp (by simp [Fing.T.l]; omega) (new_A hA2 E3) fun q' h4 E4 L4 => ?_
  refine St.whole (E4.blk (E3.blk B2)) rfl rfl fun h5 B5 o5 z5 => ⟨_, B5.ld 0 rfl, ?_⟩
  refine H q' h5 (((E12.trans E3).trans E4).over E1.1 o5 z5) (Tr.back ⟨_, pr_ok v (.num x) 0 a trivial, ?_, L4⟩ o5 z5)
  rw [pr_l v _ 0 a]; rfl
theorem tmeasure_ok {R : Int → Int → Int → Int → Int → Heap → Prop} (T : Tr A h q l) (H : ∀ h', Fw h h' → R (meas l).n (meas l).sum (meas l).least (meas l).most (meas l).hash h') : finger_Tree_Measure r q h R := by
  apply finger_Tree_Measure_of
  refine New.cells fun h1 E1 z1 B1 => New.cells fun h2 E2 z2 B2 => ⟨_, (E2.blk B1).ld 0 rfl, ?_⟩
  obtain ⟨v, a, b, c⟩ := T
  subst b
  refine lmeasure_ok (c.fw (E1.trans E2)) fun h3 E3 => ?_
  refine St.whole (E3.blk B2) rfl rfl fun h4 B4 o4 z4 => ⟨_, B4.ld 0 rfl, _, B4.ld 1 rfl, _, B4.ld 2 rfl, _, B4.ld 3 rfl, _, B4.ld 4 rfl, ?_⟩
  exact H h4 (((E1.trans E2).trans E3).over E1.1 o4 z4)

/-- how numbers are split by a teller of beginnings -/
structure Spl (f : List Int → Bool) (l a b : List Int) : Prop where
  all : a ++ b = l
  none : l = [] ∨ f l = false → a = l ∧ b = []
  first : l ≠ [] → f l = true → f [] = true → a = [] ∧ b = l
  here : l ≠ [] → f l = true → f [] = false → f a = false ∧ ∃ x t, b = x :: t ∧ f (a ++ [x]) = true

theorem tsplit_ok {p1 : Value} {f : List Int → Bool} {R : Option Addr → Option Addr → Heap → Prop} (T : Tr A h q l) (hask : AskV r p1 f h) (hz : l.length < 4611686018427387904) (hA : ∀ b, h.size ≤ b → A b) (H : ∀ a b q1 q2 h', Fw h h' → Spl f l a b → Tr A h' q1 a → Tr A h' q2 b → R q1 q2 h') : finger_Tree_Split r q p1 h R := by
  apply finger_Tree_Split_of
  refine New.cells fun h1 E1 z1 B1 => New.cells fun h2 E2 z2 B2 => New.cells fun h3 E3 z3 B3 => ?_
  have E13 := (E1.trans E2).trans E3
  have C1 := E3.blk (E2.blk B1)
  have C2 := E3.blk B2
  have hc2 : h.size ≤ h1.size := E1.1
  have hc3 : h.size ≤ h2.size := (E1.trans E2).1
  have e12 : h1.size < h2.size := B2.lt
  intro J HJ
  -- both are laid down
  have lay : ∀ (h4 : Heap) (q1 q2 : Option Addr) (a b : List Int), Fw h3 h4 → Spl f l a b → Tr (Bs (Bs A h1.size) h2.size) h4 q1 a → Tr (Bs (Bs A h1.size) h2.size) h4 q2 b →
      St h4 (ad h1.size 0) 1 [.pointer q1] fun h5 => hcell h5 (Addr.add (ad h.size 0) 0) = some (.pointer q) ∧ St h5 (ad h2.size 0) 1 [.pointer q2] fun h6 => LdP h6 (Addr.add (ad h1.size 0) 0) fun x21 => LdP h6 (Addr.add (ad h2.size 0) 0) fun x23 => R x21 x23 h6 := by
    intro h4 q1 q2 a b E4 hs Ta Tb
    refine St.whole (E4.blk C2) rfl rfl fun h5 B5 o5 z5 => ⟨((E4.blk C1).other o5 (by have := B1.lt; have := E2.1; omega)).ld 0 rfl, ?_⟩
    refine St.whole ((E4.blk B3).other o5 (by omega)) rfl rfl fun h6 B6 o6 z6 => ⟨_, (B5.other o6 (by omega)).ld 0 rfl, _, B6.ld 0 rfl, ?_⟩
    have hS : To (Bs (Bs A h1.size) h2.size) (Bs (Bs A h1.size) h2.size) h4 h5 := To.over (fun e => e.1.2 rfl) o5 z5
    have hS2 : To (Bs (Bs A h1.size) h2.size) (Bs (Bs A h1.size) h2.size) h5 h6 := To.over (fun e => e.2 rfl) o6 z6
    exact H a b q1 q2 h6 (((E13.trans E4).over hc2 o5 z5).over hc3 o6 z6) hs (((Ta.to hS).to hS2).weak fun b hb => hb.1.1) (((Tb.to hS).to hS2).weak fun b hb => hb.1.1)
  have aside : ∀ (h4 : Heap), Fw h3 h4 → Tr (Bs (Bs A h1.size) h2.size) h4 q l := fun h4 E4 => T.to (To.old (E13.trans E4) fun b hb hl => ⟨⟨hb, by omega⟩, by omega⟩)
  have hA3 : ∀ (h4 : Heap), Fw h3 h4 → ∀ b, h4.size ≤ b → Bs (Bs A h1.size) h2.size b := fun h4 E4 b hb => ⟨⟨hA b (by have := E13.1; have := E4.1; omega), by have := E4.1; have := B3.lt; omega⟩, by have := E4.1; have := B3.lt; omega⟩
  have yes : ∀ h4, Fw h3 h4 → (l = [] ∨ f l = false) → J true h4 := by
    intro h4 E4 hl
    refine HJ _ _ ⟨fun _ => ⟨_, (E4.blk C1).ld 0 rfl, ?_⟩, fun c => (by cases c)⟩
    have hs : Spl f l l [] := ⟨by simp, fun _ => ⟨rfl, rfl⟩, fun h1 h2 => (by rcases hl with h | h; exact absurd h h1; rw [h] at h2; cases h2), fun h1 h2 => (by rcases hl with h | h; exact absurd h h1; rw [h] at h2; cases h2)⟩
    have := lay h4 q none l [] E4 hs (aside h4 E4) (Tr.nil _ _)
    exact ⟨this.1, fun h5 e5 => (this.2 h5 e5).2⟩
  have no : ∀ h4, Fw h3 h4 → l ≠ [] → f l = true → J false h4 := by
    intro h4 E4 hl hf
    refine HJ _ _ ⟨fun c => (by cases c), fun _ => ?_⟩
    refine none_ok fun h7 E7 => ?_
    have E37 := E4.trans E7
    refine hask h7 (E13.trans E37) [] (by simp) _ fun h8 E8 => ⟨_, rfl, fun h0 => ?_, fun h0 => ?_⟩
    · have E38 := E37.trans E8
      refine ⟨_, (E38.blk C1).ld 0 rfl, ?_⟩
      exact lay h8 none q [] l E38 ⟨rfl, fun h => (by rcases h with h | h; exact absurd h hl; rw [h] at hf; cases hf), fun _ _ _ => ⟨rfl, rfl⟩, fun _ _ h => (by rw [h0] at h; cases h)⟩ (Tr.nil _ _) (aside h8 E38)
    · have E38 := E37.trans E8
      refine ⟨_, (E38.blk C1).ld 0 rfl, none_ok fun h11 E11 => ⟨(E11.blk (E38.blk C1)).ld 0 rfl, ?_⟩⟩
      have E311 := E38.trans E11
      obtain ⟨v, ok, ev, L⟩ := aside h11 E311
      have hv : v ≠ .nil := fun e => by subst e; exact hl ev.symm
      refine cut_ok v 0 [] _ h11 _ ok hv L (hask.fw (E13.trans E311)) h0 (by rw [List.nil_append, ev]; exact hf) (by rw [ev]; simpa using hz) (hA3 h11 E311) fun a t b qa pt qb h12 E12 oka okt okb eab fa ft La Tt Lb => ?_
      have E312 := E311.trans E12
      obtain ⟨x, ex⟩ := dep_num okt
      subst ex
      have eabl := congrArg List.length eab
      simp only [List.length_append] at eabl
      have etl : (Fing.T.num x).l = [x] := rfl
      refine pushLeft_ok b 0 _ _ _ _ _ okb Lb Tt (by rw [ev] at eabl; omega) (hA3 h12 E312) fun q' h13 E13' L13 => ?_
      have E313 := E312.trans E13'
      have := lay h13 qa q' a.l (pl (.num x) b).l E313 ⟨(by rw [pl_l b _ 0 okb]; exact eab.trans ev), fun h => (by rcases h with h | h; exact absurd h hl; rw [h] at hf; cases hf), fun _ _ h => (by rw [h0] at h; cases h), fun _ _ _ => ⟨by simpa using fa, x, b.l, by rw [pl_l b _ 0 okb]; rfl, by simpa [etl] using ft⟩⟩ ⟨a, oka, rfl, La.fw E13'⟩ ⟨_, pl_ok b (.num x) 0 okb trivial, rfl, L13⟩
      exact ⟨this.1, fun h5 e5 => (this.2 h5 e5).2⟩
  refine ⟨_, C1.ld 0 rfl, fun c => yes h3 (Fw.refl _) (.inl (T.none.1 c)), fun c => ⟨_, C1.ld 0 rfl, ?_⟩⟩
  have hl : l ≠ [] := fun e => by rw [T.none.2 e] at c; cases c
  obtain ⟨v, ok, ev, L⟩ := T.fw E13
  have hv : v ≠ .nil := fun e => by subst e; exact hl ev.symm
  obtain ⟨cc, cs, rfl, _, B⟩ := L.top hv
  rw [ev] at B
  refine ⟨_, rfl, _, B.ld2 0 0 rfl, _, B.ld2 0 1 rfl, _, B.ld2 0 2 rfl, _, B.ld2 0 3 rfl, _, B.ld2 0 4 rfl, ?_⟩
  refine hask h3 E13 l hz _ fun h16 E16 => ⟨_, rfl, ?_⟩
  cases hf : f l with
  | true => exact no h16 E16 hl hf
  | false => exact yes h16 E16 (.inr hf)

theorem tof_ok {s : Sl} {n : Nat} {R : Option Addr → Heap → Prop} (hs : RI n h s l) (hn : n ≤ h.size) (hin : ∀ x ∈ l, In x) (hz : l.length < 4611686018427387903) (hA : ∀ b, h.size ≤ b → A b) (H : ∀ q' h', Fw h h' → Tr A h' q' l → R q' h') : finger_Of r s h R := by
  apply finger_Of_of
  have hlen := hs.len
  refine New.cells fun h1 E1 z1 B1 => New.cells fun h2 E2 z2 B2 => ?_
  have E12 := E1.trans E2
  have hc1 := B1.lt
  have hc := B2.lt
  have hA2 : ∀ b, h2.size ≤ b → Bs (Bs A h.size) h1.size b := fun b hb => ⟨⟨hA b (by have := E12.1; omega), by omega⟩, by omega⟩
  intro X HX
  have key : ∀ (d i : Nat) (h3 : Heap) (q' : Option Addr), i + d = l.length → Fw h h3 → h2.size ≤ h3.size → Blk h3 h.size [.pointer none] → Blk h3 h1.size [.pointer q'] → Tr (Bs (Bs A h.size) h1.size) h3 q' (l.take i) → X (i : Int) h3 := by
    intro d
    induction d with
    | zero =>
      intro i h3 q' hi E3 hz3 C3 B3 T3
      rw [List.take_of_length_le (by omega)] at T3
      refine HX _ _ ⟨fun c => absurd (of_decide_eq_true c) (by omega), fun _ => ⟨_, B3.ld 0 rfl, ?_⟩⟩
      refine St.whole C3 rfl rfl fun h6 B6 o6 z6 => ⟨_, B6.ld 0 rfl, H q' h6 (E3.over (Nat.le_refl _) o6 z6) ?_⟩
      exact (T3.to (To.over (fun e => e.1.2 rfl) o6 z6)).weak fun b hb => hb.1.1
    | succ d ih =>
      intro i h3 q' hi E3 hz3 C3 B3 T3
      have hil : i < l.length := by omega
      refine HX _ _ ⟨fun _ => ?_, fun c => absurd (of_decide_eq_false c) (by omega)⟩
      refine RI.ix (hs.ext E3 hn) (by omega) (by omega) fun p _ hp => ⟨_, hp, _, B3.ld 0 rfl, ?_⟩
      have ex : l[(i : Int).toNat]! = l[i] := by rw [Int.toNat_natCast, getElem!_pos l i hil]
      rw [ex]
      refine tpr_ok T3 (hin _ (List.getElem_mem hil)) (by simp; omega) (fun b hb => hA2 b (by omega)) fun q2 h4 E4 T4 => ?_
      have hz4 := E4.1
      refine St.whole (E4.blk B3) rfl rfl fun h5 B5 o5 z5 => ?_
      rw [w64_of (by omega) (by omega)]
      have e : l.take (i + 1) = l.take i ++ [l[i]] := by rw [List.take_add_one, List.getElem?_eq_getElem hil]; rfl
      refine ih (i + 1) h5 q2 (by omega) ((E3.trans E4).over E1.1 o5 z5) (by omega) ((E4.blk C3).other o5 (by omega)) B5 ?_
      rw [e]
      exact T4.to (To.over (fun e => e.2 rfl) o5 z5)
  exact key l.length 0 h2 none (by omega) E12 (Nat.le_refl _) (E2.blk B1) B2 (Tr.nil _ _)

end
end Go.Proofs.Ytfiemlcoliijoaa.Mo
