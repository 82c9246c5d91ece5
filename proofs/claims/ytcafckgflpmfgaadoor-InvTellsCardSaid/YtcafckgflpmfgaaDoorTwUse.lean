/- The typed layer: what proofs use. -/
import Derived.Test.YtcafckgflpmfgaaDoorTwFam
namespace Go.Tw
open Go Go.RowKit
set_option linter.unusedVariables false

abbrev nV (n : Nat) : Value := iV (n : Int)

/-- a place of one's own slice -/
theorem Ix.own {N : Nat} {h : Heap} {s : Sl} {vs : List Value} {i : Int} {K : Addr → Prop} (O : Own N 1 h s vs) (h0 : 0 ≤ i) (h1 : i < vs.length) (hK : ∀ b, s.a = some (ad b 0) → K (ad b i.toNat)) : Ix s i 1 K := by
  have hl := O.len
  obtain ⟨b, hb⟩ := O.ex (by intro e; subst e; simp at h1; omega)
  refine Ix.mk hb h0 (by omega) ?_
  have := hK b hb
  rwa [show 0 + i.toNat * 1 = i.toNat by omega]

theorem push_own {N : Nat} {h : Heap} (hN : N ≤ h.size) {el : TypeId} {v : Value} {F : List (Nat × Sl × List Value)} (A : Fam N h F) : Fam N (h.push (.cells #[v] el)) ((1, ⟨some (ad h.size 0), 1, 1⟩, [v]) :: F) :=
  A.new (vs := [v]) hN rfl

/-- append(s, v) to one of one's own -/
theorem Fam.push {N j by' : Nat} {h : Heap} {F : List (Nat × Sl × List Value)} {s : Sl} {vs : List Value} {v z : Value} {el : TypeId} {K : Sl → Heap → Prop} (A : Fam N h F) (hj : F[j]? = some (1, s, vs)) (hz : z.cells.size = 1) (h1 : one v = true) (hN : N ≤ h.size)
    (hb : (vs.length + 1) * by' ≤ 140737488355328) (hK : ∀ s' h', Fam N h' (F.set j (1, s', vs ++ [v])) → Ext N h h' → K s' h') : New h (.cells #[v] el) fun p h' => App el 1 by' z s ⟨some p, 1, 1⟩ h' K := by
  have O := A.ownI hj
  refine App.push (cs := [v]) O rfl hz (by simpa using h1) hN (by have := O.len; rwa [show s.len = vs.length by omega]) fun s' h' G => ?_
  exact hK s' h' (A.grownI hj G) G.ext
/-- the same, the box in hand -/
theorem Fam.app {N j by' : Nat} {h : Heap} {F : List (Nat × Sl × List Value)} {s : Sl} {vs : List Value} {v z : Value} {el : TypeId} {b : Nat} {K : Sl → Heap → Prop} (A : Fam N h F) (hj : F[j]? = some (1, s, vs)) (hz : z.cells.size = 1) (h1 : one v = true) (hN : N ≤ h.size)
    (hb : (vs.length + 1) * by' ≤ 140737488355328) (hv : hcell h (ad b 0) = some v) (hK : ∀ s' h', Fam N h' (F.set j (1, s', vs ++ [v])) → Ext N h h' → K s' h') : App el 1 by' z s ⟨some (ad b 0), 1, 1⟩ h K := by
  have O := A.ownI hj
  refine App.own (ys := [v]) (m := b + 1) O ⟨rfl, Nat.le_refl _, .inr ⟨b, 0, rfl, by omega, fun i hi => ?_⟩⟩ hz (by simpa using h1) hN (by have := O.len; rwa [show s.len = vs.length by omega]) fun s' h' G => hK s' h' (A.grownI hj G) G.ext
  obtain rfl : i = 0 := by simpa using hi
  simpa using hv

/-- a store into one of one's own -/
theorem St.one' {N b o : Nat} {h : Heap} {s : Sl} {vs : List Value} {v : Value} {K : Heap → Prop} (O : Own N 1 h s vs) (hs : s.a = some (ad b 0)) (ho : o < vs.length) (hK : K (hset h (ad b o) v)) : St h (ad b o) 1 [v] K := by
  obtain ⟨tl, hB⟩ := O.blk hs
  exact St.one hB (by simp; omega) hK

/-- a place of one's own that holds a number -/
theorem own_int {N : Nat} {h : Heap} {s : Sl} {l : List Int} {i : Nat} {K : Addr → Prop} (O : Own N 1 h s (l.map iV)) (hi : i < l.length) (hK : ∀ b, s.a = some (ad b 0) → hcell h (ad b i) = some (iV (l[i]!)) → K (ad b i)) : Ix s (i : Int) 1 K := by
  refine Ix.own O (by omega) (by simp; omega) fun b hb => ?_
  refine hK b hb (O.cell hb ?_)
  simp [hi]

theorem set_same {α : Type} {F : List α} {j : Nat} {x : α} (hj : F[j]? = some x) : F.set j x = F := by
  obtain ⟨e1, e2⟩ := split_at hj
  exact (e2 x).trans e1.symm

/-- make([]T, n), T of one cell -/
theorem MkS.own {h : Heap} {el by' : Nat} {z : Value} {n : Nat} {N : Nat} {K : Sl → Heap → Prop} (h1 : one z = true) (hN : N ≤ h.size) (hn : n ≤ 4294967296) (hb : by' ≤ 1024) (hK : ∀ s h', s.a = some (ad h.size 0) → Own N 1 h' s (List.replicate n z) → Ext h.size h h' → K s h') : MkS el 1 by' z (n : Int) h K := by
  have hb1 : (by' : Int) * (n : Int) ≤ 1024 * 4294967296 := Int.mul_le_mul (by omega) (by omega) (by omega) (by omega)
  refine ⟨by omega, by omega, by omega, fun s h' hs hh => ?_⟩
  subst hs; subst hh
  refine hK _ _ rfl ⟨by simp, Nat.le_refl _, .inr ⟨h.size, [], rfl, hN, ?_, by simp⟩⟩ (Ext.push (Nat.le_refl _))
  have e : (Array.range ((n : Int).toNat * 1)).map ((if (n : Int).toNat * 1 = 0 then #[] else z.cells)[· % (if (n : Int).toNat * 1 = 0 then #[] else z.cells).size]!) = (List.replicate n z ++ []).toArray := by
    have ez : z.cells = #[z] := one_cells h1
    apply Array.ext
    · simp
    · intro i hi hj
      have : 0 < n := by simp at hi; omega
      simp [ez, Nat.mod_one, show ¬ n = 0 by omega]
  rw [e]; exact Blk.new

/-- rows of whole numbers that are read -/
def RR (n : Nat) (h : Heap) (s : Sl) (Q : List (List Int)) : Prop := ∃ ss : List Sl, ss.length = Q.length ∧ Rs n 1 h s (ss.map Sl.v) ∧ ∀ (k : Nat) (s' : Sl) (q : List Int), ss[k]? = some s' → Q[k]? = some q → RI n h s' q
theorem RR.of_fam {N : Nat} {h : Heap} {ps : Sl} {ss : List Sl} {Q : List (List Int)} (A : Fam N h ((1, ps, ss.map Sl.v) :: rowsF iV ss Q)) (hl : ss.length = Q.length) : RR h.size h ps Q :=
  ⟨ss, hl, (A.ownI (j := 0) rfl).rs, fun k s' q h1 h2 => (A.ownI (j := k + 1) (rowsF_at h1 h2)).rs⟩
theorem RR.ext {n m : Nat} {h h' : Heap} {s : Sl} {Q : List (List Int)} (H : RR n h s Q) (E : Ext m h h') (hm : n ≤ m) : RR n h' s Q := by
  obtain ⟨ss, h1, h2, h3⟩ := H
  exact ⟨ss, h1, h2.ext E hm, fun k s' q a b => (h3 k s' q a b).ext E hm⟩
theorem RR.len {n : Nat} {h : Heap} {s : Sl} {Q : List (List Int)} (H : RR n h s Q) : s.len = Q.length := by
  obtain ⟨ss, h1, h2, _⟩ := H
  have := h2.len; simp at this; omega
/-- a row of it -/
theorem RR.ix {n i : Nat} {h : Heap} {s : Sl} {Q : List (List Int)} {K : Addr → Prop} (H : RR n h s Q) (hi : i < Q.length) (hK : ∀ p s', p.block < n → hcell h p = some (Sl.v s') → RI n h s' Q[i] → K p) : Ix s (i : Int) 1 K := by
  obtain ⟨ss, h1, h2, h3⟩ := H
  have s1 : ss[i]? = some ss[i] := List.getElem?_eq_getElem (by omega)
  refine Rs.ix h2 (by omega) (by have := h2.len; simp at this; omega) (by decide) fun b o hb _ hc => hK _ ss[i] hb ?_ (h3 i _ _ s1 (List.getElem?_eq_getElem hi))
  have := hc 0 (by decide)
  simpa [s1] using this

theorem Grown.mono {n m sz : Nat} {h h' : Heap} {s s' : Sl} {vs : List Value} (G : Grown n sz h h' s s' vs) (hm : m ≤ n) : Grown m sz h h' s s' vs := ⟨G.own.mono hm, G.ext.mono hm, G.others, G.blk⟩

/-! ### Records beside the rows -/
theorem hput_size (h : Heap) (b : Nat) (o : Obj) : (hput h b o).size = h.size := by simp [hput]
theorem hput_other {h : Heap} {b c : Nat} {o : Obj} (hc : b ≠ c) : (hput h b o)[c]? = h[c]? := by
  unfold hput; rw [Array.getElem?_setIfInBounds, if_neg hc]
theorem hput_self {h : Heap} {b : Nat} {o o' : Obj} (hb : h[b]? = some o') : (hput h b o)[b]? = some o := by
  unfold hput; rw [Array.getElem?_setIfInBounds, if_pos rfl, if_pos (Array.getElem?_eq_some_iff.1 hb).1]
theorem Ext.hput {n : Nat} {h : Heap} {b : Nat} {o : Obj} (hn : n ≤ b) : Ext n h (hput h b o) := ⟨by rw [hput_size]; exact Nat.le_refl _, fun c hc => hput_other (by omega)⟩
theorem hcell_hput {h : Heap} {b : Nat} {o o' : Obj} {p : Addr} {v : Value} (hb : h[b]? = some o') (hn : notCells o' = true) (hp : hcell h p = some v) : hcell (hput h b o) p = some v := by
  rw [hcell_of_eq (h := h) (hput_other ?_)]
  · exact hp
  · intro e
    unfold hcell at hp
    rw [← e, hb] at hp
    cases o' with
    | cells => cases hn
    | _ => cases hp
theorem Fam.hput {N : Nat} {h : Heap} {F : List (Nat × Sl × List Value)} {b : Nat} {o o' : Obj} (A : Fam N h F) (hb : h[b]? = some o') (hn : notCells o' = true) : Fam N (hput h b o) F :=
  by
  refine ⟨fun x hx => (A.own x hx).keep fun p hp => hput_other fun e => ?_, A.dis⟩
  · rcases (A.own x hx).at_ with ⟨e1, _⟩ | ⟨c, tl, e1, _, ⟨el, hB⟩, _⟩
    · rw [e1] at hp; cases hp
    · rw [e1] at hp; cases hp
      have e : b = c := e
      subst e
      rw [hb] at hB
      cases hB
      cases hn
theorem Rs.hput {n sz : Nat} {h : Heap} {s : Sl} {vs : List Value} {b : Nat} {o o' : Obj} (H : Rs n sz h s vs) (hb : h[b]? = some o') (hn : notCells o' = true) : Rs n sz (hput h b o) s vs := by
  refine ⟨H.len, H.cap, H.at_.imp id fun ⟨c, q, h1, h2, h3⟩ => ⟨c, q, h1, h2, fun i hi => ?_⟩⟩
  have h4 := h3 i hi
  rw [List.getElem?_eq_getElem hi] at h4 ⊢
  exact hcell_hput hb hn h4

/-- what is no row of cells stays through an append -/
theorem Grown.keeps {n sz : Nat} {h h' : Heap} {s s' : Sl} {vs ws : List Value} {N : Nat} (G : Grown n sz h h' s s' ws) (O : Own N sz h s vs) {b : Nat} {o : Obj} (hb : h[b]? = some o) (hn : notCells o = true) : h'[b]? = some o := by
  rw [G.others b (Array.getElem?_eq_some_iff.1 hb).1 fun p hp e => ?_]
  · exact hb
  · rcases O.at_ with ⟨e1, _⟩ | ⟨c, tl, e1, _, ⟨el, hB⟩, _⟩
    · rw [e1] at hp; cases hp
    · rw [e1] at hp; cases hp
      have e : c = b := e
      subst e
      rw [hb] at hB
      cases hB
      cases hn
theorem Own.keeps_set {N sz : Nat} {h : Heap} {s : Sl} {vs : List Value} {b c k : Nat} {v : Value} {o : Obj} (O : Own N sz h s vs) (hs : s.a = some (ad c 0)) (hb : h[b]? = some o) (hn : notCells o = true) : (hset h (ad c k) v)[b]? = some o := by
  rw [hset_other (fun e => ?_)]
  · exact hb
  · have e : c = b := e
    subst e
    obtain ⟨tl, el, hB⟩ := O.blk hs
    rw [hb] at hB
    cases hB
    cases hn
/-- append(s, v), the box in hand: and the records stay -/
theorem Fam.app2 {N j by' : Nat} {h : Heap} {F : List (Nat × Sl × List Value)} {s : Sl} {vs : List Value} {v z : Value} {el : TypeId} {b : Nat} {K : Sl → Heap → Prop} (A : Fam N h F) (hj : F[j]? = some (1, s, vs)) (hz : z.cells.size = 1) (h1 : one v = true) (hN : N ≤ h.size)
    (hb : (vs.length + 1) * by' ≤ 140737488355328) (hv : hcell h (ad b 0) = some v) (hK : ∀ s' h', Fam N h' (F.set j (1, s', vs ++ [v])) → Ext N h h' → (∀ (c : Nat) (o : Obj), h[c]? = some o → notCells o = true → h'[c]? = some o) → K s' h') : App el 1 by' z s ⟨some (ad b 0), 1, 1⟩ h K := by
  have O := A.ownI hj
  refine App.own (ys := [v]) (m := b + 1) O ⟨rfl, Nat.le_refl _, .inr ⟨b, 0, rfl, by omega, fun i hi => ?_⟩⟩ hz (by simpa using h1) hN (by have := O.len; rwa [show s.len = vs.length by omega]) fun s' h' G => hK s' h' (A.grownI hj G) G.ext fun c o hc hn => G.keeps O hc hn
  obtain rfl : i = 0 := by simpa using hi
  simpa using hv
/-- a piece of a slice -/
theorem Rs.sub {n : Nat} {h : Heap} {s : Sl} {vs : List Value} {lo hi mx : Nat} (H : Rs n 1 h s vs) (h1 : lo < hi) (h2 : hi ≤ vs.length) (h3 : hi ≤ mx) : Rs n 1 h ⟨sliceA s.a mx lo 1, hi - lo, mx - lo⟩ ((vs.drop lo).take (hi - lo)) := by
  refine ⟨by simp; omega, by simp; omega, ?_⟩
  rcases H.at_ with e | ⟨b, o, e1, e2, e3⟩
  · rw [e] at h2; simp at h2; omega
  · refine .inr ⟨b, o + lo, ?_, e2, fun i hi' => ?_⟩
    · unfold sliceA
      rw [if_neg (by omega), e1]
      show some (Addr.add (ad b o) (lo * 1)) = _
      rw [ad_add, Nat.mul_one]
    · simp at hi'
      rw [show o + lo + i = o + (lo + i) by omega, e3 (lo + i) (by omega), List.getElem?_take, if_pos (by omega), List.getElem?_drop]
theorem perm5 {α : Type} (a b c d e : α) : [a, b, c, d, e].Perm [d, a, e, c, b] :=
  (List.perm_middle (l₁ := [a, b, c]) (l₂ := [e])).trans (.cons _ (.cons _ (List.reverse_perm [b, c, e]).symm))
end Go.Tw
