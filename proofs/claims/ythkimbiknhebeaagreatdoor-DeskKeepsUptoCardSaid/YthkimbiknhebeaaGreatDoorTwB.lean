/- The typed layer: from a call over heaps to the walk that a row asks for. The typed layer: blocks of one's own, each apart from the others. The typed layer: what proofs use. The typed layer: new blocks, one by one. The typed layer: clear(s) of a slice. The typed layer: append(s, make([]T, n)...). The typed layer: operations on text. The typed layer: a contract of the library's, told by worlds, as one told by heaps. The typed layer: a closure that is put off, and a panic that it catches; maps whose keys are text. What is told of many: the plain law. Trees with both ends at hand: the plain law. Many things in order, a tree with a number of things and what is told of them at each node: the plain law. What stays of rows of cells in memory. The typed layer: a call of a method of what an interface holds. What a grown slice's cells are. -/
import Derived.Test.YthkimbiknhebeaaGreatDoorTwA
import Derived.Below
import Derived.Laws.Concat
import Derived.Laws.Strings
import Derived.Laws.BytesArg
import Derived.Recover
namespace Go.Tw
open Go Go.RowKit
theorem walk_of {P : Program} {f : FuncId} {args : List Value} {w : World} (H : CallsH P w f args w.heap fun v h' => v = .bool true ∧ Ext w.heap.size w.heap h') :
  Calls P f args.toArray w fun e w' => e = .returned (.bool true) ∧ Below w.heap.size w w' := by
 have h1 := H w.drawn
 rw [wd_eta] at h1
 refine h1.mono fun x w' hx => ?_
 obtain ⟨v, h', dr', rfl, rfl, rfl, E⟩ := hx
 exact ⟨rfl, rfl, rfl, rfl, E.1, E.2⟩
end Go.Tw
namespace Go.Tw
open Go Go.RowKit
def Dis (s t : Sl) : Prop := ∀ p q, s.a = some p → t.a = some q → p.block ≠ q.block
theorem Dis.symm {s t : Sl} (H : Dis s t) : Dis t s := fun p q hp hq e => H q p hq hp e.symm
theorem Dis.nil (t : Sl) : Dis Sl.nil t := fun p q hp _ => by cases hp
/-- things of one's own: (cells of an element, slice, its cells) -/
structure Fam (N : Nat) (h : Heap) (F : List (Nat × Sl × List Value)) : Prop where
 own : ∀ x ∈ F, Own N x.1 h x.2.1 x.2.2
 dis : F.Pairwise fun x y => Dis x.2.1 y.2.1
section
variable {N : Nat} {h h' : Heap} {F G : List (Nat × Sl × List Value)} {sz : Nat} {s s' : Sl} {vs ws : List Value}
theorem Fam.none (N : Nat) (h : Heap) : Fam N h [] := ⟨fun _ hx => (by cases hx), List.Pairwise.nil⟩
theorem Fam.ext (A : Fam N h F) (E : Ext h.size h h') : Fam N h' F := ⟨fun x hx => (A.own x hx).ext E, A.dis⟩
theorem Fam.perm (A : Fam N h F) (P : F.Perm G) : Fam N h G := ⟨fun x hx => A.own x (P.mem_iff.2 hx), P.pairwise A.dis fun H => H.symm⟩
theorem Fam.tail {x : Nat × Sl × List Value} (A : Fam N h (x :: F)) : Fam N h F := ⟨fun y hy => A.own y (List.mem_cons_of_mem _ hy), (List.pairwise_cons.1 A.dis).2⟩
theorem Fam.head (A : Fam N h ((sz, s, vs) :: F)) : Own N sz h s vs := A.own _ (List.mem_cons_self ..)
theorem Fam.cons (A : Fam N h F) (O : Own N sz h s vs) (D : ∀ x ∈ F, Dis s x.2.1) : Fam N h ((sz, s, vs) :: F) :=
 ⟨fun x hx => by
  rcases List.mem_cons.1 hx with rfl | hx
  ·exact O
  ·exact A.own x hx, List.pairwise_cons.2 ⟨D, A.dis⟩⟩
theorem Fam.empty (A : Fam N h F) (sz : Nat) : Fam N h ((sz, Sl.nil, []) :: F) := A.cons (Own.nil _ _ _) fun _ _ => Dis.nil _
/-- a new block -/
theorem Fam.new (A : Fam N h F) (hN : N ≤ h.size) {el : TypeId} {n : Nat} (hn : n * sz = vs.length) : Fam N (h.push (.cells vs.toArray el)) ((sz, ⟨some (ad h.size 0), n, n⟩, vs) :: F) :=
 (A.ext (Ext.push (Nat.le_refl _))).cons ⟨hn, Nat.le_refl _, .inr ⟨h.size, [], rfl, hN, by simpa using Blk.new, by simpa using hn⟩⟩ fun x hx p q hp hq => by
  cases hp
  have := ((A.own x hx).lt hq).1
  show h.size ≠ q.block
  omega
theorem Fam.grown (A : Fam N h ((sz, s, vs) :: F)) (g : Grown N sz h h' s s' ws) : Fam N h' ((sz, s', ws) :: F) := by
 have D := List.pairwise_cons.1 A.dis
 refine Fam.cons ⟨fun x hx => (A.tail.own x hx).keep fun p hp => g.others _ ((A.tail.own x hx).lt hp).1 fun q hq => D.1 x hx q p hq hp, D.2⟩ g.own fun x hx p q hp hq => ?_
 rcases g.blk with e | ⟨b, hb, e⟩
 ·exact D.1 x hx p q (e ▸ hp) hq
 ·rw [e] at hp; cases hp
  have := ((A.tail.own x hx).lt hq).1
  show b ≠ q.block
  omega
/-- a store -/
theorem Fam.set {b o : Nat} {v : Value} (A : Fam N h ((sz, s, vs) :: F)) (hs : s.a = some (ad b 0)) (ho : o < vs.length) : Fam N (hset h (ad b o) v) ((sz, s, vs.set o v) :: F) := by
 have D := List.pairwise_cons.1 A.dis
 obtain ⟨h1, h2, h3⟩ := A.head
 refine Fam.cons ⟨fun x hx => (A.tail.own x hx).keep fun p hp => hset_other (show b ≠ p.block from D.1 x hx (ad b 0) p hs hp), D.2⟩ ⟨by simpa using h1, h2, ?_⟩ fun x hx => D.1 x hx
 rcases h3 with ⟨e, _⟩ | ⟨b', tl, e, hb, hB, hc⟩
 ·rw [e] at hs; cases hs
 ·rw [e] at hs; cases hs
  refine .inr ⟨b, tl, e, hb, ?_, by simpa using hc⟩
  have := hB.set (o := o) (v := v)
  rwa [List.set_append_left _ _ ho] at this
theorem Own.blk {b : Nat} (O : Own N sz h s vs) (hs : s.a = some (ad b 0)) : ∃ tl, Blk h b (vs ++ tl) := by
 rcases O.at_ with ⟨e, _⟩ | ⟨b', tl, e, _, hB, _⟩
 ·rw [e] at hs; cases hs
 ·rw [e] at hs; cases hs; exact ⟨tl, hB⟩
theorem Own.ex (O : Own N sz h s vs) (hv : vs ≠ []) : ∃ b, s.a = some (ad b 0) := by
 rcases O.at_ with ⟨e, e2⟩ | ⟨b', tl, e, _⟩
 ·have := O.cap; have := O.len
  exact absurd (List.eq_nil_of_length_eq_zero (by rw [← O.len, show s.len = 0 by omega, Nat.zero_mul])) hv
 ·exact ⟨b', e⟩
/-- what a place of it holds -/
theorem Own.cell {b o : Nat} {v : Value} (O : Own N sz h s vs) (hs : s.a = some (ad b 0)) (hv : vs[o]? = some v) : hcell h (ad b o) = some v := by
 obtain ⟨tl, hB⟩ := O.blk hs
 rw [hB.cell, List.getElem?_append_left (List.getElem?_eq_some_iff.1 hv).1, hv]
theorem Own.stok {b o k : Nat} (O : Own N sz h s vs) (hs : s.a = some (ad b 0)) (ho : o + k ≤ vs.length) : StOk h (ad b o) k := by
 obtain ⟨tl, hB⟩ := O.blk hs
 exact hB.stok (by simp; omega)
theorem Own.lt' {b : Nat} (O : Own N sz h s vs) (hs : s.a = some (ad b 0)) : b < h.size ∧ N ≤ b := O.lt hs
/-! ### by their places -/
theorem split_at {α : Type} {F : List α} {j : Nat} {x : α} (hj : F[j]? = some x) : F = F.take j ++ x :: F.drop (j + 1) ∧ ∀ y, F.set j y = F.take j ++ y :: F.drop (j + 1) := by
 obtain ⟨h1, h2⟩ := List.getElem?_eq_some_iff.1 hj
 subst h2
 refine ⟨?_, fun y => ?_⟩
 ·rw [List.getElem_cons_drop, List.take_append_drop]
 ·rw [List.set_eq_take_append_cons_drop, if_pos h1]
theorem Fam.grownI {j : Nat} (A : Fam N h F) (hj : F[j]? = some (sz, s, vs)) (g : Grown N sz h h' s s' ws) : Fam N h' (F.set j (sz, s', ws)) := by
 obtain ⟨e1, e2⟩ := split_at hj
 rw [e2]
 rw [e1] at A
 exact ((A.perm List.perm_middle).grown g).perm List.perm_middle.symm
theorem Fam.setI {j b o : Nat} {v : Value} (A : Fam N h F) (hj : F[j]? = some (sz, s, vs)) (hs : s.a = some (ad b 0)) (ho : o < vs.length) : Fam N (hset h (ad b o) v) (F.set j (sz, s, vs.set o v)) := by
 obtain ⟨e1, e2⟩ := split_at hj
 rw [e2]
 rw [e1] at A
 exact ((A.perm List.perm_middle).set hs ho).perm List.perm_middle.symm
theorem Fam.ownI {j : Nat} (A : Fam N h F) (hj : F[j]? = some (sz, s, vs)) : Own N sz h s vs := A.own _ (List.mem_of_getElem? hj)
/-- many rows -/
def rowsF {α : Type} (e : α → Value) (ss : List Sl) (P : List (List α)) : List (Nat × Sl × List Value) := List.zipWith (fun s p => (1, s, p.map e)) ss P
end
/-- []T{} -/
theorem SlF.build0 {P : Program} {ρ : Operand → Value} {dst : Option Tmp} {ty : TypeId} {pos : String} {af : Array Edge} {gd : Option (Nat × Bool)} {r : World} {h : Heap} {dr : Nat} {t el sz by' : Nat} {z : Value} (F : SlF P t el sz by' z) :
  (execOp ρ ⟨dst, .buildSlice t 0 #[], ty, pos, af, gd⟩).run P (wd r h dr) = .ok (.value (.slice (some ⟨h.size, 0, none⟩) 0 0)) (wd r (h.push (.cells #[] el)) dr) := by
 unfold execOp
 have h2 : 0 * sz = 0 := Nat.zero_mul _
 simp only [Instr.buildSlice, Sem.run_bind, run_underlying F.ty, F.size, Result.andThen_ok, h2, if_true, Sem.run_pure]
 simp [Instr.fill, run_newRow]
 have e : ∀ (f : Nat → Value), (Array.range 0).map f = #[] := fun f => by simp [Array.range]
 rw [e]
end Go.Tw
namespace Go.Tw
open Go Go.RowKit
set_option linter.unusedVariables false
abbrev nV (n : Nat) : Value := iV (n : Int)
/-- a place of one's own slice -/
theorem Ix.own {N : Nat} {h : Heap} {s : Sl} {vs : List Value} {i : Int} {K : Addr → Prop} (O : Own N 1 h s vs) (h0 : 0 ≤ i) (h1 : i < vs.length) (hK : ∀ b, s.a = some (ad b 0) → K (ad b i.toNat)) : Ix s i 1 K := by
 have hl := O.len
 obtain ⟨b, hb⟩ := O.ex (by intro e; subst e; simp at h1; omega)
 refine Ix.mk hb h0 (by omega) ?_
 have := hK b hb
 rwa [show 0 + i.toNat * 1 = i.toNat by omega]
theorem push_own {N : Nat} {h : Heap} (hN : N ≤ h.size) {el : TypeId} {v : Value} {F : List (Nat × Sl × List Value)} (A : Fam N h F) : Fam N (h.push (.cells #[v] el)) ((1, ⟨some (ad h.size 0), 1, 1⟩, [v]) :: F) :=
 A.new (vs := [v]) hN rfl
/-- append(s, v) to one of one's own -/
theorem Fam.push {N j by' : Nat} {h : Heap} {F : List (Nat × Sl × List Value)} {s : Sl} {vs : List Value} {v z : Value} {el : TypeId} {K : Sl → Heap → Prop} (A : Fam N h F) (hj : F[j]? = some (1, s, vs)) (hz : z.cells.size = 1) (h1 : one v = true) (hN : N ≤ h.size)
  (hb : (vs.length + 1) * by' ≤ 140737488355328) (hK : ∀ s' h', Fam N h' (F.set j (1, s', vs ++ [v])) → Ext N h h' → K s' h') : New h (.cells #[v] el) fun p h' => App el 1 by' z s ⟨some p, 1, 1⟩ h' K := by
 have O := A.ownI hj
 refine App.push (cs := [v]) O rfl hz (by simpa using h1) hN (by have := O.len; rwa [show s.len = vs.length by omega]) fun s' h' G => ?_
 exact hK s' h' (A.grownI hj G) G.ext
/-- the same, the box in hand -/
theorem Fam.app {N j by' : Nat} {h : Heap} {F : List (Nat × Sl × List Value)} {s : Sl} {vs : List Value} {v z : Value} {el : TypeId} {b : Nat} {K : Sl → Heap → Prop} (A : Fam N h F) (hj : F[j]? = some (1, s, vs)) (hz : z.cells.size = 1) (h1 : one v = true) (hN : N ≤ h.size)
  (hb : (vs.length + 1) * by' ≤ 140737488355328) (hv : hcell h (ad b 0) = some v) (hK : ∀ s' h', Fam N h' (F.set j (1, s', vs ++ [v])) → Ext N h h' → K s' h') : App el 1 by' z s ⟨some (ad b 0), 1, 1⟩ h K := by
 have O := A.ownI hj
 refine App.own (ys := [v]) (m := b + 1) O ⟨rfl, Nat.le_refl _, .inr ⟨b, 0, rfl, by omega, fun i hi => ?_⟩⟩ hz (by simpa using h1) hN (by have := O.len; rwa [show s.len = vs.length by omega]) fun s' h' G => hK s' h' (A.grownI hj G) G.ext
 obtain rfl : i = 0 := by simpa using hi
 simpa using hv
/-- a store into one of one's own -/
theorem St.one' {N b o : Nat} {h : Heap} {s : Sl} {vs : List Value} {v : Value} {K : Heap → Prop} (O : Own N 1 h s vs) (hs : s.a = some (ad b 0)) (ho : o < vs.length) (hK : K (hset h (ad b o) v)) : St h (ad b o) 1 [v] K := by
 obtain ⟨tl, hB⟩ := O.blk hs
 exact St.one hB (by simp; omega) hK
/-- a place of one's own that holds a number -/
theorem own_int {N : Nat} {h : Heap} {s : Sl} {l : List Int} {i : Nat} {K : Addr → Prop} (O : Own N 1 h s (l.map iV)) (hi : i < l.length) (hK : ∀ b, s.a = some (ad b 0) → hcell h (ad b i) = some (iV (l[i]!)) → K (ad b i)) : Ix s (i : Int) 1 K := by
 refine Ix.own O (by omega) (by simp; omega) fun b hb => ?_
 refine hK b hb (O.cell hb ?_)
 simp [hi]
/-- make([]T, n), T of one cell -/
theorem MkS.own {h : Heap} {el by' : Nat} {z : Value} {n : Nat} {N : Nat} {K : Sl → Heap → Prop} (h1 : one z = true) (hN : N ≤ h.size) (hn : n ≤ 4294967296) (hb : by' ≤ 1024) (hK : ∀ s h', s.a = some (ad h.size 0) → Own N 1 h' s (List.replicate n z) → Ext h.size h h' → K s h') : MkS el 1 by' z (n : Int) h K := by
 have hb1 : (by' : Int) * (n : Int) ≤ 1024 * 4294967296 := Int.mul_le_mul (by omega) (by omega) (by omega) (by omega)
 refine ⟨by omega, by omega, by omega, fun s h' hs hh => ?_⟩
 subst hs; subst hh
 refine hK _ _ rfl ⟨by simp, Nat.le_refl _, .inr ⟨h.size, [], rfl, hN, ?_, by simp⟩⟩ (Ext.push (Nat.le_refl _))
 have e : (Array.range ((n : Int).toNat * 1)).map ((if (n : Int).toNat * 1 = 0 then #[] else z.cells)[· % (if (n : Int).toNat * 1 = 0 then #[] else z.cells).size]!) = (List.replicate n z ++ []).toArray := by
  have ez : z.cells = #[z] := one_cells h1
  apply Array.ext
  ·simp
  ·intro i hi hj
   have : 0 < n := by simp at hi; omega
   simp [ez, Nat.mod_one, show ¬ n = 0 by omega]
 rw [e]; exact Blk.new
/-- rows of whole numbers that are read -/
def RR (n : Nat) (h : Heap) (s : Sl) (Q : List (List Int)) : Prop := ∃ ss : List Sl, ss.length = Q.length ∧ Rs n 1 h s (ss.map Sl.v) ∧ ∀ (k : Nat) (s' : Sl) (q : List Int), ss[k]? = some s' → Q[k]? = some q → RI n h s' q
theorem RR.ext {n m : Nat} {h h' : Heap} {s : Sl} {Q : List (List Int)} (H : RR n h s Q) (E : Ext m h h') (hm : n ≤ m) : RR n h' s Q := by
 obtain ⟨ss, h1, h2, h3⟩ := H
 exact ⟨ss, h1, h2.ext E hm, fun k s' q a b => (h3 k s' q a b).ext E hm⟩
theorem RR.len {n : Nat} {h : Heap} {s : Sl} {Q : List (List Int)} (H : RR n h s Q) : s.len = Q.length := by
 obtain ⟨ss, h1, h2, _⟩ := H
 have := h2.len; simp at this; omega
/-- a row of it -/
theorem RR.ix {n i : Nat} {h : Heap} {s : Sl} {Q : List (List Int)} {K : Addr → Prop} (H : RR n h s Q) (hi : i < Q.length) (hK : ∀ p s', p.block < n → hcell h p = some (Sl.v s') → RI n h s' Q[i] → K p) : Ix s (i : Int) 1 K := by
 obtain ⟨ss, h1, h2, h3⟩ := H
 have s1 : ss[i]? = some ss[i] := List.getElem?_eq_getElem (by omega)
 refine Rs.ix h2 (by omega) (by have := h2.len; simp at this; omega) (by decide) fun b o hb _ hc => hK _ ss[i] hb ?_ (h3 i _ _ s1 (List.getElem?_eq_getElem hi))
 have := hc 0 (by decide)
 simpa [s1] using this
theorem Grown.mono {n m sz : Nat} {h h' : Heap} {s s' : Sl} {vs : List Value} (G : Grown n sz h h' s s' vs) (hm : m ≤ n) : Grown m sz h h' s s' vs := ⟨G.own.mono hm, G.ext.mono hm, G.others, G.blk⟩
/-! ### Records beside the rows -/
theorem hput_size (h : Heap) (b : Nat) (o : Obj) : (hput h b o).size = h.size := by simp [hput]
theorem hput_other {h : Heap} {b c : Nat} {o : Obj} (hc : b ≠ c) : (hput h b o)[c]? = h[c]? := by
 unfold hput; rw [Array.getElem?_setIfInBounds, if_neg hc]
theorem hput_self {h : Heap} {b : Nat} {o o' : Obj} (hb : h[b]? = some o') : (hput h b o)[b]? = some o := by
 unfold hput; rw [Array.getElem?_setIfInBounds, if_pos rfl, if_pos (Array.getElem?_eq_some_iff.1 hb).1]
theorem Ext.hput {n : Nat} {h : Heap} {b : Nat} {o : Obj} (hn : n ≤ b) : Ext n h (hput h b o) := ⟨by rw [hput_size]; exact Nat.le_refl _, fun c hc => hput_other (by omega)⟩
theorem hcell_hput {h : Heap} {b : Nat} {o o' : Obj} {p : Addr} {v : Value} (hb : h[b]? = some o') (hn : notCells o' = true) (hp : hcell h p = some v) : hcell (hput h b o) p = some v := by
 rw [hcell_of_eq (h := h) (hput_other ?_)]
 ·exact hp
 ·intro e
  unfold hcell at hp
  rw [← e, hb] at hp
  cases o' with
  | cells => cases hn
  | _ => cases hp
theorem Fam.hput {N : Nat} {h : Heap} {F : List (Nat × Sl × List Value)} {b : Nat} {o o' : Obj} (A : Fam N h F) (hb : h[b]? = some o') (hn : notCells o' = true) : Fam N (hput h b o) F :=
 by
 refine ⟨fun x hx => (A.own x hx).keep fun p hp => hput_other fun e => ?_, A.dis⟩
 ·rcases (A.own x hx).at_ with ⟨e1, _⟩ | ⟨c, tl, e1, _, ⟨el, hB⟩, _⟩
  ·rw [e1] at hp; cases hp
  ·rw [e1] at hp; cases hp
   have e : b = c := e
   subst e
   rw [hb] at hB
   cases hB
   cases hn
theorem Rs.hput {n sz : Nat} {h : Heap} {s : Sl} {vs : List Value} {b : Nat} {o o' : Obj} (H : Rs n sz h s vs) (hb : h[b]? = some o') (hn : notCells o' = true) : Rs n sz (hput h b o) s vs := by
 refine ⟨H.len, H.cap, H.at_.imp id fun ⟨c, q, h1, h2, h3⟩ => ⟨c, q, h1, h2, fun i hi => ?_⟩⟩
 have h4 := h3 i hi
 rw [List.getElem?_eq_getElem hi] at h4 ⊢
 exact hcell_hput hb hn h4
/-- what is no row of cells stays through an append -/
theorem Grown.keeps {n sz : Nat} {h h' : Heap} {s s' : Sl} {vs ws : List Value} {N : Nat} (G : Grown n sz h h' s s' ws) (O : Own N sz h s vs) {b : Nat} {o : Obj} (hb : h[b]? = some o) (hn : notCells o = true) : h'[b]? = some o := by
 rw [G.others b (Array.getElem?_eq_some_iff.1 hb).1 fun p hp e => ?_]
 ·exact hb
 ·rcases O.at_ with ⟨e1, _⟩ | ⟨c, tl, e1, _, ⟨el, hB⟩, _⟩
  ·rw [e1] at hp; cases hp
  ·rw [e1] at hp; cases hp
   have e : c = b := e
   subst e
   rw [hb] at hB
   cases hB
   cases hn
/-- a piece of a slice -/
theorem Rs.sub {n : Nat} {h : Heap} {s : Sl} {vs : List Value} {lo hi mx : Nat} (H : Rs n 1 h s vs) (h1 : lo < hi) (h2 : hi ≤ vs.length) (h3 : hi ≤ mx) : Rs n 1 h ⟨sliceA s.a mx lo 1, hi - lo, mx - lo⟩ ((vs.drop lo).take (hi - lo)) := by
 refine ⟨by simp; omega, by simp; omega, ?_⟩
 rcases H.at_ with e | ⟨b, o, e1, e2, e3⟩
 ·rw [e] at h2; simp at h2; omega
 ·refine .inr ⟨b, o + lo, ?_, e2, fun i hi' => ?_⟩
  ·unfold sliceA
   rw [if_neg (by omega), e1]
   show some (Addr.add (ad b o) (lo * 1)) = _
   rw [ad_add, Nat.mul_one]
  ·simp at hi'
   rw [show o + lo + i = o + (lo + i) by omega, e3 (lo + i) (by omega), List.getElem?_take, if_pos (by omega), List.getElem?_drop]
end Go.Tw
namespace Go.Tw
open Go Go.RowKit
set_option linter.unusedVariables false
/-- all that was there is as it was -/
abbrev Fw (h h' : Heap) : Prop := Ext h.size h h'
section
variable {h h1 h2 h' : Heap} {b c n : Nat} {cs ys : List Value}
theorem Fw.refl (h : Heap) : Fw h h := Ext.refl _ _
theorem Fw.trans (A : Fw h h1) (B : Fw h1 h2) : Fw h h2 := Ext.trans A (B.mono A.1)
theorem Fw.trans' (A : Fw h h1) (B : Ext h.size h1 h2) : Fw h h2 := Ext.trans A B
theorem Fw.blk (A : Fw h h1) (B : Blk h b cs) : Blk h1 b cs := Ext.blk A B B.lt
theorem Fw.at_ {o : Obj} (A : Fw h h1) (hb : h[b]? = some o) : h1[b]? = some o := by rw [A.2 b (Array.getElem?_eq_some_iff.1 hb).1]; exact hb
/-- a block that is new changes, too -/
theorem Fw.over (A : Fw h h1) (hc : h.size ≤ c) (ho : ∀ d, d ≠ c → h2[d]? = h1[d]?) (hz : h2.size = h1.size) : Fw h h2 :=
 ⟨by rw [hz]; exact A.1, fun d hd => (ho d (by omega)).trans (A.2 d hd)⟩
theorem Fw.hput {o : Obj} (A : Fw h h1) (hc : h.size ≤ c) : Fw h (hput h1 c o) := Ext.trans A (Ext.hput hc)
theorem New.cells {el : TypeId} {K : Addr → Heap → Prop} (H : ∀ h', Fw h h' → h'.size = h.size + 1 → Blk h' h.size cs → K (ad h.size 0) h') : New h (.cells cs.toArray el) K := fun p h' hp hh => by
 subst hp; subst hh
 exact H _ (Ext.push (Nat.le_refl _)) (by simp) Blk.new
theorem St.whole {K : Heap → Prop} (B : Blk h c cs) (hl : cs.length = n) (hn : ys.length = n) (hK : ∀ h', Blk h' c ys → (∀ d, d ≠ c → h'[d]? = h[d]?) → h'.size = h.size → K h') : St h (ad c 0) n ys K := by
 refine ⟨B.stok (by omega), fun h' e => ?_⟩
 subst e
 refine hK _ ?_ (fun d hd => hsets_other _ _ _ _ (show c ≠ d from fun e => hd e.symm)) (hsets_size _ _ _ _)
 have := Blk.sets (o := 0) ys h 0 cs B (by omega)
 have e : splice cs (0 + 0) ys = ys := by
  unfold splice
  rw [List.drop_of_length_le (by omega)]; simp
 rwa [e] at this
theorem Blk.ld2 (B : Blk h b cs) (i j : Nat) {v : Value} (hv : cs[i + j]? = some v) : hcell h (Addr.add (Addr.add (ad b 0) i) j) = some v := by
 rw [ad_add, ad_add, Nat.zero_add, B.cell, hv]
theorem Blk.uniq (A : Blk h b cs) (B : Blk h b ys) : cs = ys := by
 obtain ⟨e, A⟩ := A
 obtain ⟨f, B⟩ := B
 rw [A] at B
 simp at B
 exact B.1
theorem Blk.ne (A : Blk h b cs) (B : Blk h c ys) (hn : cs ≠ ys) : b ≠ c := fun e => hn (by subst e; exact A.uniq B)
theorem Blk.not {o : Obj} (A : Blk h b cs) (hc : h[c]? = some o) (hn : notCells o = true) : b ≠ c := fun e => by
 subst e
 obtain ⟨el, A⟩ := A
 rw [A] at hc; cases hc; cases hn
theorem Blk.hput {o o' : Obj} (A : Blk h b cs) (hc : h[c]? = some o) (hn : notCells o = true) : Blk (hput h c o') b cs := A.of_eq (hput_other (fun e => A.not hc hn e.symm))
theorem Blk.other (A : Blk h b cs) (ho : ∀ d, d ≠ c → h'[d]? = h[d]?) (hb : b ≠ c) : Blk h' b cs := A.of_eq (ho b hb)
theorem other_at {o : Obj} (ho : ∀ d, d ≠ c → h'[d]? = h[d]?) (hb : h[b]? = some o) (hc : b ≠ c) : h'[b]? = some o := by rw [ho b hc]; exact hb
end
end Go.Tw
namespace Go.Tw
open Go Go.RowKit
/-- clear(s) -/
def Clr (z : Value) (s : Sl) (h : Heap) (K : Heap → Prop) : Prop :=
 (s.len = 0 ∧ K h) ∨ (0 < s.len ∧ ∃ p, s.a = some p ∧ (∀ v ∈ (Builtin.zeroCells z.cells s.len).toList, one v = true) ∧ StOk h p (Builtin.zeroCells z.cells s.len).toList.length ∧ ∀ h', h' = hsets h p 0 (Builtin.zeroCells z.cells s.len).toList → K h')
section
variable {P : Program} {ρ : Operand → Value} {dst : Option Tmp} {ty : TypeId} {pos : String} {af : Array Edge} {gd : Option (Nat × Bool)} {r : World} {h : Heap} {dr : Nat}
theorem SlF.clear {a : Operand} {t el sz by' : Nat} {z : Value} {s : Sl} {K : Heap → Prop} (F : SlF P t el sz by' z) (hs : ρ a = s.v) (H : Clr z s h K) :
  uponV P (behind r fun v h' => v = .tuple #[] ∧ K h') ((execOp ρ ⟨dst, .call ⟨.builtin .clear, #[a], #[t]⟩, ty, pos, af, gd⟩).run P (wd r h dr)) := by
 obtain ⟨sa, sl, sc⟩ := s
 simp only [Sl.v] at hs
 have key : ∃ h', (Builtin.clear_ #[t] ty #[.slice sa sl sc]).run P (wd r h dr) = .ok (.tuple #[]) (wd r h' dr) ∧ K h' := by
  rcases H with ⟨h0, hk⟩ | ⟨h0, p, hp, h1, hok, hk⟩
  ·refine ⟨h, ?_, hk⟩
   have h0 : sl = 0 := h0
   subst h0
   cases sa with
   | none => simp [Builtin.clear_, run_underlying F.ty]
   | some p => simp [Builtin.clear_, run_underlying F.ty]
  ·refine ⟨_, ?_, hk _ rfl⟩
   have hp : sa = some p := hp
   subst hp
   obtain ⟨k, rfl⟩ : ∃ k, sl = k + 1 := ⟨sl - 1, by simp only at h0; omega⟩
   have hst := run_storeCells (P := P) (r := r) (dr := dr) (p := p) _ 0 h h1 (fun j _ hj => hok j (by omega))
   simp [Builtin.clear_, run_underlying F.ty, F.zero, hst]
 obtain ⟨h', hr, hk⟩ := key
 have e1 : (execOp ρ ⟨dst, .call ⟨.builtin .clear, #[a], #[t]⟩, ty, pos, af, gd⟩).run P (wd r h dr) = .ok (.value (.tuple #[])) (wd r h' dr) := by
  unfold execOp
  simp only [resolve, invoke, builtin, Sem.run_bind, Sem.run_pure, Result.andThen_ok, List.map_toArray, List.map_cons, List.map_nil, hs, hr]
 rw [e1]
 exact ⟨h', dr, rfl, rfl, hk⟩
end
end Go.Tw
namespace Go.Tw
open Go Go.RowKit
/-- append(s, make([]T, n)...) where there is no room -/
abbrev AppZ (el sz by' : Nat) (z : Value) (s : Sl) (n : Int) (h : Heap) (K : Sl → Heap → Prop) : Prop :=
 0 ≤ n ∧ n < 9223372036854775808 ∧ n * by' ≤ 281474976710656 ∧ s.cap < s.len + n.toNat ∧ (s.len + n.toNat) * by' ≤ 140737488355328 ∧ ∃ olds : List Value, olds.length = s.len * sz ∧ Holds h s.a olds ∧
  ∀ cap, s.len + n.toNat ≤ cap → cap ≤ maxLen → K ⟨some ⟨h.size, 0, none⟩, s.len + n.toNat, cap⟩ (h.push (.cells ((olds.toArray ++ Builtin.zeroCells z.cells n.toNat) ++ Builtin.zeroCells z.cells (cap - (s.len + n.toNat))) el))
section
variable {P : Program} {ρ : Operand → Value} {dst : Option Tmp} {ty : TypeId} {pos : String} {af : Array Edge} {gd : Option (Nat × Bool)} {r : World} {h : Heap} {dr : Nat}
theorem r_appendZ {a b : Operand} {t t1 : TypeId} {el sz by' : Nat} {z : Value} {s : Sl} {n : Int} {K : Sl → Heap → Prop} {i : TypeInfo} (ht : P.underlying t = some (.slice el)) (ht1 : P.underlying t1 = some (.int .i64)) (hi : P.info? el = some i) (hsz : i.size = sz) (hby : i.bytes = by') (hzv : i.zero = some z) (hzc : z.cells.size = sz) (h0 : 0 < by')
  (hs : ρ a = s.v) (hx : ρ b = .int .i64 n) (happ : AppZ el sz by' z s n h K) :
  uponV P (behind r fun v h' => ∃ s' : Sl, v = s'.v ∧ K s' h') ((execOp ρ ⟨dst, .call ⟨.builtin .append, #[a, b], #[t, t1]⟩, ty, pos, af, gd⟩).run P (wd r h dr)) := by
 obtain ⟨sa, sl, sc⟩ := s
 obtain ⟨n0, n63, n48, hno, hfit, olds, hol, holds, hk⟩ := happ
 simp only [Sl.v] at hs hol holds hk hno hfit
 have key : ∃ s' : Sl, ∃ h' dr', (Builtin.append_ #[t, t1] ty #[.slice sa sl sc, .int .i64 n]).run P (wd r h dr) = .ok s'.v (wd r h' dr') ∧ K s' h' := by
  have hnr : ¬ sl + n.toNat ≤ sc := by omega
  have hfo : (Builtin.firstCells sz sl (.slice sa sl sc)).run P (wd r h dr).drew = .ok olds.toArray (wd r h dr).drew := run_firstCells (P := P) (r := r) (h := h) (dr := dr + 1) hol holds
  have hm : sl + n.toNat ≤ 140737488355328 := by
   have : (sl + n.toNat) * 1 ≤ (sl + n.toNat) * by' := Nat.mul_le_mul_left _ h0
   omega
  have hw : IntKind.i64.wrap n = n := w64_of (by omega) n63
  have hnn : ¬ n < 0 := by omega
  have hb48 : ¬ (281474976710656 < n * (by' : Int)) := by omega
  have h48' : ¬ (281474976710656 < Builtin.nextslicecap (sl + n.toNat) sc * by') := by have := growslice_fits hno hfit; omega
  have h63' : ¬ (9223372036854775807 < ((sl : Int) + ((n.toNat : Nat) : Int))) := by omega
  have h63'' : ¬ (9223372036854775807 < ((sl : Int) + max n 0)) := by omega
  have hge := grownCap_ge (wd r h dr) (sl + n.toNat) sc el
  have hle : grownCap (wd r h dr) (sl + n.toNat) sc el ≤ maxLen := grownCap_le_maxLen _ _ _ _ (by simp only [maxLen]; omega)
  refine ⟨_, _, dr + 1, ?_, hk _ hge hle⟩
  have hws : (wd r h dr).heap.size = h.size := rfl
  have hz0 : n.toNat * sz = 0 → Builtin.zeroCells z.cells n.toNat = #[] := fun e => by
   simp [Builtin.zeroCells, hzc, e]
  have e : (Builtin.append_ #[t, t1] ty #[.slice sa sl sc, .int .i64 n]).run P (wd r h dr) = .ok (.slice (some ⟨h.size, 0, none⟩) (sl + n.toNat) (grownCap (wd r h dr) (sl + n.toNat) sc el))
    ((wd r h dr).drew.alloc (.cells ((olds.toArray ++ Builtin.zeroCells z.cells n.toNat) ++ Builtin.zeroCells z.cells (grownCap (wd r h dr) (sl + n.toNat) sc el - (sl + n.toNat))) el)) := by
   by_cases hzz : n.toNat * sz = 0
   ·have hzz' : n ≤ 0 ∨ sz = 0 := by
     rcases Nat.mul_eq_zero.1 hzz with h | h
     ·left; omega
     ·right; exact h
    rw [hz0 hzz]
    simp [Builtin.append_, run_underlying ht, run_underlying ht1, sizeOf, typeInfo, zeroValue, hi, hzv, hsz, hby, asInt, asIntOf, hw, hnn, hb48, hnr, h63'', h48', Question.forced, hfo, newRow, grownCap, hws]
    intro e; exact absurd hzz e
   ·have hzz' : ¬ (n ≤ 0 ∨ sz = 0) := by
     rintro (h | h)
     ·exact hzz (by rw [show n.toNat = 0 by omega, Nat.zero_mul])
     ·exact hzz (by rw [h, Nat.mul_zero])
    simp [Builtin.append_, run_underlying ht, run_underlying ht1, sizeOf, typeInfo, zeroValue, hi, hzv, hsz, hby, asInt, asIntOf, hw, hnn, hb48, hnr, h63'', h48', Question.forced, hfo, newRow, grownCap, hws]
    intro e; exact absurd e hzz
  exact e
 obtain ⟨s', h', dr', hr, hk'⟩ := key
 have e1 : (execOp ρ ⟨dst, .call ⟨.builtin .append, #[a, b], #[t, t1]⟩, ty, pos, af, gd⟩).run P (wd r h dr) = .ok (.value s'.v) (wd r h' dr') := by
  unfold execOp
  simp only [resolve, invoke, builtin, Sem.run_bind, Sem.run_pure, Result.andThen_ok, List.map_toArray, List.map_cons, List.map_nil, hs, hx, hr]
 rw [e1]
 exact ⟨h', dr', rfl, s', rfl, hk'⟩
theorem SlF.appendZ {a b : Operand} {t t1 el sz by' : Nat} {z : Value} {s : Sl} {n : Int} {K : Sl → Heap → Prop} (F : SlF P t el sz by' z) (hzc : z.cells.size = sz) (ht1 : P.underlying t1 = some (.int .i64)) (hs : ρ a = s.v) (hx : ρ b = .int .i64 n) (happ : AppZ el sz by' z s n h K) :
  uponV P (behind r fun v h' => ∃ s' : Sl, v = s'.v ∧ K s' h') ((execOp ρ ⟨dst, .call ⟨.builtin .append, #[a, b], #[t, t1]⟩, ty, pos, af, gd⟩).run P (wd r h dr)) := by
 obtain ⟨i, hi, h1, h2, h3⟩ := F.info
 exact r_appendZ F.ty ht1 hi h1 h2 h3 hzc (by simpa [Nat.blt_eq] using F.pos) hs hx happ
end
end Go.Tw
namespace Go.Tw
open Go Go.RowKit
section
variable {P : Program} {ρ : Operand → Value} {dst : Option Tmp} {ty : TypeId} {pos : String} {af : Array Edge} {gd : Option (Nat × Bool)}
theorem r_addT {x y : Operand} {xt yt : TypeId} {a b : ByteArray} (hx : ρ x = .string a) (hy : ρ y = .string b) (h : a.size + b.size ≤ 9223372036854775807) (w : World) :
  (execOp ρ ⟨dst, .binOp .add xt x y yt, ty, pos, af, gd⟩).run P w = .ok (.value (.string (a ++ b))) w := by
 simp [execOp, go_sem, hx, hy, eqGuard, run_string_add_sum w a b h]
theorem r_sliceT {t : TypeId} {x : Operand} {lo hi : Option Operand} {s : ByteArray} (ht : P.underlying t = some .string) (hx : ρ x = .string s)
  (iH iL : Int) (hH : match hi with | some o => ∃ k, ρ o = .int k iH | none => iH = s.size) (hL : match lo with | some o => ∃ k, ρ o = .int k iL | none => iL = 0)
  (h1 : 0 ≤ iL) (h2 : iL ≤ iH) (h3 : iH ≤ s.size) (w : World) :
  (execOp ρ ⟨dst, .slice t x lo hi none, ty, pos, af, gd⟩).run P w = .ok (.value (.string (s.extract iL.toNat iH.toNat))) w := by
 have b1 : ∀ {v : Value} {k : IntKind} {i : Int} {y : Nat} {code : BoundsCode} (w : World), v = .int k i → 0 ≤ i → i ≤ y → (Instr.sliceBound v y code).run P w = .ok i.toNat w := fun w h h0 h1 => run_sliceBound h h0 h1 w
 have hb : (Instr.sliceBounds false s.size s.size (lo.map ρ) (hi.map ρ) none).run P w = .ok (iL.toNat, iH.toNat, s.size) w := by
  unfold Instr.sliceBounds
  cases hi with
  | none =>
   simp only at hH
   subst hH
   cases lo with
   | none => simp only at hL; subst hL; simp [Sem.run_pure, Sem.run_bind]
   | some o => obtain ⟨k, hk⟩ := hL; simp [Sem.run_pure, Sem.run_bind, b1 w hk h1 (by simpa using h2)]
  | some o2 =>
   obtain ⟨k2, hk2⟩ := hH
   cases lo with
   | none => simp only at hL; subst hL; simp [Sem.run_pure, Sem.run_bind, b1 w hk2 (by omega) h3]
   | some o => obtain ⟨k, hk⟩ := hL; simp [Sem.run_pure, Sem.run_bind, b1 w hk2 (by omega) h3, b1 w hk h1 (show iL ≤ ((iH.toNat : Nat) : Int) by omega)]
 have e1 : (Instr.sliceAt t (ρ x) (lo.map ρ) (hi.map ρ) none).run P w = .ok (.string (s.extract iL.toNat iH.toNat)) w := by
  unfold Instr.sliceAt Instr.slice
  simp only [Sem.run_bind, run_underlying ht, Result.andThen_ok, hx, hb, Sem.run_pure]
  simp [Sem.run_bind, Sem.run_pure, hb]
 simp [execOp, go_sem, e1]
theorem toList_beq (a b : ByteArray) : (a.toList == b.toList) = decide (a = b) := by
 rw [ByteArray.toList_eq, ByteArray.toList_eq]
 by_cases h : a = b
 ·subst h; simp
 ·rw [decide_eq_false h]
  apply Bool.eq_false_iff.2
  intro e
  apply h
  have e := eq_of_beq e
  cases a; cases b
  congr
  exact Array.toList_inj.1 e
theorem r_eqlT {x y : Operand} {xt yt : TypeId} {a b : ByteArray} (hx : ρ x = .string a) (hy : ρ y = .string b) (w : World) :
  (execOp ρ ⟨dst, .binOp .eql xt x y yt, ty, pos, af, gd⟩).run P w = .ok (.value (.bool (decide (a = b)))) w := by
 simp only [← toList_beq]
 simp [execOp, go_sem, hx, hy, eqGuard]
theorem r_neqT {x y : Operand} {xt yt : TypeId} {a b : ByteArray} (hx : ρ x = .string a) (hy : ρ y = .string b) (w : World) :
  (execOp ρ ⟨dst, .binOp .neq xt x y yt, ty, pos, af, gd⟩).run P w = .ok (.value (.bool (!decide (a = b)))) w := by
 simp only [← toList_beq]
 simp [execOp, go_sem, hx, hy, eqGuard]
/-- text of one byte -/
def byteStr (x : Int) : ByteArray := strOfNums [x]
theorem r_convB {x : Operand} {st dt e : TypeId} {r : World} {h : Heap} {dr : Nat} {p : Addr} {n : Int} {c : Nat} (hs : P.underlying st = some (.slice e)) (he : P.underlying e = some (.int .u8)) (hd : P.underlying dt = some .string) (hx : ρ x = .slice (some p) 1 c) (hc : hcell h (Addr.add p 0) = some (.int .u8 n)) :
  (execOp ρ ⟨dst, .convert st dt x, ty, pos, af, gd⟩).run P (wd r h dr) = .ok (.value (.string (byteStr n))) (wd r h dr) := by
 have hl : (loadCells p 1).run P (wd r h dr) = .ok ([n].map (Value.int .u8)).toArray (wd r h dr) := by
  refine run_loadCells_list (P := P) (wd r h dr) p ([n].map (Value.int .u8)) fun j v hj => ?_
  cases j with
  | zero => simp at hj; subst hj; exact hc
  | succ j => simp at hj
 have e1 : (convert st dt (.slice (some p) 1 c)).run P (wd r h dr) = .ok (.string (byteStr n)) (wd r h dr) := by
  rw [run_convert_bytes_string _ st dt e _ 1 c hs he hd, run_bytesToString _ p 1 c [n] hl, foldl_push_bytes]
  simp [byteStr, strOfNums, ByteArray.empty, ByteArray.emptyWithCapacity]; rfl
 simp [execOp, go_sem, hx, e1]
end
end Go.Tw
namespace Go.Tw
open Go Go.RowKit
/-- a world behind which only heap and draws have turned -/
theorem wd_below {r : World} {h : Heap} {dr B : Nat} {w' : World} (b : Below B (wd r h dr) w') : w' = wd r w'.heap w'.drawn := by
 obtain ⟨h1, h2, h3, _, _⟩ := b
 cases w'
 simp only [wd] at h1 h2 h3 ⊢
 subst h1; subst h2; subst h3
 rfl
theorem fw_below {r : World} {h : Heap} {dr : Nat} {w' : World} (b : Below h.size (wd r h dr) w') : Fw h w'.heap := ⟨b.size, fun c hc => b.block c hc⟩
theorem CallsH.below {P : Program} {r : World} {f : FuncId} {args : List Value} {h : Heap} {R : Value → Heap → Prop}
  (hc : ∀ dr, Calls P f args.toArray (wd r h dr) fun e w' => ∃ v, e = .returned v ∧ Below h.size (wd r h dr) w' ∧ (Fw h w'.heap → R v w'.heap)) : CallsH P r f args h R := fun dr =>
 (hc dr).mono fun e w' ⟨v, he, hb, hR⟩ => ⟨v, w'.heap, w'.drawn, he, wd_below hb, hR (fw_below hb)⟩
end Go.Tw
namespace Go.Tw
open Go Go.RowKit
set_option linter.unusedVariables false
/-! ### A closure that is put off -/
/-- a closure that captures one address, put off -/
abbrev dfr (f : FuncId) (p : Addr) : Deferred := ⟨.fn (.func f) #[.pointer (some p)], #[]⟩
/-- a panic in a function that has put such a closure off; its captured address stands in a slot -/
def panC (f : FuncId) (Pn : Addr → Value → Heap → Prop) : List Deferred → Value → Value → Heap → Prop := fun d s v h => ∃ p, d = [dfr f p] ∧ s = .pointer (some p) ∧ Pn p v h
/-- .. and its end -/
def RetC (f : FuncId) (n t : Nat) (R : ByteArray → Heap → Prop) : DPost := fun d e h => ∃ p y, d = [dfr f p] ∧ ev n e (.tmp t) = .pointer (some p) ∧ hcell h p = some (.string y) ∧ R y h
theorem W_defer1 {p : Pl} {N : DPost} {X : Nat → DPost} {R : DPost} {e : Env} {h : Heap} {id : Nat} {ops : Array Oper} {s : Tmp} {x : Operand} {f : FuncId} {a : Addr} {t1 t2 : TypeId} {q1 q2 : String} {af1 af2 : Array Edge}
  (ho : ops = #[⟨some s, .makeFunc (.func f) #[] #[x], t1, q1, af1, none⟩, ⟨none, .defer ⟨.value (.tmp s), #[], #[]⟩, t2, q2, af2, none⟩]) (hro : p.ro = .none) (hs : Nat.blt s p.n = true) (hx : ev p.n e x = .pointer (some a))
  (hN : N [dfr f a] (upd e s (.func (.func f) #[] #[.pointer (some a)])) h) : W p [] (.region id ops false) N X R e h := by
 subst ho
 obtain ⟨P, r, ro, n, kp, pan⟩ := p
 simp only at hro hs hx
 subst hro
 intro dr
 refine wpIn_region ?_
 show wpOpsIn _ _ _ _ _ [0, 1] _ _
 rw [wpOpsIn_cons]
 refine step_pu (c := ⟨P, r, .none, n, [], #[_, _], none, fun _ _ _ => False⟩) (v := .func (.func f) #[] #[.pointer (some a)]) (o := ⟨some s, .makeFunc (.func f) #[] #[x], t1, q1, af1, none⟩) rfl rfl (.inl ⟨rfl, fun dr => ?_⟩) ?_
 ·simp [execOp, go_sem, hx, Instr.makeFunc]
 rw [wpOpsIn_cons]
 show wpOpIn _ _ _ _ _ 1 _ (act n (upd e s _) []) _
 unfold wpOpIn
 simp only [List.getElem?_toArray, List.getElem?_cons_succ, List.getElem?_cons_zero]
 have hw : Region.wanted (⟨none, .defer ⟨.value (.tmp s), #[], #[]⟩, t2, q2, af2, none⟩ : Oper) (yielded #[(⟨some s, .makeFunc (.func f) #[] #[x], t1, q1, af1, none⟩ : Oper), ⟨none, .defer ⟨.value (.tmp s), #[], #[]⟩, t2, q2, af2, none⟩] (act n (upd e s (.func (.func f) #[] #[.pointer (some a)])) []).tmps) = true := rfl
 rw [if_pos hw]
 refine ⟨about_any, ?_⟩
 have e1 : (Oper.semAt (FW .none).round (act n (upd e s (.func (.func f) #[] #[.pointer (some a)])) []).eval ⟨none, .defer ⟨.value (.tmp s), #[], #[]⟩, t2, q2, af2, none⟩).run P (wd r h dr) = .ok (.defer (dfr f a)) (wd r h dr) := by
  rw [Oper.semAt_none, act_eval]
  have : ev n (upd e s (.func (.func f) #[] #[.pointer (some a)])) (.tmp s) = .func (.func f) #[] #[.pointer (some a)] := by
   simp [ev, hs, upd_same]
  simp [execOp, resolve, Deferred.ofValue, this, Sem.run_pure]
 rw [e1, Oper.uponIn_defer]
 exact ⟨_, _, _, _, rfl, rfl, hN⟩
/-- the way out of such a function: what the closure does on its two ways in is asked for -/
theorem calls_ofC {P : Program} {r : World} {f g : FuncId} {fn : Func} {c : Code} {args : List Value} {h : Heap} {R : ByteArray → Heap → Prop} {Pn : Addr → Value → Heap → Prop} (n t : Nat) (ty : TypeId)
  (hf : P.funcs[f]? = some fn) (hb : fn.body = some c) (hn : fn.ntmps = n) (ha : Nat.ble args.length n = true) (hres : fn.results = #[.cell t ty])
  (hl : ∀ (p : Addr) (y : ByteArray) (h : Heap) (dr : Nat), hcell h p = some (.string y) → (loadVar ty p).run P (wd r h dr) = .ok (.string y) (wd r h dr))
  (hg : ∀ args w, (callFunc g args).run P w = .ok (.enter g args) w)
  (h0 : ∀ (p : Addr) (h : Heap) (dr : Nat), CallsD P g #[.pointer (some p)] .returning (wd r h dr) fun e u' w' => (∃ v, e = .returned v) ∧ u' = .returning ∧ ∃ dr', w' = wd r h dr')
  (h1 : ∀ (p : Addr) (v : Value) (h : Heap) (dr : Nat), Pn p v h → CallsD P g #[.pointer (some p)] (.panicking [{ v, recovered := false }]) (wd r h dr) fun e u' w' => (∃ v, e = .returned v) ∧ u' = .panicking [{ v, recovered := true }] ∧ ∃ h' dr' y, w' = wd r h' dr' ∧ hcell h' p = some (.string y) ∧ R y h')
  (hw : W ⟨P, r, .none, n, some t, panC g Pn⟩ [] c (RetC g n t R) (fun _ _ _ _ => False) (RetC g n t R) (ini args) h) : CallsH P r f args h fun v h' => ∃ y : ByteArray, v = .string y ∧ R y h' := by
 subst hn
 intro dr
 have hinv : ∀ (p : Addr) w, (invoke (Target.fn (.func g) #[.pointer (some p)]) #[]).run P w = .ok (.enter g #[.pointer (some p)]) w := fun p w => by simp [invoke, hg]
 have ret : ∀ d e h' dr', RetC g fn.ntmps t R d e h' → Leaves P fn (act fn.ntmps e d).tmps (fun x w => ∃ v h' dr', x = .returned v ∧ w = wd r h' dr' ∧ ∃ y : ByteArray, v = .string y ∧ R y h') d .returning (wd r h' dr') := by
  rintro d e h' dr' ⟨p, y, rfl, hp, hy, hR⟩
  refine leaves_cons (f := g) (args := #[.pointer (some p)]) (by simp) (hinv p _) ?_
  refine (h0 p _ _).mono ?_
  rintro x u' w'' ⟨⟨v, rfl⟩, rfl, dr2, rfl⟩
  refine ⟨.string y, ?_, _, _, _, rfl, rfl, y, rfl, hR⟩
  have := run_results (P := P) (r := r) (fn := fn) (n := fn.ntmps) (e := e) (d := [dfr g p]) (h := h') (l := [.cell t ty]) (vs := [.string y]) hres (by simp) ⟨_, _, p, rfl, hp, fun dr => hl p y h' dr hy, rfl⟩ dr2
  exact this
 refine calls_of_wp_defers hf hb ?_
 rw [act_ini _ _ (Nat.le_of_ble_eq_true ha)]
 refine wp_mono ((wpIn_wide (n := 0)).1 (hw dr)) fun x a w hq => ?_
 cases x with
 | normal => obtain ⟨d, e, h, dr, rfl, rfl, hr⟩ := hq; exact ret d e h dr hr
 | ret => obtain ⟨d, e, h, dr, rfl, rfl, hr⟩ := hq; exact ret d e h dr hr
 | exit i => obtain ⟨d, e, h, dr, _, _, hf⟩ := hq; exact hf.elim
 | panic ch =>
  obtain ⟨d, e, h', dr', v, rfl, rfl, rfl, p, rfl, hs, hp⟩ := hq
  have hs : ev fn.ntmps e (.tmp t) = .pointer (some p) := hs
  show Leaves P fn (act fn.ntmps e [dfr g p]).tmps _ [dfr g p] _ _
  refine leaves_cons (f := g) (args := #[.pointer (some p)]) (by simp) (hinv p _) ?_
  refine (h1 p v h' dr' hp).mono ?_
  rintro x u' w'' ⟨⟨v, rfl⟩, rfl, h2, dr2, y, rfl, hy, hR⟩
  refine ⟨.string y, ?_, _, _, _, rfl, rfl, y, rfl, hR⟩
  have := run_results (P := P) (r := r) (fn := fn) (n := fn.ntmps) (e := e) (d := [dfr g p]) (h := h2) (l := [.cell t ty]) (vs := [.string y]) hres (by simp) ⟨_, _, p, rfl, hs, fun dr => hl p y h2 dr hy, rfl⟩ dr2
  exact this
 | _ => exact hq.elim
/-! ### Maps whose keys are text -/
/-- a new map -/
def NewM (h : Heap) (K : Nat → Heap → Prop) : Prop := ∀ m h', m = h.size → h' = h.push (.map #[] 0) → K m h'
/-- a key that is not there is put in -/
def InsM (h : Heap) (m : Nat) (key : ByteArray) (v : Value) (K : Heap → Prop) : Prop :=
 ∃ es clock, h[m]? = some (.map es clock) ∧ Instr.findNow .string (.string key) es.toList 0 = some none ∧ ∀ h', h' = hput h m (.map (es.push { key := .string key, val := v, born := clock }) (clock + 1)) → K h'
/-- a key is looked up; the map holds ints -/
def LkI (h : Heap) (y : Option Nat) (key : ByteArray) (K : Int → Bool → Prop) : Prop :=
 ∃ m es clock x b, y = some m ∧ h[m]? = some (.map es clock) ∧
  ((∃ i, b = true ∧ Instr.findNow .string (.string key) es.toList 0 = some (some (i, .int .i64 x))) ∨ (b = false ∧ Value.int .i64 x = .int .i64 0 ∧ Instr.findNow .string (.string key) es.toList 0 = some none)) ∧ K x b
section
variable {P : Program} {ρ : Operand → Value} {dst : Option Tmp} {ty : TypeId} {pos : String} {af : Array Edge} {gd : Option (Nat × Bool)} {r : World} {h : Heap} {dr : Nat}
theorem r_makeMap {t : TypeId} : (execOp ρ ⟨dst, .makeMap t none, ty, pos, af, gd⟩).run P (wd r h dr) = .ok (.value (.map (some h.size))) (wd r (h.push (.map #[] 0)) dr) := rfl
theorem run_checkKey {e : Bool} {k : TypeId} {s : ByteArray} (hk : P.underlying k = some .string) (w : World) : (Instr.checkKey e 10000 k (.string s)).run P w = .ok () w := by
 show (Instr.checkKey e (9999 + 1) k (.string s)).run P w = _
 unfold Instr.checkKey
 simp [run_underlying hk]
theorem run_findKey {k : TypeId} {s : ByteArray} {es : List MapEntry} {x : Option (Nat × Value)} (hk : P.underlying k = some .string) (hx : Instr.findNow .string (.string s) es 0 = some x) (w : World) : (Instr.findKey k (.string s) es).run P w = .ok x w := by
 unfold Instr.findKey
 simp [run_underlying hk, hx]
theorem r_insert {t k el : TypeId} {x y z : Operand} {m : Nat} {s : ByteArray} {v : Value} {es : Array MapEntry} {clock : Nat} (ht : P.underlying t = some (.map k el)) (hk : P.underlying k = some .string) (hx : ρ x = .map (some m)) (hy : ρ y = .string s) (hz : ρ z = v)
  (hm : h[m]? = some (.map es clock)) (hn : Instr.findNow .string (.string s) es.toList 0 = some none) :
  (execOp ρ ⟨dst, .insert t x y z, ty, pos, af, gd⟩).run P (wd r h dr) = .ok .skip (wd r (hput h m (.map (es.push { key := .string s, val := v, born := clock }) (clock + 1))) dr) := by
 have e1 : (Instr.mapUpdate t (.map (some m)) (.string s) v).run P (wd r h dr) = .ok () (wd r (hput h m (.map (es.push { key := .string s, val := v, born := clock }) (clock + 1))) dr) := by
  have hg : (getObj m).run P (wd r h dr) = .ok (.map es clock) (wd r h dr) := by
   have : (wd r h dr).heap[m]? = some (.map es clock) := hm
   simp [getObj, Sem.run, this]
  have hs : (setObj m (.map (es.push { key := .string s, val := v, born := clock }) (clock + 1))).run P (wd r h dr) = .ok () (wd r (hput h m (.map (es.push { key := .string s, val := v, born := clock }) (clock + 1))) dr) := by
   have : (wd r h dr).heap[m]? = some (.map es clock) := hm
   simp [setObj, Sem.run, this]
   rfl
  unfold Instr.mapUpdate
  simp [Sem.run_bind, run_underlying ht, hg, run_checkKey hk, run_findKey hk hn, hs]
 simp [execOp, go_sem, hx, hy, hz, e1]
theorem r_lookup {t k el : TypeId} {x y : Operand} {m : Nat} {s : ByteArray} {z v : Value} {b : Bool} {es : Array MapEntry} {clock : Nat} (ht : P.underlying t = some (.map k el)) (hk : P.underlying k = some .string) (hx : ρ x = .map (some m)) (hy : ρ y = .string s)
  (hz : ∀ w, (zeroValue el).run P w = .ok z w) (hm : h[m]? = some (.map es clock)) (hn : (∃ i, b = true ∧ Instr.findNow .string (.string s) es.toList 0 = some (some (i, v))) ∨ (b = false ∧ v = z ∧ Instr.findNow .string (.string s) es.toList 0 = some none)) :
  (execOp ρ ⟨dst, .lookup t x y true, ty, pos, af, gd⟩).run P (wd r h dr) = .ok (.value (.tuple #[v, .bool b])) (wd r h dr) := by
 have e1 : (Instr.lookup t (.map (some m)) (.string s) true).run P (wd r h dr) = .ok (.tuple #[v, .bool b]) (wd r h dr) := by
  have hg : (getObj m).run P (wd r h dr) = .ok (.map es clock) (wd r h dr) := by
   have : (wd r h dr).heap[m]? = some (.map es clock) := hm
   simp [getObj, Sem.run, this]
  unfold Instr.lookup
  rcases hn with ⟨i, rfl, hn⟩ | ⟨rfl, rfl, hn⟩
  ·simp [Sem.run_bind, run_underlying ht, hg, run_checkKey hk, run_findKey hk hn]
  ·simp [Sem.run_bind, run_underlying ht, hg, run_checkKey hk, run_findKey hk hn, hz]
 simp [execOp, go_sem, hx, hy, e1]
/-- the place of an array's element, at an index that is reckoned -/
theorem r_indexArrV {t : TypeId} {x y : Operand} {el : TypeId} {p : Addr} {k : IntKind} {i : Int} {n sz off : Nat} (ht : P.underlying t = some (.array n el)) (hz : ∀ w, (sizeOf el).run P w = .ok sz w)
  (hx : ρ x = .pointer (some p)) (hy : ρ y = .int k i) (h0 : 0 ≤ i) (h1 : i < n) (ho : i.toNat * sz = off) (w : World) :
  (execOp ρ ⟨dst, .indexAddr t x y, ty, pos, af, gd⟩).run P w = .ok (.value (.pointer (some (p.add off)))) w := by
 subst ho
 simp [execOp, go_sem, Instr.indexAt, asIntOf, run_underlying ht, hx, hy, h0, h1, hz, Instr.sureAddr]
/-- what an interface holds is asked for, and it is of that type -/
theorem r_assert {x : Operand} {xt t : TypeId} {k : IntKind} {v : Value} (ht : P.underlying t = some (.int k)) (hx : ρ x = .iface t v) (w : World) :
  (execOp ρ ⟨dst, .typeAssert x xt t true, ty, pos, af, gd⟩).run P w = .ok (.value (.tuple #[v, .bool true])) w := by
 have e1 : (Instr.typeAssert (.iface t v) xt t true).run P w = .ok (.tuple #[v, .bool true]) w := by
  unfold Instr.typeAssert
  simp [run_underlying ht]
 simp [execOp, go_sem, hx, e1]
end
end Go.Tw
namespace Go.Mono
open Go Go.Tw
abbrev In (x : Int) : Prop := -9223372036854775808 ≤ x ∧ x < 9223372036854775808
structure M where
 n : Int
 sum : Int
 least : Int
 most : Int
 hash : Int
abbrev prime : Int := 2147483647
def M.c (m : M) : List Value := [iV m.n, iV m.sum, iV m.least, iV m.most, iV m.hash]
def lst (l : List Int) : Int := l.foldr min 9223372036854775807
def mst (l : List Int) : Int := l.foldr max (-9223372036854775808)
def stp (h x : Int) : Int := (131 * h + x % prime + 1) % prime
def hsh (l : List Int) : Int := l.foldl stp 0
def meas (l : List Int) : M := ⟨(l.length : Int), w64 l.sum, lst l, mst l, hsh l⟩
theorem lst_le (l : List Int) : lst l ≤ 9223372036854775807 := by
 induction l with
 | nil => exact Int.le_refl _
 | cons x l ih => show min x (lst l) ≤ _; omega
theorem mst_le (l : List Int) : -9223372036854775808 ≤ mst l := by
 induction l with
 | nil => exact Int.le_refl _
 | cons x l ih => show _ ≤ max x (mst l); omega
theorem lst_append (a b : List Int) : lst (a ++ b) = min (lst a) (lst b) := by
 induction a with
 | nil => have := lst_le b; show lst b = min 9223372036854775807 (lst b); omega
 | cons x a ih => show min x (lst (a ++ b)) = min (min x (lst a)) (lst b); omega
theorem mst_append (a b : List Int) : mst (a ++ b) = max (mst a) (mst b) := by
 induction a with
 | nil => have := mst_le b; show mst b = max (-9223372036854775808) (mst b); omega
 | cons x a ih => show max x (mst (a ++ b)) = max (max x (mst a)) (mst b); omega
theorem hsh_in (l : List Int) : 0 ≤ hsh l ∧ hsh l < prime := by
 rcases List.eq_nil_or_concat l with rfl | ⟨a, x, rfl⟩
 ·exact ⟨by decide, by decide⟩
 ·unfold hsh
  rw [List.concat_eq_append, List.foldl_append]
  exact ⟨Int.emod_nonneg _ (by decide), Int.emod_lt_of_pos _ (by decide)⟩
theorem fold_from : ∀ (l : List Int) (s : Int), 0 ≤ s → s < prime → l.foldl stp s = (s * 131 ^ l.length + hsh l) % prime
 | [], s, h0, h1 => by
  show s = (s * 1 + 0) % prime
  rw [Int.mul_one, Int.add_zero, Int.emod_eq_of_lt h0 h1]
 | x :: l, s, h0, h1 => by
  have p0 : ∀ y, 0 ≤ y % prime := fun y => Int.emod_nonneg _ (by decide)
  have p1 : ∀ y, y % prime < prime := fun y => Int.emod_lt_of_pos _ (by decide)
  have e1 := fold_from l (stp s x) (p0 _) (p1 _)
  have e2 := fold_from l (stp 0 x) (p0 _) (p1 _)
  show l.foldl stp (stp s x) = (s * 131 ^ (l.length + 1) + l.foldl stp (stp 0 x)) % prime
  rw [e1, e2]
  show ((131 * s + x % prime + 1) % prime * 131 ^ l.length + hsh l) % prime = (s * 131 ^ (l.length + 1) + ((131 * 0 + x % prime + 1) % prime * 131 ^ l.length + hsh l) % prime) % prime
  generalize x % prime = y
  rw [Int.add_emod_emod (m := s * 131 ^ (l.length + 1))]
  generalize hw : (131 : Int) ^ l.length = w
  have e3 : (131 : Int) ^ (l.length + 1) = w * 131 := by rw [Int.pow_succ, hw]
  rw [e3, ← Int.add_assoc]
  have f : ∀ a : Int, (a % prime * w + hsh l) % prime = (a * w + hsh l) % prime := fun a => by
   rw [Int.add_emod, Int.mul_emod, Int.emod_emod, ← Int.mul_emod, ← Int.add_emod]
  rw [f]
  have g : ∀ c a : Int, (c + a % prime * w + hsh l) % prime = (c + a * w + hsh l) % prime := fun c a => by
   rw [Int.add_assoc, Int.add_emod, f, ← Int.add_emod, Int.add_assoc]
  rw [g]
  congr 1
  have : (131 * s + y + 1) * w = s * (w * 131) + (131 * 0 + y + 1) * w := by
   rw [Int.mul_zero, Int.zero_add, Int.add_assoc (131 * s), Int.add_mul (131 * s)]
   congr 1
   rw [Int.mul_comm 131 s, Int.mul_assoc, Int.mul_comm 131 w]
  rw [this]
theorem hsh_append (a b : List Int) : hsh (a ++ b) = (hsh a * 131 ^ b.length + hsh b) % prime := by
 have := hsh_in a
 show (a ++ b).foldl stp 0 = _
 rw [List.foldl_append]
 exact fold_from b (hsh a) this.1 this.2
theorem w64_add (x y : Int) : w64 (w64 x + w64 y) = w64 (x + y) := by
 simp only [w64, IntKind.wrap_i64]; omega
theorem meas_append (a b : List Int) : meas (a ++ b) = ⟨(meas a).n + (meas b).n, w64 ((meas a).sum + (meas b).sum), min (meas a).least (meas b).least, max (meas a).most (meas b).most, ((meas a).hash * (131 ^ b.length % prime) + (meas b).hash) % prime⟩ := by
 have e : hsh (a ++ b) = (hsh a * (131 ^ b.length % prime) + hsh b) % prime := by
  rw [hsh_append, Int.add_emod, Int.mul_emod, Int.add_emod (hsh a * (131 ^ b.length % prime)), Int.mul_emod (hsh a) (131 ^ b.length % prime), Int.emod_emod]
 unfold meas
 simp only
 rw [w64_add, lst_append, mst_append, e, List.sum_append, List.length_append, Int.natCast_add]
/-- by the bits of n -/
theorem pow_step (b : Int) (n : Nat) : (b * b % prime) ^ (n / 2) % prime = (b ^ (2 * (n / 2))) % prime := by
 have : ∀ (x : Int) (k : Nat), (x % prime) ^ k % prime = x ^ k % prime := by
  intro x k
  induction k with
  | zero => rw [Int.pow_zero, Int.pow_zero]
  | succ k ih => rw [Int.pow_succ, Int.pow_succ, Int.mul_emod, ih, Int.emod_emod, ← Int.mul_emod]
 rw [this, Int.pow_mul]
 congr 2
 rw [Int.pow_succ, Int.pow_succ, Int.pow_zero, Int.one_mul]
theorem even_step {o b : Int} {n : Nat} (h : n % 2 = 0) : (o * (b * b % prime) ^ (n / 2)) % prime = (o * b ^ n) % prime := by
 have e : 2 * (n / 2) = n := by omega
 rw [Int.mul_emod, pow_step, e, ← Int.mul_emod]
theorem odd_step {o b : Int} {n : Nat} (h : n % 2 = 1) : ((o * b % prime) * (b * b % prime) ^ (n / 2)) % prime = (o * b ^ n) % prime := by
 have e : b ^ n = b * b ^ (2 * (n / 2)) := by
  rw [show n = 2 * (n / 2) + 1 by omega, Int.pow_succ, Int.mul_comm]
  congr 2; omega
 rw [Int.mul_emod, Int.emod_emod, pow_step, ← Int.mul_emod, e, Int.mul_assoc]
end Go.Mono
namespace Go.Fing
open Go Go.Tw Go.Mono
/-- a thing: a number, or two or three things of the level ahead -/
inductive T
 | num (x : Int)
 | n2 (a b : T)
 | n3 (a b c : T)
def T.l : T → List Int
 | .num x => [x]
 | .n2 a b => a.l ++ b.l
 | .n3 a b c => a.l ++ (b.l ++ c.l)
def T.kids : T → List T
 | .num _ => []
 | .n2 a b => [a, b]
 | .n3 a b c => [a, b, c]
def T.dep : T → Nat → Prop
 | .num _, 0 => True
 | .n2 a b, k + 1 => a.dep k ∧ b.dep k
 | .n3 a b c, k + 1 => a.dep k ∧ b.dep k ∧ c.dep k
 | _, _ => False
def ls (ts : List T) : List Int := ts.flatMap T.l
theorem ls_cons (t : T) (ts : List T) : ls (t :: ts) = t.l ++ ls ts := rfl
theorem ls_append (a b : List T) : ls (a ++ b) = ls a ++ ls b := by simp [ls]
theorem ls_one (t : T) : ls [t] = t.l := by simp [ls]
def grp : List T → T
 | [a, b] => .n2 a b
 | [a, b, c] => .n3 a b c
 | _ => .num 0
/-- of two or three -/
def Few (ts : List T) : Prop := ts.length = 2 ∨ ts.length = 3
theorem few_cases {ts : List T} (h : Few ts) : (∃ a b, ts = [a, b]) ∨ ∃ a b c, ts = [a, b, c] := by
 rcases h with h | h
 ·match ts, h with
  | [a, b], _ => exact .inl ⟨a, b, rfl⟩
 ·match ts, h with
  | [a, b, c], _ => exact .inr ⟨a, b, c, rfl⟩
theorem grp_l {ts : List T} (h : Few ts) : (grp ts).l = ls ts := by
 rcases few_cases h with ⟨a, b, rfl⟩ | ⟨a, b, c, rfl⟩ <;> simp [grp, T.l, ls]
theorem grp_dep {ts : List T} {k : Nat} (h : Few ts) (hd : ∀ t ∈ ts, t.dep k) : (grp ts).dep (k + 1) := by
 rcases few_cases h with ⟨a, b, rfl⟩ | ⟨a, b, c, rfl⟩
 ·exact ⟨hd a (by simp), hd b (by simp)⟩
 ·exact ⟨hd a (by simp), hd b (by simp), hd c (by simp)⟩
theorem dep_kids {t : T} {k : Nat} (h : t.dep (k + 1)) : Few t.kids ∧ ls t.kids = t.l ∧ (∀ u ∈ t.kids, u.dep k) := by
 match t, h with
 | .n2 a b, h => exact ⟨.inl rfl, by simp [T.kids, T.l, ls], fun u hu => by simp [T.kids] at hu; rcases hu with rfl | rfl; exact h.1; exact h.2⟩
 | .n3 a b c, h => exact ⟨.inr rfl, by simp [T.kids, T.l, ls], fun u hu => by simp [T.kids] at hu; rcases hu with rfl | rfl | rfl; exact h.1; exact h.2.1; exact h.2.2⟩
theorem dep_num {t : T} (h : t.dep 0) : ∃ x, t = .num x := by
 match t, h with
 | .num x, _ => exact ⟨x, rfl⟩
theorem l_pos : ∀ (t : T), 0 < t.l.length
 | .num _ => by simp [T.l]
 | .n2 a b => by have := l_pos a; simp [T.l]; omega
 | .n3 a b c => by have := l_pos a; simp [T.l]; omega
theorem ls_pos {ts : List T} (h : ts ≠ []) : 0 < (ls ts).length := by
 cases ts with
 | nil => exact absurd rfl h
 | cons t ts => have := l_pos t; rw [ls_cons]; simp; omega
/-- a tree's level -/
inductive F
 | nil
 | one (t : T)
 | deep (l : List T) (m : F) (r : List T)
def F.l : F → List Int
 | .nil => []
 | .one t => t.l
 | .deep l m r => ls l ++ (m.l ++ ls r)
def D (ts : List T) (k : Nat) : Prop := 1 ≤ ts.length ∧ ts.length ≤ 4 ∧ ∀ t ∈ ts, t.dep k
def F.ok : F → Nat → Prop
 | .nil, _ => True
 | .one t, k => t.dep k
 | .deep l m r, k => D l k ∧ D r k ∧ m.ok (k + 1)
theorem D.ne {ts : List T} {k : Nat} (h : D ts k) : ts ≠ [] := by intro e; subst e; exact absurd h.1 (by decide)
theorem l_nil {v : F} {k : Nat} (h : v.ok k) (e : v.l = []) : v = .nil := by
 cases v with
 | nil => rfl
 | one t => have := l_pos t; have e : t.l = [] := e; rw [e] at this; simp at this
 | deep l m r =>
  have := ls_pos h.1.ne
  have e : ls l ++ (m.l ++ ls r) = [] := e
  rw [List.append_eq_nil_iff] at e
  rw [e.1] at this; simp at this
/-- put on the left, on the right -/
def pl (t : T) : F → F
 | .nil => .one t
 | .one u => .deep [t] .nil [u]
 | .deep l m r => if l.length < 4 then .deep (t :: l) m r else .deep [t, l.headD t] (pl (grp l.tail) m) r
def pr (t : T) : F → F
 | .nil => .one t
 | .one u => .deep [u] .nil [t]
 | .deep l m r => if r.length < 4 then .deep l m (r ++ [t]) else .deep l (pr (grp (r.take 3)) m) [r.getLastD t, t]
theorem four {ts : List T} (h : ts.length = 4) : ∃ a b c d, ts = [a, b, c, d] := by
 match ts, h with
 | [a, b, c, d], _ => exact ⟨a, b, c, d, rfl⟩
theorem pl_l : ∀ (v : F) (t : T) (k : Nat), v.ok k → (pl t v).l = t.l ++ v.l
 | .nil, t, k, _ => by simp [pl, F.l]
 | .one u, t, k, _ => by simp [pl, F.l, ls]
 | .deep l m r, t, k, h => by
  unfold pl
  split
  ·simp [F.l, ls_cons]
  ·have h4 : l.length = 4 := by have := h.1.2.1; omega
   obtain ⟨a, b, c, d, rfl⟩ := four h4
   simp only [F.l, List.headD_cons, List.tail_cons]
   rw [pl_l m _ (k + 1) h.2.2, grp_l (.inr rfl)]
   simp [ls]
theorem pl_ok : ∀ (v : F) (t : T) (k : Nat), v.ok k → t.dep k → (pl t v).ok k
 | .nil, t, k, _, ht => ht
 | .one u, t, k, hu, ht => ⟨⟨by simp, by simp, by simpa using ht⟩, ⟨by simp, by simp, by intro x hx; simp at hx; subst hx; exact hu⟩, trivial⟩
 | .deep l m r, t, k, h, ht => by
  unfold pl
  split
  case isTrue hl => exact ⟨⟨by simp, by simp; omega, by intro x hx; rcases List.mem_cons.1 hx with rfl | hx; exact ht; exact h.1.2.2 x hx⟩, h.2.1, h.2.2⟩
  case isFalse hl =>
   have h4 : l.length = 4 := by have := h.1.2.1; omega
   obtain ⟨a, b, c, d, rfl⟩ := four h4
   have hd := h.1.2.2
   refine ⟨⟨by simp, by simp, ?_⟩, h.2.1, pl_ok m _ (k + 1) h.2.2 (grp_dep (.inr rfl) fun x hx => hd x (List.mem_cons_of_mem _ hx))⟩
   intro x hx; simp at hx; rcases hx with rfl | rfl; exact ht; exact hd _ (by simp)
theorem pr_l : ∀ (v : F) (t : T) (k : Nat), v.ok k → (pr t v).l = v.l ++ t.l
 | .nil, t, k, _ => by simp [pr, F.l]
 | .one u, t, k, _ => by simp [pr, F.l, ls]
 | .deep l m r, t, k, h => by
  unfold pr
  split
  ·simp [F.l, ls_append, ls_one]
  ·have h4 : r.length = 4 := by have := h.2.1.2.1; omega
   obtain ⟨a, b, c, d, rfl⟩ := four h4
   simp only [F.l]
   rw [pr_l m _ (k + 1) h.2.2, grp_l (.inr rfl)]
   simp [ls]
theorem pr_ok : ∀ (v : F) (t : T) (k : Nat), v.ok k → t.dep k → (pr t v).ok k
 | .nil, t, k, _, ht => ht
 | .one u, t, k, hu, ht => ⟨⟨by simp, by simp, by intro x hx; simp at hx; subst hx; exact hu⟩, ⟨by simp, by simp, by simpa using ht⟩, trivial⟩
 | .deep l m r, t, k, h, ht => by
  unfold pr
  split
  case isTrue hl => exact ⟨h.1, ⟨by simp, by simp; omega, by intro x hx; rcases List.mem_append.1 hx with hx | hx; exact h.2.1.2.2 x hx; simp at hx; subst hx; exact ht⟩, h.2.2⟩
  case isFalse hl =>
   have h4 : r.length = 4 := by have := h.2.1.2.1; omega
   obtain ⟨a, b, c, d, rfl⟩ := four h4
   have hd := h.2.1.2.2
   refine ⟨h.1, ⟨by simp, by simp, ?_⟩, pr_ok m _ (k + 1) h.2.2 (grp_dep (.inr rfl) fun x hx => hd x (by simp at hx ⊢; rcases hx with h | h | h <;> simp [h]))⟩
   intro x hx; simp at hx; rcases hx with rfl | rfl; exact hd _ (by simp); exact ht
/-- some things as a level -/
def prs : F → List T → F
 | v, [] => v
 | v, t :: ts => prs (pr t v) ts
def pls : List T → F → F
 | [], v => v
 | t :: ts, v => pl t (pls ts v)
theorem prs_l : ∀ (ts : List T) (v : F) (k : Nat), v.ok k → (∀ t ∈ ts, t.dep k) → (prs v ts).l = v.l ++ ls ts ∧ (prs v ts).ok k
 | [], v, k, h, _ => ⟨by simp [prs, ls], h⟩
 | t :: ts, v, k, h, hd => by
  have ht := hd t (by simp)
  obtain ⟨e1, e2⟩ := prs_l ts (pr t v) k (pr_ok v t k h ht) fun x hx => hd x (by simp [hx])
  exact ⟨by rw [prs, e1, pr_l v t k h, ls_cons, List.append_assoc], e2⟩
theorem pls_l : ∀ (ts : List T) (v : F) (k : Nat), v.ok k → (∀ t ∈ ts, t.dep k) → (pls ts v).l = ls ts ++ v.l ∧ (pls ts v).ok k
 | [], v, k, h, _ => ⟨by simp [pls, ls], h⟩
 | t :: ts, v, k, h, hd => by
  have ht := hd t (by simp)
  obtain ⟨e1, e2⟩ := pls_l ts v k h fun x hx => hd x (by simp [hx])
  exact ⟨by rw [pls, pl_l _ t k e2, e1, ls_cons, List.append_assoc], pl_ok _ t k e2 ht⟩
/-- taken on the left, on the right -/
def popL : F → T × F
 | .nil => (.num 0, .nil)
 | .one t => (t, .nil)
 | .deep l m r => (l.headD (.num 0), if l.tail = [] then (match m with | .nil => prs .nil r | .one u => .deep u.kids .nil r | .deep a b c => .deep (popL (.deep a b c)).1.kids (popL (.deep a b c)).2 r) else .deep l.tail m r)
def popR : F → T × F
 | .nil => (.num 0, .nil)
 | .one t => (t, .nil)
 | .deep l m r => (r.getLastD (.num 0), if r.dropLast = [] then (match m with | .nil => prs .nil l | .one u => .deep l .nil u.kids | .deep a b c => .deep l (popR (.deep a b c)).2 (popR (.deep a b c)).1.kids) else .deep l m r.dropLast)
def dL (l : List T) (m : F) (r : List T) : F := if l = [] then (match m with | .nil => prs .nil r | m => .deep (popL m).1.kids (popL m).2 r) else .deep l m r
def dR (l : List T) (m : F) (r : List T) : F := if r = [] then (match m with | .nil => prs .nil l | m => .deep l (popR m).2 (popR m).1.kids) else .deep l m r
theorem popL_deep (l : List T) (m : F) (r : List T) : popL (.deep l m r) = (l.headD (.num 0), dL l.tail m r) := by
 unfold dL
 cases m with
 | nil => rw [popL.eq_def]
 | one u =>
  have e : popL (.one u) = (u, .nil) := rfl
  rw [popL.eq_def]; simp only [e]
 | deep a b c => rw [popL.eq_def]
theorem popR_deep (l : List T) (m : F) (r : List T) : popR (.deep l m r) = (r.getLastD (.num 0), dR l m r.dropLast) := by
 unfold dR
 cases m with
 | nil => rw [popR.eq_def]
 | one u =>
  have e : popR (.one u) = (u, .nil) := rfl
  rw [popR.eq_def]; simp only [e]
 | deep a b c => rw [popR.eq_def]
/-- digits that may be of nothing -/
def D0 (ts : List T) (k : Nat) : Prop := ts.length ≤ 4 ∧ ∀ t ∈ ts, t.dep k
theorem D.zero {ts : List T} {k : Nat} (h : D ts k) : D0 ts k := ⟨h.2.1, h.2.2⟩
theorem D0.one {ts : List T} {k : Nat} (h : D0 ts k) (hn : ts ≠ []) : D ts k := ⟨by cases ts with | nil => exact absurd rfl hn | cons _ _ => simp, h.1, h.2⟩
theorem kids_D {t : T} {k : Nat} (h : t.dep (k + 1)) : D t.kids k := by
 obtain ⟨h1, _, h3⟩ := dep_kids h
 exact ⟨by rcases h1 with h | h <;> omega, by rcases h1 with h | h <;> omega, h3⟩
def PopOk (v : F) (k : Nat) : Prop := (popL v).1.dep k ∧ (popL v).2.ok k ∧ (popL v).1.l ++ (popL v).2.l = v.l
def PopOkR (v : F) (k : Nat) : Prop := (popR v).1.dep k ∧ (popR v).2.ok k ∧ (popR v).2.l ++ (popR v).1.l = v.l
theorem dL_of {l : List T} {m : F} {r : List T} {k : Nat} (hl : D0 l k) (hm : m.ok (k + 1)) (hr : D r k) (hp : m ≠ .nil → PopOk m (k + 1)) : (dL l m r).ok k ∧ (dL l m r).l = ls l ++ (m.l ++ ls r) := by
 unfold dL
 split
 case isTrue h =>
  subst h
  cases m with
  | nil => obtain ⟨e1, e2⟩ := prs_l r .nil k trivial hr.2.2; exact ⟨e2, by simp only [e1]; simp [F.l, ls]⟩
  | one u =>
   have := hp (by intro e; cases e)
   exact ⟨⟨kids_D this.1, hr, this.2.1⟩, by show ls _ ++ _ = _; rw [(dep_kids this.1).2.1, ← List.append_assoc, this.2.2]; simp [F.l, ls]⟩
  | deep a b c =>
   have := hp (by intro e; cases e)
   exact ⟨⟨kids_D this.1, hr, this.2.1⟩, by show ls _ ++ _ = _; rw [(dep_kids this.1).2.1, ← List.append_assoc, this.2.2]; simp [ls]⟩
 case isFalse h => exact ⟨⟨hl.one h, hr, hm⟩, rfl⟩
theorem dR_of {l : List T} {m : F} {r : List T} {k : Nat} (hl : D l k) (hm : m.ok (k + 1)) (hr : D0 r k) (hp : m ≠ .nil → PopOkR m (k + 1)) : (dR l m r).ok k ∧ (dR l m r).l = ls l ++ (m.l ++ ls r) := by
 unfold dR
 split
 case isTrue h =>
  subst h
  cases m with
  | nil => obtain ⟨e1, e2⟩ := prs_l l .nil k trivial hl.2.2; exact ⟨e2, by simp only [e1]; simp [F.l, ls]⟩
  | one u =>
   have := hp (by intro e; cases e)
   exact ⟨⟨hl, kids_D this.1, this.2.1⟩, by show ls _ ++ (_ ++ ls _) = _; rw [(dep_kids this.1).2.1, this.2.2]; simp [F.l, ls]⟩
  | deep a b c =>
   have := hp (by intro e; cases e)
   exact ⟨⟨hl, kids_D this.1, this.2.1⟩, by show ls _ ++ (_ ++ ls _) = _; rw [(dep_kids this.1).2.1, this.2.2]; simp [ls]⟩
 case isFalse h => exact ⟨⟨hl, hr.one h, hm⟩, rfl⟩
theorem tail_D0 {t : T} {l : List T} {k : Nat} (h : D (t :: l) k) : D0 l k := ⟨by have := h.2.1; simp at this; omega, fun x hx => h.2.2 x (by simp [hx])⟩
theorem snoc_D0 {t : T} {l : List T} {k : Nat} (h : D (l ++ [t]) k) : D0 l k := ⟨by have := h.2.1; simp at this; omega, fun x hx => h.2.2 x (by simp [hx])⟩
theorem pop_ok : ∀ (v : F) (k : Nat), v.ok k → v ≠ .nil → PopOk v k
 | .nil, _, _, h => absurd rfl h
 | .one t, k, h, _ => ⟨h, trivial, by simp [popL, F.l]⟩
 | .deep l m r, k, h, _ => by
  have hp := pop_ok m (k + 1) h.2.2
  cases l with
  | nil => exact absurd rfl h.1.ne
  | cons t l =>
   obtain ⟨e1, e2⟩ := dL_of (tail_D0 h.1) h.2.2 h.2.1 hp
   unfold PopOk
   rw [popL_deep]
   exact ⟨h.1.2.2 t (by simp), e1, by simp only [List.headD_cons, List.tail_cons, e2, F.l, ls_cons, List.append_assoc]⟩
theorem popr_ok : ∀ (v : F) (k : Nat), v.ok k → v ≠ .nil → PopOkR v k
 | .nil, _, _, h => absurd rfl h
 | .one t, k, h, _ => ⟨h, trivial, by simp [popR, F.l]⟩
 | .deep l m r, k, h, _ => by
  have hp := popr_ok m (k + 1) h.2.2
  rcases List.eq_nil_or_concat r with rfl | ⟨r, t, rfl⟩
  ·exact absurd rfl h.2.1.ne
  ·rw [List.concat_eq_append] at h ⊢
   obtain ⟨e1, e2⟩ := dR_of h.1 h.2.2 (snoc_D0 h.2.1) hp
   unfold PopOkR
   rw [popR_deep]
   simp only [List.dropLast_concat, List.getLastD_concat]
   exact ⟨h.2.1.2.2 t (by simp), e1, by simp only [e2, F.l, ls_append, ls_one, List.append_assoc]⟩
theorem dL_ok {l : List T} {m : F} {r : List T} {k : Nat} (hl : D0 l k) (hm : m.ok (k + 1)) (hr : D r k) : (dL l m r).ok k ∧ (dL l m r).l = ls l ++ (m.l ++ ls r) := dL_of hl hm hr (pop_ok m (k + 1) hm)
theorem dR_ok {l : List T} {m : F} {r : List T} {k : Nat} (hl : D l k) (hm : m.ok (k + 1)) (hr : D0 r k) : (dR l m r).ok k ∧ (dR l m r).l = ls l ++ (m.l ++ ls r) := dR_of hl hm hr (popr_ok m (k + 1) hm)
/-- groups of two or three -/
def twos : List T → List T
 | a :: b :: l => .n2 a b :: twos l
 | _ => []
def groups (l : List T) : List T :=
 match l with
 | a :: b :: c :: r => if l.length > 4 ∨ l.length = 3 then .n3 a b c :: groups r else twos l
 | l => twos l
 termination_by l.length
theorem groups_step {a b c : T} {r : List T} (h : r.length + 3 > 4 ∨ r.length + 3 = 3) : groups (a :: b :: c :: r) = .n3 a b c :: groups r := by
 rw [groups]; rw [if_pos (by simpa using h)]
theorem groups_end {l : List T} (h : ¬ (l.length > 4 ∨ l.length = 3)) : groups l = twos l := by
 match l with
 | [] => rw [groups]; intros; contradiction
 | [a] => rw [groups]; intro _ _ _ _ e; simp at e
 | [a, b] => rw [groups]; intro _ _ _ _ e; simp at e
 | a :: b :: c :: r => rw [groups, if_neg h]
theorem groups_ok : ∀ (n : Nat) (l : List T) (k : Nat), l.length = n → n ≠ 1 → (∀ t ∈ l, t.dep k) → ls (groups l) = ls l ∧ (∀ t ∈ groups l, t.dep (k + 1)) ∧ 3 * (groups l).length ≤ n + 2 := by
 intro n
 induction n using Nat.strongRecOn with
 | ind n ih =>
  intro l k hl hn hd
  by_cases h : l.length > 4 ∨ l.length = 3
  ·match l, hl, hd, h with
   | a :: b :: c :: r, hl, hd, h =>
    simp only [List.length_cons] at h hl
    obtain ⟨e1, e2, e3⟩ := ih r.length (by omega) r k rfl (by omega) fun t ht => hd t (by simp [ht])
    rw [groups_step (by omega)]
    refine ⟨?_, ?_, by simp; omega⟩
    ·rw [ls_cons, e1]; simp [T.l, ls]
    ·intro t ht
     rcases List.mem_cons.1 ht with rfl | ht
     ·exact ⟨hd a (by simp), hd b (by simp), hd c (by simp)⟩
     ·exact e2 t ht
  ·rw [groups_end h]
   match l, hl, hd, h with
   | [], hl, hd, h => exact ⟨rfl, by simp [twos], by simp [twos]⟩
   | [a], hl, hd, h => exact absurd hl.symm hn
   | [a, b], hl, hd, h => exact ⟨by simp [twos, T.l, ls], by intro t ht; simp [twos] at ht; subst ht; exact ⟨hd a (by simp), hd b (by simp)⟩, by simp [twos]; simp at hl; omega⟩
   | [a, b, c], hl, hd, h => exact absurd (.inr rfl) h
   | [a, b, c, d], hl, hd, h => exact ⟨by simp [twos, T.l, ls], by intro t ht; simp [twos] at ht; rcases ht with rfl | rfl; exact ⟨hd a (by simp), hd b (by simp)⟩; exact ⟨hd c (by simp), hd d (by simp)⟩, by simp [twos]; simp at hl; omega⟩
   | a :: b :: c :: d :: e :: r, hl, hd, h => exact absurd (.inl (by simp)) h
/-- joined, some things between -/
def jn : F → List T → F → F
 | .nil, ts, b => pls ts b
 | .one u, ts, b => pls (u :: ts) b
 | .deep l m r, ts, .nil => prs (.deep l m r) ts
 | .deep l m r, ts, .one u => prs (.deep l m r) (ts ++ [u])
 | .deep l m r, ts, .deep l' m' r' => .deep l (jn m (groups (r ++ (ts ++ l'))) m') r'
theorem jn_ok : ∀ (a : F) (ts : List T) (b : F) (k : Nat), a.ok k → b.ok k → (∀ t ∈ ts, t.dep k) → (jn a ts b).ok k ∧ (jn a ts b).l = a.l ++ (ls ts ++ b.l)
 | .nil, ts, b, k, _, hb, hd => by obtain ⟨e1, e2⟩ := pls_l ts b k hb hd; exact ⟨e2, e1⟩
 | .one u, ts, b, k, hu, hb, hd => by
  obtain ⟨e1, e2⟩ := pls_l (u :: ts) b k hb (by intro x hx; rcases List.mem_cons.1 hx with rfl | hx; exact hu; exact hd x hx)
  exact ⟨e2, by rw [jn, e1, ls_cons, List.append_assoc]; rfl⟩
 | .deep l m r, ts, .nil, k, ha, _, hd => by obtain ⟨e1, e2⟩ := prs_l ts _ k ha hd; exact ⟨e2, by rw [jn, e1]; simp [F.l]⟩
 | .deep l m r, ts, .one u, k, ha, hu, hd => by
  obtain ⟨e1, e2⟩ := prs_l (ts ++ [u]) _ k ha (by intro x hx; rcases List.mem_append.1 hx with hx | hx; exact hd x hx; simp at hx; subst hx; exact hu)
  exact ⟨e2, by rw [jn, e1, ls_append, ls_one]; rfl⟩
 | .deep l m r, ts, .deep l' m' r', k, ha, hb, hd => by
  have hdd : ∀ t ∈ r ++ (ts ++ l'), t.dep k := by
   intro t ht
   rcases List.mem_append.1 ht with ht | ht
   ·exact ha.2.1.2.2 t ht
   ·rcases List.mem_append.1 ht with ht | ht
    ·exact hd t ht
    ·exact hb.1.2.2 t ht
  obtain ⟨g1, g2, _⟩ := groups_ok _ (r ++ (ts ++ l')) k rfl (by have := ha.2.1.1; have := hb.1.1; simp; omega) hdd
  obtain ⟨e1, e2⟩ := jn_ok m (groups (r ++ (ts ++ l'))) m' (k + 1) ha.2.2 hb.2.2 g2
  refine ⟨⟨ha.1, hb.2.1, e1⟩, ?_⟩
  show ls l ++ ((jn m _ m').l ++ ls r') = _
  rw [e2, g1, ls_append, ls_append]
  simp [F.l, List.append_assoc]
end Go.Fing
namespace Go.Many
open Go Go.Tw
inductive B (α : Type) : Type
 | nil : B α
 | node (l : B α) (v : α) (r : B α) : B α
def B.l {α : Type} : B α → List α
 | .nil => []
 | .node l v r => l.l ++ v :: r.l
theorem l_nil {α : Type} {t : B α} (h : t.l = []) : t = .nil := by
 cases t with
 | nil => rfl
 | node l v r => simp [B.l] at h
/-- an item, a span -/
structure It where
 rank : Int
 val : Int
structure Spn where
 lo : Int
 hi : Int
 val : Int
structure S2 where
 any : Bool
 x : Int
structure S3 where
 any : Bool
 lo : Int
 hi : Int
/-- the greatest -/
def mxf {α : Type} (f : α → Int) : List α → Int
 | [] => 0
 | [x] => f x
 | x :: y :: l => max (f x) (mxf f (y :: l))
def lastS (l : List Int) : S2 := ⟨!l.isEmpty, l.getLastD 0⟩
def topS (l : List It) : S2 := ⟨!l.isEmpty, mxf It.rank l⟩
def lastLo (l : List Spn) : Int := (l.getLast?.map Spn.lo).getD 0
def reachS (l : List Spn) : S3 := ⟨!l.isEmpty, lastLo l, mxf Spn.hi l⟩
end Go.Many
namespace Go.Proofs.YthkimbiknhebeaaGreatDoor
open Go Go.RowKit Go.Tw
/-- a row of cells is there -/
def IsC (h : Heap) (b : Nat) : Prop := ∃ o, h[b]? = some o ∧ notCells o = false
theorem IsC.lt {h : Heap} {b : Nat} (H : IsC h b) : b < h.size := by obtain ⟨o, h1, _⟩ := H; exact (Array.getElem?_eq_some_iff.1 h1).1
theorem isC_blk {h : Heap} {b : Nat} {cs : List Value} (B : Blk h b cs) : IsC h b := by obtain ⟨el, B⟩ := B; exact ⟨_, B, rfl⟩
theorem isC_cell {h : Heap} {b o : Nat} {v : Value} (H : hcell h (ad b o) = some v) : IsC h b := by
 unfold hcell at H
 have hb : (ad b o).block = b := rfl
 rw [hb] at H
 cases ho : h[b]? with
 | none => rw [ho] at H; cases H
 | some o' =>
  refine ⟨o', ho, ?_⟩
  cases o' with
  | cells => rfl
  | _ => rw [ho] at H; cases H
/-- rows of cells of A stay, and are of A' -/
def To (A A' : Nat → Prop) (h h' : Heap) : Prop := h.size ≤ h'.size ∧ ∀ b, A b → IsC h b → h'[b]? = h[b]? ∧ A' b
section
variable {A A' A'' : Nat → Prop} {h h' h'' : Heap}
theorem To.blk {b : Nat} {cs : List Value} (S : To A A' h h') (hA : A b) (B : Blk h b cs) : Blk h' b cs := B.of_eq (S.2 b hA (isC_blk B)).1
theorem To.weak (hw : ∀ b, A b → A' b) (h : Heap) : To A A' h h := ⟨Nat.le_refl _, fun b hb _ => ⟨rfl, hw b hb⟩⟩
theorem To.old (E : Fw h h') (hw : ∀ b, A b → b < h.size → A' b) : To A A' h h' := ⟨E.1, fun b hb hl => ⟨E.2 b hl.lt, hw b hb hl.lt⟩⟩
theorem To.fw (E : Fw h h') : To A A h h' := To.old E fun _ hb _ => hb
theorem To.trans (S : To A A' h h') (S' : To A' A'' h' h'') : To A A'' h h'' := ⟨Nat.le_trans S.1 S'.1, fun b hb hc => by
 obtain ⟨e1, a1⟩ := S.2 b hb hc
 obtain ⟨o, ho, hn⟩ := hc
 obtain ⟨e2, a2⟩ := S'.2 b a1 ⟨o, by rw [e1]; exact ho, hn⟩
 exact ⟨e2.trans e1, a2⟩⟩
theorem To.hput {c : Nat} {o o' : Obj} (hc : h[c]? = some o) (hn : notCells o = true) : To A A h (Tw.hput h c o') := ⟨by rw [hput_size]; exact Nat.le_refl _, fun b hb hi => ⟨hput_other (fun e => by
 subst e
 obtain ⟨o2, h1, h2⟩ := hi
 rw [hc] at h1; cases h1
 rw [hn] at h2; cases h2), hb⟩⟩
theorem To.over {c : Nat} (hc : ¬ A c) (ho : ∀ d, d ≠ c → h'[d]? = h[d]?) (hz : h'.size = h.size) : To A A h h' := ⟨by rw [hz]; exact Nat.le_refl _, fun b hb _ => ⟨ho b fun e => hc (e ▸ hb), hb⟩⟩
/-- beside a place that is written -/
abbrev Bs (A : Nat → Prop) (c : Nat) : Nat → Prop := fun b => A b ∧ b ≠ c
theorem bs_new {c : Nat} (hA : ∀ b, h.size ≤ b → A b) (hc : c < h'.size) (E : Fw h h') : ∀ b, h'.size ≤ b → Bs A c b := fun b hb => ⟨hA b (Nat.le_trans E.1 hb), by omega⟩
end
end Go.Proofs.YthkimbiknhebeaaGreatDoor
namespace Go.Proofs.YthkimbiknhebeaaGreatDoor
open Go Go.RowKit Go.Tw
section
variable {P : Program} {ρ : Operand → Value} {dst : Option Tmp} {ty : TypeId} {pos : String} {af : Array Edge} {gd : Option (Nat × Bool)} {r : World} {h : Heap} {dr : Nat}
end
end Go.Proofs.YthkimbiknhebeaaGreatDoor
namespace Go.Tw
open Go Go.RowKit
set_option linter.unusedVariables false
theorem hcell_hset {h : Heap} {a p : Addr} {v x : Value} (H : hcell (hset h a v) p = some x) : x = v ∨ hcell h p = some x := by
 unfold hcell hset at H
 rw [Array.getElem?_modify] at H
 by_cases e : a.block = p.block
 ·rw [if_pos e] at H
  unfold hcell
  cases ho : h[p.block]? with
  | none => rw [ho] at H; cases H
  | some o =>
   rw [ho] at H
   cases o with
   | cells c el fz =>
    simp only [Option.map_some] at H ⊢
    by_cases e3 : p.spot.isSome = true
    ·rw [if_pos e3] at H; cases H
    rw [if_neg e3] at H ⊢
    by_cases e4 : a.spot.isSome = true
    ·rw [if_pos e4] at H; exact .inr H
    rw [if_neg e4, Array.getElem?_setIfInBounds] at H
    by_cases e2 : a.off = p.off
    ·rw [if_pos e2] at H
     split at H
     ·cases H; exact .inl rfl
     ·cases H
    ·rw [if_neg e2] at H; exact .inr H
   | _ => cases H
 ·rw [if_neg e] at H; exact .inr H
theorem hcell_hsets {p : Addr} {x : Value} : ∀ (vs : List Value) (h : Heap) (a : Addr) (i : Nat), hcell (hsets h a i vs) p = some x → x ∈ vs ∨ hcell h p = some x
 | [], h, a, i, H => .inr H
 | v :: vs, h, a, i, H => by
  rcases hcell_hsets vs _ a (i + 1) H with h1 | h1
  ·exact .inl (List.mem_cons_of_mem _ h1)
  ·rcases hcell_hset h1 with h2 | h2
   ·subst h2; exact .inl (by simp)
   ·exact .inr h2
theorem cellsAt_mem {h : Heap} {b : Addr} : ∀ (vs : List Value) (i : Nat), CellsAt h b i vs → ∀ v ∈ vs, ∃ j, hcell h (Addr.add b j) = some v
 | [], i, _, v, hv => by cases hv
 | w :: vs, i, ⟨h1, h2⟩, v, hv => by
  rcases List.mem_cons.1 hv with rfl | hv
  ·exact ⟨i, h1⟩
  ·exact cellsAt_mem vs (i + 1) h2 v hv
/-- every cell of the slice's block is such -/
def AllC (Pv : Value → Prop) (h : Heap) (s : Sl) : Prop := ∀ b, s.a = some b → ∃ c, b = ad c 0 ∧ ∀ o v, hcell h (ad c o) = some v → Pv v
theorem AllC.holds {Pv : Value → Prop} {h : Heap} {s : Sl} {vs : List Value} (A : AllC Pv h s) (H : Holds h s.a vs) : ∀ v ∈ vs, Pv v := by
 intro v hv
 rcases H with rfl | ⟨b, hb, hc⟩
 ·cases hv
 ·obtain ⟨c, rfl, hP⟩ := A b hb
  obtain ⟨j, hj⟩ := cellsAt_mem vs 0 hc v hv
  rw [ad_add] at hj
  exact hP _ _ hj
theorem App.cells {el sz by' : Nat} {z : Value} {s x : Sl} {h : Heap} {K : Sl → Heap → Prop} {Pv : Value → Prop} (H : App el sz by' z s x h K) (hs : AllC Pv h s) (hx : AllC Pv h x) (hz : ∀ v ∈ z.cells.toList, Pv v) : App el sz by' z s x h fun s' h' => K s' h' ∧ AllC Pv h' s' := by
 obtain ⟨news, n1, n2, n3, n4⟩ := H
 have hn := hx.holds n2
 refine ⟨news, n1, n2, n3, ?_⟩
 rcases n4 with ⟨hc, hK⟩ | ⟨hc, hb, olds, o1, o2, hK⟩
 ·refine .inl ⟨hc, ?_⟩
  cases hsa : s.a with
  | none =>
   rw [hsa] at hK
   exact ⟨hK, fun b hb => by cases hb⟩
  | some b =>
   rw [hsa] at hK
   refine ⟨hK.1, hK.2, fun b' hb' => ?_⟩
   cases hb'
   obtain ⟨c, e, hP⟩ := hs b hsa
   refine ⟨c, e, fun o v hv => ?_⟩
   rcases hcell_hsets _ _ _ _ hv with h1 | h1
   ·exact hn v h1
   ·exact hP o v h1
 ·refine .inr ⟨hc, hb, olds, o1, o2, fun cap h1 h2 => ⟨hK cap h1 h2, fun b hb => ?_⟩⟩
  cases hb
  refine ⟨h.size, rfl, fun o v hv => ?_⟩
  have ho := hs.holds o2
  unfold hcell at hv
  simp only [Array.getElem?_push_size] at hv
  have hm := Array.mem_of_getElem? hv
  rcases Array.mem_append.1 hm with q | q
  ·have q : v ∈ olds ++ news := by simpa using q
   rcases List.mem_append.1 q with q | q
   ·exact ho v q
   ·exact hn v q
  ·exact hz v (by
    unfold Builtin.zeroCells at q
    simp at q
    obtain ⟨a, h3, rfl⟩ := q
    have hs : 0 < z.cells.size := by
     apply Nat.pos_of_ne_zero
     intro e
     rw [e] at h3; omega
    rw [getElem!_pos z.cells _ (Nat.mod_lt _ hs)]
    simp)
theorem App.imp {el sz by' : Nat} {z : Value} {s x : Sl} {h : Heap} {K K' : Sl → Heap → Prop} (H : App el sz by' z s x h K) (hK : ∀ s' h', K s' h' → K' s' h') : App el sz by' z s x h K' := by
 obtain ⟨news, n1, n2, n3, n4⟩ := H
 refine ⟨news, n1, n2, n3, ?_⟩
 rcases n4 with ⟨hc, h1⟩ | ⟨hc, hb, olds, o1, o2, h1⟩
 ·refine .inl ⟨hc, ?_⟩
  cases hsa : s.a with
  | none => rw [hsa] at h1; exact hK _ _ h1
  | some b => rw [hsa] at h1; exact ⟨h1.1, hK _ _ h1.2⟩
 ·exact .inr ⟨hc, hb, olds, o1, o2, fun cap a b => hK _ _ (h1 cap a b)⟩
theorem AllC.keep {Pv : Value → Prop} {h h' : Heap} {s : Sl} (A : AllC Pv h s) (hk : ∀ p, s.a = some p → h'[p.block]? = h[p.block]?) : AllC Pv h' s := fun b hb => by
 obtain ⟨c, e, hP⟩ := A b hb
 have hk := hk b hb
 subst e
 exact ⟨c, rfl, fun o v hv => hP o v (by rwa [hcell_of_eq (h := h) (h' := h') (p := ad c o) hk] at hv)⟩
/-- not a whole number -/
def notI (v : Value) : Prop := ∀ x, v ≠ iV x
/-- numbers that are read stay, where blocks are written that hold none -/
theorem RI.miss {n c : Nat} {h h' : Heap} {s : Sl} {l : List Int} (S : RI n h s l) (hn : n ≤ h.size) (hc : ∀ o v, hcell h (ad c o) = some v → notI v) (ho : ∀ b, b < h.size → b ≠ c → h'[b]? = h[b]?) : RI n h' s l := by
 refine ⟨Rs.len S, S.cap, ?_⟩
 rcases S.at_ with e | ⟨b, o, e1, e2, e3⟩
 ·exact .inl e
 ·by_cases hl : l = []
  ·subst hl; exact .inl rfl
  ·have hlen : 0 < l.length := List.length_pos_iff.2 hl
   have hne : b ≠ c := fun e => by
    subst e
    have h0 := e3 0 (by simpa using hlen)
    rw [List.getElem?_map, List.getElem?_eq_getElem hlen] at h0
    exact hc _ _ h0 _ rfl
   exact .inr ⟨b, o, e1, e2, fun i hi => by rw [hcell_of_eq (ho b (by omega) hne)]; exact e3 i hi⟩
end Go.Tw
