/- The typed layer: blocks of one's own, each apart from the others. -/
import Derived.Test.YtcafckgflpmfgaaDoorTwRow
namespace Go.Tw
open Go Go.RowKit

def Dis (s t : Sl) : Prop := ∀ p q, s.a = some p → t.a = some q → p.block ≠ q.block
theorem Dis.symm {s t : Sl} (H : Dis s t) : Dis t s := fun p q hp hq e => H q p hq hp e.symm
theorem Dis.nil (t : Sl) : Dis Sl.nil t := fun p q hp _ => by cases hp

/-- things of one's own: (cells of an element, slice, its cells) -/
structure Fam (N : Nat) (h : Heap) (F : List (Nat × Sl × List Value)) : Prop where
  own : ∀ x ∈ F, Own N x.1 h x.2.1 x.2.2
  dis : F.Pairwise fun x y => Dis x.2.1 y.2.1

section
variable {N : Nat} {h h' : Heap} {F G : List (Nat × Sl × List Value)} {sz : Nat} {s s' : Sl} {vs ws : List Value}

theorem Fam.none (N : Nat) (h : Heap) : Fam N h [] := ⟨fun _ hx => (by cases hx), List.Pairwise.nil⟩
theorem Fam.ext (A : Fam N h F) (E : Ext h.size h h') : Fam N h' F := ⟨fun x hx => (A.own x hx).ext E, A.dis⟩
theorem Fam.perm (A : Fam N h F) (P : F.Perm G) : Fam N h G := ⟨fun x hx => A.own x (P.mem_iff.2 hx), P.pairwise A.dis fun H => H.symm⟩
theorem Fam.tail {x : Nat × Sl × List Value} (A : Fam N h (x :: F)) : Fam N h F := ⟨fun y hy => A.own y (List.mem_cons_of_mem _ hy), (List.pairwise_cons.1 A.dis).2⟩
theorem Fam.head (A : Fam N h ((sz, s, vs) :: F)) : Own N sz h s vs := A.own _ (List.mem_cons_self ..)
theorem Fam.cons (A : Fam N h F) (O : Own N sz h s vs) (D : ∀ x ∈ F, Dis s x.2.1) : Fam N h ((sz, s, vs) :: F) :=
  ⟨fun x hx => by
    rcases List.mem_cons.1 hx with rfl | hx
    · exact O
    · exact A.own x hx, List.pairwise_cons.2 ⟨D, A.dis⟩⟩
theorem Fam.empty (A : Fam N h F) (sz : Nat) : Fam N h ((sz, Sl.nil, []) :: F) := A.cons (Own.nil _ _ _) fun _ _ => Dis.nil _
/-- a new block -/
theorem Fam.new (A : Fam N h F) (hN : N ≤ h.size) {el : TypeId} {n : Nat} (hn : n * sz = vs.length) : Fam N (h.push (.cells vs.toArray el)) ((sz, ⟨some (ad h.size 0), n, n⟩, vs) :: F) :=
  (A.ext (Ext.push (Nat.le_refl _))).cons ⟨hn, Nat.le_refl _, .inr ⟨h.size, [], rfl, hN, by simpa using Blk.new, by simpa using hn⟩⟩ fun x hx p q hp hq => by
    cases hp
    have := ((A.own x hx).lt hq).1
    show h.size ≠ q.block
    omega
theorem Fam.grown (A : Fam N h ((sz, s, vs) :: F)) (g : Grown N sz h h' s s' ws) : Fam N h' ((sz, s', ws) :: F) := by
  have D := List.pairwise_cons.1 A.dis
  refine Fam.cons ⟨fun x hx => (A.tail.own x hx).keep fun p hp => g.others _ ((A.tail.own x hx).lt hp).1 fun q hq => D.1 x hx q p hq hp, D.2⟩ g.own fun x hx p q hp hq => ?_
  rcases g.blk with e | ⟨b, hb, e⟩
  · exact D.1 x hx p q (e ▸ hp) hq
  · rw [e] at hp; cases hp
    have := ((A.tail.own x hx).lt hq).1
    show b ≠ q.block
    omega
/-- a store -/
theorem Fam.set {b o : Nat} {v : Value} (A : Fam N h ((sz, s, vs) :: F)) (hs : s.a = some (ad b 0)) (ho : o < vs.length) : Fam N (hset h (ad b o) v) ((sz, s, vs.set o v) :: F) := by
  have D := List.pairwise_cons.1 A.dis
  obtain ⟨h1, h2, h3⟩ := A.head
  refine Fam.cons ⟨fun x hx => (A.tail.own x hx).keep fun p hp => hset_other (show b ≠ p.block from D.1 x hx (ad b 0) p hs hp), D.2⟩ ⟨by simpa using h1, h2, ?_⟩ fun x hx => D.1 x hx
  rcases h3 with ⟨e, _⟩ | ⟨b', tl, e, hb, hB, hc⟩
  · rw [e] at hs; cases hs
  · rw [e] at hs; cases hs
    refine .inr ⟨b, tl, e, hb, ?_, by simpa using hc⟩
    have := hB.set (o := o) (v := v)
    rwa [List.set_append_left _ _ ho] at this
theorem Own.blk {b : Nat} (O : Own N sz h s vs) (hs : s.a = some (ad b 0)) : ∃ tl, Blk h b (vs ++ tl) := by
  rcases O.at_ with ⟨e, _⟩ | ⟨b', tl, e, _, hB, _⟩
  · rw [e] at hs; cases hs
  · rw [e] at hs; cases hs; exact ⟨tl, hB⟩
theorem Own.ex (O : Own N sz h s vs) (hv : vs ≠ []) : ∃ b, s.a = some (ad b 0) := by
  rcases O.at_ with ⟨e, e2⟩ | ⟨b', tl, e, _⟩
  · have := O.cap; have := O.len
    exact absurd (List.eq_nil_of_length_eq_zero (by rw [← O.len, show s.len = 0 by omega, Nat.zero_mul])) hv
  · exact ⟨b', e⟩
/-- what a place of it holds -/
theorem Own.cell {b o : Nat} {v : Value} (O : Own N sz h s vs) (hs : s.a = some (ad b 0)) (hv : vs[o]? = some v) : hcell h (ad b o) = some v := by
  obtain ⟨tl, hB⟩ := O.blk hs
  rw [hB.cell, List.getElem?_append_left (List.getElem?_eq_some_iff.1 hv).1, hv]
theorem Own.stok {b o k : Nat} (O : Own N sz h s vs) (hs : s.a = some (ad b 0)) (ho : o + k ≤ vs.length) : StOk h (ad b o) k := by
  obtain ⟨tl, hB⟩ := O.blk hs
  exact hB.stok (by simp; omega)
theorem Own.lt' {b : Nat} (O : Own N sz h s vs) (hs : s.a = some (ad b 0)) : b < h.size ∧ N ≤ b := O.lt hs

/-! ### by their places -/
theorem split_at {α : Type} {F : List α} {j : Nat} {x : α} (hj : F[j]? = some x) : F = F.take j ++ x :: F.drop (j + 1) ∧ ∀ y, F.set j y = F.take j ++ y :: F.drop (j + 1) := by
  obtain ⟨h1, h2⟩ := List.getElem?_eq_some_iff.1 hj
  subst h2
  refine ⟨?_, fun y => ?_⟩
  · rw [List.getElem_cons_drop, List.take_append_drop]
  · rw [List.set_eq_take_append_cons_drop, if_pos h1]
theorem Fam.grownI {j : Nat} (A : Fam N h F) (hj : F[j]? = some (sz, s, vs)) (g : Grown N sz h h' s s' ws) : Fam N h' (F.set j (sz, s', ws)) := by
  obtain ⟨e1, e2⟩ := split_at hj
  rw [e2]
  rw [e1] at A
  exact ((A.perm List.perm_middle).grown g).perm List.perm_middle.symm
theorem Fam.setI {j b o : Nat} {v : Value} (A : Fam N h F) (hj : F[j]? = some (sz, s, vs)) (hs : s.a = some (ad b 0)) (ho : o < vs.length) : Fam N (hset h (ad b o) v) (F.set j (sz, s, vs.set o v)) := by
  obtain ⟨e1, e2⟩ := split_at hj
  rw [e2]
  rw [e1] at A
  exact ((A.perm List.perm_middle).set hs ho).perm List.perm_middle.symm
theorem Fam.ownI {j : Nat} (A : Fam N h F) (hj : F[j]? = some (sz, s, vs)) : Own N sz h s vs := A.own _ (List.mem_of_getElem? hj)

/-- many rows -/
def rowsF {α : Type} (e : α → Value) (ss : List Sl) (P : List (List α)) : List (Nat × Sl × List Value) := List.zipWith (fun s p => (1, s, p.map e)) ss P
theorem rowsF_at {α : Type} {e : α → Value} {ss : List Sl} {P : List (List α)} {k : Nat} {s : Sl} {p : List α} (h1 : ss[k]? = some s) (h2 : P[k]? = some p) : (rowsF e ss P)[k]? = some (1, s, p.map e) := by
  unfold rowsF; rw [List.getElem?_zipWith, h1, h2]
theorem rowsF_set {α : Type} {e : α → Value} : ∀ {ss : List Sl} {P : List (List α)} (k : Nat) (s : Sl) (p : List α), (rowsF e ss P).set k (1, s, p.map e) = rowsF e (ss.set k s) (P.set k p)
  | [], P, k, s, p => by simp [rowsF]
  | s0 :: ss, [], k, s, p => by simp [rowsF]
  | s0 :: ss, p0 :: P, 0, s, p => rfl
  | s0 :: ss, p0 :: P, k + 1, s, p => by
    have := rowsF_set (e := e) (ss := ss) (P := P) k s p
    simpa [rowsF] using this
theorem rowsF_snoc {α : Type} {e : α → Value} {ss : List Sl} {P : List (List α)} {s : Sl} {p : List α} (hl : ss.length = P.length) : rowsF e (ss ++ [s]) (P ++ [p]) = rowsF e ss P ++ [(1, s, p.map e)] := by
  unfold rowsF; rw [List.zipWith_append hl]; rfl
end

/-- []T{} -/
theorem SlF.build0 {P : Program} {ρ : Operand → Value} {dst : Option Tmp} {ty : TypeId} {pos : String} {af : Array Edge} {gd : Option (Nat × Bool)} {r : World} {h : Heap} {dr : Nat} {t el sz by' : Nat} {z : Value} (F : SlF P t el sz by' z) :
    (execOp ρ ⟨dst, .buildSlice t 0 #[], ty, pos, af, gd⟩).run P (wd r h dr) = .ok (.value (.slice (some ⟨h.size, 0, none⟩) 0 0)) (wd r (h.push (.cells #[] el)) dr) := by
  unfold execOp
  have h2 : 0 * sz = 0 := Nat.zero_mul _
  simp only [Instr.buildSlice, Sem.run_bind, run_underlying F.ty, F.size, Result.andThen_ok, h2, if_true, Sem.run_pure]
  simp [Instr.fill, run_newRow]
  have e : ∀ (f : Nat → Value), (Array.range 0).map f = #[] := fun f => by simp [Array.range]
  rw [e]
end Go.Tw
