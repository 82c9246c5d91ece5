/- The typed layer: new blocks, one by one. -/
import Derived.Test.YtcafckgflpmfgaaDoorTwUse
namespace Go.Tw
open Go Go.RowKit
set_option linter.unusedVariables false

/-- all that was there is as it was -/
abbrev Fw (h h' : Heap) : Prop := Ext h.size h h'
section
variable {h h1 h2 h' : Heap} {b c n : Nat} {cs ys : List Value}
theorem Fw.refl (h : Heap) : Fw h h := Ext.refl _ _
theorem Fw.trans (A : Fw h h1) (B : Fw h1 h2) : Fw h h2 := Ext.trans A (B.mono A.1)
theorem Fw.trans' (A : Fw h h1) (B : Ext h.size h1 h2) : Fw h h2 := Ext.trans A B
theorem Fw.blk (A : Fw h h1) (B : Blk h b cs) : Blk h1 b cs := Ext.blk A B B.lt
theorem Fw.at_ {o : Obj} (A : Fw h h1) (hb : h[b]? = some o) : h1[b]? = some o := by rw [A.2 b (Array.getElem?_eq_some_iff.1 hb).1]; exact hb
/-- a block that is new changes, too -/
theorem Fw.over (A : Fw h h1) (hc : h.size ≤ c) (ho : ∀ d, d ≠ c → h2[d]? = h1[d]?) (hz : h2.size = h1.size) : Fw h h2 :=
  ⟨by rw [hz]; exact A.1, fun d hd => (ho d (by omega)).trans (A.2 d hd)⟩
theorem Fw.hput {o : Obj} (A : Fw h h1) (hc : h.size ≤ c) : Fw h (hput h1 c o) := Ext.trans A (Ext.hput hc)

theorem New.cells {el : TypeId} {K : Addr → Heap → Prop} (H : ∀ h', Fw h h' → h'.size = h.size + 1 → Blk h' h.size cs → K (ad h.size 0) h') : New h (.cells cs.toArray el) K := fun p h' hp hh => by
  subst hp; subst hh
  exact H _ (Ext.push (Nat.le_refl _)) (by simp) Blk.new
theorem St.whole {K : Heap → Prop} (B : Blk h c cs) (hl : cs.length = n) (hn : ys.length = n) (hK : ∀ h', Blk h' c ys → (∀ d, d ≠ c → h'[d]? = h[d]?) → h'.size = h.size → K h') : St h (ad c 0) n ys K := by
  refine ⟨B.stok (by omega), fun h' e => ?_⟩
  subst e
  refine hK _ ?_ (fun d hd => hsets_other _ _ _ _ (show c ≠ d from fun e => hd e.symm)) (hsets_size _ _ _ _)
  have := Blk.sets (o := 0) ys h 0 cs B (by omega)
  have e : splice cs (0 + 0) ys = ys := by
    unfold splice
    rw [List.drop_of_length_le (by omega)]; simp
  rwa [e] at this
theorem Blk.ld2 (B : Blk h b cs) (i j : Nat) {v : Value} (hv : cs[i + j]? = some v) : hcell h (Addr.add (Addr.add (ad b 0) i) j) = some v := by
  rw [ad_add, ad_add, Nat.zero_add, B.cell, hv]
theorem Blk.uniq (A : Blk h b cs) (B : Blk h b ys) : cs = ys := by
  obtain ⟨e, A⟩ := A
  obtain ⟨f, B⟩ := B
  rw [A] at B
  simp at B
  exact B.1
theorem Blk.ne (A : Blk h b cs) (B : Blk h c ys) (hn : cs ≠ ys) : b ≠ c := fun e => hn (by subst e; exact A.uniq B)
theorem Blk.not {o : Obj} (A : Blk h b cs) (hc : h[c]? = some o) (hn : notCells o = true) : b ≠ c := fun e => by
  subst e
  obtain ⟨el, A⟩ := A
  rw [A] at hc; cases hc; cases hn
theorem Blk.hput {o o' : Obj} (A : Blk h b cs) (hc : h[c]? = some o) (hn : notCells o = true) : Blk (hput h c o') b cs := A.of_eq (hput_other (fun e => A.not hc hn e.symm))
theorem Blk.other (A : Blk h b cs) (ho : ∀ d, d ≠ c → h'[d]? = h[d]?) (hb : b ≠ c) : Blk h' b cs := A.of_eq (ho b hb)
theorem other_at {o : Obj} (ho : ∀ d, d ≠ c → h'[d]? = h[d]?) (hb : h[b]? = some o) (hc : b ≠ c) : h'[b]? = some o := by rw [ho b hc]; exact hb
end
end Go.Tw
