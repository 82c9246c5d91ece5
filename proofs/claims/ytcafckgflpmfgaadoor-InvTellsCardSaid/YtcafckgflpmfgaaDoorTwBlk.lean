/- The typed layer: blocks of cells, what stays, slices that are read, slices that are grown. -/
import Derived.Test.YtcafckgflpmfgaaDoorTwTy
namespace Go.Tw
open Go Go.RowKit

abbrev ad (b o : Nat) : Addr := ⟨b, o, none⟩
theorem ad_add (b o n : Nat) : Addr.add (ad b o) n = ad b (o + n) := by
  unfold Addr.add
  by_cases h : n = 0 <;> simp [h]

/-- block b has the cells cs; none is frozen -/
def Blk (h : Heap) (b : Nat) (cs : List Value) : Prop := ∃ el, h[b]? = some (.cells cs.toArray el (0, 0))

theorem Blk.lt {h : Heap} {b : Nat} {cs : List Value} (H : Blk h b cs) : b < h.size := by
  obtain ⟨el, H⟩ := H
  exact (Array.getElem?_eq_some_iff.1 H).1
theorem Blk.cell {h : Heap} {b : Nat} {cs : List Value} (H : Blk h b cs) (o : Nat) : hcell h (ad b o) = cs[o]? := by
  obtain ⟨el, H⟩ := H
  unfold hcell
  rw [H]
  simp
theorem Blk.cell' {h : Heap} {b o : Nat} {cs : List Value} {v : Value} (H : Blk h b cs) (hv : cs[o]? = some v) : hcell h (ad b o) = some v := (H.cell o).trans hv
theorem Blk.froz {h : Heap} {b : Nat} {cs : List Value} (H : Blk h b cs) (o : Nat) : hfroz h (ad b o) = false := by
  obtain ⟨el, H⟩ := H
  unfold hfroz
  rw [H]
  simp
theorem Blk.eq {h : Heap} {b : Nat} {cs ds : List Value} (H : Blk h b cs) (G : Blk h b ds) : cs = ds := by
  obtain ⟨el, H⟩ := H; obtain ⟨e2, G⟩ := G
  rw [H] at G
  simp only [Option.some.injEq, Obj.cells.injEq] at G
  simpa using congrArg Array.toList G.1
theorem Blk.of_eq {h h' : Heap} {b : Nat} {cs : List Value} (H : Blk h b cs) (e : h'[b]? = h[b]?) : Blk h' b cs := by
  obtain ⟨el, H⟩ := H; exact ⟨el, e.trans H⟩
theorem push_old {h : Heap} {x : Obj} {b : Nat} (hb : b < h.size) : (h.push x)[b]? = h[b]? := by
  rw [Array.getElem?_push, if_neg (by omega)]
theorem Blk.push {h : Heap} {b : Nat} {cs : List Value} {x : Obj} (H : Blk h b cs) : Blk (h.push x) b cs := H.of_eq (push_old H.lt)
theorem Blk.new {h : Heap} {cs : List Value} {el : TypeId} : Blk (h.push (.cells cs.toArray el)) h.size cs := ⟨el, by simp⟩
theorem Blk.stok {h : Heap} {b o k : Nat} {cs : List Value} (H : Blk h b cs) (hk : o + k ≤ cs.length) : StOk h (ad b o) k := fun j hj => by
  rw [ad_add]
  exact ⟨⟨cs[o + j]'(by omega), by rw [H.cell]; exact List.getElem?_eq_getElem (by omega)⟩, H.froz _⟩

theorem hset_size (h : Heap) (a : Addr) (v : Value) : (hset h a v).size = h.size := by unfold hset; simp
theorem hset_other {h : Heap} {a : Addr} {v : Value} {b : Nat} (hb : a.block ≠ b) : (hset h a v)[b]? = h[b]? := by
  unfold hset; rw [Array.getElem?_modify, if_neg hb]
theorem Blk.set {h : Heap} {b o : Nat} {cs : List Value} {v : Value} (H : Blk h b cs) : Blk (hset h (ad b o) v) b (cs.set o v) := by
  obtain ⟨el, H⟩ := H
  refine ⟨el, ?_⟩
  unfold hset
  rw [Array.getElem?_modify, if_pos rfl, H]
  simp
theorem Blk.set_ne {h : Heap} {a : Addr} {b : Nat} {cs : List Value} {v : Value} (H : Blk h b cs) (hb : a.block ≠ b) : Blk (hset h a v) b cs := H.of_eq (hset_other hb)

/-- ys in the place of as many, from k on -/
def splice (cs : List Value) (k : Nat) (ys : List Value) : List Value := cs.take k ++ ys ++ cs.drop (k + ys.length)
theorem splice_set (cs : List Value) (k : Nat) (v : Value) (ys : List Value) (hk : k < cs.length) : splice (cs.set k v) (k + 1) ys = splice cs k (v :: ys) := by
  unfold splice
  rw [List.take_add_one]
  simp only [List.getElem?_set_self hk, Option.toList_some, List.length_cons]
  rw [List.take_set_of_le (by omega), List.drop_set_of_lt (by omega)]
  simp
  congr 1; omega
theorem hsets_size : ∀ (ys : List Value) (h : Heap) (p : Addr) (i : Nat), (hsets h p i ys).size = h.size
  | [], _, _, _ => rfl
  | v :: ys, h, p, i => by rw [hsets, hsets_size ys, hset_size]
theorem Addr.add_block (p : Addr) (n : Nat) : (p.add n).block = p.block := by unfold Addr.add; split <;> rfl
theorem hsets_other {b : Nat} : ∀ (ys : List Value) (h : Heap) (p : Addr) (i : Nat), p.block ≠ b → (hsets h p i ys)[b]? = h[b]?
  | [], _, _, _, _ => rfl
  | v :: ys, h, p, i, hb => by rw [hsets, hsets_other ys _ _ _ hb, hset_other (by rw [Addr.add_block]; exact hb)]
theorem Blk.sets {b o : Nat} : ∀ (ys : List Value) (h : Heap) (i : Nat) (cs : List Value), Blk h b cs → o + i + ys.length ≤ cs.length → Blk (hsets h (ad b o) i ys) b (splice cs (o + i) ys)
  | [], h, i, cs, H, hl => by simpa [hsets, splice] using H
  | v :: ys, h, i, cs, H, hl => by
    simp only [List.length_cons] at hl
    rw [hsets, ad_add, ← splice_set _ _ _ _ (by omega)]
    have := Blk.sets (o := o) ys (hset h (ad b (o + i)) v) (i + 1) (cs.set (o + i) v) H.set (by simp; omega)
    simpa [Nat.add_assoc] using this

/-! ### What stays -/
def Ext (n : Nat) (h h' : Heap) : Prop := h.size ≤ h'.size ∧ ∀ b, b < n → h'[b]? = h[b]?
theorem Ext.refl (n : Nat) (h : Heap) : Ext n h h := ⟨Nat.le_refl _, fun _ _ => rfl⟩
theorem Ext.trans {n : Nat} {h1 h2 h3 : Heap} (A : Ext n h1 h2) (B : Ext n h2 h3) : Ext n h1 h3 := ⟨Nat.le_trans A.1 B.1, fun b hb => (B.2 b hb).trans (A.2 b hb)⟩
theorem Ext.mono {n m : Nat} {h1 h2 : Heap} (A : Ext n h1 h2) (hm : m ≤ n) : Ext m h1 h2 := ⟨A.1, fun b hb => A.2 b (by omega)⟩
theorem Ext.push {n : Nat} {h : Heap} {x : Obj} (hn : n ≤ h.size) : Ext n h (h.push x) := ⟨by simp, fun b hb => push_old (by omega)⟩
theorem Ext.set {n : Nat} {h : Heap} {a : Addr} {v : Value} (hn : n ≤ a.block) : Ext n h (hset h a v) := ⟨by rw [hset_size]; exact Nat.le_refl _, fun b hb => hset_other (by omega)⟩
theorem Ext.sets {n : Nat} {h : Heap} {a : Addr} {i : Nat} {vs : List Value} (hn : n ≤ a.block) : Ext n h (hsets h a i vs) := ⟨by rw [hsets_size]; exact Nat.le_refl _, fun b hb => hsets_other _ _ _ _ (by omega)⟩
theorem Ext.blk {n : Nat} {h h' : Heap} {b : Nat} {cs : List Value} (E : Ext n h h') (H : Blk h b cs) (hb : b < n) : Blk h' b cs := H.of_eq (E.2 b hb)
theorem hcell_of_eq {h h' : Heap} {p : Addr} (e : h'[p.block]? = h[p.block]?) : hcell h' p = hcell h p := by unfold hcell; rw [e]
theorem Ext.cell {n : Nat} {h h' : Heap} {p : Addr} (E : Ext n h h') (hb : p.block < n) : hcell h' p = hcell h p := hcell_of_eq (E.2 _ hb)
theorem hcell_lt {h : Heap} {p : Addr} {v : Value} (H : hcell h p = some v) : p.block < h.size := by
  unfold hcell at H
  cases ho : h[p.block]? with
  | none => rw [ho] at H; cases H
  | some o => exact (Array.getElem?_eq_some_iff.1 ho).1

/-! ### Slices that are read -/
/-- the cells of the first places of a slice; all lie ahead of block n -/
structure Rs (n sz : Nat) (h : Heap) (s : Sl) (vs : List Value) : Prop where
  len : s.len * sz = vs.length
  cap : s.len ≤ s.cap
  at_ : vs = [] ∨ ∃ b o, s.a = some (ad b o) ∧ b < n ∧ ∀ i, i < vs.length → hcell h (ad b (o + i)) = vs[i]?

theorem Rs.mono {n m sz : Nat} {h : Heap} {s : Sl} {vs : List Value} (H : Rs n sz h s vs) (hm : n ≤ m) : Rs m sz h s vs :=
  ⟨H.len, H.cap, H.at_.imp id fun ⟨b, o, h1, h2, h3⟩ => ⟨b, o, h1, by omega, h3⟩⟩
theorem Rs.ext {n m sz : Nat} {h h' : Heap} {s : Sl} {vs : List Value} (H : Rs n sz h s vs) (E : Ext m h h') (hm : n ≤ m) : Rs n sz h' s vs :=
  ⟨H.len, H.cap, H.at_.imp id fun ⟨b, o, h1, h2, h3⟩ => ⟨b, o, h1, h2, fun i hi => by rw [E.cell (by simp; omega)]; exact h3 i hi⟩⟩
theorem Rs.holds {n sz : Nat} {h : Heap} {s : Sl} {vs : List Value} (H : Rs n sz h s vs) : Holds h s.a vs := by
  rcases H.at_ with rfl | ⟨b, o, h1, _, h3⟩
  · exact .inl rfl
  · refine .inr ⟨_, h1, ?_⟩
    have : ∀ (ws : List Value) (k : Nat), (∀ i, i < ws.length → hcell h (ad b (o + (k + i))) = ws[i]?) → CellsAt h (ad b o) k ws := by
      intro ws
      induction ws with
      | nil => intro k _; trivial
      | cons w ws ih =>
        intro k hk
        refine ⟨?_, ih (k + 1) fun i hi => ?_⟩
        · rw [ad_add]; simpa using hk 0 (by simp)
        · have := hk (i + 1) (by simpa using hi)
          rw [show k + 1 + i = k + (i + 1) by omega, this]; simp
    exact this vs 0 (by simpa using h3)
theorem Rs.ix {n sz : Nat} {h : Heap} {s : Sl} {vs : List Value} {i : Int} {K : Addr → Prop} (H : Rs n sz h s vs) (h0 : 0 ≤ i) (h1 : i < s.len) (hz : 0 < sz)
    (hK : ∀ b o, b < n → s.a = some (ad b o) → (∀ j, j < sz → hcell h (ad b (o + i.toNat * sz + j)) = vs[i.toNat * sz + j]?) → K (ad b (o + i.toNat * sz))) : Ix s i sz K := by
  have hl : i.toNat * sz + sz ≤ vs.length := by
    rw [← H.len, ← Nat.succ_mul]; exact Nat.mul_le_mul_right _ (by omega)
  rcases H.at_ with e | ⟨b, o, e1, e2, e3⟩
  · rw [e] at hl; simp at hl; omega
  · refine ⟨_, e1, h0, h1, ?_⟩
    rw [ad_add]
    exact hK b o e2 e1 fun j hj => by rw [Nat.add_assoc]; exact e3 _ (by omega)

/-- a slice of whole numbers -/
abbrev iV (x : Int) : Value := .int .i64 x
abbrev RI (n : Nat) (h : Heap) (s : Sl) (l : List Int) : Prop := Rs n 1 h s (l.map iV)
theorem RI.len {n : Nat} {h : Heap} {s : Sl} {l : List Int} (H : RI n h s l) : s.len = l.length := by simpa using Rs.len H
theorem RI.ix {n : Nat} {h : Heap} {s : Sl} {l : List Int} {i : Int} {K : Addr → Prop} (H : RI n h s l) (h0 : 0 ≤ i) (h1 : i < l.length)
    (hK : ∀ p : Addr, p.block < n → hcell h p = some (iV (l[i.toNat]!)) → K p) : Ix s i 1 K := by
  refine Rs.ix H h0 (by rw [H.len]; exact h1) (by decide) fun b o hb _ hc => hK _ hb ?_
  have hi : i.toNat < l.length := by omega
  have := hc 0 (by decide)
  simp only [Nat.add_zero, Nat.mul_one] at this ⊢
  rw [this, List.getElem?_map, List.getElem?_eq_getElem hi]
  simp [hi]
theorem RI.of_blk {n b : Nat} {h : Heap} {l : List Int} {cs : List Value} {c : Nat} (H : Blk h b cs) (hb : b < n) (hp : l.map iV <+: cs) (hc : l.length ≤ c) : RI n h ⟨some (ad b 0), l.length, c⟩ l := by
  refine ⟨by simp, hc, .inr ⟨b, 0, rfl, hb, fun i hi => ?_⟩⟩
  rw [H.cell, Nat.zero_add]
  obtain ⟨t, rfl⟩ := hp
  rw [List.getElem?_append_left hi]
theorem RI.nil (n : Nat) (h : Heap) : RI n h Sl.nil [] := ⟨rfl, Nat.le_refl _, .inl rfl⟩

/-! ### Slices that are grown -/
/-- none yet, or a block of its own, from n on -/
structure Own (n sz : Nat) (h : Heap) (s : Sl) (vs : List Value) : Prop where
  len : s.len * sz = vs.length
  cap : s.len ≤ s.cap
  at_ : (s.a = none ∧ s.cap = 0) ∨ ∃ b tl, s.a = some (ad b 0) ∧ n ≤ b ∧ Blk h b (vs ++ tl) ∧ s.cap * sz = (vs ++ tl).length

theorem Own.nil (n sz : Nat) (h : Heap) : Own n sz h Sl.nil [] := ⟨by simp [Sl.nil], Nat.le_refl _, .inl ⟨rfl, rfl⟩⟩
theorem Own.mono {n m sz : Nat} {h : Heap} {s : Sl} {vs : List Value} (H : Own n sz h s vs) (hm : m ≤ n) : Own m sz h s vs :=
  ⟨H.len, H.cap, H.at_.imp id fun ⟨b, tl, h1, h2, h3⟩ => ⟨b, tl, h1, by omega, h3⟩⟩
theorem Own.rs {n sz : Nat} {h : Heap} {s : Sl} {vs : List Value} (H : Own n sz h s vs) : Rs h.size sz h s vs := by
  refine ⟨H.len, H.cap, ?_⟩
  rcases H.at_ with ⟨e1, e2⟩ | ⟨b, tl, e1, e2, e3, e4⟩
  · have := H.len; have := H.cap
    refine .inl (List.eq_nil_of_length_eq_zero ?_)
    have h0 : s.len = 0 := by omega
    rw [← H.len, h0, Nat.zero_mul]
  · refine .inr ⟨b, 0, e1, e3.lt, fun i hi => ?_⟩
    rw [e3.cell, Nat.zero_add, List.getElem?_append_left hi]
/-- whatever else changes -/
theorem Own.keep {n sz : Nat} {h h' : Heap} {s : Sl} {vs : List Value} (H : Own n sz h s vs) (hk : ∀ p, s.a = some p → h'[p.block]? = h[p.block]?) : Own n sz h' s vs :=
  ⟨H.len, H.cap, H.at_.imp id fun ⟨b, tl, h1, h2, h3, h4⟩ => ⟨b, tl, h1, h2, h3.of_eq (hk _ h1), h4⟩⟩
theorem Own.lt {n sz : Nat} {h : Heap} {s : Sl} {vs : List Value} (H : Own n sz h s vs) {p : Addr} (hp : s.a = some p) : p.block < h.size ∧ n ≤ p.block := by
  rcases H.at_ with ⟨e1, e2⟩ | ⟨b, tl, e1, e2, e3, e4⟩
  · rw [e1] at hp; cases hp
  · rw [e1] at hp; cases hp; exact ⟨e3.lt, e2⟩
theorem Own.ext {n sz : Nat} {h h' : Heap} {s : Sl} {vs : List Value} (H : Own n sz h s vs) (E : Ext h.size h h') : Own n sz h' s vs := H.keep fun _ hp => E.2 _ (H.lt hp).1

/-- a slice after an append: its own block is another, or the others are as they were -/
structure Grown (n sz : Nat) (h h' : Heap) (s s' : Sl) (vs : List Value) : Prop where
  own : Own n sz h' s' vs
  ext : Ext n h h'
  others : ∀ b, b < h.size → (∀ p, s.a = some p → p.block ≠ b) → h'[b]? = h[b]?
  blk : s'.a = s.a ∨ ∃ b, h.size ≤ b ∧ s'.a = some (ad b 0)

theorem App.own {n sz by' : Nat} {el : TypeId} {z : Value} {h : Heap} {s x : Sl} {vs ys : List Value} {m : Nat} {K : Sl → Heap → Prop} (hO : Own n sz h s vs) (hx : Rs m sz h x ys) (hz : z.cells.size = sz)
    (h1 : ∀ v ∈ ys, one v = true) (hn : n ≤ h.size) (hb : (s.len + x.len) * by' ≤ 140737488355328) (hK : ∀ s' h', Grown n sz h h' s s' (vs ++ ys) → K s' h') : App el sz by' z s x h K := by
  refine ⟨ys, hx.len.symm, hx.holds, h1, ?_⟩
  have hl : (s.len + x.len) * sz = (vs ++ ys).length := by rw [Nat.add_mul, hO.len, hx.len, List.length_append]
  by_cases hc : s.len + x.len ≤ s.cap
  · refine .inl ⟨hc, ?_⟩
    rcases hO.at_ with ⟨e1, e2⟩ | ⟨b, tl, e1, e2, e3, e4⟩
    · simp only [e1]
      apply hK
      have hs0 : s.len = 0 := by omega
      have hx0 : x.len = 0 := by omega
      refine ⟨⟨hl, by simp [e2, hs0, hx0], .inl ⟨rfl, e2⟩⟩, Ext.refl _ _, fun _ _ _ => rfl, .inl e1.symm⟩
    · simp only [e1]
      have hroom : vs.length + ys.length ≤ (vs ++ tl).length := by
        rw [← e4, ← hO.len, ← hx.len, ← Nat.add_mul]; exact Nat.mul_le_mul_right _ hc
      rw [ad_add, Nat.zero_add]
      refine ⟨e3.stok (by rw [hO.len, hx.len]; exact hroom), hK _ _ ?_⟩
      refine ⟨⟨hl, hc, .inr ⟨b, tl.drop ys.length, rfl, e2, ?_, ?_⟩⟩, Ext.sets (by exact e2), fun c hc' hne => hsets_other _ _ _ _ (show b ≠ c from hne (ad b 0) e1), .inl e1.symm⟩
      · have := Blk.sets (o := s.len * sz) ys h 0 _ e3 (by rw [hO.len]; exact hroom)
        rw [hO.len, Nat.add_zero] at this
        rw [hO.len]
        have e5 : splice (vs ++ tl) vs.length ys = vs ++ ys ++ tl.drop ys.length := by
          unfold splice
          rw [List.take_left' rfl, List.drop_append]
          simp
        rw [← e5]; exact this
      · rw [e4]; simp only [List.length_append, List.length_drop] at hroom ⊢; omega
  · refine .inr ⟨by omega, hb, vs, hO.len.symm, hO.rs.holds, fun cap hcap _ => hK _ _ ?_⟩
    have ez : (Builtin.zeroCells z.cells (cap - (s.len + x.len))).size = (cap - (s.len + x.len)) * sz := by simp [Builtin.zeroCells, hz]
    refine ⟨⟨hl, hcap, .inr ⟨h.size, (Builtin.zeroCells z.cells (cap - (s.len + x.len))).toList, rfl, hn, ?_, ?_⟩⟩, Ext.push hn, fun c hc' _ => push_old hc', .inr ⟨_, Nat.le_refl _, rfl⟩⟩
    · have := Blk.new (h := h) (cs := (vs ++ ys) ++ (Builtin.zeroCells z.cells (cap - (s.len + x.len))).toList) (el := el)
      have ea : ((vs ++ ys) ++ (Builtin.zeroCells z.cells (cap - (s.len + x.len))).toList).toArray = (vs ++ ys).toArray ++ Builtin.zeroCells z.cells (cap - (s.len + x.len)) := by
        apply Array.toList_inj.1; simp
      rw [ea] at this; exact this
    · rw [List.length_append, ← hl, Array.length_toList, ez, ← Nat.add_mul]
      show cap * sz = _
      congr 1; omega
end Go.Tw

namespace Go.Tw
open Go Go.RowKit
theorem Blk.ld {h : Heap} {b : Nat} {cs : List Value} (H : Blk h b cs) (k : Nat) {v : Value} (hv : cs[k]? = some v) : hcell h (Addr.add (ad b 0) k) = some v := by
  rw [ad_add, Nat.zero_add, H.cell, hv]
theorem Ix.mk {s : Sl} {b o : Nat} {i : Int} {sz : Nat} {K : Addr → Prop} (hs : s.a = some (ad b o)) (h0 : 0 ≤ i) (h1 : i < s.len) (hK : K (ad b (o + i.toNat * sz))) : Ix s i sz K :=
  ⟨_, hs, h0, h1, by rw [ad_add]; exact hK⟩
theorem St.one {h : Heap} {b o : Nat} {cs : List Value} {v : Value} {K : Heap → Prop} (H : Blk h b cs) (ho : o < cs.length) (hK : K (hset h (ad b o) v)) : St h (ad b o) 1 [v] K :=
  ⟨H.stok (by omega), fun h' e => by subst e; rw [hsets, ad_add]; exact hK⟩
theorem Rs.new {h : Heap} {cs : List Value} {el : TypeId} {n sz : Nat} (hn : n * sz = cs.length) : Rs (h.size + 1) sz (h.push (.cells cs.toArray el)) ⟨some (ad h.size 0), n, n⟩ cs :=
  ⟨hn, Nat.le_refl _, .inr ⟨h.size, 0, rfl, by omega, fun i _ => by rw [Nat.zero_add]; exact Blk.new.cell i⟩⟩
theorem Grown.pushed {n sz : Nat} {h h' : Heap} {x : Obj} {s s' : Sl} {vs : List Value} (hn : n ≤ h.size) (G : Grown n sz (h.push x) h' s s' vs) : Grown n sz h h' s s' vs :=
  ⟨G.own, (Ext.push hn).trans G.ext, fun b hb hne => (G.others b (by simp; omega) hne).trans (push_old hb), G.blk.imp id fun ⟨b, h1, h2⟩ => ⟨b, by simp at h1; omega, h2⟩⟩
/-- append(s, v) -/
theorem App.push {n sz by' : Nat} {el : TypeId} {z : Value} {h : Heap} {s : Sl} {vs cs : List Value} {K : Sl → Heap → Prop} (hO : Own n sz h s vs) (hc : cs.length = sz) (hz : z.cells.size = sz)
    (h1 : ∀ v ∈ cs, one v = true) (hn : n ≤ h.size) (hb : (s.len + 1) * by' ≤ 140737488355328) (hK : ∀ s' h', Grown n sz h h' s s' (vs ++ cs) → K s' h') :
    New h (.cells cs.toArray el) fun p h' => App el sz by' z s ⟨some p, 1, 1⟩ h' K := fun p h' hp hh => by
  subst hp; subst hh
  exact App.own (hO.ext (Ext.push (Nat.le_refl _))) (Rs.new (by omega)) hz h1 (by simp; omega) hb fun s' h' G => hK s' h' (G.pushed hn)
theorem Br.ite {b : Bool} {A B : Prop} (h : b = true → A) (h' : b = false → B) : Br b A B := ⟨h, h'⟩
end Go.Tw
