/- Trees with both ends at hand: joined. -/
import Derived.Test.YtfiemlcoliijoaaHFingQ
namespace Go.Proofs.Ytfiemlcoliijoaa.Mo
open Go Go.RowKit Go.Tw Go.Mono Go.Fing
set_option linter.unusedVariables false
/-- a row of cells is there -/
def IsC (h : Heap) (b : Nat) : Prop := ∃ o, h[b]? = some o ∧ notCells o = false
theorem IsC.lt {h : Heap} {b : Nat} (H : IsC h b) : b < h.size := by obtain ⟨o, h1, _⟩ := H; exact (Array.getElem?_eq_some_iff.1 h1).1
theorem isC_blk {h : Heap} {b : Nat} {cs : List Value} (B : Blk h b cs) : IsC h b := by obtain ⟨el, B⟩ := B; exact ⟨_, B, rfl⟩
theorem isC_cell {h : Heap} {b o : Nat} {v : Value} (H : hcell h (ad b o) = some v) : IsC h b := by
  unfold hcell at H
  have hb : (ad b o).block = b := rfl
  rw [hb] at H
  cases ho : h[b]? with
  | none => rw [ho] at H; cases H
  | some o' =>
    refine ⟨o', ho, ?_⟩
    cases o' with
    | cells => rfl
    | _ => rw [ho] at H; cases H
/-- rows of cells of A stay, and are of A' -/
def To (A A' : Nat → Prop) (h h' : Heap) : Prop := h.size ≤ h'.size ∧ ∀ b, A b → IsC h b → h'[b]? = h[b]? ∧ A' b
section
variable {A A' A'' : Nat → Prop} {h h' h'' : Heap}
theorem To.blk {b : Nat} {cs : List Value} (S : To A A' h h') (hA : A b) (B : Blk h b cs) : Blk h' b cs := B.of_eq (S.2 b hA (isC_blk B)).1
theorem To.weak (hw : ∀ b, A b → A' b) (h : Heap) : To A A' h h := ⟨Nat.le_refl _, fun b hb _ => ⟨rfl, hw b hb⟩⟩
theorem To.old (E : Fw h h') (hw : ∀ b, A b → b < h.size → A' b) : To A A' h h' := ⟨E.1, fun b hb hl => ⟨E.2 b hl.lt, hw b hb hl.lt⟩⟩
theorem To.fw (E : Fw h h') : To A A h h' := To.old E fun _ hb _ => hb
theorem To.trans (S : To A A' h h') (S' : To A' A'' h' h'') : To A A'' h h'' := ⟨Nat.le_trans S.1 S'.1, fun b hb hc => by
  obtain ⟨e1, a1⟩ := S.2 b hb hc
  obtain ⟨o, ho, hn⟩ := hc
  obtain ⟨e2, a2⟩ := S'.2 b a1 ⟨o, by rw [e1]; exact ho, hn⟩
  exact ⟨e2.trans e1, a2⟩⟩
theorem To.hput {c : Nat} {o o' : Obj} (hc : h[c]? = some o) (hn : notCells o = true) : To A A h (Tw.hput h c o') := ⟨by rw [hput_size]; exact Nat.le_refl _, fun b hb hi => ⟨hput_other (fun e => by
  subst e
  obtain ⟨o2, h1, h2⟩ := hi
  rw [hc] at h1; cases h1
  rw [hn] at h2; cases h2), hb⟩⟩
theorem To.over {c : Nat} (hc : ¬ A c) (ho : ∀ d, d ≠ c → h'[d]? = h[d]?) (hz : h'.size = h.size) : To A A h h' := ⟨by rw [hz]; exact Nat.le_refl _, fun b hb _ => ⟨ho b fun e => hc (e ▸ hb), hb⟩⟩
theorem Ps.to {s : Sl} {ps : List Addr} (S : To A A' h h') (H : Ps A h s ps) : Ps A' h' s ps := by
  refine ⟨H.len, H.cap, ?_⟩
  rcases H.at_ with e | ⟨b, o, h1, h2, h3, h4⟩
  · exact .inl e
  · cases ps with
    | nil => exact .inl rfl
    | cons p ps =>
      have hc : IsC h b := isC_cell (h4 0 (by simp))
      have hS := S.2 b h2 hc
      exact .inr ⟨b, o, h1, hS.2, Nat.lt_of_lt_of_le h3 S.1, fun i hi => by rw [hcell_of_eq (h := h) hS.1]; exact h4 i hi⟩
theorem Th.to (S : To A A' h h') : ∀ {t : Fing.T} {p : Addr}, Th A h t p → Th A' h' t p
  | .num x, p, ⟨c, e, hA, B⟩ => ⟨c, e, (S.2 c hA (isC_blk B)).2, S.blk hA B⟩
  | .n2 a b, p, ⟨c, s, pa, pb, e, hA, B, P, ta, tb⟩ => ⟨c, s, pa, pb, e, (S.2 c hA (isC_blk B)).2, S.blk hA B, P.to S, ta.to S, tb.to S⟩
  | .n3 a b d, p, ⟨c, s, pa, pb, pd, e, hA, B, P, ta, tb, td⟩ => ⟨c, s, pa, pb, pd, e, (S.2 c hA (isC_blk B)).2, S.blk hA B, P.to S, ta.to S, tb.to S, td.to S⟩
theorem Ths.to (S : To A A' h h') : ∀ {ts : List Fing.T} {ps : List Addr}, Ths A h ts ps → Ths A' h' ts ps
  | [], [], _ => trivial
  | t :: ts, p :: ps, ⟨a, b⟩ => ⟨a.to S, b.to S⟩
  | [], _ :: _, H => H.elim
  | _ :: _, [], H => H.elim
theorem Dg.to {s : Sl} {ts : List Fing.T} (S : To A A' h h') (H : Dg A h s ts) : Dg A' h' s ts := by obtain ⟨ps, a, b⟩ := H; exact ⟨ps, a.to S, b.to S⟩
theorem Lv.to (S : To A A' h h') : ∀ {v : Fing.F} {q : Option Addr}, Lv A h v q → Lv A' h' v q
  | .nil, _, e => e
  | .one t, _, ⟨c, s, e, hA, B, d⟩ => ⟨c, s, e, (S.2 c hA (isC_blk B)).2, S.blk hA B, d.to S⟩
  | .deep l m r, _, ⟨c, s, u, q, e, hA, B, d1, d2, L⟩ => ⟨c, s, u, q, e, (S.2 c hA (isC_blk B)).2, S.blk hA B, d1.to S, d2.to S, L.to S⟩
end
/-- of A, and not a slice's block -/
def Ao (A : Nat → Prop) (s : Sl) : Nat → Prop := fun b => A b ∧ ∀ p, s.a = some p → p.block ≠ b

section
variable {A : Nat → Prop} {r : World} {h : Heap}

/-- one more thing in a slice of one's own -/
theorem App.thing {N : Nat} {out : Sl} {ps : List Addr} {ts : List Fing.T} {t : Fing.T} {p : Addr} {K : Sl → Heap → Prop} (O : Own N 1 h out (ps.map pV)) (T : Ths (Ao A out) h ts ps) (Tp : Th (Ao A out) h t p) (hN : N ≤ h.size) (hn : ps.length < 1048576)
    (hK : ∀ s' h', Tw.Ext N h h' → Own N 1 h' s' ((ps ++ [p]).map pV) → Ths (Ao A s') h' (ts ++ [t]) (ps ++ [p]) → K s' h') : New h (.cells #[.pointer (some p)] 98) fun p15 h3 => App 98 1 8 (.pointer none) out ⟨some p15, 1, 1⟩ h3 K := by
  have hz1 : (Value.pointer none).cells.size = 1 := rfl
  have ls : out.len = ps.length := by have := O.len; simp at this; omega
  refine App.push (by' := 8) (cs := [pV p]) O rfl hz1 (one_all rfl) hN (by omega) fun s' h' G => ?_
  have S : To (Ao A out) (Ao A s') h h' := by
    refine ⟨G.ext.1, fun b hb hl => ⟨G.others b hl.lt fun q hq => hb.2 q hq, hb.1, fun q hq => ?_⟩⟩
    have hl := hl.lt
    rcases G.blk with e | ⟨c, hc, e⟩
    · exact hb.2 q (by rw [← e]; exact hq)
    · rw [e] at hq; cases hq
      show c ≠ b; omega
  refine hK s' h' G.ext ?_ ((T.to S).append ⟨Tp.to S, trivial⟩)
  have := G.own
  simpa using this

end
end Go.Proofs.Ytfiemlcoliijoaa.Mo
