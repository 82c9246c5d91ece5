/- What stays of rows of cells in memory. -/
import Derived.Test.YtcafckgflpmfgaaDoorTwMore
namespace Go.Proofs.YtcafckgflpmfgaaDoor
open Go Go.RowKit Go.Tw
/-- a row of cells is there -/
def IsC (h : Heap) (b : Nat) : Prop := ∃ o, h[b]? = some o ∧ notCells o = false
theorem IsC.lt {h : Heap} {b : Nat} (H : IsC h b) : b < h.size := by obtain ⟨o, h1, _⟩ := H; exact (Array.getElem?_eq_some_iff.1 h1).1
theorem isC_blk {h : Heap} {b : Nat} {cs : List Value} (B : Blk h b cs) : IsC h b := by obtain ⟨el, B⟩ := B; exact ⟨_, B, rfl⟩
theorem isC_cell {h : Heap} {b o : Nat} {v : Value} (H : hcell h (ad b o) = some v) : IsC h b := by
  unfold hcell at H
  have hb : (ad b o).block = b := rfl
  rw [hb] at H
  cases ho : h[b]? with
  | none => rw [ho] at H; cases H
  | some o' =>
    refine ⟨o', ho, ?_⟩
    cases o' with
    | cells => rfl
    | _ => rw [ho] at H; cases H
/-- rows of cells of A stay, and are of A' -/
def To (A A' : Nat → Prop) (h h' : Heap) : Prop := h.size ≤ h'.size ∧ ∀ b, A b → IsC h b → h'[b]? = h[b]? ∧ A' b
section
variable {A A' A'' : Nat → Prop} {h h' h'' : Heap}
theorem To.blk {b : Nat} {cs : List Value} (S : To A A' h h') (hA : A b) (B : Blk h b cs) : Blk h' b cs := B.of_eq (S.2 b hA (isC_blk B)).1
theorem To.weak (hw : ∀ b, A b → A' b) (h : Heap) : To A A' h h := ⟨Nat.le_refl _, fun b hb _ => ⟨rfl, hw b hb⟩⟩
theorem To.old (E : Fw h h') (hw : ∀ b, A b → b < h.size → A' b) : To A A' h h' := ⟨E.1, fun b hb hl => ⟨E.2 b hl.lt, hw b hb hl.lt⟩⟩
theorem To.fw (E : Fw h h') : To A A h h' := To.old E fun _ hb _ => hb
theorem To.trans (S : To A A' h h') (S' : To A' A'' h' h'') : To A A'' h h'' := ⟨Nat.le_trans S.1 S'.1, fun b hb hc => by
  obtain ⟨e1, a1⟩ := S.2 b hb hc
  obtain ⟨o, ho, hn⟩ := hc
  obtain ⟨e2, a2⟩ := S'.2 b a1 ⟨o, by rw [e1]; exact ho, hn⟩
  exact ⟨e2.trans e1, a2⟩⟩
theorem To.hput {c : Nat} {o o' : Obj} (hc : h[c]? = some o) (hn : notCells o = true) : To A A h (Tw.hput h c o') := ⟨by rw [hput_size]; exact Nat.le_refl _, fun b hb hi => ⟨hput_other (fun e => by
  subst e
  obtain ⟨o2, h1, h2⟩ := hi
  rw [hc] at h1; cases h1
  rw [hn] at h2; cases h2), hb⟩⟩
theorem To.over {c : Nat} (hc : ¬ A c) (ho : ∀ d, d ≠ c → h'[d]? = h[d]?) (hz : h'.size = h.size) : To A A h h' := ⟨by rw [hz]; exact Nat.le_refl _, fun b hb _ => ⟨ho b fun e => hc (e ▸ hb), hb⟩⟩
/-- beside a place that is written -/
abbrev Bs (A : Nat → Prop) (c : Nat) : Nat → Prop := fun b => A b ∧ b ≠ c
theorem bs_new {c : Nat} (hA : ∀ b, h.size ≤ b → A b) (hc : c < h'.size) (E : Fw h h') : ∀ b, h'.size ≤ b → Bs A c b := fun b hb => ⟨hA b (Nat.le_trans E.1 hb), by omega⟩
end
end Go.Proofs.YtcafckgflpmfgaaDoor
