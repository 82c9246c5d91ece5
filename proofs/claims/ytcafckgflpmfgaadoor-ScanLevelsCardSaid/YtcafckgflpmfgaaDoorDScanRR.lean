/- All beginnings: 'sweep'. -/
import Derived.Test.YtcafckgflpmfgaaDoorDScanQ
namespace Go.Proofs.YtcafckgflpmfgaaDoor
open Go Go.RowKit Go.Tw Go.Scan
set_option linter.unusedVariables false
theorem sweep_ok {r : World} {e : Int} {fv : Value} {g : Int → Int → Int} (hf : OpV r fv g) (hg : Assoc g) : ∀ (m : Nat) (l : List Int) (n : Nat) (l3 : Sl) (h : Heap) (R : Sl → Int → Heap → Prop), l.length ≤ m → RI n h l3 l → n ≤ h.size → l.length ≤ 17592186043904 →
    (∀ s h', Own h.size 1 h' s ((before g e l).map iV) → Ext h.size h h' → R s (l.foldl g e) h') → scan_op_sweep r e fv l3 h R := by
  intro m
  induction m with
  | zero =>
    intro l n l3 h R hm hl hn hz H
    have hlen := hl.len
    apply scan_op_sweep_of
    intro p4 h1 hp hh
    subst hp; subst hh
    have e0 : l = [] := List.eq_nil_of_length_eq_zero (by omega)
    subst e0
    refine ⟨fun _ => ⟨e, (Blk.new (h := h) (cs := [iV e, fv])).ld 0 rfl, H _ _ (Own.nil _ _ _) (Ext.push (Nat.le_refl _))⟩, fun q => absurd (of_decide_eq_false q) (by simp at hlen; omega)⟩
  | succ m ih =>
    intro l n l3 h R hm hl hn hz H
    have hlen := hl.len
    apply scan_op_sweep_of
    intro p4 h1 hp hh
    subst hp; subst hh
    have B4 : Blk (h.push (.cells #[iV e, fv] 106)) h.size [iV e, fv] := Blk.new
    have E1 : Ext h.size h (h.push (.cells #[iV e, fv] 106)) := Ext.push (Nat.le_refl _)
    have hs1 : h.size < (h.push (.cells #[iV e, fv] 106)).size := by simp
    generalize h.push (.cells #[iV e, fv] 106) = h1 at B4 E1 hs1 ⊢
    refine ⟨fun q => ?_, fun q0 => ⟨fun q1 => ?_, fun q1 => ?_⟩⟩
    · have e0 : l = [] := List.eq_nil_of_length_eq_zero (by have := of_decide_eq_true q; omega)
      subst e0
      exact ⟨e, B4.ld 0 rfl, H _ _ (Own.nil _ _ _) E1⟩
    · have hl1 : l.length = 1 := by have := of_decide_eq_true q1; omega
      obtain ⟨a, rfl⟩ : ∃ a, l = [a] := List.length_eq_one_iff.1 hl1
      intro J HJ
      have R1 := Rs.ext hl E1 hn
      refine ⟨e, B4.ld 0 rfl, fv, B4.ld 1 rfl, e, B4.ld 0 rfl, RI.ix R1 (by omega) (by simp) fun q hqn hq => ⟨a, by simpa using hq, ?_, ?_⟩⟩
      · intro p27 h3 hp hh
        subst hp; subst hh
        have B5 := B4.push (x := .cells #[iV e] 3)
        have E3 := E1.trans (Ext.push (x := .cells #[iV e] 3) E1.1)
        have O3 := ((Fam.none h.size h1).new (el := 3) (sz := 1) (vs := [iV e]) E1.1 (n := 1) rfl).head
        refine ⟨?_, B5.ld 0 rfl, B5.ld 1 rfl, ?_⟩
        · rw [(Ext.push (n := h1.size) (x := .cells #[iV e] 3) (Nat.le_refl _)).cell (by omega)]; simpa using hq
        · exact hf _ _ _ _ ⟨_, rfl, B5.ld 0 rfl, HJ _ _ _ (H _ _ (by simpa [before] using O3) E3)⟩
      · refine hf _ _ _ _ ⟨_, rfl, B4.ld 0 rfl, ?_⟩
        intro p38 h6 hp hh
        subst hp; subst hh
        have B5 := B4.push (x := .cells #[iV e] 3)
        have E3 := E1.trans (Ext.push (x := .cells #[iV e] 3) E1.1)
        have O3 := ((Fam.none h.size h1).new (el := 3) (sz := 1) (vs := [iV e]) E1.1 (n := 1) rfl).head
        refine ⟨?_, B5.ld 0 rfl, B5.ld 1 rfl, HJ _ _ _ (H _ _ (by simpa [before] using O3) E3)⟩
        rw [(Ext.push (n := h1.size) (x := .cells #[iV e] 3) (Nat.le_refl _)).cell (by omega)]; simpa using hq
    · have hl2 : 2 ≤ l.length := by have := of_decide_eq_false q1; have := of_decide_eq_false q0; omega
      refine ⟨e, B4.ld 0 rfl, fv, B4.ld 1 rfl, e, B4.ld 0 rfl, fv, B4.ld 1 rfl, ?_⟩
      refine pairs_ok hf (Rs.ext hl E1 hn) (Nat.le_trans hn E1.1) hz fun y53 h7 R7 E7 => ?_
      have R7 := R7.rs
      have B7 := E7.blk B4 hs1
      refine ⟨B7.ld 0 rfl, B7.ld 1 rfl, ?_⟩
      have hpl := pairs_len g l
      refine ih (pairs g l) _ y53 h7 _ (by omega) R7 (Nat.le_refl _) (by omega) fun y56 h8 O8 E8 => ?_
      have hE7 := E7.1
      have hE8 := E8.1
      have E18 : Ext h.size h h8 := (E1.trans (E7.mono (by omega))).trans (E8.mono (by omega))
      have B8 := E8.blk B7 (by omega)
      have R8 : RI h8.size h8 y56 (before g e (pairs g l)) := O8.rs
      rw [pairs_fold hg]
      intro X HX
      have key : ∀ d (i : Nat) (out : Sl) (h9 : Heap), i + d = l.length → Own h8.size 1 h9 out (((List.range i).map fun i => (l.take i).foldl g e).map iV) → Ext h8.size h8 h9 → X out (i : Int) h9 := by
        intro d
        induction d with
        | zero =>
          intro i out h9 hi O9 E9
          obtain rfl : i = l.length := by omega
          refine HX _ _ _ ⟨fun q => absurd (of_decide_eq_true q) (by omega), fun _ => H out h9 (O9.mono (by omega)) (E18.trans (E9.mono (by omega)))⟩
        | succ d ihd =>
          intro i out h9 hi O9 E9
          refine HX _ _ _ ⟨fun _ => ?_, fun q => absurd (of_decide_eq_false q) (by omega)⟩
          have R9 := Rs.ext R8 E9 (Nat.le_refl _)
          have hbl : (before g e (pairs g l)).length = (l.length + 1) / 2 := by simp [before, hpl]
          have ei : w64 (Int.tdiv (i : Int) 2) = ((i / 2 : Nat) : Int) := by
            rw [Int.tdiv_eq_ediv_of_nonneg (by omega), w64_of] <;> omega
          have hv : (before g e (pairs g l))[i / 2]! = (l.take (2 * (i / 2))).foldl g e := by
            rw [← pairs_before hg l e (i / 2) (by omega), getElem!_pos (before g e (pairs g l)) _ (by omega)]
            simp [before]
          rw [ei]
          refine RI.ix R9 (by omega) (by omega) fun q _ hq => ⟨_, hq, ?_⟩
          rw [Int.toNat_natCast, hv]
          intro J70 HJ70
          have go : J70 ((l.take i).foldl g e) h9 := by
            refine HJ70 _ _ ?_
            have hol : out.len = i := by simpa using O9.len
            refine App.push (cs := [iV ((l.take i).foldl g e)]) O9 rfl rfl (one_all rfl) E9.1 (by rw [hol]; omega) fun s' h' G => ?_
            rw [show w64 ((i : Int) + 1) = ((i + 1 : Nat) : Int) by rw [w64_of] <;> omega]
            refine ihd (i + 1) s' h' (by omega) ?_ (E9.trans G.ext)
            have := G.own
            rw [List.range_succ, List.map_append, List.map_append]; exact this
          refine ⟨fun q2 => ?_, fun q2 => ?_⟩
          · have q2 : i % 2 = 1 := by
              have := of_decide_eq_true q2
              rw [Int.tmod_eq_emod_of_nonneg (by omega)] at this; omega
            refine ⟨fv, (E9.blk B8 (by omega)).ld 1 rfl, ?_⟩
            rw [show w64 ((i : Int) - 1) = ((i - 1 : Nat) : Int) by rw [w64_of] <;> omega]
            refine RI.ix ((Rs.ext hl E18 hn).ext E9 (by omega)) (by omega) (by omega) fun q3 _ hq3 => ⟨_, hq3, hf _ _ _ _ ⟨_, rfl, ?_⟩⟩
            have e2 : l.take i = l.take (2 * (i / 2)) ++ [l[i - 1]!] := by
              have t1 : i = 2 * (i / 2) + 1 := by omega
              conv => lhs; rw [t1, List.take_add_one, List.getElem?_eq_getElem (show 2 * (i / 2) < l.length by omega)]
              rw [getElem!_pos l _ (show i - 1 < l.length by omega)]
              congr 2
              simp only [Option.toList_some]
              congr 2; omega
            rw [Int.toNat_natCast]
            rw [e2, List.foldl_append] at go
            exact go
          · have q2 : 2 * (i / 2) = i := by
              have := of_decide_eq_false q2
              rw [Int.tmod_eq_emod_of_nonneg (by omega)] at this; omega
            rw [q2]; exact go
      exact key l.length 0 Sl.nil h8 (by omega) (Own.nil _ _ _) (Ext.refl _ _)
end Go.Proofs.YtcafckgflpmfgaaDoor
