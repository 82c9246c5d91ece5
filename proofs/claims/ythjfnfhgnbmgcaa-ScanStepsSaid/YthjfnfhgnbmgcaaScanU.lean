/- All beginnings: the laws 'ScanSteps', 'ScanParts'. -/
import Derived.Test.YthjfnfhgnbmgcaaScanT
namespace Go.Proofs.Ythjfnfhgnbmgcaa
open Go Go.RowKit Go.Tw Go.Scan
set_option linter.unusedVariables false

theorem opOk_ok {r : World} {h : Heap} {op : Int} {R : Bool → Heap → Prop} (H : R (decide (1 ≤ op) && decide (op ≤ 4)) h) : ref1_Op r op h R := ref1_Op_of H

theorem scanned_ok {r : World} {h : Heap} {R : Bool → Heap → Prop} (H : ∀ h', Ext h.size h h' → R true h') : law5_scanned r h R := by
  apply law5_scanned_of
  intro p1 h1 hp hh
  subst hp; subst hh
  have hr : RI (h.push (.cells #[iV 5, iV 3] 3)).size (h.push (.cells #[iV 5, iV 3] 3)) ⟨some (ad h.size 0), 2, 2⟩ [5, 3] :=
    RI.of_blk (b := h.size) (l := [5, 3]) (c := 2) (Blk.new (cs := [iV 5, iV 3])) (by simp) (List.prefix_refl _) (by decide)
  have E1 : Ext h.size h (h.push (.cells #[iV 5, iV 3] 3)) := Ext.push (Nat.le_refl _)
  refine scan_ok (by decide) (by decide) hr (Nat.le_refl _) (by decide) fun s h2 R2 E2 => ?_
  have E2' := E1.trans (E2.mono E1.1)
  intro p6 h3 hp hh
  subst hp; subst hh
  have R3 : RI (h2.push (.cells #[iV 5, iV 8] 3)).size (h2.push (.cells #[iV 5, iV 8] 3)) ⟨some (ad h2.size 0), 2, 2⟩ [5, 8] :=
    RI.of_blk (b := h2.size) (l := [5, 8]) (c := 2) (Blk.new (cs := [iV 5, iV 8])) (by simp) (List.prefix_refl _) (by decide)
  have E3 := E2'.trans (Ext.push (x := .cells #[iV 5, iV 8] 3) E2'.1)
  have ev : upto (opG 1) (opE 1) [5, 3] = [5, 8] := by decide +kernel
  rw [ev] at R2
  exact same_Ints_ok (Rs.ext R2 (Ext.push (Nat.le_refl _)) (Nat.le_refl _)) R3 (by decide) ⟨rfl, H _ E3⟩

section
variable {r : World} {h : Heap} {op : Int} {l3 : Sl} {l : List Int}

theorem steps_law (hl : RI h.size h l3 l) (hz : l.length ≤ 17592186043904) : law5_ScanSteps r op l3 h fun y h' => y = true ∧ Ext h.size h h' := by
  apply law5_ScanSteps_of
  refine scanned_ok fun h1 E1 => ⟨fun q => (by cases q), fun _ => ?_⟩
  have hlen := hl.len
  by_cases hop : 1 ≤ op ∧ op ≤ 4
  · refine scan_ok hop.1 hop.2 (Rs.ext hl E1 (Nat.le_refl _)) E1.1 hz fun p h2 Rp E2 => ?_
    have E2' := E1.trans (E2.mono E1.1)
    refine before_ok hop.1 hop.2 (Rs.ext hl E2' (Nat.le_refl _)) E2'.1 hz fun q h3 Rq E3 => ?_
    have E3' := E2'.trans (E3.mono E2'.1)
    have hpl : p.len = l.length := by rw [Rp.len]; simp [upto]
    have hql : q.len = l.length := by rw [Rq.len]; simp [before]
    have Rp := Rs.ext Rp E3 (Nat.le_refl _)
    refine ⟨rfl, rfl, fun q => (by cases q), fun _ => ?_⟩
    rw [hpl, hql, hlen]
    refine ⟨fun q => by simp at q, fun _ => ?_⟩
    intro X HX
    generalize hG : opG op = g at *
    generalize hE : opE op = e at *
    have vp : ∀ i, i < l.length → (upto g e l)[i]! = (l.take (i + 1)).foldl g e := fun i hi => by
      rw [getElem!_pos (upto g e l) i (by simp [upto]; omega)]; simp [upto]
    have vq : ∀ i, i < l.length → (before g e l)[i]! = (l.take i).foldl g e := fun i hi => by
      rw [getElem!_pos (before g e l) i (by simp [before]; omega)]; simp [before]
    have key : ∀ d (i : Nat) (h5 : Heap), i + d = l.length → Ext h3.size h3 h5 → X (i : Int) h5 := by
      intro d
      induction d with
      | zero =>
        intro i h5 hi E5
        exact HX _ _ ⟨fun q => absurd (of_decide_eq_true q) (by omega), fun _ => ⟨rfl, E3'.trans (E5.mono E3'.1)⟩⟩
      | succ d ih =>
        intro i h5 hi E5
        have hil : i < l.length := by omega
        refine HX _ _ ⟨fun _ => ?_, fun q => absurd (of_decide_eq_false q) (by omega)⟩
        have gq : ∀ (h6 : Heap), Ext h3.size h3 h6 → ∀ (j : Nat), j < l.length → ∀ {K : Addr → Prop}, (∀ a, hcell h6 a = some (iV ((l.take j).foldl g e)) → K a) → Ix q (j : Int) 1 K := fun h6 E6 j hj K hK => by
          refine RI.ix (Rs.ext Rq E6 (Nat.le_refl _)) (by omega) (by simp [before]; omega) fun a _ ha => hK a ?_
          rw [ha, Int.toNat_natCast, vq j hj]
        have gp : ∀ (h6 : Heap), Ext h3.size h3 h6 → ∀ (j : Nat), j < l.length → ∀ {K : Addr → Prop}, (∀ a, hcell h6 a = some (iV ((l.take (j + 1)).foldl g e)) → K a) → Ix p (j : Int) 1 K := fun h6 E6 j hj K hK => by
          refine RI.ix (Rs.ext Rp E6 E3.1) (by omega) (by simp [upto]; omega) fun a _ ha => hK a ?_
          rw [ha, Int.toNat_natCast, vp j hj]
        have E35 := E3'.trans (E5.mono E3'.1)
        refine gq h5 E5 i hil fun a ha => ⟨_, ha, RI.ix (Rs.ext hl E35 (Nat.le_refl _)) (by omega) (by omega) fun a2 _ ha2 => ⟨_, ha2, ?_⟩⟩
        refine take_ok hop.1 hop.2 fun h6 E6 => ?_
        have E6' := E5.trans (E6.mono E5.1)
        rw [hG, Int.toNat_natCast]
        have es : g ((l.take i).foldl g e) (l[i]!) = (l.take (i + 1)).foldl g e := by
          rw [List.take_add_one, List.getElem?_eq_getElem hil, List.foldl_append, getElem!_pos l i hil]; rfl
        rw [es]
        intro J HJ
        have go : J false := HJ _ ⟨fun q => (by cases q), fun _ => by
          rw [show w64 ((i : Int) + 1) = ((i + 1 : Nat) : Int) by rw [w64_of] <;> omega]
          exact ih (i + 1) h6 (by omega) E6'⟩
        refine ⟨rfl, fun q => (by cases q), fun _ => gp h6 E6' i hil fun a3 ha3 => ⟨_, ha3, fun q => by simp at q, fun _ => ⟨fun q0 => ?_, fun _ => go⟩⟩⟩
        have q0 : 0 < i := by have := of_decide_eq_true q0; omega
        refine gq h6 E6' i hil fun a4 ha4 => ⟨_, ha4, ?_⟩
        rw [show w64 ((i : Int) - 1) = ((i - 1 : Nat) : Int) by rw [w64_of] <;> omega]
        refine gp h6 E6' (i - 1) (by omega) fun a5 ha5 => ⟨_, ha5, ?_⟩
        rw [show i - 1 + 1 = i by omega]
        simpa using go
    exact key l.length 0 h3 (by omega) (Ext.refl _ _)
  · refine scan_err hop fun h2 E2 => before_err hop fun h3 E3 => ⟨rfl, rfl, fun _ => ?_, fun q => (by cases q)⟩
    refine opOk_ok ⟨?_, (E1.trans (E2.mono E1.1)).trans (E3.mono (E1.trans (E2.mono E1.1)).1)⟩
    by_cases h1 : 1 ≤ op
    · have h4 : ¬ op ≤ 4 := fun h4 => hop ⟨h1, h4⟩
      simp [h4]
    · simp [h1]
end
end Go.Proofs.Ythjfnfhgnbmgcaa
