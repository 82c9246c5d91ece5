/- All beginnings: the law 'ScanParts'. -/
import Derived.Test.YthjfnfhgnbmgcaaScanU
namespace Go.Proofs.Ythjfnfhgnbmgcaa
open Go Go.RowKit Go.Tw Go.Scan
set_option linter.unusedVariables false

section
variable {r : World} {h : Heap} {op : Int} {n : Nat} {a b : Sl} {la lb : List Int}

theorem cat_ok {R : Sl → Heap → Prop} (ha : RI n h a la) (hb : RI n h b lb) (hn : n ≤ h.size) (hz : la.length + lb.length ≤ 8796093022208) (H : ∀ s h', RI h'.size h' s (la ++ lb) → Ext h.size h h' → R s h') : ref1_Cat r a b h R := by
  apply ref1_Cat_of
  have hal := ha.len
  have hbl := hb.len
  refine App.own (Own.nil h.size 1 h) ha rfl (by intro v hv; obtain ⟨x, _, rfl⟩ := List.mem_map.1 hv; rfl) (Nat.le_refl _) (by simp [Sl.nil]; omega) fun s h1 G1 => ?_
  have O1 := G1.own
  rw [List.nil_append] at O1
  have hsl : s.len = la.length := by simpa using O1.len
  refine App.own O1 (Rs.ext hb G1.ext hn) rfl (by intro v hv; obtain ⟨x, _, rfl⟩ := List.mem_map.1 hv; rfl) G1.ext.1 (by rw [hsl, hbl]; omega) fun s2 h2 G2 => ?_
  have O2 := G2.own
  rw [← List.map_append] at O2
  exact H s2 h2 O2.rs (G1.ext.trans G2.ext)

theorem parts_law (ha : RI h.size h a la) (hb : RI h.size h b lb) (hza : la.length ≤ 1048576) (hzb : lb.length ≤ 1048576) (hin : ∀ x ∈ la, In64 x) : law5_ScanParts r op a b h fun y h' => y = true ∧ Ext h.size h h' := by
  apply law5_ScanParts_of
  refine scanned_ok fun h1 E1 => ⟨fun q => (by cases q), fun _ => ?_⟩
  have hal := ha.len
  have hbl := hb.len
  by_cases hop : 1 ≤ op ∧ op ≤ 4
  · refine fold_ok hop.1 hop.2 (Rs.ext ha E1 (Nat.le_refl _)) E1.1 (by omega) fun h2 X2 => ?_
    have E2 := E1.trans (X2.mono E1.1)
    refine fold_ok hop.1 hop.2 (Rs.ext hb E2 (Nat.le_refl _)) E2.1 (by omega) fun h3 X3 => ?_
    have E3 := E2.trans (X3.mono E2.1)
    refine cat_ok (Rs.ext ha E3 (Nat.le_refl _)) (Rs.ext hb E3 (Nat.le_refl _)) E3.1 (by omega) fun y9 h4 R4 X4 => ?_
    have E4 := E3.trans (X4.mono E3.1)
    refine fold_ok hop.1 hop.2 R4 (Nat.le_refl _) (by simp; omega) fun h5 X5 => ?_
    have E5 := E4.trans (X5.mono E4.1)
    refine cat_ok (Rs.ext ha E5 (Nat.le_refl _)) (Rs.ext hb E5 (Nat.le_refl _)) E5.1 (by omega) fun y12 h6 R6 X6 => ?_
    have E6 := E5.trans (X6.mono E5.1)
    refine scan_ok hop.1 hop.2 R6 (Nat.le_refl _) (by simp; omega) fun p h7 R7 X7 => ?_
    have E7 := E6.trans (X7.mono E6.1)
    refine scan_ok hop.1 hop.2 (Rs.ext hb E7 (Nat.le_refl _)) E7.1 (by omega) fun q h8 R8 X8 => ?_
    have E8 := E7.trans (X8.mono E7.1)
    have Rp := Rs.ext R7 X8 (Nat.le_refl _)
    refine ⟨rfl, rfl, rfl, rfl, rfl, fun q => (by cases q), fun _ => ?_⟩
    refine take_ok hop.1 hop.2 fun h9 X9 => ⟨rfl, ?_⟩
    have E9 := E8.trans (X9.mono E8.1)
    have hxin : In64 (la.foldl (opG op) (opE op)) := fold_in op la _ (opE_in op) hin
    have hx0 := op_nought op hxin
    have hfrom : ∀ l : List Int, l.foldl (opG op) (la.foldl (opG op) (opE op)) = opG op (la.foldl (opG op) (opE op)) (l.foldl (opG op) (opE op)) := fun l => fold_from (op_assoc op) l _ hx0
    have ez : opG op (la.foldl (opG op) (opE op)) (lb.foldl (opG op) (opE op)) = (la ++ lb).foldl (opG op) (opE op) := by rw [List.foldl_append, hfrom]
    have hpl : p.len = la.length + lb.length := by rw [R7.len]; simp [upto]
    have hql : q.len = lb.length := by rw [R8.len]; simp [upto]
    rw [hpl, hql, hal, hbl, ez]
    refine ⟨fun q => ?_, fun _ => ?_⟩
    · rw [w64_of (by omega) (by omega)] at q
      simp [isNil] at q
    intro X HX
    have key : ∀ d (i : Nat) (hh : Heap), i + d = lb.length → Ext h8.size h8 hh → X (i : Int) hh := by
      intro d
      induction d with
      | zero =>
        intro i hh hi Eh
        exact HX _ _ ⟨fun q => absurd (of_decide_eq_true q) (by omega), fun _ => ⟨rfl, E8.trans (Eh.mono E8.1)⟩⟩
      | succ d ih =>
        intro i hh hi Eh
        have hil : i < lb.length := by omega
        refine HX _ _ ⟨fun _ => ?_, fun q => absurd (of_decide_eq_false q) (by omega)⟩
        refine RI.ix (Rs.ext R8 Eh (Nat.le_refl _)) (by omega) (by simp [upto]; omega) fun a1 _ ha1 => ⟨_, ha1, ?_⟩
        refine take_ok hop.1 hop.2 fun h10 X10 => ?_
        have Eh' := Eh.trans (X10.mono Eh.1)
        have vq : (upto (opG op) (opE op) lb)[i]! = (lb.take (i + 1)).foldl (opG op) (opE op) := by
          rw [getElem!_pos (upto (opG op) (opE op) lb) i (by simp [upto]; omega)]; simp [upto]
        rw [Int.toNat_natCast, vq, ← hfrom]
        intro J HJ
        refine ⟨rfl, fun q => (by cases q), fun _ => ?_⟩
        rw [show w64 ((la.length : Int) + (i : Int)) = ((la.length + i : Nat) : Int) by rw [w64_of] <;> omega]
        refine RI.ix (Rs.ext Rp Eh' X8.1) (by omega) (by simp [upto]; omega) fun a2 _ ha2 => ⟨_, ha2, ?_⟩
        have vp : (upto (opG op) (opE op) (la ++ lb))[la.length + i]! = (lb.take (i + 1)).foldl (opG op) (la.foldl (opG op) (opE op)) := by
          rw [getElem!_pos (upto (opG op) (opE op) (la ++ lb)) _ (by simp [upto]; omega)]
          simp only [upto, List.getElem_map, List.getElem_range]
          rw [List.take_append, List.take_of_length_le (by omega), show la.length + i + 1 - la.length = i + 1 by omega, List.foldl_append]
        rw [Int.toNat_natCast, vp]
        dsimp only
        rw [decide_eq_true rfl]
        exact HJ _ ⟨fun q => (by cases q), fun _ => by
          rw [show w64 ((i : Int) + 1) = ((i + 1 : Nat) : Int) by rw [w64_of] <;> omega]
          exact ih (i + 1) h10 (by omega) Eh'⟩
    exact key lb.length 0 h9 (by omega) X9
  · refine fold_err hop fun h2 X2 => fold_err hop fun h3 X3 => ?_
    have E3 := (E1.trans (X2.mono E1.1))
    have E3 := E3.trans (X3.mono E3.1)
    refine cat_ok (Rs.ext ha E3 (Nat.le_refl _)) (Rs.ext hb E3 (Nat.le_refl _)) E3.1 (by omega) fun y9 h4 R4 X4 => fold_err hop fun h5 X5 => ?_
    have E4 := E3.trans (X4.mono E3.1)
    have E5 := E4.trans (X5.mono E4.1)
    refine cat_ok (Rs.ext ha E5 (Nat.le_refl _)) (Rs.ext hb E5 (Nat.le_refl _)) E5.1 (by omega) fun y12 h6 R6 X6 => scan_err hop fun h7 X7 => scan_err hop fun h8 X8 => ?_
    have E6 := E5.trans (X6.mono E5.1)
    have E7 := E6.trans (X7.mono E6.1)
    refine ⟨rfl, rfl, rfl, rfl, rfl, fun _ => ?_, fun q => (by cases q)⟩
    refine opOk_ok ⟨?_, E7.trans (X8.mono E7.1)⟩
    by_cases h1 : 1 ≤ op
    · have h4 : ¬ op ≤ 4 := fun h4 => hop ⟨h1, h4⟩
      simp [h4]
    · simp [h1]
end
end Go.Proofs.Ythjfnfhgnbmgcaa
