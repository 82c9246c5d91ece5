/- All beginnings: 'Take', 'Fold', 'Before', 'Scan'. -/
import Derived.Test.YtcafckgflpmfgaaDoorDScanRR
namespace Go.Proofs.YtcafckgflpmfgaaDoor
open Go Go.RowKit Go.Tw Go.Scan
set_option linter.unusedVariables false
/-- what is so far at each place -/
def upto (g : Int → Int → Int) (e : Int) (l : List Int) : List Int := (List.range l.length).map fun i => (l.take (i + 1)).foldl g e

section
variable {r : World} {h : Heap} {op : Int} {n : Nat} {l3 : Sl} {l : List Int}

theorem take_ok {a b : Int} {R : Int → Value → Heap → Prop} (h1 : 1 ≤ op) (h4 : op ≤ 4) (H : ∀ h', Ext h.size h h' → R (opG op a b) .nilIface h') : scan_Take r op a b h R := by
  apply scan_Take_of
  refine of_ok h1 h4 fun ha E => ?_
  intro p h2 hp hh
  subst hp; subst hh
  have B : Blk (ha.push (.cells #[iV 0, .nilFunc] 106)) ha.size [iV 0, .nilFunc] := Blk.new
  have E2 := E.trans (Ext.push (x := .cells #[iV 0, .nilFunc] 106) E.1)
  refine ⟨one_fv op, St.two B fun h3 B3 E3 _ _ => ⟨rfl, fun q => (by cases q), fun _ => ⟨fvOf op, B3.ld 1 rfl, opV_ok r op _ _ _ _ ⟨_, rfl, H _ (E2.trans (E3.mono E.1))⟩⟩⟩⟩
theorem take_err {a b : Int} {R : Int → Value → Heap → Prop} (hn : ¬ (1 ≤ op ∧ op ≤ 4)) (H : ∀ h', Ext h.size h h' → R 0 (errno 3) h') : scan_Take r op a b h R := by
  apply scan_Take_of
  refine of_err hn fun ha E => ?_
  intro p h2 hp hh
  subst hp; subst hh
  have B : Blk (ha.push (.cells #[iV 0, .nilFunc] 106)) ha.size [iV 0, .nilFunc] := Blk.new
  have E2 := E.trans (Ext.push (x := .cells #[iV 0, .nilFunc] 106) E.1)
  exact ⟨rfl, St.two B fun h3 B3 E3 _ _ => ⟨rfl, fun _ => H _ (E2.trans (E3.mono E.1)), fun q => (by cases q)⟩⟩

theorem fold_ok {R : Int → Value → Heap → Prop} (h1 : 1 ≤ op) (h4 : op ≤ 4) (hl : RI n h l3 l) (hn : n ≤ h.size) (hz : l.length ≤ 17592186043904) (H : ∀ h', Ext h.size h h' → R (l.foldl (opG op) (opE op)) .nilIface h') : scan_Fold r op l3 h R := by
  apply scan_Fold_of
  refine of_ok h1 h4 fun ha E => ?_
  intro p h2 hp hh
  subst hp; subst hh
  have B : Blk (ha.push (.cells #[iV 0, .nilFunc] 106)) ha.size [iV 0, .nilFunc] := Blk.new
  have E2 := E.trans (Ext.push (x := .cells #[iV 0, .nilFunc] 106) E.1)
  refine ⟨one_fv op, St.two B fun h3 B3 E3 _ _ => ⟨rfl, fun q => (by cases q), fun _ => ⟨opE op, B3.ld 0 rfl, fvOf op, B3.ld 1 rfl, ?_⟩⟩⟩
  have E4 := E2.trans (E3.mono E.1)
  exact sweep_ok (opV_ok r op) (op_assoc op) _ l n l3 h3 _ (Nat.le_refl _) (Rs.ext hl E4 hn) (Nat.le_trans hn E4.1) hz fun s h' O E5 => H _ (E4.trans (E5.mono E4.1))
theorem fold_err {R : Int → Value → Heap → Prop} (hn : ¬ (1 ≤ op ∧ op ≤ 4)) (H : ∀ h', Ext h.size h h' → R 0 (errno 3) h') : scan_Fold r op l3 h R := by
  apply scan_Fold_of
  refine of_err hn fun ha E => ?_
  intro p h2 hp hh
  subst hp; subst hh
  have B : Blk (ha.push (.cells #[iV 0, .nilFunc] 106)) ha.size [iV 0, .nilFunc] := Blk.new
  have E2 := E.trans (Ext.push (x := .cells #[iV 0, .nilFunc] 106) E.1)
  exact ⟨rfl, St.two B fun h3 B3 E3 _ _ => ⟨rfl, fun _ => H _ (E2.trans (E3.mono E.1)), fun q => (by cases q)⟩⟩

theorem before_ok {R : Sl → Value → Heap → Prop} (h1 : 1 ≤ op) (h4 : op ≤ 4) (hl : RI n h l3 l) (hn : n ≤ h.size) (hz : l.length ≤ 17592186043904) (H : ∀ s h', RI h'.size h' s (before (opG op) (opE op) l) → Ext h.size h h' → R s .nilIface h') : scan_Before r op l3 h R := by
  apply scan_Before_of
  refine of_ok h1 h4 fun ha E => ?_
  intro p h2 hp hh
  subst hp; subst hh
  have B : Blk (ha.push (.cells #[iV 0, .nilFunc] 106)) ha.size [iV 0, .nilFunc] := Blk.new
  have E2 := E.trans (Ext.push (x := .cells #[iV 0, .nilFunc] 106) E.1)
  refine ⟨one_fv op, St.two B fun h3 B3 E3 _ _ => ⟨rfl, fun q => (by cases q), fun _ => ⟨opE op, B3.ld 0 rfl, fvOf op, B3.ld 1 rfl, ?_⟩⟩⟩
  have E4 := E2.trans (E3.mono E.1)
  exact sweep_ok (opV_ok r op) (op_assoc op) _ l n l3 h3 _ (Nat.le_refl _) (Rs.ext hl E4 hn) (Nat.le_trans hn E4.1) hz fun s h' O E5 => H _ _ O.rs (E4.trans (E5.mono E4.1))
theorem before_err {R : Sl → Value → Heap → Prop} (hn : ¬ (1 ≤ op ∧ op ≤ 4)) (H : ∀ h', Ext h.size h h' → R Sl.nil (errno 3) h') : scan_Before r op l3 h R := by
  apply scan_Before_of
  refine of_err hn fun ha E => ?_
  intro p h2 hp hh
  subst hp; subst hh
  have B : Blk (ha.push (.cells #[iV 0, .nilFunc] 106)) ha.size [iV 0, .nilFunc] := Blk.new
  have E2 := E.trans (Ext.push (x := .cells #[iV 0, .nilFunc] 106) E.1)
  exact ⟨rfl, St.two B fun h3 B3 E3 _ _ => ⟨rfl, fun _ => H _ (E2.trans (E3.mono E.1)), fun q => (by cases q)⟩⟩
theorem scan_err {R : Sl → Value → Heap → Prop} (hn : ¬ (1 ≤ op ∧ op ≤ 4)) (H : ∀ h', Ext h.size h h' → R Sl.nil (errno 3) h') : scan_Scan r op l3 h R := by
  apply scan_Scan_of
  refine of_err hn fun ha E => ?_
  intro p h2 hp hh
  subst hp; subst hh
  have B : Blk (ha.push (.cells #[iV 0, .nilFunc] 106)) ha.size [iV 0, .nilFunc] := Blk.new
  have E2 := E.trans (Ext.push (x := .cells #[iV 0, .nilFunc] 106) E.1)
  exact ⟨rfl, St.two B fun h3 B3 E3 _ _ => ⟨rfl, fun _ => H _ (E2.trans (E3.mono E.1)), fun q => (by cases q)⟩⟩
end
end Go.Proofs.YtcafckgflpmfgaaDoor
