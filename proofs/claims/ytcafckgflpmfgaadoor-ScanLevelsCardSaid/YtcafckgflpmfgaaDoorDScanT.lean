/- All beginnings: 'Scan', the law 'ScanSteps'. -/
import Derived.Test.YtcafckgflpmfgaaDoorDScanS
namespace Go.Proofs.YtcafckgflpmfgaaDoor
open Go Go.RowKit Go.Tw Go.Scan
set_option linter.unusedVariables false
section
variable {r : World} {h : Heap} {op : Int} {n : Nat} {l3 : Sl} {l : List Int}

theorem scan_ok {R : Sl → Value → Heap → Prop} (h1 : 1 ≤ op) (h4 : op ≤ 4) (hl : RI n h l3 l) (hn : n ≤ h.size) (hz : l.length ≤ 17592186043904) (H : ∀ s h', RI h'.size h' s (upto (opG op) (opE op) l) → Ext h.size h h' → R s .nilIface h') : scan_Scan r op l3 h R := by
  apply scan_Scan_of
  refine of_ok h1 h4 fun ha E => ?_
  intro p h2 hp hh
  subst hp; subst hh
  have B : Blk (ha.push (.cells #[iV 0, .nilFunc] 106)) ha.size [iV 0, .nilFunc] := Blk.new
  have E2 := E.trans (Ext.push (x := .cells #[iV 0, .nilFunc] 106) E.1)
  refine ⟨one_fv op, St.two B fun h3 B3 E3 _ _ => ⟨rfl, fun q => (by cases q), fun _ => ⟨opE op, B3.ld 0 rfl, fvOf op, B3.ld 1 rfl, ?_⟩⟩⟩
  have E4 := E2.trans (E3.mono E.1)
  refine sweep_ok (opV_ok r op) (op_assoc op) _ l n l3 h3 _ (Nat.le_refl _) (Rs.ext hl E4 hn) (Nat.le_trans hn E4.1) hz fun s h4' O E5 => ?_
  have hlen := hl.len
  have hbs : ha.size < h3.size := B3.lt
  generalize hG : opG op = g at *
  generalize hE : opE op = e at *
  have hsl : s.len = l.length := by have := O.len; simp [before] at this; omega
  intro X HX
  let c : Nat → List Int := fun i => (List.range l.length).map fun j => (l.take (if j < i then j + 1 else j)).foldl g e
  have key : ∀ d (i : Nat) (h5 : Heap), i + d = l.length → Own h3.size 1 h5 s ((c i).map iV) → Ext h3.size h3 h5 → X (i : Int) h5 := by
    intro d
    induction d with
    | zero =>
      intro i h5 hi O5 E5
      obtain rfl : i = l.length := by omega
      refine HX _ _ ⟨fun q => absurd (of_decide_eq_true q) (by omega), fun _ => H s h5 ?_ (E4.trans (E5.mono E4.1))⟩
      have : c l.length = upto g e l := by
        apply List.map_congr_left
        intro j hj
        have := List.mem_range.1 hj
        rw [if_pos this]
      rw [← this]; exact O5.rs
    | succ d ih =>
      intro i h5 hi O5 E5
      have hcl : (c i).length = l.length := by simp [c]
      have hci : (c i)[i]! = (l.take i).foldl g e := by
        rw [getElem!_pos (c i) i (by omega)]; simp [c]
      refine HX _ _ ⟨fun _ => ⟨fvOf op, (E5.blk B3 hbs).ld 1 rfl, ?_⟩, fun q => absurd (of_decide_eq_false q) (by omega)⟩
      refine own_int O5 (by omega) fun b hb hc => ⟨_, hc, RI.ix ((Rs.ext hl E4 hn).ext E5 (Nat.le_trans hn E4.1)) (by omega) (by omega) fun q _ hq => ⟨_, hq, ?_⟩⟩
      have hf := opV_ok r op
      rw [hG] at hf
      refine hf _ _ _ _ ⟨_, rfl, own_int O5 (by omega) fun b2 hb2 _ => ?_⟩
      rw [hb] at hb2; cases hb2
      refine St.one' O5 hb (by simp; omega) ?_
      rw [show w64 ((i : Int) + 1) = ((i + 1 : Nat) : Int) by rw [w64_of] <;> omega]
      have A := ((Fam.none h3.size h5).cons O5 (by simp)).set (o := i) (v := iV (g (c i)[i]! l[(i : Int).toNat]!)) hb (by simp; omega)
      refine ih (i + 1) _ (by omega) ?_ (E5.trans (Ext.set (O5.lt' hb).2))
      have e1 : c (i + 1) = (c i).set i (g (c i)[i]! l[(i : Int).toNat]!) := by
        apply List.ext_getElem?
        intro t
        have hil : i < l.length := by omega
        by_cases ht : i = t
        · subst ht
          rw [List.getElem?_set_self (by omega), hci, Int.toNat_natCast]
          simp only [c, List.getElem?_map, List.getElem?_range hil, Option.map_some]
          rw [if_pos (by omega), List.take_add_one, List.getElem?_eq_getElem hil, List.foldl_append, getElem!_pos l i hil]; rfl
        · rw [List.getElem?_set_ne ht]
          simp only [c, List.getElem?_map]
          by_cases htl : t < l.length
          · rw [List.getElem?_range htl]
            simp only [Option.map_some]
            by_cases h6 : t < i
            · rw [if_pos (by omega), if_pos h6]
            · rw [if_neg (by omega), if_neg h6]
          · rw [List.getElem?_eq_none (by simp; omega)]; rfl
      rw [e1, List.map_set]
      exact A.head
  refine key l.length 0 h4' (by omega) ?_ E5
  have : c 0 = before g e l := by
    apply List.map_congr_left
    intro j hj
    rw [if_neg (by omega)]
  rw [this]; exact O
end
end Go.Proofs.YtcafckgflpmfgaaDoor
