/- All beginnings: the law 'ScanTells'. -/
import Derived.Test.YtcafckgflpmfgaaDoorDScanU
namespace Go.Proofs.YtcafckgflpmfgaaDoor
open Go Go.RowKit Go.Tw Go.Scan
set_option linter.unusedVariables false
section
variable {r : World} {h : Heap} {op : Int} {l2 : Sl} {l : List Int}
theorem taken_ok {a b : Int} {R : Int → Heap → Prop} (h1 : 1 ≤ op) (h4 : op ≤ 4) (H : R (opG op a b) h) : ref1_Taken r op a b h R := by
  apply ref1_Taken_of
  unfold opG at H
  by_cases c1 : op = 1
  · rw [if_pos c1] at H; exact ⟨fun _ => H, fun c => absurd c1 (of_decide_eq_false c)⟩
  · rw [if_neg c1] at H
    refine ⟨fun c => absurd (of_decide_eq_true c) c1, fun _ => ?_⟩
    by_cases c2 : op = 2
    · rw [if_pos c2] at H; exact ⟨fun _ => H, fun c => absurd c2 (of_decide_eq_false c)⟩
    · rw [if_neg c2] at H
      refine ⟨fun c => absurd (of_decide_eq_true c) c2, fun _ => ?_⟩
      by_cases c3 : op = 3
      · rw [if_pos c3] at H; exact ⟨fun _ => H, fun c => absurd c3 (of_decide_eq_false c)⟩
      · rw [if_neg c3] at H
        exact ⟨fun c => absurd (of_decide_eq_true c) c3, fun _ => H⟩
theorem nought_ok {R : Int → Heap → Prop} (H : R (opE op) h) : ref1_Nought r op h R := by
  apply ref1_Nought_of
  unfold opE at H
  by_cases c2 : op = 2
  · rw [if_pos c2] at H; exact ⟨fun _ => H, fun c => absurd c2 (of_decide_eq_false c)⟩
  · rw [if_neg c2] at H
    refine ⟨fun c => absurd (of_decide_eq_true c) c2, fun _ => ?_⟩
    by_cases c3 : op = 3
    · rw [if_pos c3] at H; exact ⟨fun _ => H, fun c => absurd c3 (of_decide_eq_false c)⟩
    · rw [if_neg c3] at H
      exact ⟨fun c => absurd (of_decide_eq_true c) c3, fun _ => H⟩
theorem upto_len (g : Int → Int → Int) (e : Int) (l : List Int) : (upto g e l).length = l.length := by simp [upto]
theorem upto_get (g : Int → Int → Int) (e : Int) (l : List Int) {i : Nat} (h : i < l.length) : (upto g e l)[i]? = some ((l.take (i + 1)).foldl g e) := by simp [upto, h]
theorem upto_take (g : Int → Int → Int) (e : Int) (l : List Int) {i : Nat} (h : i < l.length) : (upto g e l).take (i + 1) = (upto g e l).take i ++ [(l.take (i + 1)).foldl g e] := by
  rw [List.take_add_one, upto_get g e l h]; rfl
theorem before_eq (g : Int → Int → Int) (e : Int) (l : List Int) (h : l ≠ []) : e :: (upto g e l).take (l.length - 1) = before g e l := by
  apply List.ext_getElem?
  intro i
  have hl := List.length_pos_iff.2 h
  cases i with
  | zero => simp [before, hl]
  | succ i =>
    rw [List.getElem?_cons_succ, List.getElem?_take]
    by_cases c : i < l.length - 1
    · rw [if_pos c, upto_get g e l (by omega)]
      simp [before, show i + 1 < l.length by omega]
    · rw [if_neg c, List.getElem?_eq_none (by simp [before]; omega)]
theorem refscan_ok {n : Nat} {R : Sl → Heap → Prop} (h1 : 1 ≤ op) (h4 : op ≤ 4) (S : RI n h l2 l) (hn : n ≤ h.size) (hz : l.length ≤ 17592186043904) (H : ∀ s h', Fw h h' → Own h.size 1 h' s ((upto (opG op) (opE op) l).map iV) → R s h') : ref1_Scanned r op l2 h R := by
  apply ref1_Scanned_of
  have sl := S.len
  refine nought_ok ?_
  intro X HX
  have key : ∀ (d i : Nat) (so : Sl) (h2 : Heap), i + d = l.length → Fw h h2 → Own h.size 1 h2 so (((upto (opG op) (opE op) l).take i).map iV) → X so ((l.take i).foldl (opG op) (opE op)) (i : Int) h2 := by
    intro d
    induction d with
    | zero =>
      intro i so h2 hi E O
      rw [List.take_of_length_le (by rw [upto_len]; omega)] at O
      exact HX _ _ _ _ ⟨fun c => absurd (of_decide_eq_true c) (by omega), fun _ => H so h2 E O⟩
    | succ d ih =>
      intro i so h2 hi E O
      have hil : i < l.length := by omega
      have ex : l[(i : Int).toNat]! = l[i] := by rw [Int.toNat_natCast, getElem!_pos l i hil]
      refine HX _ _ _ _ ⟨fun _ => RI.ix (S.ext E hn) (by omega) (by omega) fun p _ hp => ⟨_, hp, taken_ok h1 h4 ?_⟩, fun c => absurd (of_decide_eq_false c) (by omega)⟩
      rw [ex]
      have lo := O.len
      rw [List.length_map, List.length_take, upto_len] at lo
      have ef : opG op ((l.take i).foldl (opG op) (opE op)) l[i] = (l.take (i + 1)).foldl (opG op) (opE op) := by
        have e : l.take (i + 1) = l.take i ++ [l[i]] := by rw [List.take_add_one, List.getElem?_eq_getElem hil]; rfl
        rw [e, List.foldl_append]; rfl
      rw [ef]
      refine App.push (cs := [iV ((l.take (i + 1)).foldl (opG op) (opE op))]) O rfl rfl (by simp [one]) E.1 (by omega) fun s5 h5 G => ?_
      rw [w64_of (n := (i : Int) + 1) (by omega) (by omega)]
      refine ih (i + 1) s5 h5 (by omega) (E.trans' G.ext) ?_
      rw [upto_take _ _ _ hil, List.map_append]; exact G.own
  exact key l.length 0 Sl.nil h (by omega) (Fw.refl h) (Own.nil _ _ _)
theorem refcat_ok {s t : Sl} {u v : List Int} {n : Nat} {R : Sl → Heap → Prop} (hs : RI n h s u) (ht : RI n h t v) (hn : n ≤ h.size) (hz : u.length + v.length ≤ 17592186044416) (H : ∀ s' h', Fw h h' → Own h.size 1 h' s' ((u ++ v).map iV) → R s' h') : ref1_Cat r s t h R := by
  apply ref1_Cat_of
  have ls := hs.len
  have lt := ht.len
  have o1 : ∀ (l : List Int), ∀ v ∈ l.map iV, one v = true := by intro l v hv; obtain ⟨x, _, rfl⟩ := List.mem_map.1 hv; rfl
  refine App.own (Own.nil h.size 1 h) hs rfl (o1 u) (Nat.le_refl _) (by simp [Sl.nil]; omega) fun s1 h1 G1 => ?_
  have O1 := G1.own
  have l1 : s1.len = u.length := by have := O1.len; simp at this; omega
  refine App.own O1 (ht.ext G1.ext hn) rfl (o1 v) G1.ext.1 (by omega) fun s2 h2 G2 => ?_
  refine H s2 h2 (Tw.Ext.trans G1.ext G2.ext) ?_
  have := G2.own
  simpa using this
theorem scantells_law {a b : Int} (hg : Er h) (hl : RI h.size h l2 l) (hz : l.length ≤ 17592186043904) : law5_ScanTells r op l2 a b h fun y h' => y = true ∧ Ext h.size h h' := by
  apply law5_ScanTells_of
  have sl := hl.len
  refine scanned_ok fun h1 E1 => opOk_ok ?_
  intro J HJ
  have rest : ∀ (ve tk fo : Int) (sS sB : Sl) (S B : List Int) (h3 : Heap), Fw h h3 → RI h3.size h3 sS S → RI h3.size h3 sB B → S.length ≤ 17592186044416 → B.length ≤ 17592186044416 →
      (∀ (g : Heap) (R : Int → Value → Heap → Prop), Fw h g → (∀ g', Ext g.size g g' → R tk (Ev ve) g') → scan_Take r op a b g R) →
      (∀ (g : Heap) (R : Int → Value → Heap → Prop), Fw h g → (∀ g', Ext g.size g g' → R fo (Ev ve) g') → scan_Fold r op l2 g R) →
      (∀ (g : Heap) (R : Sl → Value → Heap → Prop), Fw h g → (∀ s g', RI g'.size g' s S → Ext g.size g g' → R s (Ev ve) g') → scan_Scan r op l2 g R) →
      (∀ (g : Heap) (R : Sl → Value → Heap → Prop), Fw h g → (∀ s g', RI g'.size g' s B → Ext g.size g g' → R s (Ev ve) g') → scan_Before r op l2 g R) → J ve tk fo sS sB h3 := by
    intro ve tk fo sS sB S B h3 E3 RS RB zS zB hT hF hS hB
    have hg3 := hg.fw E3
    refine HJ _ _ _ _ _ _ (hT h3 _ E3 fun h4 E4 => err_ok (hg3.fw E4) fun h5 E5 => ?_)
    have E05 := (E3.trans E4).trans E5
    refine hF h5 _ E05 fun h6 E6 => err_ok ((hg.fw E05).fw E6) fun h7 E7 => ?_
    have E07 := (E05.trans E6).trans E7
    refine hS h7 _ E07 fun s20 h8 S20 E8 => err_ok ((hg.fw E07).fw E8) fun h9 E9 => ?_
    have E09 := (E07.trans E8).trans E9
    have E39 : Fw h3 h9 := ((((Fw.trans E4 E5).trans E6).trans E7).trans E8).trans E9
    refine same_Ints_ok (S20.ext E9 (Nat.le_refl _)) (RS.ext E39 (Nat.le_refl _)) (by omega) ?_
    rw [decide_eq_true rfl]
    refine hB h9 _ E09 fun s24 h11 S24 E11 => err_ok ((hg.fw E09).fw E11) fun h12 E12 => ?_
    refine same_Ints_ok (S24.ext E12 (Nat.le_refl _)) (RB.ext ((E39.trans E11).trans E12) (Nat.le_refl _)) (by omega) ?_
    rw [decide_eq_true rfl]
    intro x hx
    exact ⟨by rw [hx]; simp, (E09.trans E11).trans E12⟩
  by_cases hop : 1 ≤ op ∧ op ≤ 4
  · obtain ⟨o1, o4⟩ := hop
    refine ⟨fun c => (by rw [decide_eq_true o1, decide_eq_true o4] at c; cases c), fun _ => taken_ok o1 o4 ?_⟩
    refine refscan_ok o1 o4 (hl.ext E1 (Nat.le_refl _)) E1.1 hz fun s63 h15 E15 O15 => nought_ok ?_
    have E015 : Fw h h15 := Fw.trans E1 E15
    have l63 : s63.len = l.length := by have := O15.len; rw [List.length_map, upto_len] at this; omega
    have hT := fun (g : Heap) (R : Int → Value → Heap → Prop) (_ : Fw h g) (H : ∀ g', Ext g.size g g' → R (opG op a b) (Ev 0) g') => take_ok (r := r) (a := a) (b := b) o1 o4 H
    have hS := fun (g : Heap) (R : Sl → Value → Heap → Prop) (E : Fw h g) (H : ∀ s g', RI g'.size g' s (upto (opG op) (opE op) l) → Ext g.size g g' → R s (Ev 0) g') => scan_ok (r := r) o1 o4 (hl.ext E (Nat.le_refl _)) E.1 hz H
    have hB := fun (g : Heap) (R : Sl → Value → Heap → Prop) (E : Fw h g) (H : ∀ s g', RI g'.size g' s (before (opG op) (opE op) l) → Ext g.size g g' → R s (Ev 0) g') => before_ok (r := r) o1 o4 (hl.ext E (Nat.le_refl _)) E.1 hz H
    have hF := fun (g : Heap) (R : Int → Value → Heap → Prop) (E : Fw h g) (H : ∀ g', Ext g.size g g' → R (l.foldl (opG op) (opE op)) (Ev 0) g') => fold_ok (r := r) o1 o4 (hl.ext E (Nat.le_refl _)) E.1 hz H
    refine ⟨fun c => ?_, fun c => ?_⟩
    · have c := of_decide_eq_true c
      have hpos : 0 < l.length := by omega
      have ew : w64 ((l2.len : Int) - 1) = ((l.length - 1 : Nat) : Int) := by rw [w64_of (by omega) (by omega)]; omega
      rw [ew]
      refine RI.ix O15.rs (by omega) (by rw [upto_len]; omega) fun p _ hp => ⟨_, hp, ?_⟩
      have ex : (upto (opG op) (opE op) l)[((l.length - 1 : Nat) : Int).toNat]! = l.foldl (opG op) (opE op) := by
        rw [Int.toNat_natCast, getElem!_pos _ _ (by rw [upto_len]; omega)]
        have := upto_get (opG op) (opE op) l (i := l.length - 1) (by omega)
        rw [List.getElem?_eq_getElem (by rw [upto_len]; omega), show l.length - 1 + 1 = l.length by omega, List.take_length] at this
        injection this
      rw [ex]
      refine Subs.at_ (lo := 0) (hi := l.length - 1) O15.rs (by omega) (by rw [upto_len]; omega) fun t T => ?_
      rw [List.drop_zero, Nat.sub_zero] at T
      refine nought_ok (New.cells (cs := [iV (opE op)]) fun h18 E18 z18 B18 => ?_)
      refine refcat_ok (n := h18.size) (u := [opE op]) (RI.of_blk (l := [opE op]) (c := 1) B18 (by omega) (List.prefix_refl _) (Nat.le_refl _)) ((T.ext E18 (Nat.le_refl _)).mono E18.1) (Nat.le_refl _) (by simp [upto_len]; omega) fun s83 h19 E19 O19 => ?_
      rw [List.singleton_append, before_eq _ _ _ (by intro e; subst e; simp at hpos)] at O19
      have E1519 := E18.trans E19
      exact rest 0 _ _ s63 s83 _ _ h19 (E015.trans E1519) ((Rs.ext O15.rs E1519 (Nat.le_refl _)).mono E1519.1) O19.rs (by rw [upto_len]; omega) (by simp [before]; omega) hT hF hS hB
    · have c := of_decide_eq_false c
      have e : l = [] := List.eq_nil_of_length_eq_zero (by omega)
      have hB' : before (opG op) (opE op) l = [] := by rw [e]; rfl
      have hF' : l.foldl (opG op) (opE op) = opE op := by rw [e]; rfl
      rw [hB'] at hB
      rw [hF'] at hF
      exact rest 0 _ _ s63 Sl.nil _ [] h15 E015 O15.rs (RI.nil _ _) (by rw [upto_len]; omega) (by simp) hT hF hS hB
  · refine ⟨fun _ => rest 3 0 0 Sl.nil Sl.nil [] [] h1 E1 (RI.nil _ _) (RI.nil _ _) (by simp) (by simp) (fun g R _ H => take_err hop H) (fun g R _ H => fold_err hop H) (fun g R _ H => scan_err hop fun g' E => H _ g' (RI.nil _ _) E) (fun g R _ H => before_err hop fun g' E => H _ g' (RI.nil _ _) E), fun c => ?_⟩
    exfalso
    have c : (decide (1 ≤ op) && decide (op ≤ 4)) = true := by simpa using c
    simp only [Bool.and_eq_true, decide_eq_true_eq] at c
    exact hop c
end
end Go.Proofs.YtcafckgflpmfgaaDoor
