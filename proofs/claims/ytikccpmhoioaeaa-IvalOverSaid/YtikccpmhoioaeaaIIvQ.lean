/- Spans in order: the laws 'IvalStabs' and 'IvalOver'. -/
import Derived.Test.YtikccpmhoioaeaaIIvP
namespace Go.Proofs.Ytikccpmhoioaeaa.Iv
open Go Go.RowKit Go.Tw Go.Many Go.Ival
set_option linter.unusedVariables false
section
variable {r : World} {h : Heap} {l : List Spn}
theorem stabs_law {l1 : Sl} {s : Spn} {x : Int} (hl1 : Rs h.size 3 h l1 (cellsP l)) (hz : l.length ≤ 5864062014700) : law3_IvalStabs r l1 s.lo s.hi s.val x h fun y h' => y = true ∧ Ext h.size h h' := by
  apply law3_IvalStabs_of
  have hlen := ss_len hl1
  refine New.cells (cs := [iV s.lo, iV s.hi, iV s.val]) fun h1 E1 z1 B1 => spanned_ok fun h2 E2 => ⟨fun c => (by cases c), fun _ => New.cells fun h3 E3 z3 B3 => ?_⟩
  have E03 := (E1.trans E2).trans E3
  have E02 := E1.trans E2
  have hc : h.size ≤ h2.size := E02.1
  have hh2 : h.size < h2.size := by have := E2.1; omega
  have step : ∀ i : Nat, i < l.length → w64 ((i : Int) + 1) = ((i + 1 : Nat) : Int) := fun i hi => by rw [w64_of] <;> omega
  intro X HX
  have key : ∀ (d i n : Nat) (h4 : Heap) (q : Option Addr) (L : List Spn), i + d = l.length → Fw h h4 → h3.size ≤ h4.size → Blk h4 h2.size [.pointer q] → Blk h4 h.size [iV s.lo, iV s.hi, iV s.val] → Tr (Bs Any h2.size) h4 q L → UpS L → L.length ≤ i → (L.filter (eqS s)).length = n → X (n : Int) (i : Int) h4 := by
    intro d
    induction d with
    | zero =>
      intro i n h4 q L hi E4 hz4 B4 C4 T4 hu hL hn
      refine HX _ _ _ ⟨fun c => absurd (of_decide_eq_true c) (by omega), fun _ => ⟨_, B4.ld 0 rfl, ?_⟩⟩
      refine iall_ok T4 hu (by omega) fun s86 h14 E14 O14 => ?_
      have D14 := E14.blk C4
      have sl := ss_len O14.rs
      have E014 := E4.trans E14
      generalize hM : ovF x x L = M at O14 sl
      have hM2 : M = L.filter fun y => decide (y.lo ≤ x) && decide (x ≤ y.hi) := by rw [← hM, ovF_eq (Int.le_refl _)]
      have hMl : M.length ≤ L.length := by rw [← hM]; exact ovF_len ..
      have hMm : ∀ y ∈ M, y.lo ≤ x ∧ x ≤ y.hi := fun y hy => by
        rw [hM2] at hy
        have := (List.mem_filter.1 hy).2
        simp at this; exact this
      intro Y HY
      have key2 : ∀ (d j : Nat), j + d = M.length → Y ((((M.take j).filter (eqS s)).length : Nat) : Int) (j : Int) := by
        intro d
        induction d with
        | zero =>
          intro j hj
          rw [List.take_of_length_le (by omega)]
          refine HY _ _ ⟨fun c => absurd (of_decide_eq_true c) (by omega), fun _ => ?_⟩
          intro J HJ
          refine ⟨_, D14.ld 0 rfl, fun c => ⟨_, D14.ld 1 rfl, HJ _ ⟨fun c2 => ⟨?_, E014⟩, fun c2 => ⟨?_, E014⟩⟩⟩, fun c => HJ _ ⟨fun c2 => (by cases c2), fun _ => ⟨?_, E014⟩⟩⟩
          · have c := of_decide_eq_true c
            have c2 := of_decide_eq_true c2
            rw [decide_eq_true]
            rw [← hn, hM2, List.filter_filter]
            congr 2
            apply List.filter_congr
            intro y _
            cases e : eqS s y with
            | false => rfl
            | true =>
              obtain ⟨e1, e2, e3⟩ := of_decide_eq_true e
              rw [e1, e2, decide_eq_true c, decide_eq_true c2]; rfl
          · have c := of_decide_eq_true c
            have c2 := of_decide_eq_false c2
            rw [decide_eq_true]
            rw [List.filter_eq_nil_iff.2]
            · rfl
            · intro y hy e
              obtain ⟨e1, e2, e3⟩ := of_decide_eq_true e
              have := hMm y hy
              omega
          · have c := of_decide_eq_false c
            rw [decide_eq_true]
            rw [List.filter_eq_nil_iff.2]
            · rfl
            · intro y hy e
              obtain ⟨e1, e2, e3⟩ := of_decide_eq_true e
              have := hMm y hy
              omega
        | succ d ih =>
          intro j hj
          have hjl : j < M.length := by omega
          have ex : M[(j : Int).toNat]! = M[j] := by rw [Int.toNat_natCast, getElem!_pos M j hjl]
          have e1 : w64 ((j : Int) + 1) = ((j + 1 : Nat) : Int) := by rw [w64_of] <;> omega
          have e : M.take (j + 1) = M.take j ++ [M[j]] := by rw [List.take_add_one, List.getElem?_eq_getElem hjl]; rfl
          have hmj := hMm M[j] (List.getElem_mem hjl)
          have ih := ih (j + 1) (by omega)
          rw [e, List.filter_append, List.length_append, List.filter_cons, List.filter_nil] at ih
          refine HY _ _ ⟨fun _ => ?_, fun c => absurd (of_decide_eq_false c) (by omega)⟩
          intro J91 HJ91 J94 HJ94
          have ct : ((M.take j).filter (eqS s)).length ≤ j := Nat.le_trans (List.length_filter_le ..) (by rw [List.length_take]; omega)
          have f94 : J94 false := by
            refine HJ94 _ ⟨fun c => (by cases c), fun _ => SS.ix O14.rs (by omega) (by omega) fun p p0 p1 p2 => ⟨_, p0, _, p1, _, p2, _, D14.ld 0 rfl, _, D14.ld 1 rfl, _, D14.ld 2 rfl, ?_⟩⟩
            rw [ex]
            refine ⟨fun c => HJ91 _ ?_, fun c => HJ91 _ ?_⟩
            · rw [e1]
              rw [if_pos (show eqS s M[j] = true from c)] at ih
              rw [w64_of (by omega) (by omega)]
              exact ih
            · rw [e1]
              rw [if_neg (show ¬ eqS s M[j] = true by rw [show eqS s M[j] = false from c]; decide)] at ih
              exact ih
          refine SS.ix O14.rs (by omega) (by omega) fun p p0 p1 p2 => ⟨_, p0, ?_⟩
          rw [ex]
          refine ⟨fun c => absurd (of_decide_eq_true c) (by omega), fun _ => SS.ix O14.rs (by omega) (by omega) fun p p0 p1 p2 => ⟨_, p1, ?_⟩⟩
          rw [ex]
          dsimp only
          rw [decide_eq_false (show ¬ M[j].hi < x by omega)]
          exact f94
      exact key2 M.length 0 (by omega)
    | succ d ih =>
      intro i n h4 q L hi E4 hz4 B4 C4 T4 hu hL hn
      have hil : i < l.length := by omega
      have ex : l[(i : Int).toNat]! = l[i] := by rw [Int.toNat_natCast, getElem!_pos l i hil]
      refine HX _ _ _ ⟨fun _ => ?_, fun c => absurd (of_decide_eq_false c) (by omega)⟩
      intro J17 HJ17 J21 HJ21
      have hn' : n ≤ L.length := by rw [← hn]; exact List.length_filter_le ..
      have hlt := B4.lt
      have hA : ∀ b, h4.size ≤ b → Bs Any h2.size b := fun b hb => ⟨trivial, by omega⟩
      have bad : ∀ (pa : Addr) (h6 : Heap), Fw h4 h6 → J21 pa (.iface 97 (.int .i64 3)) h6 := by
        intro pa h6 F6
        refine HJ21 _ _ _ ⟨rfl, fun c => (by cases c), fun _ => HJ17 _ _ ?_⟩
        rw [step i hil]
        exact ih (i + 1) n h6 q L (by omega) (E4.trans F6) (by have := F6.1; omega) (F6.blk B4) (F6.blk C4) (T4.fw F6) hu (by omega) hn
      have good : ∀ (pa : Nat) (q' : Option Addr) (h6 : Heap), Fw h4 h6 → Blk h6 pa [.pointer q'] → Tr (Bs Any h2.size) h6 q' (insS l[i] L) → J21 (ad pa 0) .nilIface h6 := by
        intro pa q' h6 F6 Ba T6
        refine HJ21 _ _ _ ⟨rfl, fun _ => ⟨_, Ba.ld 0 rfl, St.whole (F6.blk B4) rfl rfl fun h7 B7 o7 z7 => ?_⟩, fun c => by cases c⟩
        have a6 := F6.1
        have E7 : Fw h h7 := (E4.trans F6).over hc o7 z7
        have C7 := (F6.blk C4).other o7 (by omega)
        refine SS.ix (hl1.ext E7 (Nat.le_refl _)) (by omega) (by omega) fun p p0 p1 p2 => ⟨_, p0, _, p1, _, p2, _, C7.ld 0 rfl, _, C7.ld 1 rfl, _, C7.ld 2 rfl, ?_⟩
        rw [ex]
        have T7 : Tr (Bs Any h2.size) h7 q' (insS l[i] L) := T6.to (To.over (fun e => e.2 rfl) o7 z7)
        have cnt := ((insS_perm l[i] L).filter (eqS s)).length_eq
        rw [List.filter_cons] at cnt
        refine ⟨fun c => HJ17 _ _ ?_, fun c => HJ17 _ _ ?_⟩
        · rw [if_pos (show eqS s l[i] = true from c), List.length_cons, hn] at cnt
          rw [step i hil, w64_of (by omega) (by omega)]
          exact ih (i + 1) (n + 1) h7 q' _ (by omega) E7 (by omega) B7 C7 T7 (insS_up hu) (by rw [insS_len]; omega) cnt
        · rw [if_neg (show ¬ eqS s l[i] = true by rw [show eqS s l[i] = false from c]; decide), hn] at cnt
          rw [step i hil]
          exact ih (i + 1) n h7 q' _ (by omega) E7 (by omega) B7 C7 T7 (insS_up hu) (by rw [insS_len]; omega) cnt
      refine ⟨_, B4.ld 0 rfl, SS.ix (hl1.ext E4 (Nat.le_refl _)) (by omega) (by omega) fun p p0 p1 p2 => ⟨_, p0, _, p1, _, p2, ?_⟩⟩
      rw [ex] at p0 p1 p2 ⊢
      have pc : ∀ {g : Heap} {a : Addr} {v : Value}, Fw h4 g → hcell h4 a = some v → hcell g a = some v := fun F hv => by rw [Ext.cell F (hcell_lt hv)]; exact hv
      refine ⟨?_, ?_⟩
      · refine add_ok (s := l[i]) T4 hu (by omega) hA (fun _ h8 F8 => ?_) fun _ q8 h8 F8 T8 => ?_
        · refine New.cells fun h9 F9 z9 B9 => ⟨pc (F8.trans F9) p0, pc (F8.trans F9) p1, pc (F8.trans F9) p2, ((F8.trans F9).blk B4).ld 0 rfl, St.whole B9 rfl rfl fun h10 B10 o10 z10 => ?_⟩
          exact bad _ h10 ((F8.trans F9).over F8.1 o10 z10)
        · refine New.cells fun h9 F9 z9 B9 => ⟨pc (F8.trans F9) p0, pc (F8.trans F9) p1, pc (F8.trans F9) p2, ((F8.trans F9).blk B4).ld 0 rfl, St.whole B9 rfl rfl fun h10 B10 o10 z10 => ?_⟩
          have S8 : Tr (Xs (Bs Any h2.size) [h8.size]) h9 q8 (insS l[i] L) := T8.to (To.old F9 fun b hb hl => ⟨hb, by simp; omega⟩)
          exact good _ q8 h10 ((F8.trans F9).over F8.1 o10 z10) B10 ((S8.to (To.over (fun e => e.2 (by simp)) o10 z10)).weak fun b hb => hb.1)
      · refine New.cells fun h9 F9 z9 B9 => ⟨pc F9 p0, pc F9 p1, pc F9 p2, (F9.blk B4).ld 0 rfl, ?_⟩
        have T9 : Tr (Xs (Bs Any h2.size) [h4.size]) h9 q L := T4.to (To.old F9 fun b hb hl => ⟨hb, by simp; omega⟩)
        refine add_ok (s := l[i]) T9 hu (by omega) (fun b hb => ⟨hA b (by omega), by simp; omega⟩) (fun _ h10 F10 => ?_) fun _ q10 h10 F10 T10 => ?_
        · refine St.whole (F10.blk B9) rfl rfl fun h11 B11 o11 z11 => ?_
          exact bad _ h11 ((F9.trans F10).over (Nat.le_refl _) o11 z11)
        · refine St.whole (F10.blk B9) rfl rfl fun h11 B11 o11 z11 => ?_
          exact good _ q10 h11 ((F9.trans F10).over (Nat.le_refl _) o11 z11) B11 ((T10.to (To.over (fun e => e.2 (by simp)) o11 z11)).weak fun b hb => hb.1)
  exact key l.length 0 0 h3 none [] (by omega) E03 (Nat.le_refl _) B3 ((E2.trans E3).blk B1) (Tr.nil _ _) List.Pairwise.nil (by simp) rfl

theorem over_law {l1 : Sl} {low high x more : Int} (hl1 : Rs h.size 3 h l1 (cellsP l)) (hz : l.length ≤ 5864062014700) : law3_IvalOver r l1 low high x more h fun y h' => y = true ∧ Ext h.size h h' := by
  apply law3_IvalOver_of
  have hlen := ss_len hl1
  refine spanned_ok fun h2 E2 => ⟨fun c => (by cases c), fun _ => New.cells fun h3 E3 z3 B3 => ?_⟩
  have E03 := E2.trans E3
  have hc : h.size ≤ h2.size := E2.1
  have step : ∀ i : Nat, i < l.length → w64 ((i : Int) + 1) = ((i + 1 : Nat) : Int) := fun i hi => by rw [w64_of] <;> omega
  intro X HX
  have key : ∀ (d i : Nat) (h4 : Heap) (q : Option Addr) (L : List Spn), i + d = l.length → Fw h h4 → h3.size ≤ h4.size → Blk h4 h2.size [.pointer q] → Tr (Bs Any h2.size) h4 q L → UpS L → L.length ≤ i → X (i : Int) h4 := by
    intro d
    induction d with
    | zero =>
      intro i h4 q L hi E4 hz4 B4 T4 hu hL
      refine HX _ _ ⟨fun c => absurd (of_decide_eq_true c) (by omega), fun _ => ⟨_, B4.ld 0 rfl, ?_⟩⟩
      refine over_ok T4 hu (by omega) fun s62 h13 E13 O13 => ⟨_, (E13.blk B4).ld 0 rfl, iall_ok (T4.fw E13) hu (by omega) fun s65 h14 E14 O14 => ?_⟩
      have n13 := ss_len O13.rs
      have n14 := ss_len O14.rs
      have E414 := E13.trans E14
      refine ⟨fun c => ?_, fun c => ?_⟩
      · simp only [Bool.and_eq_true, decide_eq_true_eq] at c
        obtain ⟨⟨c1, c2⟩, c3⟩ := c
        rw [n13, n14] at c3
        rw [ovF_eq (low := low) (by omega), ovF_eq (Int.le_refl _)] at c3
        have := filter_mono L (fun y => decide (y.lo ≤ x) && decide (x ≤ y.hi)) (fun y => decide (y.lo ≤ high) && decide (low ≤ y.hi)) (fun y hy => by simp at hy ⊢; omega)
        omega
      · intro J HJ
        have fin : ∀ h15, Fw h4 h15 → J false h15 := fun h15 F15 => HJ _ _ ⟨fun c => (by cases c), fun _ => fun x78 e => ⟨?_, E4.trans F15⟩⟩
        · refine ⟨fun c2 => ⟨_, (E414.blk B4).ld 0 rfl, over_ok (T4.fw E414) hu (by omega) fun s85 h16 E16 O16 => ?_⟩, fun _ => fin h14 E414⟩
          have n16 := ss_len O16.rs
          have c2 := of_decide_eq_true c2
          have : (ovF low high L).length ≤ (ovF low more L).length := by
            by_cases g : low ≤ high
            · rw [ovF_eq g, ovF_eq (show low ≤ more by omega)]
              exact filter_mono L _ _ (fun y hy => by simp at hy ⊢; omega)
            · rw [show ovF low high L = [] from if_pos (by omega)]; simp
          rw [decide_eq_false (by omega)]
          exact fin h16 (E414.trans E16)
        · rw [e]
          by_cases g : low ≤ high
          · rw [decide_eq_true g]; rfl
          · rw [show ovF low high L = [] from if_pos (by omega)] at n13
            rw [decide_eq_true (p := ((s62.len : Int) = 0)) (by rw [n13]; rfl), Bool.or_true]
    | succ d ih =>
      intro i h4 q L hi E4 hz4 B4 T4 hu hL
      have hil : i < l.length := by omega
      have ex : l[(i : Int).toNat]! = l[i] := by rw [Int.toNat_natCast, getElem!_pos l i hil]
      refine HX _ _ ⟨fun _ => ?_, fun c => absurd (of_decide_eq_false c) (by omega)⟩
      intro J17 HJ17 J21 HJ21
      have hlt := B4.lt
      have hA : ∀ b, h4.size ≤ b → Bs Any h2.size b := fun b hb => ⟨trivial, by omega⟩
      have bad : ∀ (pa : Addr) (h6 : Heap), Fw h4 h6 → J21 pa (.iface 97 (.int .i64 3)) h6 := by
        intro pa h6 F6
        refine HJ21 _ _ _ ⟨rfl, fun c => (by cases c), fun _ => HJ17 _ ?_⟩
        rw [step i hil]
        exact ih (i + 1) h6 q L (by omega) (E4.trans F6) (by have := F6.1; omega) (F6.blk B4) (T4.fw F6) hu (by omega)
      have good : ∀ (pa : Nat) (q' : Option Addr) (h6 : Heap), Fw h4 h6 → Blk h6 pa [.pointer q'] → Tr (Bs Any h2.size) h6 q' (insS l[i] L) → J21 (ad pa 0) .nilIface h6 := by
        intro pa q' h6 F6 Ba T6
        refine HJ21 _ _ _ ⟨rfl, fun _ => ⟨_, Ba.ld 0 rfl, St.whole (F6.blk B4) rfl rfl fun h7 B7 o7 z7 => HJ17 _ ?_⟩, fun c => by cases c⟩
        have a6 := F6.1
        rw [step i hil]
        exact ih (i + 1) h7 q' _ (by omega) ((E4.trans F6).over hc o7 z7) (by omega) B7 (T6.to (To.over (fun e => e.2 rfl) o7 z7)) (insS_up hu) (by rw [insS_len]; omega)
      refine ⟨_, B4.ld 0 rfl, SS.ix (hl1.ext E4 (Nat.le_refl _)) (by omega) (by omega) fun p p0 p1 p2 => ⟨_, p0, _, p1, _, p2, ?_⟩⟩
      rw [ex] at p0 p1 p2 ⊢
      have pc : ∀ {g : Heap} {a : Addr} {v : Value}, Fw h4 g → hcell h4 a = some v → hcell g a = some v := fun F hv => by rw [Ext.cell F (hcell_lt hv)]; exact hv
      refine ⟨?_, ?_⟩
      · refine add_ok (s := l[i]) T4 hu (by omega) hA (fun _ h8 F8 => ?_) fun _ q8 h8 F8 T8 => ?_
        · refine New.cells fun h9 F9 z9 B9 => ⟨pc (F8.trans F9) p0, pc (F8.trans F9) p1, pc (F8.trans F9) p2, ((F8.trans F9).blk B4).ld 0 rfl, St.whole B9 rfl rfl fun h10 B10 o10 z10 => ?_⟩
          exact bad _ h10 ((F8.trans F9).over F8.1 o10 z10)
        · refine New.cells fun h9 F9 z9 B9 => ⟨pc (F8.trans F9) p0, pc (F8.trans F9) p1, pc (F8.trans F9) p2, ((F8.trans F9).blk B4).ld 0 rfl, St.whole B9 rfl rfl fun h10 B10 o10 z10 => ?_⟩
          have S8 : Tr (Xs (Bs Any h2.size) [h8.size]) h9 q8 (insS l[i] L) := T8.to (To.old F9 fun b hb hl => ⟨hb, by simp; omega⟩)
          exact good _ q8 h10 ((F8.trans F9).over F8.1 o10 z10) B10 ((S8.to (To.over (fun e => e.2 (by simp)) o10 z10)).weak fun b hb => hb.1)
      · refine New.cells fun h9 F9 z9 B9 => ⟨pc F9 p0, pc F9 p1, pc F9 p2, (F9.blk B4).ld 0 rfl, ?_⟩
        have T9 : Tr (Xs (Bs Any h2.size) [h4.size]) h9 q L := T4.to (To.old F9 fun b hb hl => ⟨hb, by simp; omega⟩)
        refine add_ok (s := l[i]) T9 hu (by omega) (fun b hb => ⟨hA b (by omega), by simp; omega⟩) (fun _ h10 F10 => ?_) fun _ q10 h10 F10 T10 => ?_
        · refine St.whole (F10.blk B9) rfl rfl fun h11 B11 o11 z11 => ?_
          exact bad _ h11 ((F9.trans F10).over (Nat.le_refl _) o11 z11)
        · refine St.whole (F10.blk B9) rfl rfl fun h11 B11 o11 z11 => ?_
          exact good _ q10 h11 ((F9.trans F10).over (Nat.le_refl _) o11 z11) B11 ((T10.to (To.over (fun e => e.2 (by simp)) o11 z11)).weak fun b hb => hb.1)
  exact key l.length 0 h3 none [] (by omega) E03 (Nat.le_refl _) B3 (Tr.nil _ _) List.Pairwise.nil (by simp)
end
end Go.Proofs.Ytikccpmhoioaeaa.Iv
