/- The desk answers as the document says. -/
import Derived.Test.YthkimbiknhebeaaGreatDoorGLaw
import Derived.Test.YthkimbiknhebeaaGreatDoorLineA
import Derived.Test.YthkimbiknhebeaaGreatDoorTwB
namespace Go.Proofs.YthkimbiknhebeaaGreatDoor.St
open Go Go.RowKit Go.Tw
open Go.Proofs.YthkimbiknhebeaaGreatDoor.Wb (Ri lo hi)
set_option linter.unusedVariables false
def factL : List UInt8 := [105, 110, 115, 32, 48, 32, 55, 10, 112, 117, 116, 32, 53]
theorem run_fact : runA factL = [[49], [49]] := by kernel_rfl
theorem notI_str (l : List UInt8) : notI (sV l) := fun x e => by cases e
theorem notI_sl (s : Sl) : notI (Sl.v s) := fun x e => by cases e
theorem blk_notI {h : Heap} {c : Nat} {cs : List Value} (B : Blk h c cs) (hc : ∀ v ∈ cs, notI v) : ∀ o v, hcell h (ad c o) = some v → notI v := fun o v hv => by
 rw [B.cell] at hv
 exact hc v (List.mem_of_getElem? hv)
theorem blk_one {h : Heap} {N b : Nat} {x : Value} (B : Blk h b [x]) (hN : N ≤ b) : Own N 1 h ⟨some (ad b 0), 1, 1⟩ [x] := ⟨rfl, Nat.le_refl _, .inr ⟨b, [], rfl, hN, by simpa using B, rfl⟩⟩
theorem blk_allC {h : Heap} {b n m : Nat} {cs : List Value} {Pv : Value → Prop} (B : Blk h b cs) (hc : ∀ v ∈ cs, Pv v) : AllC Pv h ⟨some (ad b 0), n, m⟩ := fun p hp => by
 cases hp
 exact ⟨b, rfl, fun o v hv => hc v (by rw [B.cell] at hv; exact List.mem_of_getElem? hv)⟩
theorem RI.grown {n N : Nat} {h9 h10 h8 : Heap} {s so s8 : Sl} {l : List Int} {vs : List Value} (S : RI n h9 s l) (hn : n ≤ h9.size) (E10 : Fw h9 h10) (G : Grown N 1 h10 h8 so s8 vs) (C : AllC notI h10 so) : RI n h8 s l := by
 have S10 : RI n h10 s l := Rs.ext S E10 hn
 have hz := E10.1
 cases hsa : so.a with
 | none =>
  exact RI.miss (c := h10.size) S10 (by omega) (fun o v hv => absurd (hcell_lt hv) (Nat.lt_irrefl _)) fun b hb _ => G.others b hb fun p hp => by rw [hsa] at hp; cases hp
 | some b =>
  obtain ⟨c, e, hP⟩ := C b hsa
  subst e
  exact RI.miss (c := c) S10 (by omega) hP fun d hd hne => G.others d hd fun p hp => by
   rw [hsa] at hp; cases hp
   exact fun e => hne e.symm
theorem rs_str' {n : Nat} {h : Heap} {s : Sl} {l : List (List UInt8)} {i : Nat} {K : Addr → Prop} (S : Rs n 1 h s (l.map sV)) (hi : i < l.length) (hK : ∀ p, (∀ h', Ext n h h' → hcell h' p = some (sV l[i])) → K p) : Ix s (i : Int) 1 K := by
 have ls : s.len = l.length := by have := S.len; simpa using this
 refine Rs.ix S (by omega) (by omega) (by decide) fun b o hb _ hc => hK _ fun h' E => ?_
 rw [E.cell (show b < n from hb)]
 have := hc 0 (by decide)
 simp only [Nat.add_zero, Nat.mul_one] at this ⊢
 rw [this, List.getElem?_map, Int.toNat_natCast, List.getElem?_eq_getElem hi]; rfl
/-- without a last one that is empty -/
theorem trim_ok {N : Nat} {h : Heap} {y : Sl} {ls : List (List UInt8)} {J : Sl → Prop} (O : Own N 1 h y (ls.map sV)) (n1 : 1 ≤ ls.length) (key : ∀ (lines : Sl) (ls' : List (List UInt8)), Rs h.size 1 h lines (ls'.map sV) → ls'.length ≤ ls.length → (∀ x ∈ ls', x ∈ ls) → trimL ls = ls' → J lines) :
  Br (decide ((⟨(ls[ls.length - 1]'(by omega)).toArray⟩ : ByteArray) = (⟨#[]⟩))) (Sub y 0 ((ls.length - 1 : Nat) : Int) (y.cap : Int) 1 fun s39 => J s39) (J y) := by
 have l2 : y.len = ls.length := by have := O.rs.len; simp at this; omega
 have c2 := O.rs.cap
 refine ⟨fun c => ?_, fun c => ?_⟩
 ·have c : ls[ls.length - 1] = [] := ba_eq (b := []) (of_decide_eq_true c)
  refine ⟨by decide, by omega, by omega, by omega, fun s39 es => key s39 ls.dropLast ?_ (by simp) (fun x hx => List.dropLast_subset _ hx) ?_⟩
  ·subst es
   by_cases h1 : ls.length = 1
   ·have : ls.dropLast = [] := List.eq_nil_of_length_eq_zero (by simp; omega)
    rw [this]
    exact ⟨by simp; omega, by simp; omega, .inl rfl⟩
   ·have := Rs.sub (lo := 0) (hi := ls.length - 1) (mx := y.cap) O.rs (by omega) (by simp) (by omega)
    rw [List.drop_zero, ← List.map_take, Nat.sub_zero, ← List.dropLast_eq_take] at this
    have e3 : ((0 : Int)).toNat = 0 := rfl
    have e4 : (((ls.length - 1 : Nat) : Int)).toNat = ls.length - 1 := by omega
    have e5 : ((y.cap : Int)).toNat = y.cap := by omega
    rw [e3, e4, e5]
    exact this
  ·unfold trimL
   rw [if_pos]
   rw [List.getLast?_eq_getElem?, List.getElem?_eq_getElem (by omega), c]
 ·have c : ls[ls.length - 1] ≠ [] := ba_ne (b := []) (of_decide_eq_false c)
  refine key y ls O.rs (Nat.le_refl _) (fun x hx => hx) ?_
  unfold trimL
  rw [if_neg]
  rw [List.getLast?_eq_getElem?, List.getElem?_eq_getElem (by omega)]
  exact fun e => c (Option.some.inj e)
section
variable {r : World} {g : Nat} {h : Heap}
set_option maxHeartbeats 3200000 in
theorem answers_ok {s : List UInt8} {R : Bool → Heap → Prop} (L : Lb r g h) (hg : g ≤ h.size) (hs : s.length ≤ 1073741824) (H : ∀ h', Fw h h' → R true h') : law5_DeskAnswers r ⟨s.toArray⟩ h R := by
 apply law5_DeskAnswers_of
 unfold law5_DeskAnswers_F
 refine run_ok (s := factL) L hg (by decide) fun y2 h1 E1 O1 => ?_
 rw [run_fact] at O1
 refine New.cells (cs := [sV [49], sV [49]]) fun h2 E2 z2 B2 => ?_
 have O2 : Rs h2.size 1 h2 ⟨some (ad h1.size 0), 2, 2⟩ ([[49], [49]].map sV) := ⟨rfl, Nat.le_refl _, .inr ⟨h1.size, 0, rfl, B2.lt, fun i hi => by rw [B2.cell, Nat.zero_add]; rfl⟩⟩
 refine texts_ok (O1.ext E2).rs O2 (by decide) ?_
 rw [decide_eq_true rfl]
 have hd : (⟨s.toArray⟩ : ByteArray).data.toList = s := by simp
 refine cut_ok (b := 10) (by rw [hd]; omega) fun y7 h4 E4 O4 => ?_
 rw [hd] at O4
 have E04 := (E1.trans E2).trans E4
 have pl := pcs_len 10 s
 have pn := pcs_ne 10 s
 have pm := pcs_mem 10 s
 have el : runA s = linesA (trimL (pcs 10 s)) := rfl
 generalize pcs 10 s = ls at O4 pl pn pm el
 have n1 : 1 ≤ ls.length := by
  cases ls with
  | nil => exact absurd rfl pn
  | cons x l => simp
 have l2 : y7.len = ls.length := by have := O4.rs.len; simp at this; omega
 have ew : w64 ((y7.len : Int) - 1) = ((ls.length - 1 : Nat) : Int) := by rw [w64_of (by omega) (by omega)]; omega
 rw [ew]
 refine own_str (i := ls.length - 1) O4 (by omega) fun p hp => ⟨_, hp h4 (Ext.refl _ _), ?_⟩
 intro J17 HJ
 refine trim_ok O4 n1 fun lines ls' S' hl' hm' e' => ?_
 rw [e'] at el
 have l' : lines.len = ls'.length := by have := S'.len; simp at this; omega
 refine HJ _ (New.cells (cs := [Sl.v Sl.nil, Sl.v Sl.nil]) fun h5 E5 z5 B5 => ?_)
 intro J24 HJ24
 have h04 : h.size ≤ h4.size := E04.1
 have all : ∀ (lines2 : Sl) (ls2 : List (List UInt8)) (want : Sl) (ws : List (List UInt8)) (h6 : Heap), Fw h5 h6 → Rs h4.size 1 h4 lines2 (ls2.map sV) → ls2.length ≤ 100 → (∀ x ∈ ls2, x ∈ ls) → Own h5.size 1 h6 want (ws.map sV) → ws.length ≤ 1 → AllC notI h6 want →
   runA s = ws ++ runL ls2 [] [] → J24 lines2 want h6 := by
  intro lines2 ls2 want ws h6 E6 S2 hl2 hm2 O6 hw C6 er
  have l2' : lines2.len = ls2.length := by have := S2.len; simp at this; omega
  refine HJ24 _ _ _ ?_
  intro X28 HX
  have loop : ∀ (d i : Nat) (so : Sl) (h7 : Heap) (q t : List Int) (d1 d2 : Sl), i + d = ls2.length → Fw h4 h7 → h5.size ≤ h7.size → Own h5.size 1 h7 so ((ws ++ runL (ls2.take i) [] []).map sV) → AllC notI h7 so → stL (ls2.take i) [] [] = (q, t) → DkN i q t →
    Blk h7 h4.size [Sl.v d1, Sl.v d2] → RI h7.size h7 d1 q → RI h7.size h7 d2 t → X28 so (i : Int) h7 := by
   intro d
   induction d with
   | zero =>
    intro i so h7 q t d1 d2 hi E7 z7 O7 C7 e7 K7 B7 Q7 T7
    rw [List.take_of_length_le (by omega)] at O7
    have E07 := E04.trans E7
    refine HX _ _ _ ⟨fun c => absurd (of_decide_eq_true c) (by omega), fun _ => ?_⟩
    refine run_ok (L.ext (E07.mono hg)) (by have := E07.1; omega) hs fun y77 h18 E18 O18 => ?_
    refine texts_ok O18.rs (O7.ext E18).rs ?_ ?_
    ·have := O18.rs.len
     rw [er, List.length_append, runL_len]; omega
    ·rw [decide_eq_true er]
     exact H h18 (E07.trans E18)
   | succ d ih =>
    intro i so h7 q t d1 d2 hi E7 z7 O7 C7 e7 K7 B7 Q7 T7
    have hil : i < ls2.length := by omega
    have et : ls2.take (i + 1) = ls2.take i ++ [ls2[i]] := by rw [List.take_add_one, List.getElem?_eq_getElem hil]; rfl
    have len7 := O7.len
    rw [List.length_map, List.length_append, runL_len, List.length_take] at len7
    have hll : ls2[i].length ≤ 1099511627776 := by have := pm _ (hm2 _ (List.getElem_mem hil)); omega
    have ql := K7.ql
    have tl := K7.tl
    refine HX _ _ _ ⟨fun _ => ?_, fun c => absurd (of_decide_eq_false c) (by omega)⟩
    intro J31 HJ31
    have fin : ∀ (e : Nat) (s1 s2 : Sl) (h8 : Heap), Fw h7 h8 → Blk h8 e [Sl.v s1, Sl.v s2] → RI h8.size h8 s1 (ansA ls2[i] q t).1 → RI h8.size h8 s2 (ansA ls2[i] q t).2.1 → J31 (ad e 0) ⟨(ansA ls2[i] q t).2.2.toArray⟩ h8 := by
     intro e s1 s2 h8 E8 B8 Q8 T8
     refine HJ31 _ _ _ ⟨_, B8.ld 0 rfl, _, B8.ld 1 rfl, ?_⟩
     have B5 := E8.blk B7
     have z8 := E8.1
     refine St.whole B5 rfl rfl fun h9 B9 o9 z9 => ?_
     have nb := blk_notI B5 fun v hv => by
      rcases List.mem_cons.1 hv with rfl | hv
      ·exact notI_sl _
      ·rcases List.mem_cons.1 hv with rfl | hv
       ·exact notI_sl _
       ·cases hv
     have Q9 : RI h8.size h9 s1 _ := RI.miss Q8 (Nat.le_refl _) nb fun b _ hb => o9 b hb
     have T9 : RI h8.size h9 s2 _ := RI.miss T8 (Nat.le_refl _) nb fun b _ hb => o9 b hb
     have O8 := O7.ext E8
     have O9 : Own h5.size 1 h9 so ((ws ++ runL (ls2.take i) [] []).map sV) := O8.keep fun p hp => o9 _ (by have := (O8.lt hp).2; omega)
     have C9 : AllC notI h9 so := (C7.keep (h' := h8) fun p hp => E8.2 _ (O7.lt hp).1).keep fun p hp => o9 _ (by have := (O8.lt hp).2; omega)
     refine New.cells (cs := [sV (ansA ls2[i] q t).2.2]) fun h10 E10 z10 B10 => ?_
     have C10 : AllC notI h10 so := C9.keep fun p hp => E10.2 _ (O9.lt hp).1
     have ha : App 9 1 16 (.string (⟨#[]⟩)) so ⟨some (ad h9.size 0), 1, 1⟩ h10 fun s' h' => Grown h5.size 1 h10 h' so s' ((ws ++ runL (ls2.take i) [] []).map sV ++ [sV (ansA ls2[i] q t).2.2]) :=
      App.own (O9.ext E10) (blk_one B10 (Nat.le_refl _)).rs rfl (one_all rfl) (by have := E10.1; omega) (by show (so.len + 1) * 16 ≤ _; omega) fun s' h' G => G
     refine (ha.cells C10 (blk_allC B10 fun v hv => by rw [List.mem_singleton.1 hv]; exact notI_str _) fun v hv => ?_).imp fun s11 h11 hG => ?_
     ·have : v = .string ⟨#[]⟩ := by simpa [Value.cells] using hv
      rw [this]; exact notI_str []
     obtain ⟨G, C11⟩ := hG
     rw [w64_of (by omega) (by omega)]
     have g1 := G.ext.1
     have g2 := E10.1
     have Q11 := RI.grown Q9 (by omega) E10 G C10
     have T11 := RI.grown T9 (by omega) E10 G C10
     refine ih (i + 1) s11 h11 _ _ s1 s2 (by omega) ⟨by have := E7.1; omega, fun b hb => ?_⟩ (by omega) ?_ C11 ?_ (dk_ans ls2[i] K7) ?_ (Rs.mono Q11 (by omega)) (Rs.mono T11 (by omega))
     ·rw [G.ext.2 b (by omega), E10.2 b (by have := E7.1; omega), o9 b (by omega), E8.2 b (by have := E7.1; omega), E7.2 b hb]
     ·have : (ws ++ runL (ls2.take (i + 1)) [] []).map sV = (ws ++ runL (ls2.take i) [] []).map sV ++ [sV (ansA ls2[i] q t).2.2] := by
       rw [et, runL_append, ← List.append_assoc, List.map_append, e7]; rfl
      rw [this]; exact G.own
     ·rw [et, stL_append, e7]; rfl
     ·exact (E10.blk B9).of_eq (G.ext.2 _ (by omega))
    refine ⟨_, B7.ld 0 rfl, _, B7.ld 1 rfl, ?_⟩
    refine rs_str' (Rs.ext S2 E7 (Nat.le_refl _)) hil fun p hp => ⟨_, hp h7 (Ext.refl _ _), ?_, ?_⟩
    ·refine answered_ok Q7 T7 (Nat.le_refl _) K7.ri (by omega) (by omega) K7.qi K7.ti hll fun s1 s2 h12 E12 Q12 T12 => ?_
     refine New.cells (cs := [Sl.v Sl.nil, Sl.v Sl.nil]) fun h13 E13 z13 B13 => ⟨hp h13 ((E12.trans E13).mono E7.1), ((E12.trans E13).blk B7).ld 0 rfl, ((E12.trans E13).blk B7).ld 1 rfl, ?_⟩
     have g1 := E12.1
     refine St.whole B13 rfl rfl fun h14 B14 o14 z14 => fin _ _ _ h14 ((E12.trans E13).over g1 o14 z14) B14 ?_ ?_
     ·exact Rs.mono (RI.over' (Rs.ext Q12 E13 (Nat.le_refl _)) (Nat.le_refl _) o14) (by omega)
     ·exact Rs.mono (RI.over' (Rs.ext T12 E13 (Nat.le_refl _)) (Nat.le_refl _) o14) (by omega)
    ·refine New.cells (cs := [Sl.v Sl.nil, Sl.v Sl.nil]) fun h15 E15 z15 B15 => ⟨hp h15 (E15.mono E7.1), (E15.blk B7).ld 0 rfl, (E15.blk B7).ld 1 rfl, ?_⟩
     refine answered_ok (Rs.ext Q7 E15 (Nat.le_refl _)) (Rs.ext T7 E15 (Nat.le_refl _)) E15.1 K7.ri (by omega) (by omega) K7.qi K7.ti hll fun s1 s2 h16 E16 Q16 T16 => ?_
     have B16 := E16.blk B15
     have nb := blk_notI B16 fun v hv => by
      rcases List.mem_cons.1 hv with rfl | hv
      ·exact notI_sl _
      ·rcases List.mem_cons.1 hv with rfl | hv
       ·exact notI_sl _
       ·cases hv
     refine St.whole B16 rfl rfl fun h17 B17 o17 z17 => fin _ _ _ h17 ((E15.trans E16).over (Nat.le_refl _) o17 z17) B17 ?_ ?_
     ·exact Rs.mono (RI.miss Q16 (Nat.le_refl _) nb fun b _ hb => o17 b hb) (by omega)
     ·exact Rs.mono (RI.miss T16 (Nat.le_refl _) nb fun b _ hb => o17 b hb) (by omega)
  exact loop ls2.length 0 want h6 [] [] Sl.nil Sl.nil (by omega) (E5.trans E6) E6.1 (by simpa [runL] using O6) C6 rfl DkN.nil (E6.blk B5) ⟨rfl, Nat.le_refl _, .inl rfl⟩ ⟨rfl, Nat.le_refl _, .inl rfl⟩
 refine ⟨fun c => ?_, fun c => ?_⟩
 ·have c := of_decide_eq_true c
  have e : linesA ls' = [eFull] := if_pos (by omega)
  refine New.cells (cs := [sV eFull]) fun h20 E20 z20 B20 => ?_
  refine all Sl.nil [] _ [eFull] h20 E20 ⟨rfl, Nat.le_refl _, .inl rfl⟩ (by simp) (fun x hx => by cases hx) (blk_one B20 (Nat.le_refl _)) (by simp) (blk_allC B20 fun v hv => by rw [List.mem_singleton.1 hv]; exact notI_str _) ?_
  rw [el, e]; rfl
 ·have c := of_decide_eq_false c
  have e : linesA ls' = runL ls' [] [] := if_neg (by omega)
  refine all lines ls' Sl.nil [] h5 (Fw.refl _) S' (by omega) hm' (Own.nil h5.size 1 h5) (by simp) (fun b hb => by cases hb) ?_
  rw [el, e]; rfl
end
end Go.Proofs.YthkimbiknhebeaaGreatDoor.St
