/- The first lines stay; a line that ends in an error changes nothing. -/
import Derived.Test.YthkimbiknhebeaaGreatDoorGLawP
namespace Go.Proofs.YthkimbiknhebeaaGreatDoor.St
open Go Go.RowKit Go.Tw
open Go.Proofs.YthkimbiknhebeaaGreatDoor.Wb (Ri lo hi)
set_option linter.unusedVariables false
def tailL : List UInt8 := [10, 108, 105, 115, 116, 10, 115, 101, 116]
theorem ba_app (a b : List UInt8) : (⟨a.toArray⟩ : ByteArray) ++ (⟨b.toArray⟩ : ByteArray) = ⟨(a ++ b).toArray⟩ := by
 apply ByteArray.ext
 simp
theorem pcs_app (c : UInt8) : ∀ (a b : List UInt8), pcs c (a ++ c :: b) = pcs c a ++ pcs c b
 | [], b => by simp [pcs]
 | x :: a, b => by
  have ih := pcs_app c a b
  have hne := pcs_ne c a
  rw [List.cons_append, pcs_cons, pcs_cons, ih]
  split
  ·rfl
  ·cases e : pcs c a with
   | nil => exact absurd e hne
   | cons p ps => rfl
theorem tail_pcs (s : List UInt8) : pcs 10 (s ++ tailL) = pcs 10 s ++ [wList, wSet] := by
 have : tailL = 10 :: [108, 105, 115, 116, 10, 115, 101, 116] := rfl
 rw [this, pcs_app]; rfl
theorem trim_set (l : List (List UInt8)) : trimL (l ++ [wList, wSet]) = l ++ [wList, wSet] := by
 unfold trimL
 rw [if_neg]
 have : l ++ [wList, wSet] = (l ++ [wList]) ++ [wSet] := by simp
 rw [this, List.getLast?_concat]
 intro e; cases e
theorem run_tail (s : List UInt8) : runA (s ++ tailL) = linesA (pcs 10 s ++ [wList, wSet]) := by
 unfold runA; rw [tail_pcs, trim_set]
theorem run_tail2 (s line : List UInt8) : runA (s ++ [10] ++ line ++ tailL) = linesA (pcs 10 s ++ pcs 10 line ++ [wList, wSet]) := by
 have : s ++ [10] ++ line ++ tailL = (s ++ 10 :: line) ++ tailL := by simp
 rw [this]; unfold runA; rw [tail_pcs, trim_set, pcs_app]
theorem sub_str {n lo hi mx : Nat} {h : Heap} {s : Sl} {l : List (List UInt8)} (S : Rs n 1 h s (l.map sV)) (h1 : lo < hi) (h2 : hi ≤ l.length) (h3 : hi ≤ mx) : Rs n 1 h ⟨sliceA s.a mx lo 1, hi - lo, mx - lo⟩ (((l.drop lo).take (hi - lo)).map sV) := by
 have := Rs.sub S h1 (by simpa using h2) h3
 rwa [← List.map_drop, ← List.map_take] at this
section
variable {r : World} {g : Nat} {h : Heap}
set_option maxHeartbeats 1600000 in
theorem keeps_ok {s line : List UInt8} {R : Bool → Heap → Prop} (L : Lb r g h) (hg : g ≤ h.size) (hs : s.length ≤ 134217728) (hln : line.length ≤ 134217728) (H : ∀ h', Fw h h' → R true h') : law5_DeskKeeps r ⟨s.toArray⟩ ⟨line.toArray⟩ h R := by
 apply law5_DeskKeeps_of
 unfold law5_DeskKeeps_F
 refine run_ok (s := factL) L hg (by decide) fun y2 h1 E1 O1 => ?_
 rw [run_fact] at O1
 refine New.cells (cs := [sV [49], sV [49]]) fun h2 E2 z2 B2 => ?_
 have O2 : Rs h2.size 1 h2 ⟨some (ad h1.size 0), 2, 2⟩ ([[49], [49]].map sV) := ⟨rfl, Nat.le_refl _, .inr ⟨h1.size, 0, rfl, B2.lt, fun i hi => by rw [B2.cell, Nat.zero_add]; rfl⟩⟩
 refine texts_ok (O1.ext E2).rs O2 (by decide) ?_
 rw [decide_eq_true rfl]
 have E02 := E1.trans E2
 have tl9 : tailL.length = 9 := rfl
 refine ⟨by show s.length + 9 ≤ _; omega, ?_⟩
 rw [show (⟨#[10, 108, 105, 115, 116, 10, 115, 101, 116]⟩ : ByteArray) = ⟨tailL.toArray⟩ from rfl, show (⟨#[10]⟩ : ByteArray) = ⟨([10] : List UInt8).toArray⟩ from rfl]
 simp only [ba_app]
 refine run_ok (L.ext (E02.mono hg)) (by have := E02.1; omega) (by simp [tl9]; omega) fun y11 h4 E4 O4 => ?_
 have E04 := E02.trans E4
 refine ⟨by show s.length + 1 ≤ _; omega, by show (s ++ [10]).length + line.length ≤ _; simp; omega, by show (s ++ [10] ++ line).length + 9 ≤ _; simp; omega, ?_⟩
 refine run_ok (L.ext (E04.mono hg)) (by have := E04.1; omega) (by simp [tl9]; omega) fun y21 h5 E5 O5 => ?_
 have E05 := E04.trans E5
 refine ⟨fun c => (by cases c), fun _ => ?_⟩
 have hd : (⟨line.toArray⟩ : ByteArray).data.toList = line := by simp
 refine cut_ok (b := 10) (by rw [hd]; omega) fun y22 h6 E6 O6 => ?_
 rw [hd] at O6
 have E06 := E05.trans E6
 rw [run_tail] at O4
 rw [run_tail2] at O5
 have n1 : 1 ≤ (pcs 10 s).length := by
  have := pcs_ne 10 s
  cases e : pcs 10 s with
  | nil => exact absurd e this
  | cons x l => simp
 have pl := pcs_len 10 s
 generalize pcs 10 s = ls at O4 O5 n1 pl
 generalize pcs 10 line = xs at O5 O6
 have l11 : y11.len = (linesA (ls ++ [wList, wSet])).length := by have := O4.rs.len; rw [List.length_map] at this; omega
 have l21 : y21.len = (linesA (ls ++ xs ++ [wList, wSet])).length := by have := O5.rs.len; rw [List.length_map] at this; omega
 have l22 : y22.len = xs.length := by have := O6.rs.len; simp at this; omega
 have c11 := O4.rs.cap
 have c21 := O5.rs.cap
 have b11 : (linesA (ls ++ [wList, wSet])).length ≤ 100 := by
  unfold linesA; split
  ·simp
  ·rw [runL_len]; omega
 have e1 : w64 ((y11.len : Int) + 1) = (y11.len : Int) + 1 := w64_of (by omega) (by omega)
 rw [e1]
 refine ⟨fun _ => H h6 E06, fun c => ?_⟩
 have c : (y22.len = 1 ∧ y21.len = y11.len + 1) ∧ 2 ≤ y11.len := by
  simp only [Bool.or_eq_false_iff, Bool.not_eq_false', decide_eq_true_eq, decide_eq_false_iff_not] at c
  omega
 obtain ⟨⟨c1, c2⟩, c3⟩ := c
 obtain ⟨x, rfl⟩ : ∃ x, xs = [x] := by
  match xs, l22 with
  | [x], _ => exact ⟨x, rfl⟩
  | [], h => simp at h; omega
  | _ :: _ :: _, h => simp at h; omega
 -- neither is too long
 have f1 : linesA (ls ++ [wList, wSet]) = runL (ls ++ [wList, wSet]) [] [] := by
  unfold linesA at l11 ⊢
  split at l11
  ·simp at l11; omega
  ·rename_i q; rw [if_neg q]
 have f2 : linesA (ls ++ [x] ++ [wList, wSet]) = runL (ls ++ [x] ++ [wList, wSet]) [] [] := by
  unfold linesA at l21 ⊢
  split at l21
  ·simp at l21; omega
  ·rename_i q; rw [if_neg q]
 have hlen : ls.length ≤ 98 := by rw [f1, runL_len] at b11; simp at b11; omega
 rw [f1, runL_len] at l11
 rw [f2, runL_len] at l21
 rw [f1, runL_append] at O4
 rw [f2, runL_append, runL_append, stL_append] at O5
 simp only [List.length_append, List.length_cons, List.length_nil] at l11 l21
 have la : (runL ls [] []).length = ls.length := runL_len _ _ _
 have K := dk_st ls DkN.nil
 generalize runL ls [] [] = A at O4 O5 la
 generalize stL ls [] [] = st at O4 O5 K
 obtain ⟨q, t⟩ := st
 have O4 : Own h2.size 1 h4 y11 ((A ++ runL [wList, wSet] q t).map sV) := O4
 have O5 : Own h4.size 1 h5 y21 ((A ++ [(ansA x q t).2.2] ++ runL [wList, wSet] (ansA x q t).1 (ansA x q t).2.1).map sV) := O5
 have w2 : (runL [wList, wSet] q t).length = 2 := rfl
 have w2' : (runL [wList, wSet] (ansA x q t).1 (ansA x q t).2.1).length = 2 := rfl
 have S4 := (O4.ext (E5.trans E6)).rs
 have S5 := (O5.ext E6).rs
 have ew : w64 ((y11.len : Int) - 2) = ((ls.length : Nat) : Int) := by rw [w64_of (by omega) (by omega)]; omega
 have ew1 : w64 ((y11.len : Int) - 1) = ((ls.length + 1 : Nat) : Int) := by rw [w64_of (by omega) (by omega)]; omega
 rw [ew, ew1]
 refine ⟨by decide, by omega, by omega, by omega, fun s29 e29 => ⟨by decide, by omega, by omega, by omega, fun s35 e35 => ?_⟩⟩
 have i0 : ((0 : Int)).toNat = 0 := rfl
 have i1 : ((ls.length : Nat) : Int).toNat = ls.length := by omega
 have i2 : ((y11.cap : Int)).toNat = y11.cap := by omega
 have i3 : ((y21.cap : Int)).toNat = y21.cap := by omega
 have i4 : ((y11.len : Int)).toNat = ls.length + 2 := by omega
 have i5 : ((ls.length + 1 : Nat) : Int).toNat = ls.length + 1 := by omega
 have i6 : ((y21.len : Int)).toNat = ls.length + 3 := by omega
 rw [i0, i1, i2] at e29
 rw [i0, i1, i3] at e35
 have S29 := sub_str (lo := 0) (hi := ls.length) (mx := y11.cap) S4 (by omega) (by simp; omega) (by omega)
 have S35 := sub_str (lo := 0) (hi := ls.length) (mx := y21.cap) S5 (by omega) (by simp; omega) (by omega)
 rw [← e29, List.drop_zero, Nat.sub_zero, List.take_left' la] at S29
 rw [← e35, List.drop_zero, Nat.sub_zero, List.append_assoc, List.take_left' la] at S35
 refine texts_ok S29 S35 (by omega) ?_
 rw [decide_eq_true rfl]
 have gx : ∀ (hi' : ls.length < (A ++ [(ansA x q t).2.2] ++ runL [wList, wSet] (ansA x q t).1 (ansA x q t).2.1).length), (A ++ [(ansA x q t).2.2] ++ runL [wList, wSet] (ansA x q t).1 (ansA x q t).2.1)[ls.length] = (ansA x q t).2.2 := fun hi' => by
  simp [List.getElem_append, la]
 intro J43 HJ
 have J1 : J43 true := HJ _ ⟨fun _ => H h6 E06, fun c => (by cases c)⟩
 have J0 : ((ansA x q t).2.2 = eSyn ∨ (ansA x q t).2.2 = eRng) → J43 false := fun he => by
  have es := ans_err (n := 0 + ls.length) (by omega) K he
  refine HJ _ ⟨fun c => (by cases c), fun _ => ⟨by omega, by omega, by omega, by omega, fun s45 e45 => ⟨by omega, by omega, by omega, by omega, fun s51 e51 => ?_⟩⟩⟩
  rw [i1, i2, i4] at e45
  rw [i5, i3, i6] at e51
  have S45 := sub_str (lo := ls.length) (hi := ls.length + 2) (mx := y11.cap) S4 (by omega) (by simp; omega) (by omega)
  have S51 := sub_str (lo := ls.length + 1) (hi := ls.length + 3) (mx := y21.cap) S5 (by omega) (by simp; omega) (by omega)
  rw [← e45, List.drop_left' la, List.take_of_length_le (by omega)] at S45
  rw [← e51, List.drop_left' (by simp [la]), List.take_of_length_le (by omega)] at S51
  refine texts_ok S45 S51 (by omega) ?_
  rw [es.1, es.2, decide_eq_true rfl]
  exact H h6 E06
 refine rs_str S5 (i := ls.length) (by simp; omega) fun p hp => ⟨_, hp, ?_⟩
 rw [gx]
 refine ⟨fun c => ?_, fun c => ?_⟩
 ·refine rs_str S5 (i := ls.length) (by simp; omega) fun p hp => ⟨_, hp, ?_⟩
  rw [gx]
  by_cases er : (ansA x q t).2.2 = eRng
  ·have := J0 (.inr er)
   rw [er]
   exact this
  ·show J43 (!decide ((⟨(ansA x q t).2.2.toArray⟩ : ByteArray) = (⟨#[69, 114, 114, 82, 97, 110, 103, 101]⟩)))
   rw [show decide ((⟨(ansA x q t).2.2.toArray⟩ : ByteArray) = (⟨#[69, 114, 114, 82, 97, 110, 103, 101]⟩)) = false from decide_eq_false fun e => er (ba_eq (b := eRng) e)]
   exact J1
 ·refine J0 (.inl ?_)
  have c : decide ((⟨(ansA x q t).2.2.toArray⟩ : ByteArray) = (⟨#[69, 114, 114, 83, 121, 110, 116, 97, 120]⟩)) = true := by simpa using c
  exact ba_eq (b := eSyn) (of_decide_eq_true c)
end
end Go.Proofs.YthkimbiknhebeaaGreatDoor.St
