/- What the library does, typed. -/
import Derived.Test.YthkimbiknhebeaaGreatDoorShelf
import Derived.Test.YthkimbiknhebeaaGreatDoorStrA
import Derived.Test.YthkimbiknhebeaaGreatDoorTwB
import Derived.Lib.AtoiErrMem
namespace Go.Proofs.YthkimbiknhebeaaGreatDoor
open Go Go.RowKit Go.Tw
set_option linter.unusedVariables false
abbrev strings_Split (r : World) (s sep : ByteArray) (h : Heap) (R : Sl → Heap → Prop) : Prop := CallsH Tryz.prog r 9 [.string s, .string sep] h fun v h' => ∃ y : Sl, v = Sl.v y ∧ R y h'
abbrev strings_Join (r : World) (l : Sl) (sep : ByteArray) (h : Heap) (R : ByteArray → Heap → Prop) : Prop := CallsH Tryz.prog r 56 [Sl.v l, .string sep] h fun v h' => ∃ y : ByteArray, v = .string y ∧ R y h'
abbrev strconv_Itoa (r : World) (n : Int) (h : Heap) (R : ByteArray → Heap → Prop) : Prop := CallsH Tryz.prog r 27 [.int .i64 n] h fun v h' => ∃ y : ByteArray, v = .string y ∧ R y h'
abbrev strconv_Atoi (r : World) (s : ByteArray) (h : Heap) (R : Int → Value → Heap → Prop) : Prop := CallsH Tryz.prog r 43 [.string s] h fun v h' => ∃ (x : Int) (y : Value), v = .tuple #[.int .i64 x, y] ∧ R x y h'
namespace St
section
variable {r : World} {h : Heap}
theorem split_ok {s : ByteArray} {b : UInt8} {m : Int} {R : Sl → Heap → Prop} (hs : s.size < 4294967281) (hm : hcell h ⟨0, 0, none⟩ = some (.int .i64 m)) (H : ∀ s' h', Fw h h' → Own h.size 1 h' s' ((pcs b s.data.toList).map sV) → R s' h') : strings_Split r s ⟨#[b]⟩ h R := by
 intro dr
 refine (Tryz.strings_Split s ⟨#[b]⟩ m (wd r h dr) hs hm (Nat.le_refl 1)).mono fun e w' ⟨he, hw⟩ => ?_
 have hp := split_pcs b _ s (Nat.le_refl _)
 have hl : (pcs b s.data.toList).length = Lib.countB s ⟨#[b]⟩ + 1 := by
  have := congrArg List.length hp
  rw [List.length_map, List.length_map, Lib.splitB_all ⟨#[b]⟩ (Nat.le_refl 1) 0 _ s rfl] at this
  exact this.symm
 rw [hp] at hw
 refine ⟨_, h.push (.cells ((pcs b s.data.toList).map sV).toArray 9), dr, he, hw, ⟨some ⟨h.size, 0, none⟩, Lib.countB s ⟨#[b]⟩ + 1, Lib.countB s ⟨#[b]⟩ + 1⟩, rfl, H _ _ (Ext.push (Nat.le_refl _)) ?_⟩
 exact ⟨by rw [List.length_map, hl, Nat.mul_one], Nat.le_refl _, .inr ⟨h.size, [], rfl, Nat.le_refl _, by simpa using Blk.new, by simp [hl]⟩⟩
theorem below_grow {w : World} {k : Nat} {os : Array Obj} : Below w.heap.size w (Go.Sort.grow (w.drewN k) os) :=
 ⟨rfl, rfl, rfl, by show w.heap.size ≤ (w.heap ++ os).size; simp, fun i hi => by show (w.heap ++ os)[i]? = _; rw [Array.getElem?_append_left hi]⟩
theorem itoa_ok {n : Int} {R : ByteArray → Heap → Prop} (h0 : -9223372036854775808 ≤ n) (h1 : n ≤ 9223372036854775807) (ht : ∀ dr, Lib.TabIs Tryz.prog (wd r h dr) "internal/strconv.uint64pow10" .u64 Lib.pow10Tab) (H : ∀ h', Fw h h' → R ⟨(Lib.itoa n).toArray⟩ h') : strconv_Itoa r n h R := by
 refine CallsH.below fun dr => (Tryz.strconv_Itoa n h0 h1 (wd r h dr) (ht dr)).mono fun e w' ⟨he, k, os, hw⟩ => ?_
 subst hw
 exact ⟨_, he, below_grow (w := wd r h dr), fun F => ⟨_, rfl, H _ F⟩⟩
theorem join_ok {s : Sl} {l : List (List UInt8)} {sep : List UInt8} {m : Nat} {R : ByteArray → Heap → Prop} (S : Rs m 1 h s (l.map sV)) (hm : m ≤ h.size) (hz : l.length ≤ 140737488355328) (hj : (Lib.join l sep).length ≤ 140737488355328) (H : ∀ h', Fw h h' → R ⟨(Lib.join l sep).toArray⟩ h') : strings_Join r s ⟨sep.toArray⟩ h R := by
 refine CallsH.below fun dr => ?_
 have ls : s.len = l.length := by have := S.len; simpa using this
 cases hl : l with
 | nil =>
  subst hl
  have hs0 : s.len = 0 := by simpa using ls
  have := Tryz.strings_Join_none s.a s.cap ⟨sep.toArray⟩ (wd r h dr)
  rw [← hs0] at this
  refine this.mono fun e w' ⟨he, hw⟩ => ?_
  subst hw
  exact ⟨_, he, Below.refl _ _, fun F => ⟨_, rfl, H _ F⟩⟩
 | cons x xs =>
  rcases S.at_ with e | ⟨b, o, e1, e2, e3⟩
  ·rw [hl] at e; cases e
  ·have ev : Sl.v s = .slice (some ⟨b, o, none⟩) (l.map fun x => (⟨x.toArray⟩ : ByteArray)).length s.cap := by
    rw [List.length_map, ← ls]; show Value.slice s.a s.len s.cap = _; rw [e1]
   have ej : (l.map fun x => (⟨x.toArray⟩ : ByteArray)).map (fun y => y.data.toList) = l := by rw [List.map_map]; simp [Function.comp_def]
   have := Tryz.strings_Join b o s.cap (l.map fun x => (⟨x.toArray⟩ : ByteArray)) ⟨sep.toArray⟩ (wd r h dr) (fun j y hy => by
    have hjl : j < l.length := by have := (List.getElem?_eq_some_iff.1 hy).1; simpa using this
    have h1 := e3 j (by simpa using hjl)
    rw [List.getElem?_map, List.getElem?_eq_getElem hjl] at h1 hy
    cases hy
    exact h1) (by show b < h.size; omega) (by simpa using hz) (by have := S.cap; simp; omega) (by rw [ej]; simpa using hj)
   rw [← ev, ej] at this
   refine this.mono fun e w' ⟨he, hb⟩ => ⟨_, he, hb, fun F => ⟨_, rfl, H _ F⟩⟩
theorem atoi_ok {s : ByteArray} {ev ev2 : Value} {R : Int → Value → Heap → Prop} (hz : s.size ≤ 281474976710656) (hv : hcell h ⟨3, 0, none⟩ = some ev) (he : ev = .nilIface ∨ ∃ te pe, ev = .iface te pe) (hv2 : hcell h ⟨4, 0, none⟩ = some ev2) (he2 : ev2 = .nilIface ∨ ∃ te pe, ev2 = .iface te pe)
  (H1 : ∀ v h', Lib.atoiAll s.data.toList = .ok v → Fw h h' → R v .nilIface h') (H2 : (∀ v, Lib.atoiAll s.data.toList ≠ .ok v) → ∀ x t p h', Fw h h' → R x (.iface t p) h') : strconv_Atoi r s h R := by
 refine CallsH.below fun dr => ?_
 cases e : Lib.atoiAll s.data.toList
 ·rename_i v
  refine (Tryz.strconv_Atoi_ok s (by omega) v e (wd r h dr)).mono fun x w' ⟨hx, hw⟩ => ⟨_, hx, ?_, fun F => ⟨_, _, rfl, H1 _ _ e F⟩⟩
  rcases hw with rfl | ⟨t, rfl⟩
  ·exact Below.refl _ _
  ·exact Lib.bytesWorld_below (wd r h dr) _ t
 ·refine (Any.strconv_Atoi_syntax Tryz.laysC172 s hz e ev (wd r h dr) hv he).mono fun x w' ⟨N, hx, _, _, hb⟩ => ⟨_, hx, hb, fun F => ⟨_, _, rfl, H2 (fun v => by rw [e]; intro q; cases q) _ _ _ _ F⟩⟩
 ·refine (Tryz.strconv_Atoi_range s hz e ev2 (wd r h dr) hv2 he2).mono fun x w' ⟨N, hx, _, _, hb⟩ => ⟨_, hx, hb, fun F => ⟨_, _, rfl, H2 (fun v => by rw [e]; intro q; cases q) _ _ _ _ F⟩⟩
end
end St
end Go.Proofs.YthkimbiknhebeaaGreatDoor
