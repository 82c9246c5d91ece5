/- Numbers in order, also twice: what the functions do. -/
import Derived.Test.YtcafckgflpmfgaaDoorDVOOrd
import Derived.Test.YtcafckgflpmfgaaDoorDVOManP
import Derived.Test.YtcafckgflpmfgaaDoorOOrdL
import Derived.Test.YtcafckgflpmfgaaDoorDVRefP
namespace Go.Proofs.YtcafckgflpmfgaaDoor.Or
open Go Go.RowKit Go.Tw Go.Many Go.Ord
set_option linter.unusedVariables false
section
variable {A A' : Nat → Prop} {r : World} {h : Heap} {q : Option Addr} {l : List Int} {x : Int}

theorem ask_from {c : Nat} (C : Blk h c [iV x]) : Ask r (.func (.func 138) #[] #[.pointer (some (ad c 0))]) (fun s => (lastS s).any && decide (x ≤ (lastS s).x)) h := by
  intro h' E s K HK
  have g : ∀ {g}, Fw h' g → hcell g (ad c 0) = some (iV x) := fun E' => by have := ((E.trans E').blk C).ld 0 (v := iV x) rfl; rwa [ad_add] at this
  have main : ord_Order_from_1 r (lastS s).any (lastS s).x (ad c 0) h' fun y h'' => K (.bool y) h'' := by
    apply ord_Order_from_1_of
    refine New.cells fun h1 E1 z1 B1 => ?_
    intro J HJ
    refine ⟨_, B1.ld 0 rfl, fun c => ⟨_, B1.ld 1 rfl, _, g E1, HJ _ ?_⟩, fun c => HJ _ ?_⟩
    · have := HK h1 E1
      dsimp only at this
      rw [c, Bool.true_and] at this; exact this
    · have := HK h1 E1
      dsimp only at this
      rw [c, Bool.false_and] at this; exact this
  exact .inl ⟨_, _, _, rfl, Tryd.call138, CallsH.mono main fun v h'' ⟨y, hv, hR⟩ => by rw [hv]; exact hR⟩
theorem ask_behind {c : Nat} (C : Blk h c [iV x]) : Ask r (.func (.func 139) #[] #[.pointer (some (ad c 0))]) (fun s => (lastS s).any && decide (x < (lastS s).x)) h := by
  intro h' E s K HK
  have g : ∀ {g}, Fw h' g → hcell g (ad c 0) = some (iV x) := fun E' => by have := ((E.trans E').blk C).ld 0 (v := iV x) rfl; rwa [ad_add] at this
  have main : ord_Order_behind_1 r (lastS s).any (lastS s).x (ad c 0) h' fun y h'' => K (.bool y) h'' := by
    apply ord_Order_behind_1_of
    refine New.cells fun h1 E1 z1 B1 => ?_
    intro J HJ
    refine ⟨_, B1.ld 0 rfl, fun c => ⟨_, B1.ld 1 rfl, _, g E1, HJ _ ?_⟩, fun c => HJ _ ?_⟩
    · have := HK h1 E1
      dsimp only at this
      rw [c, Bool.true_and] at this; exact this
    · have := HK h1 E1
      dsimp only at this
      rw [c, Bool.false_and] at this; exact this
  exact .inl ⟨_, _, _, rfl, Tryd.call139, CallsH.mono main fun v h'' ⟨y, hv, hR⟩ => by rw [hv]; exact hR⟩

theorem from_ok {R : Int → Heap → Prop} (T : Tr A h q l) (hu : Up l) (hz : l.length < 1152921504606846970) (H : ∀ k h', Fw h h' → Ct (fun y => decide (y < x)) l k → R (k : Int) h') : ord_Order_from r q x h R := by
  apply ord_Order_from_of
  refine New.cells fun h1 E1 z1 B1 => New.cells fun h2 E2 z2 B2 => ⟨_, (E2.blk B1).ld2 0 0 rfl, ?_⟩
  refine find_ok (T.fw (E1.trans E2)) (ask_from B2) rfl hz fun k h3 E3 hk f0 f1 => H k h3 ((E1.trans E2).trans E3) ?_
  have := find_ct (q := fun z => decide (x ≤ z)) hu (fun a b hab ha => by simp at ha ⊢; omega) hk f0 f1
  have e : (fun y => !decide (x ≤ y)) = fun y => decide (y < x) := by funext y; apply Bool.eq_iff_iff.2; simp
  rwa [e] at this
theorem behind_ok {R : Int → Heap → Prop} (T : Tr A h q l) (hu : Up l) (hz : l.length < 1152921504606846970) (H : ∀ k h', Fw h h' → Ct (fun y => decide (y ≤ x)) l k → R (k : Int) h') : ord_Order_behind r q x h R := by
  apply ord_Order_behind_of
  refine New.cells fun h1 E1 z1 B1 => New.cells fun h2 E2 z2 B2 => ⟨_, (E2.blk B1).ld2 0 0 rfl, ?_⟩
  refine find_ok (T.fw (E1.trans E2)) (ask_behind B2) rfl hz fun k h3 E3 hk f0 f1 => H k h3 ((E1.trans E2).trans E3) ?_
  have := find_ct (q := fun z => decide (x < z)) hu (fun a b hab ha => by simp at ha ⊢; omega) hk f0 f1
  have e : (fun y => !decide (x < y)) = fun y => decide (y ≤ x) := by funext y; apply Bool.eq_iff_iff.2; simp
  rwa [e] at this

theorem oinsert_ok {R : Option Addr → Heap → Prop} (T : Tr A h q l) (hu : Up l) (hz : l.length < 1152921504606846970) (hA : ∀ b, h.size ≤ b → A b) (H : ∀ q' h', Fw h h' → Tr A h' q' (ins x l) → R q' h') : ord_Order_Insert r q x h R := by
  apply ord_Order_Insert_of
  refine New.cells fun h1 E1 z1 B1 => New.cells fun h2 E2 z2 B2 => ⟨_, (E2.blk B1).ld2 0 0 rfl, _, (E2.blk B1).ld 0 rfl, ?_⟩
  have E12 := E1.trans E2
  have hc : h.size ≤ h1.size := by omega
  refine behind_ok (T.fw E12) hu hz fun k h3 E3 C => ⟨(E3.blk (E2.blk B1)).ld2 0 0 rfl, ?_⟩
  have E13 := E12.trans E3
  have z3 := E3.1
  refine insert_ok (A := Bs A h1.size) (T.aside E13 hc) (by have := C.le; omega) hz (fun b hb => ⟨hA b (by omega), by omega⟩) fun q' h4 E4 T4 => ?_
  refine St.whole (E4.blk (E3.blk B2)) rfl rfl fun h5 B5 o5 z5 => ⟨_, B5.ld 0 rfl, H q' h5 ((E13.trans E4).over hc o5 z5) ?_⟩
  rw [ct_insert C] at T4
  exact T4.back o5 z5
theorem cells_map (l : List Int) : cellsOf l = l.map iV := by
  induction l with
  | nil => rfl
  | cons x l ih => simp only [cellsOf, List.flatMap_cons, List.map_cons, ec] at ih ⊢; rw [ih]; rfl
theorem obetween_ok {lo hi : Int} {R : Sl → Heap → Prop} (T : Tr A h q l) (hu : Up l) (hz : l.length ≤ 17592186044416) (hA : ∀ b, h.size ≤ b → A b) (H : ∀ s h', Fw h h' → Own h.size 1 h' s ((btw lo hi l).map iV) → R s h') : ord_Order_Between r q lo hi h R := by
  apply ord_Order_Between_of
  refine New.cells fun h1 E1 z1 B1 => ⟨_, B1.ld 0 rfl, _, B1.ld 0 rfl, ?_⟩
  refine from_ok (T.fw E1) hu (by omega) fun i h2 E2 C => ⟨(E2.blk B1).ld 0 rfl, behind_ok (T.fw (E1.trans E2)) hu (by omega) fun j h3 E3 D => ⟨fun c => ?_, fun c => ?_⟩⟩
  · have c := of_decide_eq_true c
    have e := btw_eq C D
    rw [List.drop_of_length_le (by rw [List.length_take]; omega)] at e
    refine H _ h3 ((E1.trans E2).trans E3) ?_
    rw [← e]; exact Own.nil _ _ _
  · have E13 := (E1.trans E2).trans E3
    have b := C.le
    have b2 := D.le
    have a1 := E13.1
    refine ⟨_, ((E2.trans E3).blk B1).ld2 0 0 rfl, tsplit_ok (T.fw E13) (by omega) (by omega) (fun b hb => hA b (by omega)) fun qa qb h4 E4 Ta Tb => ?_⟩
    have a4 := E4.1
    refine New.cells fun h5 E5 z5 B5 => New.cells fun h6 E6 z6 B6 => ?_
    refine St.whole (E6.blk B5) rfl rfl fun h7 B7 o7 z7 => ?_
    refine St.whole (B6.other o7 (by omega)) rfl rfl fun h8 B8 o8 z8 => ?_
    have E48 : Fw h4 h8 := ((E5.trans E6).over (Nat.le_refl _) o7 z7).over (by omega) o8 z8
    refine ⟨_, (B7.other o8 (by omega)).ld 0 rfl, tsplit_ok (Ta.fw E48) (by omega) (by simp; omega) (fun b hb => hA b (by have := E48.1; omega)) fun qc qd h9 E9 Tc Td => ?_⟩
    have a9 := E9.1
    refine New.cells fun h10 E10 z10 B10 => New.cells fun h11 E11 z11 B11 => ?_
    refine St.whole (E11.blk B10) rfl rfl fun h12 B12 o12 z12 => ?_
    refine St.whole (B11.other o12 (by omega)) rfl rfl fun h13 B13 o13 z13 => ?_
    have E913 : Fw h9 h13 := ((E10.trans E11).over (Nat.le_refl _) o12 z12).over (by omega) o13 z13
    have E := (((E13.trans E4).trans E48).trans E9).trans E913
    rw [btw_eq C D] at Td
    refine ⟨_, B13.ld 0 rfl, all_ok (Td.fw E913) (by have : (btw lo hi l).length ≤ l.length := List.length_filter_le ..; omega) fun s h14 E14 O => H s h14 (E.trans E14) ?_⟩
    rw [cells_map] at O
    exact O.mono E.1
end
end Go.Proofs.YtcafckgflpmfgaaDoor.Or
