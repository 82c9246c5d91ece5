/- Numbers in order, also twice: what the functions do. -/
import Derived.Test.YtikccpmhoioaeaaOOrd
import Derived.Test.YtikccpmhoioaeaaOManP
import Derived.Test.YtikccpmhoioaeaaOOrdL
import Derived.Test.YtikccpmhoioaeaaORefP
namespace Go.Proofs.Ytikccpmhoioaeaa.Or
open Go Go.RowKit Go.Tw Go.Many Go.Ord
set_option linter.unusedVariables false
section
variable {A A' : Nat → Prop} {r : World} {h : Heap} {q : Option Addr} {l : List Int} {x : Int}

theorem ask_from {c : Nat} (C : Blk h c [iV x]) : Ask r (.func (.func 66) #[] #[.pointer (some (ad c 0))]) (fun s => (lastS s).any && decide (x ≤ (lastS s).x)) h := by
  intro h' E s K HK
  have g : ∀ {g}, Fw h' g → hcell g (ad c 0) = some (iV x) := fun E' => by have := ((E.trans E').blk C).ld 0 (v := iV x) rfl; rwa [ad_add] at this
  have main : ord_Order_from_1 r (lastS s).any (lastS s).x (ad c 0) h' fun y h'' => K (.bool y) h'' := by
    apply ord_Order_from_1_of
    refine New.cells fun h1 E1 z1 B1 => ?_
    intro J HJ
    refine ⟨_, B1.ld 0 rfl, fun c => ⟨_, B1.ld 1 rfl, _, g E1, HJ _ ?_⟩, fun c => HJ _ ?_⟩
    · have := HK h1 E1
      dsimp only at this
      rw [c, Bool.true_and] at this; exact this
    · have := HK h1 E1
      dsimp only at this
      rw [c, Bool.false_and] at this; exact this
  exact .inl ⟨_, _, _, rfl, Try.call66, CallsH.mono main fun v h'' ⟨y, hv, hR⟩ => by rw [hv]; exact hR⟩
theorem ask_behind {c : Nat} (C : Blk h c [iV x]) : Ask r (.func (.func 67) #[] #[.pointer (some (ad c 0))]) (fun s => (lastS s).any && decide (x < (lastS s).x)) h := by
  intro h' E s K HK
  have g : ∀ {g}, Fw h' g → hcell g (ad c 0) = some (iV x) := fun E' => by have := ((E.trans E').blk C).ld 0 (v := iV x) rfl; rwa [ad_add] at this
  have main : ord_Order_behind_1 r (lastS s).any (lastS s).x (ad c 0) h' fun y h'' => K (.bool y) h'' := by
    apply ord_Order_behind_1_of
    refine New.cells fun h1 E1 z1 B1 => ?_
    intro J HJ
    refine ⟨_, B1.ld 0 rfl, fun c => ⟨_, B1.ld 1 rfl, _, g E1, HJ _ ?_⟩, fun c => HJ _ ?_⟩
    · have := HK h1 E1
      dsimp only at this
      rw [c, Bool.true_and] at this; exact this
    · have := HK h1 E1
      dsimp only at this
      rw [c, Bool.false_and] at this; exact this
  exact .inl ⟨_, _, _, rfl, Try.call67, CallsH.mono main fun v h'' ⟨y, hv, hR⟩ => by rw [hv]; exact hR⟩

theorem from_ok {R : Int → Heap → Prop} (T : Tr A h q l) (hu : Up l) (hz : l.length < 1152921504606846970) (H : ∀ k h', Fw h h' → Ct (fun y => decide (y < x)) l k → R (k : Int) h') : ord_Order_from r q x h R := by
  apply ord_Order_from_of
  refine New.cells fun h1 E1 z1 B1 => New.cells fun h2 E2 z2 B2 => ⟨_, (E2.blk B1).ld2 0 0 rfl, ?_⟩
  refine find_ok (T.fw (E1.trans E2)) (ask_from B2) rfl hz fun k h3 E3 hk f0 f1 => H k h3 ((E1.trans E2).trans E3) ?_
  have := find_ct (q := fun z => decide (x ≤ z)) hu (fun a b hab ha => by simp at ha ⊢; omega) hk f0 f1
  have e : (fun y => !decide (x ≤ y)) = fun y => decide (y < x) := by funext y; apply Bool.eq_iff_iff.2; simp
  rwa [e] at this
theorem behind_ok {R : Int → Heap → Prop} (T : Tr A h q l) (hu : Up l) (hz : l.length < 1152921504606846970) (H : ∀ k h', Fw h h' → Ct (fun y => decide (y ≤ x)) l k → R (k : Int) h') : ord_Order_behind r q x h R := by
  apply ord_Order_behind_of
  refine New.cells fun h1 E1 z1 B1 => New.cells fun h2 E2 z2 B2 => ⟨_, (E2.blk B1).ld2 0 0 rfl, ?_⟩
  refine find_ok (T.fw (E1.trans E2)) (ask_behind B2) rfl hz fun k h3 E3 hk f0 f1 => H k h3 ((E1.trans E2).trans E3) ?_
  have := find_ct (q := fun z => decide (x < z)) hu (fun a b hab ha => by simp at ha ⊢; omega) hk f0 f1
  have e : (fun y => !decide (x < y)) = fun y => decide (y ≤ x) := by funext y; apply Bool.eq_iff_iff.2; simp
  rwa [e] at this

theorem oinsert_ok {R : Option Addr → Heap → Prop} (T : Tr A h q l) (hu : Up l) (hz : l.length < 1152921504606846970) (hA : ∀ b, h.size ≤ b → A b) (H : ∀ q' h', Fw h h' → Tr A h' q' (ins x l) → R q' h') : ord_Order_Insert r q x h R := by
  apply ord_Order_Insert_of
  refine New.cells fun h1 E1 z1 B1 => New.cells fun h2 E2 z2 B2 => ⟨_, (E2.blk B1).ld2 0 0 rfl, _, (E2.blk B1).ld 0 rfl, ?_⟩
  have E12 := E1.trans E2
  have hc : h.size ≤ h1.size := by omega
  refine behind_ok (T.fw E12) hu hz fun k h3 E3 C => ⟨(E3.blk (E2.blk B1)).ld2 0 0 rfl, ?_⟩
  have E13 := E12.trans E3
  have z3 := E3.1
  refine insert_ok (A := Bs A h1.size) (T.aside E13 hc) (by have := C.le; omega) hz (fun b hb => ⟨hA b (by omega), by omega⟩) fun q' h4 E4 T4 => ?_
  refine St.whole (E4.blk (E3.blk B2)) rfl rfl fun h5 B5 o5 z5 => ⟨_, B5.ld 0 rfl, H q' h5 ((E13.trans E4).over hc o5 z5) ?_⟩
  rw [ct_insert C] at T4
  exact T4.back o5 z5
theorem odrop_ok {R : Option Addr → Heap → Prop} (T : Tr A h q l) (hu : Up l) (hz : l.length < 576460752303423485) (hA : ∀ b, h.size ≤ b → A b) (H : ∀ q' h', Fw h h' → Tr A h' q' (gone x l) → R q' h') : ord_Order_Drop r q x h R := by
  apply ord_Order_Drop_of
  refine New.cells fun h1 E1 z1 B1 => New.cells fun h2 E2 z2 B2 => ⟨_, (E2.blk B1).ld2 0 0 rfl, _, (E2.blk B1).ld 0 rfl, _, (E2.blk B1).ld 0 rfl, ?_⟩
  have E12 := E1.trans E2
  have hc : h.size ≤ h1.size := by omega
  refine from_ok (T.fw E12) hu (by omega) fun i h3 E3 C => ⟨(E3.blk (E2.blk B1)).ld 0 rfl, (E3.blk (E2.blk B1)).ld2 0 0 rfl, ?_⟩
  have E13 := E12.trans E3
  refine behind_ok (T.fw E13) hu (by omega) fun j h4 E4 D => ⟨(E4.blk (E3.blk (E2.blk B1))).ld2 0 0 rfl, ?_⟩
  have E14 := E13.trans E4
  have z3 := E3.1
  have z4 := E4.1
  refine cut_ok (A := Bs A h1.size) (T.aside E14 hc) (by have := C.le; omega) (by have := D.le; omega) hz (fun b hb => ⟨hA b (by omega), by omega⟩) fun q' h5 E5 T5 => ?_
  refine St.whole ((E4.trans E5).blk (E3.blk B2)) rfl rfl fun h6 B6 o6 z6 => ⟨_, B6.ld 0 rfl, H q' h6 ((E14.trans E5).over hc o6 z6) ?_⟩
  have e : l.take i ++ l.drop j = gone x l := by rw [C.take, D.drop]; rfl
  rw [e] at T5
  exact T5.back o6 z6
theorem ocount_ok {R : Int → Heap → Prop} (T : Tr A h q l) (hu : Up l) (hz : l.length < 576460752303423485) (H : ∀ h', Fw h h' → R (l.count x : Int) h') : ord_Order_Count r q x h R := by
  apply ord_Order_Count_of
  refine New.cells fun h1 E1 z1 B1 => ⟨_, B1.ld 0 rfl, _, B1.ld 0 rfl, ?_⟩
  refine behind_ok (T.fw E1) hu (by omega) fun j h2 E2 D => ⟨(E2.blk B1).ld 0 rfl, from_ok (T.fw (E1.trans E2)) hu (by omega) fun i h3 E3 C => ?_⟩
  have a := count_eq l x
  rw [← C.len, ← D.len] at a
  have b := C.le
  have c := D.le
  have e : w64 ((j : Int) - (i : Int)) = (l.count x : Int) := by rw [w64_of] <;> omega
  rw [e]; exact H h3 ((E1.trans E2).trans E3)
theorem cells_map (l : List Int) : cellsOf l = l.map iV := by
  induction l with
  | nil => rfl
  | cons x l ih => simp only [cellsOf, List.flatMap_cons, List.map_cons, ec] at ih ⊢; rw [ih]; rfl
theorem oints_ok {R : Sl → Heap → Prop} (T : Tr A h q l) (hz : l.length ≤ 17592186044416) (H : ∀ s h', Fw h h' → Own h.size 1 h' s (l.map iV) → R s h') : ord_Order_Ints r q h R := by
  apply ord_Order_Ints_of
  refine New.cells fun h1 E1 z1 B1 => ⟨_, B1.ld2 0 0 rfl, all_ok (T.fw E1) hz fun s h2 E2 O => H s h2 (E1.trans E2) ?_⟩
  rw [cells_map] at O
  exact O.mono E1.1
theorem obetween_ok {lo hi : Int} {R : Sl → Heap → Prop} (T : Tr A h q l) (hu : Up l) (hz : l.length ≤ 17592186044416) (hA : ∀ b, h.size ≤ b → A b) (H : ∀ s h', Fw h h' → Own h.size 1 h' s ((btw lo hi l).map iV) → R s h') : ord_Order_Between r q lo hi h R := by
  apply ord_Order_Between_of
  refine New.cells fun h1 E1 z1 B1 => ⟨_, B1.ld 0 rfl, _, B1.ld 0 rfl, ?_⟩
  refine from_ok (T.fw E1) hu (by omega) fun i h2 E2 C => ⟨(E2.blk B1).ld 0 rfl, behind_ok (T.fw (E1.trans E2)) hu (by omega) fun j h3 E3 D => ⟨fun c => ?_, fun c => ?_⟩⟩
  · have c := of_decide_eq_true c
    have e := btw_eq C D
    rw [List.drop_of_length_le (by rw [List.length_take]; omega)] at e
    refine H _ h3 ((E1.trans E2).trans E3) ?_
    rw [← e]; exact Own.nil _ _ _
  · have E13 := (E1.trans E2).trans E3
    have b := C.le
    have b2 := D.le
    have a1 := E13.1
    refine ⟨_, ((E2.trans E3).blk B1).ld2 0 0 rfl, tsplit_ok (T.fw E13) (by omega) (by omega) (fun b hb => hA b (by omega)) fun qa qb h4 E4 Ta Tb => ?_⟩
    have a4 := E4.1
    refine New.cells fun h5 E5 z5 B5 => New.cells fun h6 E6 z6 B6 => ?_
    refine St.whole (E6.blk B5) rfl rfl fun h7 B7 o7 z7 => ?_
    refine St.whole (B6.other o7 (by omega)) rfl rfl fun h8 B8 o8 z8 => ?_
    have E48 : Fw h4 h8 := ((E5.trans E6).over (Nat.le_refl _) o7 z7).over (by omega) o8 z8
    refine ⟨_, (B7.other o8 (by omega)).ld 0 rfl, tsplit_ok (Ta.fw E48) (by omega) (by simp; omega) (fun b hb => hA b (by have := E48.1; omega)) fun qc qd h9 E9 Tc Td => ?_⟩
    have a9 := E9.1
    refine New.cells fun h10 E10 z10 B10 => New.cells fun h11 E11 z11 B11 => ?_
    refine St.whole (E11.blk B10) rfl rfl fun h12 B12 o12 z12 => ?_
    refine St.whole (B11.other o12 (by omega)) rfl rfl fun h13 B13 o13 z13 => ?_
    have E913 : Fw h9 h13 := ((E10.trans E11).over (Nat.le_refl _) o12 z12).over (by omega) o13 z13
    have E := (((E13.trans E4).trans E48).trans E9).trans E913
    rw [btw_eq C D] at Td
    refine ⟨_, B13.ld 0 rfl, all_ok (Td.fw E913) (by have : (btw lo hi l).length ≤ l.length := List.length_filter_le ..; omega) fun s h14 E14 O => H s h14 (E.trans E14) ?_⟩
    rw [cells_map] at O
    exact O.mono E.1
theorem oof_ok {s : Sl} {n : Nat} {m : List Int} {R : Option Addr → Heap → Prop} (hs : RI n h s m) (hn : n ≤ h.size) (hz : m.length < 576460752303423485) (hA : ∀ b, h.size ≤ b → A b) (H : ∀ u q' h', Fw h h' → Up u → u.Perm m → Tr A h' q' u → R q' h') : ord_Of r s h R := by
  apply ord_Of_of
  have hlen := hs.len
  refine New.cells fun h1 E1 z1 B1 => New.cells fun h2 E2 z2 B2 => ?_
  have E12 := E1.trans E2
  have hA2 : ∀ b, h2.size ≤ b → Bs (Bs A h.size) h1.size b := fun b hb => ⟨⟨hA b (by have := E12.1; omega), by omega⟩, by omega⟩
  intro X HX
  have key : ∀ (d i : Nat) (u : List Int) (h3 : Heap) (q' : Option Addr), i + d = m.length → Fw h h3 → h2.size ≤ h3.size → Blk h3 h.size [.pointer none] → Blk h3 h1.size [.pointer q'] → Up u → u.Perm (m.take i) → Tr (Bs (Bs A h.size) h1.size) h3 q' u → X (i : Int) h3 := by
    intro d
    induction d with
    | zero =>
      intro i u h3 q' hi E3 hz3 C3 B3 hu hp T3
      rw [List.take_of_length_le (by omega)] at hp
      refine HX _ _ ⟨fun c => absurd (of_decide_eq_true c) (by omega), fun _ => ⟨_, B3.ld 0 rfl, ?_⟩⟩
      refine St.whole C3 rfl rfl fun h6 B6 o6 z6 => ⟨_, B6.ld 0 rfl, H u q' h6 (E3.over (Nat.le_refl _) o6 z6) hu hp ?_⟩
      exact (T3.to (To.over (fun e => e.1.2 rfl) o6 z6)).weak fun b hb => hb.1.1
    | succ d ih =>
      intro i u h3 q' hi E3 hz3 C3 B3 hu hp T3
      have hil : i < m.length := by omega
      have hul := hp.length_eq
      rw [List.length_take] at hul
      refine HX _ _ ⟨fun _ => ?_, fun c => absurd (of_decide_eq_false c) (by omega)⟩
      refine RI.ix (hs.ext E3 hn) (by omega) (by omega) fun p _ hp' => ⟨_, hp', _, B3.ld 0 rfl, ?_⟩
      have ex : m[(i : Int).toNat]! = m[i] := by rw [Int.toNat_natCast, getElem!_pos m i hil]
      rw [ex]
      refine oinsert_ok T3 hu (by omega) (fun b hb => hA2 b (by omega)) fun q2 h4 E4 T4 => ?_
      have hz4 := E4.1
      refine St.whole (E4.blk B3) rfl rfl fun h5 B5 o5 z5 => ?_
      rw [w64_of (by omega) (by omega)]
      have e : m.take (i + 1) = m.take i ++ [m[i]] := by rw [List.take_add_one, List.getElem?_eq_getElem hil]; rfl
      refine ih (i + 1) (ins m[i] u) h5 q2 (by omega) ((E3.trans E4).over E1.1 o5 z5) (by omega) ((E4.blk C3).other o5 (by omega)) B5 (ins_up hu) ?_ (T4.to (To.over (fun e => e.2 rfl) o5 z5))
      rw [e]
      exact (ins_perm _ _).trans ((hp.cons _).trans (List.perm_append_singleton _ _).symm)
  exact key m.length 0 [] h2 none (by omega) E12 (Nat.le_refl _) (E2.blk B1) B2 List.Pairwise.nil (by simp) (Tr.nil _ _)

/-! ### The statements' own words -/
theorem often_ok {s : Sl} {n : Nat} {m : List Int} {R : Int → Heap → Prop} (hs : RI n h s m) (hz : m.length < 4611686018427387904) (H : R (m.count x : Int) h) : ref1_Often r s x h R := by
  apply ref1_Often_of
  have hlen := hs.len
  intro X HX
  have key : ∀ (d i : Nat), i + d = m.length → X ((m.take i).count x : Int) (i : Int) := by
    intro d
    induction d with
    | zero =>
      intro i hi
      rw [List.take_of_length_le (by omega)]
      exact HX _ _ ⟨fun c => absurd (of_decide_eq_true c) (by omega), fun _ => H⟩
    | succ d ih =>
      intro i hi
      have hil : i < m.length := by omega
      refine HX _ _ ⟨fun _ => ?_, fun c => absurd (of_decide_eq_false c) (by omega)⟩
      intro J HJ
      refine RI.ix hs (by omega) (by omega) fun p _ hp => ⟨_, hp, ?_⟩
      have ex : m[(i : Int).toNat]! = m[i] := by rw [Int.toNat_natCast, getElem!_pos m i hil]
      rw [ex]
      have e : m.take (i + 1) = m.take i ++ [m[i]] := by rw [List.take_add_one, List.getElem?_eq_getElem hil]; rfl
      have ih := ih (i + 1) (by omega)
      rw [e, List.count_append, List.count_singleton] at ih
      have hc : (m.take i).count x ≤ i := Nat.le_trans List.count_le_length (by rw [List.length_take]; omega)
      have e1 : w64 ((i : Int) + 1) = ((i + 1 : Nat) : Int) := by rw [w64_of] <;> omega
      refine ⟨fun c => HJ _ ?_, fun c => HJ _ ?_⟩
      · have c := of_decide_eq_true c
        rw [if_pos (by simpa using c)] at ih
        rw [e1, w64_of (by omega) (by omega)]; exact ih
      · have c := of_decide_eq_false c
        rw [if_neg (by simpa using c)] at ih
        rw [e1]; exact ih
  exact key m.length 0 (by omega)
theorem below_ok {s : Sl} {n : Nat} {m : List Int} {R : Int → Heap → Prop} (hs : RI n h s m) (hz : m.length < 4611686018427387904) (H : R ((m.filter fun y => decide (y < x)).length : Int) h) : ref1_Below r s x h R := by
  apply ref1_Below_of
  have hlen := hs.len
  intro X HX
  have key : ∀ (d i : Nat), i + d = m.length → X (((m.take i).filter fun y => decide (y < x)).length : Int) (i : Int) := by
    intro d
    induction d with
    | zero =>
      intro i hi
      rw [List.take_of_length_le (by omega)]
      exact HX _ _ ⟨fun c => absurd (of_decide_eq_true c) (by omega), fun _ => H⟩
    | succ d ih =>
      intro i hi
      have hil : i < m.length := by omega
      refine HX _ _ ⟨fun _ => ?_, fun c => absurd (of_decide_eq_false c) (by omega)⟩
      intro J HJ
      refine RI.ix hs (by omega) (by omega) fun p _ hp => ⟨_, hp, ?_⟩
      have ex : m[(i : Int).toNat]! = m[i] := by rw [Int.toNat_natCast, getElem!_pos m i hil]
      rw [ex]
      have e : m.take (i + 1) = m.take i ++ [m[i]] := by rw [List.take_add_one, List.getElem?_eq_getElem hil]; rfl
      have ih := ih (i + 1) (by omega)
      rw [e, List.filter_append, List.length_append] at ih
      have hc : ((m.take i).filter fun y => decide (y < x)).length ≤ i := Nat.le_trans (List.length_filter_le ..) (by rw [List.length_take]; omega)
      have e1 : w64 ((i : Int) + 1) = ((i + 1 : Nat) : Int) := by rw [w64_of] <;> omega
      refine ⟨fun c => HJ _ ?_, fun c => HJ _ ?_⟩
      · rw [List.filter_cons, if_pos c] at ih
        rw [e1, w64_of (by omega) (by omega)]; exact ih
      · rw [List.filter_cons, if_neg (by rw [c]; decide)] at ih
        rw [e1]; exact ih
  exact key m.length 0 (by omega)
theorem sorted_ok {s : Sl} {n : Nat} {m : List Int} {R : Sl → Heap → Prop} (hs : RI n h s m) (hn : n ≤ h.size) (hz : m.length ≤ 17592186044416) (H : ∀ u s' h', Fw h h' → Up u → u.Perm m → RI h'.size h' s' u → R s' h') : ref1_Sorted r s h R := by
  apply ref1_Sorted_of
  have hlen := hs.len
  intro X HX
  have key : ∀ (d i : Nat) (u : List Int) (s' : Sl) (h3 : Heap), i + d = m.length → Fw h h3 → Up u → u.Perm (m.take i) → RI h3.size h3 s' u → X s' (i : Int) h3 := by
    intro d
    induction d with
    | zero =>
      intro i u s' h3 hi E3 hu hp S
      rw [List.take_of_length_le (by omega)] at hp
      exact HX _ _ _ ⟨fun c => absurd (of_decide_eq_true c) (by omega), fun _ => H u s' h3 E3 hu hp S⟩
    | succ d ih =>
      intro i u s' h3 hi E3 hu hp S
      have hil : i < m.length := by omega
      have hul := hp.length_eq
      rw [List.length_take] at hul
      refine HX _ _ _ ⟨fun _ => ?_, fun c => absurd (of_decide_eq_false c) (by omega)⟩
      have ex : m[(i : Int).toNat]! = m[i] := by rw [Int.toNat_natCast, getElem!_pos m i hil]
      refine RI.ix (hs.ext E3 hn) (by omega) (by omega) fun p _ hp1 => ⟨_, hp1, RI.ix (hs.ext E3 hn) (by omega) (by omega) fun p' _ hp2 => ⟨_, hp2, ?_⟩⟩
      rw [ex]
      have C := up_ct (x := m[i]) hu
      refine below_ok S (by omega) ⟨by rw [ex] at hp2; exact hp2, ?_⟩
      refine with_ok S (Nat.le_refl _) C.le (by omega) fun s2 h4 E4 O4 => ?_
      rw [w64_of (by omega) (by omega)]
      have e : m.take (i + 1) = m.take i ++ [m[i]] := by rw [List.take_add_one, List.getElem?_eq_getElem hil]; rfl
      have e2 : u.take (u.filter fun y => decide (y < m[i])).length ++ m[i] :: u.drop (u.filter fun y => decide (y < m[i])).length = ins' m[i] u := by rw [C.take, C.drop]; rfl
      rw [e2] at O4
      refine ih (i + 1) (ins' m[i] u) s2 h4 (by omega) (E3.trans E4) (ins'_up hu) ?_ O4.rs
      rw [e]
      exact (ins'_perm _ _).trans ((hp.cons _).trans (List.perm_append_singleton _ _).symm)
  exact key m.length 0 [] Sl.nil h (by omega) (Fw.refl h) List.Pairwise.nil (by simp) (RI.nil _ _)
theorem sifted_ok {s t : Sl} {n n' : Nat} {m : List Int} {R : Sl → Heap → Prop} (hs : RI n h s m) (hn : n ≤ h.size) (ht : RI n' h t [x]) (hn' : n' ≤ h.size) (hz : m.length ≤ 17592186044416) (H : ∀ s' h', Fw h h' → Own h.size 1 h' s' ((m.filter fun y => !decide (y = x)).map iV) → R s' h') : ref1_Sifted r s t false h R := by
  apply ref1_Sifted_of
  have hlen := hs.len
  intro X HX
  have key : ∀ (d i : Nat) (s' : Sl) (h3 : Heap), i + d = m.length → Fw h h3 → Own h.size 1 h3 s' (((m.take i).filter fun y => !decide (y = x)).map iV) → X s' (i : Int) h3 := by
    intro d
    induction d with
    | zero =>
      intro i s' h3 hi E3 O
      rw [List.take_of_length_le (by omega)] at O
      exact HX _ _ _ ⟨fun c => absurd (of_decide_eq_true c) (by omega), fun _ => H s' h3 E3 O⟩
    | succ d ih =>
      intro i s' h3 hi E3 O
      have hil : i < m.length := by omega
      refine HX _ _ _ ⟨fun _ => ?_, fun c => absurd (of_decide_eq_false c) (by omega)⟩
      intro J HJ
      have ex : m[(i : Int).toNat]! = m[i] := by rw [Int.toNat_natCast, getElem!_pos m i hil]
      have e1 : w64 ((i : Int) + 1) = ((i + 1 : Nat) : Int) := by rw [w64_of] <;> omega
      have e : m.take (i + 1) = m.take i ++ [m[i]] := by rw [List.take_add_one, List.getElem?_eq_getElem hil]; rfl
      have ih := ih (i + 1)
      rw [e, List.filter_append, List.filter_cons, List.filter_nil] at ih
      refine RI.ix (hs.ext E3 hn) (by omega) (by omega) fun p _ hp => ⟨_, hp, often_ok (x := m[(i : Int).toNat]!) (ht.ext E3 hn') (by simp) ?_⟩
      rw [ex, List.count_singleton]
      by_cases c : m[i] = x
      · rw [if_pos (by simpa using c.symm)]
        rw [if_neg (by simpa using c), List.append_nil] at ih
        refine ⟨fun c => absurd c (by decide), fun _ => HJ _ _ ?_⟩
        rw [e1]; exact ih s' h3 (by omega) E3 O
      · rw [if_neg (by simpa using fun e => c e.symm)]
        rw [if_pos (by simpa using c)] at ih
        refine ⟨fun _ => ?_, fun c => absurd c (by decide)⟩
        refine RI.ix (hs.ext E3 hn) (by omega) (by omega) fun p _ hp => ⟨_, hp, ?_⟩
        rw [ex]
        refine App.push (cs := [iV m[i]]) O rfl rfl (by simp [one]) E3.1 ?_ fun s2 h5 G => HJ _ _ ?_
        · have hl := O.rs.len
          have hc : ((m.take i).filter fun y => !decide (y = x)).length ≤ i := Nat.le_trans (List.length_filter_le ..) (by rw [List.length_take]; omega)
          rw [List.length_map] at hl
          omega
        · rw [e1]
          refine ih s2 h5 (by omega) (E3.trans' G.ext) ?_
          rw [List.map_append]; exact G.own
  exact key m.length 0 Sl.nil h (by omega) (Fw.refl h) (Own.nil _ _ _)
end
end Go.Proofs.Ytikccpmhoioaeaa.Or
