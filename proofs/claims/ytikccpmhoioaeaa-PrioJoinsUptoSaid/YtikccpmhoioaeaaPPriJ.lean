/- The first in rank: slices of items, and the laws 'PrioTells', 'PrioJoins'. -/
import Derived.Test.YtikccpmhoioaeaaPPriQ
import Derived.Test.YtikccpmhoioaeaaShI
namespace Go.Proofs.Ytikccpmhoioaeaa.Pr
open Go Go.RowKit Go.Tw Go.Many Go.Pri
set_option linter.unusedVariables false
section
variable {r : World} {h : Heap} {l m : List It}
theorem IS.ix {n : Nat} {h : Heap} {s : Sl} {i : Int} {K : Addr → Prop} (H : Rs n 2 h s (cellsOf l)) (h0 : 0 ≤ i) (h1 : i < l.length)
    (hK : ∀ p : Addr, hcell h (p.add 0) = some (iV (l[i.toNat]!).rank) → hcell h (p.add 1) = some (iV (l[i.toNat]!).val) → K p) : Ix s i 2 K := by
  have hl := H.len
  rw [cells_len] at hl
  refine Rs.ix H h0 (by omega) (by decide) fun b o hb _ hc => hK _ ?_ ?_
  · have hi : i.toNat < l.length := by omega
    obtain ⟨g0, g1⟩ := two_get i.toNat l[i.toNat] (List.getElem?_eq_getElem hi)
    have c0 := hc 0 (by decide)
    rw [ad_add, c0, getElem!_pos l _ hi]
    exact g0
  · have hi : i.toNat < l.length := by omega
    obtain ⟨g0, g1⟩ := two_get i.toNat l[i.toNat] (List.getElem?_eq_getElem hi)
    have c1 := hc 1 (by decide)
    rw [ad_add, c1, getElem!_pos l _ hi]
    exact g1
theorem is_len {n : Nat} {s : Sl} (H : Rs n 2 h s (cellsOf l)) : s.len = l.length := by have := H.len; rw [cells_len] at this; omega
theorem same_Items_ok {n n' : Nat} {a b : Sl} {R : Bool → Heap → Prop} (ha : Rs n 2 h a (cellsOf l)) (hb : Rs n' 2 h b (cellsOf l)) (hz : l.length ≤ 1125899906842624) (H : R true h) : same_Items r a b h R := by
  apply same_Items_of
  have la := is_len ha
  have lb := is_len hb
  refine ⟨fun c => ?_, fun _ => ?_⟩
  · rw [decide_eq_true (by omega)] at c; cases c
  intro X HX
  have key : ∀ (d i : Nat), i + d = l.length → X (i : Int) := by
    intro d
    induction d with
    | zero => exact fun i hi => HX _ ⟨fun c => absurd (of_decide_eq_true c) (by omega), fun _ => H⟩
    | succ d ih =>
      intro i hi
      refine HX _ ⟨fun _ => ?_, fun c => absurd (of_decide_eq_false c) (by omega)⟩
      refine IS.ix ha (by omega) (by omega) fun p p0 p1 => ⟨_, p0, _, p1, IS.ix hb (by omega) (by omega) fun q q0 q1 => ⟨_, q0, _, q1, ?_⟩⟩
      refine ⟨fun c => (by simp at c), fun _ => ?_⟩
      have e1 : w64 ((i : Int) + 1) = ((i + 1 : Nat) : Int) := by rw [w64_of] <;> omega
      rw [e1]; exact ih (i + 1) (by omega)
  exact key l.length 0 (by omega)
theorem first_ref_ok {n : Nat} {s : Sl} {R : Int → Heap → Prop} (hs : Rs n 2 h s (cellsOf l)) (hl : l ≠ []) (hz : l.length ≤ 1125899906842624) (H : ∀ k : Nat, IsTop l k → R (k : Int) h) : ref1_First r s h R := by
  apply ref1_First_of
  have la := is_len hs
  intro X HX
  have hpos : 0 < l.length := List.length_pos_iff.2 hl
  have key : ∀ (d i b : Nat), i + d = l.length → IsTop (l.take i) b → X (b : Int) (i : Int) := by
    intro d
    induction d with
    | zero => exact fun i b hi T => HX _ _ ⟨fun c => absurd (of_decide_eq_true c) (by omega), fun _ => H b (by rwa [List.take_of_length_le (by omega)] at T)⟩
    | succ d ih =>
      intro i b hi T
      have hil : i < l.length := by omega
      have hb := T.lt
      rw [List.length_take] at hb
      refine HX _ _ ⟨fun _ => ?_, fun c => absurd (of_decide_eq_false c) (by omega)⟩
      intro J HJ
      have e1 : w64 ((i : Int) + 1) = ((i + 1 : Nat) : Int) := by rw [w64_of] <;> omega
      have e : l.take (i + 1) = l.take i ++ [l[i]] := by rw [List.take_add_one, List.getElem?_eq_getElem hil]; rfl
      have eb : (l.take i)[b]? = some l[b] := by rw [List.getElem?_take, if_pos (by omega), List.getElem?_eq_getElem]
      have x1 : l[(i : Int).toNat]! = l[i] := by rw [Int.toNat_natCast, getElem!_pos l i hil]
      have x2 : l[(b : Int).toNat]! = l[b] := by rw [Int.toNat_natCast, getElem!_pos l b (by omega)]
      refine IS.ix hs (by omega) (by omega) fun p p0 p1 => ⟨_, p0, IS.ix hs (by omega) (by omega) fun q q0 q1 => ⟨_, q0, ?_⟩⟩
      rw [x1, x2]
      have ih := ih (i + 1)
      rw [e] at ih
      refine ⟨fun c => HJ _ ?_, fun c => HJ _ ?_⟩
      · have c := of_decide_eq_true c
        rw [e1]
        have := top_append_right (a := l.take i) (b := [l[i]]) (k := 0) ⟨by simp, fun j y x hy hx => ?_, fun j y x hj => by omega⟩ fun j y x hy hx => ?_
        · rw [List.length_take, Nat.min_eq_left (by omega), Nat.add_zero] at this
          exact ih i (by omega) this
        · match j, hy with
          | 0, hy => rw [hx] at hy; injection hy with hy; subst hy; exact Int.le_refl _
        · have := T.all j y _ hy eb
          injection hx with hx
          subst hx; omega
      · have c := of_decide_eq_false c
        rw [e1]
        refine ih b (by omega) (top_append_left T fun j y x hy hx => ?_)
        rw [eb] at hx
        injection hx with hx
        match j, hy with
        | 0, hy => injection hy with hy; subst hy; subst hx; omega
  refine key (l.length - 1) 1 0 (by omega) ⟨by rw [List.length_take]; omega, fun j y x hy hx => ?_, fun j y x hj => by omega⟩
  rw [List.getElem?_take] at hy
  by_cases c : j < 1
  · obtain rfl : j = 0 := by omega
    rw [if_pos c] at hy
    rw [List.getElem?_take, if_pos c, hy] at hx
    injection hx with hx; subst hx; exact Int.le_refl _
  · rw [if_neg c] at hy; cases hy
theorem cells_append (a b : List It) : cellsOf (a ++ b) = cellsOf a ++ cellsOf b := by simp [cellsOf]
theorem cells_one (a : List It) : ∀ v ∈ cellsOf a, one v = true := by
  intro v hv
  obtain ⟨x, _, hx⟩ := List.mem_flatMap.1 hv
  simp [ec] at hx
  rcases hx with rfl | rfl <;> rfl
theorem cells_take (a : List It) (k : Nat) : cellsOf (a.take k) = (cellsOf a).take (k * 2) := by
  induction a generalizing k with
  | nil => simp [cellsOf]
  | cons x a ih =>
    cases k with
    | zero => simp [cellsOf]
    | succ k =>
      rw [List.take_succ_cons, show (k + 1) * 2 = k * 2 + 1 + 1 by omega]
      show ec x ++ cellsOf (a.take k) = (ec x ++ cellsOf a).take _
      rw [ih]; rfl
theorem cells_drop (a : List It) (k : Nat) : cellsOf (a.drop k) = (cellsOf a).drop (k * 2) := by
  induction a generalizing k with
  | nil => simp [cellsOf]
  | cons x a ih =>
    cases k with
    | zero => simp
    | succ k =>
      rw [List.drop_succ_cons, show (k + 1) * 2 = k * 2 + 1 + 1 by omega, ih]
      rfl
/-- a piece of items -/
theorem IS.sub {n : Nat} {s : Sl} {lo hi : Nat} {K : Sl → Prop} (S : Rs n 2 h s (cellsOf l)) (h1 : lo ≤ hi) (h2 : hi ≤ l.length) (hK : ∀ t, Rs n 2 h t (cellsOf ((l.drop lo).take (hi - lo))) → K t) : Sub s (lo : Int) (hi : Int) (s.cap : Int) 2 K := by
  have hl := is_len S
  have hc := S.cap
  refine ⟨by omega, by omega, by omega, by omega, fun t ht => hK t ?_⟩
  have et : t = ⟨sliceA s.a s.cap lo 2, hi - lo, s.cap - lo⟩ := by rw [ht]; simp only [Int.toNat_natCast]
  rw [et]
  refine ⟨by rw [cells_len, List.length_take, List.length_drop]; show (hi - lo) * 2 = _; omega, by show hi - lo ≤ s.cap - lo; omega, ?_⟩
  by_cases c : lo = hi
  · subst c; left; simp [cellsOf]
  right
  rcases S.at_ with e | ⟨b, o, e1, e2, e3⟩
  · have := congrArg List.length e
    rw [cells_len] at this; simp at this; omega
  · refine ⟨b, o + lo * 2, ?_, e2, fun i hi' => ?_⟩
    · unfold sliceA
      rw [if_neg (by omega), e1]
      show some (Addr.add (ad b o) (lo * 2)) = _
      rw [ad_add]
    · rw [cells_len, List.length_take, List.length_drop] at hi'
      rw [show o + lo * 2 + i = o + (lo * 2 + i) by omega, e3 _ (by rw [cells_len]; omega), cells_take, cells_drop, List.getElem?_take, if_pos (by omega), List.getElem?_drop]
theorem less_ok {n k : Nat} {s : Sl} {R : Sl → Heap → Prop} (hs : Rs n 2 h s (cellsOf l)) (hn : n ≤ h.size) (hk : k < l.length) (hz : l.length ≤ 8796093022208) (H : ∀ s' h', Fw h h' → Own h.size 2 h' s' (cellsOf (l.take k ++ l.drop (k + 1))) → R s' h') : ref1_LessItem r s (k : Int) h R := by
  apply ref1_LessItem_of
  have hl := is_len hs
  refine IS.sub (lo := 0) (hi := k) hs (by omega) (by omega) fun t ht => ?_
  rw [List.drop_zero, Nat.sub_zero] at ht
  have tl := is_len ht
  refine App.own (Own.nil h.size 2 h) ht rfl (cells_one _) (Nat.le_refl _) (by rw [List.length_take] at tl; simp [Sl.nil]; omega) fun s1 h1 G1 => ?_
  have O1 := G1.own
  rw [List.nil_append] at O1
  have l1 := is_len O1.rs
  have e1 : w64 ((k : Int) + 1) = ((k + 1 : Nat) : Int) := by rw [w64_of] <;> omega
  have e2 : (s.len : Int) = ((l.length : Nat) : Int) := by omega
  rw [e1, e2]
  refine IS.sub (lo := k + 1) (hi := l.length) (hs.ext G1.ext hn) (by omega) (by omega) fun u hu => ?_
  rw [List.take_of_length_le (by rw [List.length_drop]; omega)] at hu
  have ul := is_len hu
  refine App.own O1 hu rfl (cells_one _) G1.ext.1 (by rw [List.length_take] at l1; rw [List.length_drop] at ul; omega) fun s2 h2 G2 => H s2 h2 (G1.ext.trans G2.ext) ?_
  rw [cells_append]; exact G2.own

/-- apart from a place, and from a slice of one's own -/
abbrev Ap (c : Nat) (s : Sl) : Nat → Prop := fun b => b ≠ c ∧ ∀ p, s.a = some p → p.block ≠ b
theorem Ap.new {N c : Nat} {s : Sl} {vs : List Value} (hc : c < h.size) (O : Own N 2 h s vs) : ∀ b, h.size ≤ b → Ap c s b := fun b hb => ⟨by omega, fun p hp e => by have := (O.lt hp).1; omega⟩
theorem Tr.grown {A : Nat → Prop} {N c : Nat} {s s' : Sl} {q : Option Addr} {ws : List Value} {h' : Heap} (T : Tr (Ap c s) h q l) (G : Grown N 2 h h' s s' ws) (hz : h.size ≤ h'.size) : Tr (Ap c s') h' q l :=
  T.to ⟨hz, fun b hb hc => ⟨G.others b hc.lt hb.2, hb.1, fun p hp e => by
    rcases G.blk with e2 | ⟨b', h1, e2⟩
    · exact hb.2 p (by rw [← e2]; exact hp) e
    · rw [e2] at hp; cases hp
      have := hc.lt
      have e : b' = b := e
      omega⟩⟩
theorem tells_law {l1 tk : Sl} {tks : List Bool} (hl1 : Rs h.size 2 h l1 (cellsOf l)) (ht : Rs h.size 1 h tk (tks.map Value.bool)) (hz : l.length ≤ 8796093022207) : law3_PrioTells r l1 tk h fun y h' => y = true ∧ Ext h.size h h' := by
  apply law3_PrioTells_of
  have hlen := is_len hl1
  refine ranked_ok fun h1 E1 => ⟨fun c => (by cases c), fun _ => New.cells fun h2 E2 z2 B2 => ?_⟩
  have E02 := E1.trans E2
  have hc : h.size ≤ h1.size := E1.1
  intro X HX
  have step : ∀ i : Nat, i < l.length → w64 ((i : Int) + 1) = ((i + 1 : Nat) : Int) := fun i hi => by rw [w64_of] <;> omega
  have key : ∀ (d i : Nat) (h3 : Heap) (q : Option Addr) (s : Sl) (L : List It), i + d = l.length → Fw h h3 → h2.size ≤ h3.size → Blk h3 h1.size [.pointer q] → Own h2.size 2 h3 s (cellsOf L) → Tr (Ap h1.size s) h3 q L → L.length ≤ i → X s (i : Int) h3 := by
    intro d
    induction d with
    | zero =>
      intro i h3 q s L hi E3 hz3 B3 O3 T3 hL
      refine HX _ _ _ ⟨fun c => absurd (of_decide_eq_true c) (by omega), fun _ => New.cells fun h4 E4 z4 B4 => ⟨_, B4.ld 0 rfl, ?_⟩⟩
      refine top_ok (A := Any) (Tr.nil _ _) (by decide) (fun _ h5 E5 => ?_) (fun k x h' _ K => absurd K.lt (by simp))
      refine New.cells fun h6 E6 z6 B6 => St.whole B6 rfl rfl fun h7 B7 o7 z7 => ?_
      have C7 := ((E5.trans E6).blk B4).other o7 (by have := E5.1; omega)
      have E37 : Fw h4 h7 := (E5.trans E6).over E5.1 o7 z7
      refine ⟨_, C7.ld 0 rfl, pop_ok (A := Any) (Tr.nil _ _) (by decide) any (fun _ h8 E8 => ?_) (fun k x q' h' _ K => absurd K.lt (by simp))⟩
      refine New.cells fun h9 E9 z9 B9 => New.cells fun h10 E10 z10 B10 => St.whole (E10.blk B9) rfl rfl fun h11 B11 o11 z11 => St.whole (B10.other o11 (by omega)) rfl rfl fun h12 B12 o12 z12 => ?_
      have D11 := B11.other o12 (by omega)
      have E812 : Fw h8 h12 := ((E9.trans E10).over (Nat.le_refl _) o11 z11).over (by omega) o12 z12
      have D7 := (E8.trans E812).blk B7
      have E12 : Fw h h12 := (((E3.trans E4).trans E37).trans E8).trans E812
      intro J HJ
      refine ⟨fun _ => ⟨fun _ => ⟨_, D7.ld 0 rfl, _, D7.ld 1 rfl, fun _ => ⟨_, D11.ld 0 rfl, _, D11.ld 1 rfl, _, D7.ld 0 rfl, _, D7.ld 1 rfl, fun _ => ⟨_, B12.ld 0 rfl, plen_ok (A := Any) (Tr.nil _ _) fun h13 E13 => HJ _ _ ⟨rfl, E12.trans E13⟩⟩, fun c => absurd c (by decide)⟩, fun c => absurd c (by decide)⟩, fun c => absurd c (by decide)⟩, fun c => absurd c (by decide)⟩
    | succ d ih =>
      intro i h3 q s L hi E3 hz3 B3 O3 T3 hL
      have hil : i < l.length := by omega
      refine HX _ _ _ ⟨fun _ => ?_, fun c => absurd (of_decide_eq_false c) (by omega)⟩
      have ex : l[(i : Int).toNat]! = l[i] := by rw [Int.toNat_natCast, getElem!_pos l i hil]
      refine ⟨_, B3.ld 0 rfl, IS.ix (hl1.ext E3 (Nat.le_refl _)) (by omega) (by omega) fun p hp0 hp1 => ⟨_, hp0, _, hp1, ?_⟩⟩
      rw [ex]
      refine push_ok (v := l[i]) T3 (by omega) (Ap.new B3.lt O3) fun q4 h4 E4 T4 => ?_
      have z4 := E4.1
      refine St.whole (E4.blk B3) rfl rfl fun h5 B5 o5 z5 => ?_
      have E5 : Fw h h5 := (E3.trans E4).over hc o5 z5
      refine IS.ix (hl1.ext E5 (Nat.le_refl _)) (by omega) (by omega) fun p hp0 hp1 => ⟨_, hp0, _, hp1, ?_⟩
      rw [ex]
      have O5 : Own h2.size 2 h5 s (cellsOf L) := (O3.ext E4).keep fun p hp => o5 _ (fun e => by have := (O3.lt hp).2; omega)
      have T5 : Tr (Ap h1.size s) h5 q4 (L ++ [l[i]]) := T4.to (To.over (fun e => e.1 rfl) o5 z5)
      have l5 := is_len O5.rs
      refine App.push (cs := [iV l[i].rank, iV l[i].val]) O5 rfl rfl (by simp [one]) (by omega) (by omega) fun s7 h7 G => ?_
      have z7 := G.ext.1
      have T7 : Tr (Ap h1.size s7) h7 q4 (L ++ [l[i]]) := T5.grown (A := Any) G z7
      have O7 : Own h2.size 2 h7 s7 (cellsOf (L ++ [l[i]])) := by rw [cells_snoc]; exact G.own
      have B7 : Blk h7 h1.size [.pointer q4] := G.ext.blk B5 (by omega)
      have E7 : Fw h h7 := E5.trans' (G.ext.mono (by omega))
      have hL7 : (L ++ [l[i]]).length ≤ i + 1 := by simp; omega
      intro J40 HJ40
      have j40 : ∀ x39, J40 x39 := fun x39 => HJ40 _ (by
        intro J43 HJ43
        have j43 : ∀ (s8 : Sl) (h8 : Heap) (q8 : Option Addr) (L8 : List It), Fw h h8 → h2.size ≤ h8.size → Blk h8 h1.size [.pointer q8] → Own h2.size 2 h8 s8 (cellsOf L8) → Tr (Ap h1.size s8) h8 q8 L8 → L8.length ≤ i + 1 → J43 s8 h8 := by
          intro s8 h8 q8 L8 E8 hz8 B8 O8 T8 hL8
          refine HJ43 _ _ ⟨_, B8.ld 0 rfl, items_ok T8 (by omega) fun s9 h9 E9 O9 => ?_⟩
          have z9 := E9.1
          have R8 : Rs h9.size 2 h9 s8 (cellsOf L8) := (Rs.ext O8.rs E9 (Nat.le_refl _)).mono E9.1
          refine same_Items_ok O9.rs R8 (by omega) ?_
          intro J50 HJ50
          refine ⟨fun c => (by cases c), fun _ => ⟨_, (E9.blk B8).ld 0 rfl, plen_ok (T8.fw E9) fun h12 E12 => HJ50 _ _ ⟨fun c => ?_, fun _ => ?_⟩⟩⟩
          · rw [decide_eq_true (by have := is_len O8.rs; omega)] at c; cases c
          · rw [step i hil]
            have E912 := E9.trans E12
            have z12 := E12.1
            exact ih (i + 1) h12 q8 s8 L8 (by omega) (E8.trans E912) (by omega) (E912.blk B8) (O8.ext E912) (T8.fw E912) hL8
        refine ⟨fun _ => ?_, fun _ => j43 s7 h7 q4 _ E7 (by omega) B7 O7 T7 hL7⟩
        refine first_ref_ok O7.rs (by simp) (by omega) fun k K => ⟨_, B7.ld 0 rfl, ?_⟩
        refine top_ok T7 (by omega) (fun c => absurd c (by simp)) fun k2 x h14 E14 K2 hx => ?_
        obtain rfl : k = k2 := K.uniq K2
        have a14 := E14.1
        have l7 := B7.lt
        refine New.cells fun h15 E15 z15 B15 => St.whole B15 rfl rfl fun h16 B16 o16 z16 => ?_
        have E716 : Fw h7 h16 := (E14.trans E15).over E14.1 o16 z16
        have C16 := E716.blk B7
        have T16 := T7.fw E716
        have O16 := O7.ext E716
        refine ⟨_, C16.ld 0 rfl, pop_ok T16 (by omega) (Ap.new C16.lt O16) (fun c => absurd c (by simp)) fun k3 x3 q17 h17 E17 K3 hx3 T17 => ?_⟩
        obtain rfl : k = k3 := K.uniq K3
        obtain rfl : x = x3 := by rw [hx] at hx3; injection hx3
        have a17 := E17.1
        refine New.cells fun h18 E18 z18 B18 => New.cells fun h19 E19 z19 B19 => St.whole (E19.blk B18) rfl rfl fun h20 B20 o20 z20 => St.whole (B19.other o20 (by omega)) rfl rfl fun h21 B21 o21 z21 => ?_
        have D20 := B20.other o21 (by omega)
        have E1721 : Fw h17 h21 := ((E18.trans E19).over (Nat.le_refl _) o20 z20).over (by omega) o21 z21
        have E1621 := E17.trans E1721
        have D16 := E1621.blk B16
        have E721 := E716.trans E1621
        have O21 := O7.ext E721
        intro J85 HJ85
        have hk : k < (L ++ [l[i]]).length := K.lt
        have ex2 : (L ++ [l[i]])[(k : Int).toNat]! = x := by
          rw [Int.toNat_natCast, getElem!_pos _ k hk]
          rw [List.getElem?_eq_getElem hk] at hx
          injection hx
        refine ⟨fun c => (by cases c), fun _ => ⟨fun c => (by cases c), fun _ => ⟨_, D16.ld 0 rfl, _, D16.ld 1 rfl, ?_⟩⟩⟩
        refine IS.ix O21.rs (by omega) (by omega) fun p p0 p1 => ⟨_, p0, _, p1, ?_⟩
        rw [ex2]
        refine ⟨fun c => (by simp at c), fun _ => ⟨_, D20.ld 0 rfl, _, D20.ld 1 rfl, _, D16.ld 0 rfl, _, D16.ld 1 rfl, HJ85 _ ⟨fun c => (by simp at c), fun _ => ?_⟩⟩⟩
        refine less_ok O21.rs (Nat.le_refl _) hk (by omega) fun s22 h22 E22 O22 => ⟨_, (E22.blk B21).ld 0 rfl, ?_⟩
        have z21' : h2.size ≤ h21.size := by have := E721.1; omega
        have a22 := E22.1
        refine St.whole ((E721.trans E22).blk B7) rfl rfl fun h23 B23 o23 z23 => ?_
        refine j43 s22 h23 _ _ (((E7.trans E721).trans E22).over hc o23 z23) (by omega) B23 ((O22.mono z21').keep fun p hp => o23 _ (fun e => by have := (O22.lt hp).2; omega)) ?_ ?_
        · have T22 := T17.fw (E1721.trans E22)
          have T21 := T17.fw E1721
          refine (T21.to (A' := Ap h1.size s22) (To.old E22 fun b hb hl => ⟨hb.1, fun p hp e => by have := (O22.lt hp).2; omega⟩)).to (To.over (fun e => e.1 rfl) o23 z23)
        · rw [List.length_append, List.length_take, List.length_drop]; omega)
      have tl := ht.len
      rw [List.length_map] at tl
      refine ⟨fun c => ?_, fun _ => j40 _⟩
      have c := of_decide_eq_true c
      refine Rs.ix (ht.ext E7 (Nat.le_refl _)) (by omega) (by omega) (by decide) fun b o hb _ hc2 => ?_
      have h0 := hc2 0 (by decide)
      rw [List.getElem?_map, List.getElem?_eq_getElem (show (i : Int).toNat * 1 + 0 < tks.length by omega)] at h0
      exact ⟨_, h0, j40 _⟩
  exact key l.length 0 h2 none Sl.nil [] (by omega) E02 (Nat.le_refl _) B2 (Own.nil _ _ _) (Tr.nil _ _) (by simp)

/-- what a queue's first one is -/
def TopP (L : List It) (x y : Int) (b : Bool) : Prop := (L = [] ∧ x = 0 ∧ y = 0 ∧ b = false) ∨ ∃ k z, IsTop L k ∧ L[k]? = some z ∧ x = z.rank ∧ y = z.val ∧ b = true
theorem topP_ok {A : Nat → Prop} {q : Option Addr} {R : Int → Int → Bool → Heap → Prop} (T : Tr A h q l) (hz : l.length < 1152921504606846970) (H : ∀ x y b h', Fw h h' → TopP l x y b → R x y b h') : prio_Queue_Top r q h R :=
  top_ok T hz (fun e h' E => H _ _ _ h' E (.inl ⟨e, rfl, rfl, rfl⟩)) fun k x h' E K hx => H _ _ _ h' E (.inr ⟨k, x, K, hx, rfl, rfl, rfl⟩)
theorem top_join {a b : List It} {x1 x2 y1 y2 z1 z2 : Int} {e1 e2 e3 : Bool} (X : TopP a x1 x2 e1) (Y : TopP b y1 y2 e2) (Z : TopP (a ++ b) z1 z2 e3) :
    (e3 = (e1 || e2)) ∧ (((!e1) || (e2 && decide (x1 < y1))) = true → z1 = y1 ∧ z2 = y2) ∧ (((!e1) || (e2 && decide (x1 < y1))) = false → z1 = x1 ∧ z2 = x2) := by
  rcases X with ⟨rfl, rfl, rfl, rfl⟩ | ⟨k, x, K, hx, rfl, rfl, rfl⟩
  · rw [List.nil_append] at Z
    rcases Y with ⟨rfl, rfl, rfl, rfl⟩ | ⟨j, y, J, hy, rfl, rfl, rfl⟩
    · rcases Z with ⟨_, rfl, rfl, rfl⟩ | ⟨i, z, I, hz, _⟩
      · simp
      · exact absurd I.lt (by simp)
    · rcases Z with ⟨rfl, _⟩ | ⟨i, z, I, hz, rfl, rfl, rfl⟩
      · exact absurd J.lt (by simp)
      · obtain rfl := I.uniq J
        rw [hy] at hz; injection hz with hz; subst hz
        simp
  · have ka := K.lt
    have hne : a ++ b ≠ [] := by intro c; have := congrArg List.length c; simp at this; simp [this.1] at ka
    rcases Z with ⟨c, _⟩ | ⟨i, z, I, hz, rfl, rfl, rfl⟩
    · exact absurd c hne
    · rcases Y with ⟨rfl, rfl, rfl, rfl⟩ | ⟨j, y, J, hy, rfl, rfl, rfl⟩
      · rw [List.append_nil] at I hz
        obtain rfl := I.uniq K
        rw [hx] at hz; injection hz with hz; subst hz
        simp
      · refine ⟨rfl, fun c => ?_, fun c => ?_⟩
        · have c : x.rank < y.rank := by simpa using c
          have U := top_append_right (a := a) J fun n u v hu hv => by
            have := K.all n u x hu hx
            rw [hy] at hv; injection hv with hv; subst hv; omega
          obtain rfl := I.uniq U
          rw [List.getElem?_append_right (by omega), Nat.add_sub_cancel_left, hy] at hz
          injection hz with hz; subst hz; exact ⟨rfl, rfl⟩
        · have c : y.rank ≤ x.rank := by simpa using c
          have U := top_append_left (b := b) K fun n u v hu hv => by
            have := J.all n u y hu hy
            rw [hx] at hv; injection hv with hv; subst hv; omega
          obtain rfl := I.uniq U
          rw [List.getElem?_append_left ka, hx] at hz
          injection hz with hz; subst hz; exact ⟨rfl, rfl⟩

theorem joins_law {l1 l2 : Sl} {a b : List It} (h1 : Rs h.size 2 h l1 (cellsOf a)) (h2 : Rs h.size 2 h l2 (cellsOf b)) (hz : a.length + b.length ≤ 8796093022207) : law3_PrioJoins r l1 l2 h fun y h' => y = true ∧ Ext h.size h h' := by
  apply law3_PrioJoins_of
  have n1 := is_len h1
  have n2 := is_len h2
  refine ranked_ok fun h3 E3 => ⟨fun c => (by cases c), fun _ => New.cells fun h4 E4 z4 B4 => ?_⟩
  have hc : h.size ≤ h3.size := E3.1
  intro X HX
  have step : ∀ i : Nat, i < a.length + b.length → w64 ((i : Int) + 1) = ((i + 1 : Nat) : Int) := fun i hi => by rw [w64_of] <;> omega
  have key1 : ∀ (d i : Nat) (h5 : Heap) (q : Option Addr), i + d = a.length → Fw h h5 → Blk h5 h3.size [.pointer q] → Tr (Bs Any h3.size) h5 q (a.take i) → X (i : Int) h5 := by
    intro d
    induction d with
    | succ d ih =>
      intro i h5 q hi E5 B5 T5
      have hil : i < a.length := by omega
      refine HX _ _ ⟨fun _ => ?_, fun c => absurd (of_decide_eq_false c) (by omega)⟩
      have ex : a[(i : Int).toNat]! = a[i] := by rw [Int.toNat_natCast, getElem!_pos a i hil]
      refine ⟨_, B5.ld 0 rfl, IS.ix (h1.ext E5 (Nat.le_refl _)) (by omega) (by omega) fun p p0 p1 => ⟨_, p0, _, p1, ?_⟩⟩
      rw [ex]
      have hlt := B5.lt
      refine push_ok (v := a[i]) T5 (by rw [List.length_take]; omega) (fun b hb => ⟨trivial, by omega⟩) fun q6 h6 E6 T6 => ?_
      refine St.whole (E6.blk B5) rfl rfl fun h7 B7 o7 z7 => ?_
      rw [step i (by omega)]
      have e : a.take (i + 1) = a.take i ++ [a[i]] := by rw [List.take_add_one, List.getElem?_eq_getElem hil]; rfl
      exact ih (i + 1) h7 q6 (by omega) ((E5.trans E6).over hc o7 z7) B7 (by rw [e]; exact T6.to (To.over (fun e => e.2 rfl) o7 z7))
    | zero =>
      intro i h5 q hi E5 B5 T5
      obtain rfl : i = a.length := by omega
      rw [List.take_length] at T5
      refine HX _ _ ⟨fun c => absurd (of_decide_eq_true c) (by omega), fun _ => New.cells fun h6 E6 z6 B6 => ?_⟩
      have hc5 : h.size ≤ h5.size := E5.1
      have hne : h3.size ≠ h5.size := by have := B5.lt; omega
      intro Y HY
      have key2 : ∀ (d i : Nat) (h7 : Heap) (q2 : Option Addr), i + d = b.length → Fw h h7 → Blk h7 h3.size [.pointer q] → Blk h7 h5.size [.pointer q2] → Tr (Bs (Bs Any h3.size) h5.size) h7 q a → Tr (Bs (Bs Any h3.size) h5.size) h7 q2 (b.take i) → Y (i : Int) h7 := by
        intro d
        induction d with
        | succ d ih =>
          intro i h7 q2 hi E7 B7 C7 T7 U7
          have hil : i < b.length := by omega
          refine HY _ _ ⟨fun _ => ?_, fun c => absurd (of_decide_eq_false c) (by omega)⟩
          have ex : b[(i : Int).toNat]! = b[i] := by rw [Int.toNat_natCast, getElem!_pos b i hil]
          refine ⟨_, C7.ld 0 rfl, IS.ix (h2.ext E7 (Nat.le_refl _)) (by omega) (by omega) fun p p0 p1 => ⟨_, p0, _, p1, ?_⟩⟩
          rw [ex]
          have hlt := B7.lt
          have hlt2 := C7.lt
          refine push_ok (v := b[i]) U7 (by rw [List.length_take]; omega) (fun b hb => ⟨⟨trivial, by omega⟩, by omega⟩) fun q8 h8 E8 U8 => ?_
          refine St.whole (E8.blk C7) rfl rfl fun h9 B9 o9 z9 => ?_
          rw [step i (by omega)]
          have e : b.take (i + 1) = b.take i ++ [b[i]] := by rw [List.take_add_one, List.getElem?_eq_getElem hil]; rfl
          exact ih (i + 1) h9 q8 (by omega) ((E7.trans E8).over hc5 o9 z9) ((E8.blk B7).other o9 hne) B9 ((T7.fw E8).to (To.over (fun e => e.2 rfl) o9 z9)) (by rw [e]; exact U8.to (To.over (fun e => e.2 rfl) o9 z9))
        | zero =>
          intro i h7 q2 hi E7 B7 C7 T7 U7
          obtain rfl : i = b.length := by omega
          rw [List.take_length] at U7
          refine HY _ _ ⟨fun c => absurd (of_decide_eq_true c) (by omega), fun _ => ⟨_, B7.ld 0 rfl, ?_⟩⟩
          have T7 : Tr Any h7 q a := T7.weak fun _ _ => trivial
          have U7 : Tr Any h7 q2 b := U7.weak fun _ _ => trivial
          refine topP_ok T7 (by omega) fun x1 x2 e1 h8 E8 X => ?_
          refine New.cells fun h9 E9 z9 B9 => St.whole B9 rfl rfl fun h10 B10 o10 z10 => ?_
          have F10 : Fw h7 h10 := (E8.trans E9).over E8.1 o10 z10
          refine ⟨_, (F10.blk C7).ld 0 rfl, ?_⟩
          refine topP_ok (U7.fw F10) (by omega) fun y1 y2 e2 h11 E11 Y => ?_
          refine New.cells fun h12 E12 z12 B12 => St.whole B12 rfl rfl fun h13 B13 o13 z13 => ?_
          have F13 : Fw h10 h13 := (E11.trans E12).over E11.1 o13 z13
          have F7 := F10.trans F13
          refine ⟨_, (F7.blk B7).ld 0 rfl, _, (F7.blk C7).ld 0 rfl, ?_⟩
          refine pjoin_ok (T7.fw F7) (U7.fw F7) (by omega) any fun q14 h14 E14 T14 => ?_
          refine topP_ok T14 (by simp; omega) fun z1 z2 e3 h15 E15 Z => ?_
          refine New.cells fun h16 E16 z16 B16 => St.whole B16 rfl rfl fun h17 B17 o17 z17 => ?_
          have F17 : Fw h13 h17 := ((E14.trans E15).trans E16).over (E14.trans E15).1 o17 z17
          have C10 := (F13.trans F17).blk B10
          refine ⟨_, C10.ld 0 rfl, _, C10.ld 1 rfl, New.cells fun h18 E18 z18 B18 => St.whole B18 rfl rfl fun h19 B19 o19 z19 => ?_⟩
          have F19 : Fw h17 h19 := E18.over (Nat.le_refl _) o19 z19
          have C13 := (F17.trans F19).blk B13
          have D10 := F19.blk C10
          have D17 := F19.blk B17
          have F719 := (F7.trans F17).trans F19
          obtain ⟨P1, P2, P3⟩ := top_join X Y Z
          intro J87 HJ87
          have j87 : ∀ x86, x86 = ((!e1) || (e2 && decide (x1 < y1))) → J87 x86 := fun x86 hx86 => HJ87 _ (by
            intro J89 HJ89
            have j89 : ∀ (h22 : Heap) (v1 v2 : Int), Fw h7 h22 → Blk h22 h15.size [iV z1, iV z2] → Blk h22 h17.size [iV v1, iV v2] → z1 = v1 → z2 = v2 → J89 h22 := by
              intro h22 v1 v2 F22 G22 W22 ev1 ev2
              refine HJ89 _ ⟨_, (F22.blk B7).ld 0 rfl, _, (F22.blk C7).ld 0 rfl, ?_⟩
              refine pjoin_ok (T7.fw F22) (U7.fw F22) (by omega) any fun q23 h23 E23 T23 => ?_
              refine items_ok T23 (by simp; omega) fun s24 h24 E24 O24 => ?_
              refine New.cells (cs := []) fun h25 E25 z25 B25 => ?_
              have O0 : Own h24.size 2 h25 ⟨some (ad h24.size 0), 0, 0⟩ (cellsOf []) := ⟨rfl, Nat.le_refl _, .inr ⟨_, [], rfl, Nat.le_refl _, B25, rfl⟩⟩
              have F25 : Fw h h25 := ((((E7.trans F22).trans E23).trans E24).trans E25)
              refine App.own O0 (h1.ext F25 (Nat.le_refl _)) rfl (cells_one _) E25.1 (by show (0 + l1.len) * 16 ≤ _; omega) fun s26 h26 G26 => ?_
              have O26 : Own h24.size 2 h26 s26 (cellsOf a) := G26.own
              have l26 := is_len O26.rs
              have F26 : Fw h h26 := F25.trans' (G26.ext.mono ((((E7.trans F22).trans E23).trans E24).1))
              refine App.own O26 (h2.ext F26 (Nat.le_refl _)) rfl (cells_one _) (by have := E25.1; have := G26.ext.1; omega) (by omega) fun s27 h27 G27 => ?_
              have F2427 : Fw h24 h27 := (E25.trans' G26.ext).trans' G27.ext
              have F27 : Fw h h27 := (((E7.trans F22).trans E23).trans E24).trans F2427
              have O27 : Own h24.size 2 h27 s27 (cellsOf (a ++ b)) := by rw [cells_append]; exact G27.own
              refine same_Items_ok (Rs.ext O24.rs F2427 (Nat.le_refl _)) O27.rs (by simp; omega) ?_
              have F2227 := (E23.trans E24).trans F2427
              have G27' := F2227.blk G22
              have W27 := F2227.blk W22
              subst ev1
              subst ev2
              intro J104 HJ104
              have ok : ∀ x103, x103 = true → J104 x103 := fun x e => HJ104 _ ⟨e, F27⟩
              refine ⟨fun _ => ⟨fun c => ?_, fun c => ?_⟩, fun c => by cases c⟩
              · rw [P1, c]
                exact ⟨fun _ => ⟨_, G27'.ld 0 rfl, _, G27'.ld 1 rfl, _, W27.ld 0 rfl, _, W27.ld 1 rfl, ok _ (by simp)⟩, fun c => by simp at c⟩
              · rw [P1, c]
                exact ⟨fun _ => ⟨_, G27'.ld 0 rfl, _, G27'.ld 1 rfl, _, W27.ld 0 rfl, _, W27.ld 1 rfl, ok _ (by simp)⟩, fun c => by simp at c⟩
            refine ⟨fun c => ?_, fun c => ?_⟩
            · obtain ⟨r1, r2⟩ := P2 (by rw [← hx86]; exact c)
              refine ⟨_, C13.ld 0 rfl, _, C13.ld 1 rfl, St.whole B19 rfl rfl fun h22 B22 o22 z22 => ?_⟩
              exact j89 h22 y1 y2 (F719.over ((F7.trans F17).1) o22 z22) (D17.other o22 (by have := B17.lt; omega)) B22 r1 r2
            · obtain ⟨r1, r2⟩ := P3 (by rw [← hx86]; exact c)
              exact j89 h19 x1 x2 F719 D17 B19 r1 r2)
          refine ⟨fun c => j87 _ (by rw [c]; rfl), fun c => ⟨fun c2 => ⟨_, C13.ld 0 rfl, _, D10.ld 0 rfl, j87 _ (by rw [c, c2]; rfl)⟩, fun c2 => j87 _ (by rw [c, c2]; rfl)⟩⟩
      have E56 := E5.trans E6
      exact key2 b.length 0 h6 none (by omega) E56 (E6.blk B5) B6 (T5.to (To.old E6 fun b hb hl => ⟨hb, by omega⟩)) (Tr.nil _ _)
  exact key1 a.length 0 h4 none (by omega) (E3.trans E4) B4 (Tr.nil _ _)
end
end Go.Proofs.Ytikccpmhoioaeaa.Pr
