/- Spans in order: what the functions do. -/
import Derived.Test.YtcafckgflpmfgaaDoorDILaw
import Derived.Test.YtcafckgflpmfgaaDoorDIManP
import Derived.Test.YtcafckgflpmfgaaDoorManA
import Derived.Test.YtcafckgflpmfgaaDoorShI
import Derived.Test.YtcafckgflpmfgaaDoorIIvL
namespace Go.Proofs.YtcafckgflpmfgaaDoor.Iv
open Go Go.RowKit Go.Tw Go.Many Go.Ival
set_option linter.unusedVariables false
abbrev Any : Nat → Prop := fun _ => True
theorem any {h : Heap} : ∀ b, h.size ≤ b → Any b := fun _ _ => trivial
/-- the cells of spans -/
abbrev cellsP (l : List Spn) : List Value := l.flatMap fun v => [iV v.lo, iV v.hi, iV v.val]
theorem cellsP_append (a b : List Spn) : cellsP (a ++ b) = cellsP a ++ cellsP b := by simp [cellsP]
section
variable {A : Nat → Prop} {r : World} {h : Heap} {q : Option Addr} {l : List Spn}
theorem SS.ix {n : Nat} {h : Heap} {s : Sl} {i : Int} {K : Addr → Prop} (H : Rs n 3 h s (cellsP l)) (h0 : 0 ≤ i) (h1 : i < l.length)
    (hK : ∀ p : Addr, hcell h (p.add 0) = some (iV (l[i.toNat]!).lo) → hcell h (p.add 1) = some (iV (l[i.toNat]!).hi) → hcell h (p.add 2) = some (iV (l[i.toNat]!).val) → K p) : Ix s i 3 K := by
  have hl := H.len
  rw [three_len] at hl
  have hi : i.toNat < l.length := by omega
  obtain ⟨g0, g1, g2⟩ := three_get i.toNat l[i.toNat] (List.getElem?_eq_getElem hi)
  refine Rs.ix H h0 (by omega) (by decide) fun b o hb _ hc => hK _ ?_ ?_ ?_
  · have c0 := hc 0 (by decide)
    rw [ad_add, c0, getElem!_pos l _ hi]; exact g0
  · have c1 := hc 1 (by decide)
    rw [ad_add, c1, getElem!_pos l _ hi]; exact g1
  · have c2 := hc 2 (by decide)
    rw [ad_add, c2, getElem!_pos l _ hi]; exact g2
theorem ss_len {n : Nat} {s : Sl} (H : Rs n 3 h s (cellsP l)) : s.len = l.length := by have := H.len; rw [three_len] at this; omega
theorem ask_lo {c : Nat} {x : Int} (C : Blk h c [iV x]) : Ask r (.func (.func 91) #[] #[.pointer (some (ad c 0))]) (fun s => (reachS s).any && decide (x < (reachS s).lo)) h := by
  intro h' E s K HK
  have g : ∀ {g}, Fw h' g → hcell g (ad c 0) = some (iV x) := fun E' => ((E.trans E').blk C).cell' rfl
  have main : ival_Map_Over_1 r (reachS s).any (reachS s).lo (reachS s).hi (ad c 0) h' fun y h'' => K (.bool y) h'' := by
    apply ival_Map_Over_1_of
    refine New.cells fun h1 E1 z1 B1 => ?_
    intro J HJ
    refine ⟨_, B1.ld 0 rfl, fun c => ⟨_, B1.ld 1 rfl, _, g E1, HJ _ ?_⟩, fun c => HJ _ ?_⟩
    · have := HK h1 E1
      dsimp only at this
      rw [c, Bool.true_and] at this; exact this
    · have := HK h1 E1
      dsimp only at this
      rw [c, Bool.false_and] at this; exact this
  exact .inl ⟨_, _, _, rfl, Tryd.call91, CallsH.mono main fun v h'' ⟨y, hv, hR⟩ => by rw [hv]; exact hR⟩
theorem ask_hi {c : Nat} {x : Int} (C : Blk h c [iV x]) : Ask r (.func (.func 93) #[] #[.pointer (some (ad c 0))]) (fun s => (reachS s).any && decide (x ≤ (reachS s).hi)) h := by
  intro h' E s K HK
  have g : ∀ {g}, Fw h' g → hcell g (ad c 0) = some (iV x) := fun E' => ((E.trans E').blk C).cell' rfl
  have main : ival_Map_Over_2 r (reachS s).any (reachS s).lo (reachS s).hi (ad c 0) h' fun y h'' => K (.bool y) h'' := by
    apply ival_Map_Over_2_of
    refine New.cells fun h1 E1 z1 B1 => ?_
    intro J HJ
    refine ⟨_, B1.ld 0 rfl, fun c => ⟨_, B1.ld 2 rfl, _, g E1, HJ _ ?_⟩, fun c => HJ _ ?_⟩
    · have := HK h1 E1
      dsimp only at this
      rw [c, Bool.true_and] at this; exact this
    · have := HK h1 E1
      dsimp only at this
      rw [c, Bool.false_and] at this; exact this
  exact .inl ⟨_, _, _, rfl, Tryd.call93, CallsH.mono main fun v h'' ⟨y, hv, hR⟩ => by rw [hv]; exact hR⟩
theorem ask_add {c : Nat} {x y z : Int} (C : Blk h c [iV x, iV y, iV z]) : Ask r (.func (.func 87) #[] #[.pointer (some (ad c 0))]) (fun s => (reachS s).any && decide (x < (reachS s).lo)) h := by
  intro h' E s K HK
  have main : ival_Map_Add_1 r (reachS s).any (reachS s).lo (reachS s).hi (ad c 0) h' fun y h'' => K (.bool y) h'' := by
    apply ival_Map_Add_1_of
    refine New.cells fun h1 E1 z1 B1 => ?_
    intro J HJ
    refine ⟨_, B1.ld 0 rfl, fun c => ⟨_, B1.ld 1 rfl, _, ((E.trans E1).blk C).ld 0 rfl, HJ _ ?_⟩, fun c => HJ _ ?_⟩
    · have := HK h1 E1
      dsimp only at this
      rw [c, Bool.true_and] at this; exact this
    · have := HK h1 E1
      dsimp only at this
      rw [c, Bool.false_and] at this; exact this
  exact .inl ⟨_, _, _, rfl, Tryd.call87, CallsH.mono main fun v h'' ⟨y, hv, hR⟩ => by rw [hv]; exact hR⟩
theorem add_ok {s : Spn} {R : Option Addr → Value → Heap → Prop} (T : Tr A h q l) (hu : UpS l) (hz : l.length < 1152921504606846970) (hA : ∀ b, h.size ≤ b → A b) (H0 : s.hi < s.lo → ∀ h', Fw h h' → R none (.iface 29 (.int .i64 3)) h')
    (H1 : s.lo ≤ s.hi → ∀ q' h', Fw h h' → Tr A h' q' (insS s l) → R q' .nilIface h') : ival_Map_Add r q s.lo s.hi s.val h R := by
  apply ival_Map_Add_of
  refine New.cells fun h1 E1 z1 B1 => New.cells (cs := [iV s.lo, iV s.hi, iV s.val]) fun h2 E2 z2 B2 => New.cells fun h3 E3 z3 B3 => ?_
  have E13 := (E1.trans E2).trans E3
  have C1 := E3.blk (E2.blk B1)
  have C2 := E3.blk B2
  have hc : h.size ≤ h2.size := by omega
  refine ⟨_, C2.ld 0 rfl, _, C2.ld 1 rfl, fun c => ?_, fun c => ?_⟩
  · exact St.whole B3 rfl rfl fun h4 B4 o4 z4 => ⟨_, B4.ld 0 rfl, H0 (of_decide_eq_true c) h4 (E13.over hc o4 z4)⟩
  · have c := of_decide_eq_false c
    refine ⟨_, C1.ld2 0 0 rfl, find_ok (T.fw E13) (ask_add C2) rfl hz fun k h5 E5 hk f0 f1 => ?_⟩
    have K := find_cts hu hk f0 f1
    have D1 := E5.blk C1
    have D2 := E5.blk C2
    refine ⟨_, D1.ld2 0 0 rfl, _, D2.ld 0 rfl, _, D2.ld 1 rfl, _, D2.ld 2 rfl, ?_⟩
    have z5 := E5.1
    refine insert_ok (A := Bs A h2.size) (v := s) (i := k) (T.aside (E13.trans E5) hc) (by omega) hz (fun b hb => ⟨hA b (by omega), by omega⟩) fun q' h6 E6 T6 => ?_
    rw [K.ins] at T6
    exact St.whole ((E5.trans E6).blk B3) rfl rfl fun h7 B7 o7 z7 => ⟨_, B7.ld 0 rfl, H1 (by omega) q' h7 (((E13.trans E5).trans E6).over hc o7 z7) (T6.back o7 z7)⟩
theorem over_ok {low high : Int} {R : Sl → Heap → Prop} (T : Tr A h q l) (hu : UpS l) (hz : l.length ≤ 5864062014700) (H : ∀ s h', Fw h h' → Own h.size 3 h' s (cellsP (ovF low high l)) → R s h') : ival_Map_Over r q low high h R := by
  apply ival_Map_Over_of
  refine New.cells fun h1 E1 z1 B1 => New.cells fun h2 E2 z2 B2 => New.cells fun h3 E3 z3 B3 => ?_
  have E13 := (E1.trans E2).trans E3
  have C1 := E3.blk (E2.blk B1)
  have C2 := E3.blk B2
  refine ⟨_, C2.cell' rfl, _, B3.cell' rfl, fun c => H _ h3 E13 ?_, fun c => ?_⟩
  · have c := of_decide_eq_true c
    have e : ovF low high l = [] := if_pos c
    rw [e]; exact Own.nil _ _ _
  · have c := of_decide_eq_false c
    have T3 : Tr (Xs Any []) h3 q l := (T.fw E13).weak fun b hb => ⟨trivial, by simp⟩
    have hA3 : ∀ b, h3.size ≤ b → Xs Any [] b := fun b hb => ⟨trivial, by simp⟩
    intro J18 HJ18
    have eo : ovF low high l = (l.filter fun y => decide (y.lo ≤ high)).filter fun y => decide (low ≤ y.hi) := if_neg c
    have j18 : ∀ (pa : Nat) (h4 : Heap) (qa : Option Addr) (k : Nat), Fw h3 h4 → Blk h4 pa [.pointer qa] → h3.size ≤ pa → Tr (fun b => b ≠ pa) h4 qa (l.take k) → CtS (fun y => decide (y.lo ≤ high)) l k → J18 (ad pa 0) h4 := by
      intro pa h4 qa k F4 Ba ga Ta K
      have hpa := Ba.lt
      have E4 := E13.trans F4
      have a4 := F4.1
      rw [K.take] at Ta
      refine HJ18 _ _ ?_
      intro J21 HJ21 X24 HX24
      have j21 : ∀ (out : Sl) (h5 : Heap), Fw h h5 → Own h4.size 3 h5 out (cellsP (ovF low high l)) → J21 out h5 := fun out h5 E O => HJ21 _ _ (H out h5 E (O.mono E4.1))
      have key : ∀ (n : Nat) (t done : List Spn) (qt : Option Addr) (out : Sl) (h6 : Heap), t.length = n → Fw h h6 → h4.size ≤ h6.size → Blk h6 pa [.pointer qt] → Blk h6 h1.size [iV low] → Own h4.size 3 h6 out (cellsP done) → Tr (Ap Any pa out) h6 qt t → done.length + t.length ≤ l.length → done ++ (t.filter fun y => decide (low ≤ y.hi)) = ovF low high l → X24 out h6 := by
        intro n
        induction n using Nat.strongRecOn with
        | _ n ih =>
        intro t done qt out h6 hn E6 hz6 Bp Bl O T6 hlen hdone
        refine HX24 _ _ ⟨_, Bp.ld 0 rfl, len_ok T6 fun h7 F7 => ⟨fun c1 => ?_, fun c1 => ?_⟩⟩
        · refine ⟨_, (F7.blk Bp).ld 0 rfl, find_ok (T6.fw F7) (ask_hi (F7.blk Bl)) rfl (by omega) fun k h8 F8 hk f0 f1 => ⟨_, ((F7.trans F8).blk Bp).ld 0 rfl, len_ok (T6.fw (F7.trans F8)) fun h9 F9 => ?_⟩⟩
          have F69 := (F7.trans F8).trans F9
          obtain ⟨g0, g1⟩ := find_hi hk f0 f1
          refine ⟨fun c2 => ?_, fun c2 => ?_⟩
          · have c2 := of_decide_eq_true c2
            refine j21 out h9 (E6.trans F69) ?_
            rw [← hdone, List.filter_eq_nil_iff.2 (fun a ha => by have := g0 a (by rw [List.take_of_length_le (by omega)]; exact ha); simp; omega), List.append_nil]
            exact O.ext F69
          · have c2 := of_decide_eq_false c2
            have hkl : k < t.length := by omega
            have hy := List.getElem?_eq_getElem hkl
            have hfil := filter_hi g0 hy (g1 _ hy)
            have Bp9 := F69.blk Bp
            refine ⟨_, Bp9.ld 0 rfl, at_ok (T6.fw F69) hy (by omega) fun h10 F10 => ?_⟩
            have F610 := F69.trans F10
            have O10 := O.ext F610
            have l10 := ss_len O10.rs
            have a10 := F610.1
            refine App.push (cs := [iV t[k].lo, iV t[k].hi, iV t[k].val]) O10 rfl rfl (by simp [one]) (by omega) (by omega) fun s12 h12 G => ?_
            have z12 := G.ext.1
            have B12 : Blk h12 pa [.pointer qt] := G.ext.blk (F610.blk Bp) hpa
            have L12 : Blk h12 h1.size [iV low] := G.ext.blk (F610.blk Bl) (by omega)
            have O12 : Own h4.size 3 h12 s12 (cellsP (done ++ [t[k]])) := by rw [cellsP_append]; exact G.own
            have T12 : Tr (Ap Any pa s12) h12 qt t := (T6.fw F610).to (To.grown G z12)
            have E12 : Fw h h12 := (E6.trans F610).trans' (G.ext.mono E4.1)
            have e1 : w64 ((k : Int) + 1) = ((k + 1 : Nat) : Int) := by rw [w64_of] <;> omega
            rw [e1]
            refine ⟨_, B12.ld 0 rfl, tsplit_ok T12 (by omega) (by omega) (Ap.new any B12.lt O12) fun qc qd h13 F13 Tc Td => ?_⟩
            have a13 := F13.1
            refine St.whole (F13.blk B12) rfl rfl fun h14 B14 o14 z14 => ?_
            refine ih (t.drop (k + 1)).length (by rw [List.length_drop]; omega) (t.drop (k + 1)) (done ++ [t[k]]) qd s12 h14 rfl ((E12.trans F13).over (by have := E13.1; omega) o14 z14) (by omega) B14 ((F13.blk L12).other o14 (by omega)) ((O12.ext F13).keep fun p hp => o14 _ (fun e => by have := (O12.lt hp).2; omega)) (Td.to (To.over (fun e => e.2.1 rfl) o14 z14)) (by simp only [List.length_append, List.length_drop, List.length_singleton]; omega) ?_
            rw [← hdone, hfil]; simp
        · have c1 := of_decide_eq_false c1
          have e0 : t = [] := List.eq_nil_of_length_eq_zero (by omega)
          refine j21 out h7 (E6.trans F7) ?_
          rw [← hdone, e0, List.filter_nil, List.append_nil]
          exact O.ext F7
      refine key _ (l.filter fun y => decide (y.lo ≤ high)) [] qa Sl.nil h4 rfl E4 (Nat.le_refl _) Ba (F4.blk C2) (Own.nil _ _ _) (Ta.weak fun b hb => ⟨trivial, hb, fun p hp => by cases hp⟩) (by have : (l.filter fun y => decide (y.lo ≤ high)).length ≤ l.length := List.length_filter_le ..; simpa using this) (by rw [eo]; rfl)
    have L0 := Al.start h3
    refine ⟨_, C1.ld2 0 0 rfl, _, C1.ld2 0 0 rfl, ?_⟩
    refine ⟨?_, ?_⟩
    · refine find_ok (T3.to L0.to) (ask_lo (L0.fw.blk B3)) rfl (by omega) fun k1 g1 F1 k1le k1a k1b => ?_
      have L1 := L0.step F1
      refine ⟨(L1.fw.blk C1).ld2 0 0 rfl, ?_⟩
      refine ⟨?_, ?_⟩
      · refine tsplit_ok (T3.to L1.to) (by have := k1le; omega) (by omega) (L1.hA hA3) fun v2_0 v2_1 g2 F2 Ta_2 Tb_2 => ?_
        have L2 := L1.step F2
        refine ⟨?_, ?_⟩
        · refine New.cells fun g3 F3 z3 B3 => ?_
          have L3 := L2.new F3 B3
          have Ta3 := Ta_2.to (To.xs_new F3)
          have Tb3 := Tb_2.to (To.xs_new F3)
          refine ⟨(L3.fw.blk C1).ld2 0 0 rfl, ?_⟩
          refine ⟨(L3.fw.blk C1).ld2 0 0 rfl, ?_⟩
          refine New.cells fun g4 F4 z4 B4 => ?_
          have L4 := L3.new F4 B4
          have Ta4 := Ta3.to (To.xs_new F4)
          have Tb4 := Tb3.to (To.xs_new F4)
          refine ⟨(L4.fw.blk C1).ld2 0 0 rfl, ?_⟩
          refine ⟨(L4.fw.blk C1).ld2 0 0 rfl, ?_⟩
          exact L4.twoS (a := g2.size) (b := g3.size) (by simp) (by simp) (by have := L4.nd; simp at this; omega) fun h10 F10 Ba Bb S10 => j18 _ h10 _ _ F10 Ba (L4.ge _ (by simp)) ((Ta4.to S10).weak fun b hb e => hb.2 (by rw [e]; simp)) (find_cts hu k1le k1a k1b)
        · refine New.cells fun g6 F6 z6 B6 => ?_
          have L6 := L2.new F6 B6
          have Ta6 := Ta_2.to (To.xs_new F6)
          have Tb6 := Tb_2.to (To.xs_new F6)
          refine ⟨(L6.fw.blk C1).ld2 0 0 rfl, ?_⟩
          refine ⟨(L6.fw.blk C1).ld2 0 0 rfl, ?_⟩
          refine New.cells fun g7 F7 z7 B7 => ?_
          have L7 := L6.new F7 B7
          have Ta7 := Ta6.to (To.xs_new F7)
          have Tb7 := Tb6.to (To.xs_new F7)
          refine ⟨(L7.fw.blk C1).ld2 0 0 rfl, ?_⟩
          refine ⟨(L7.fw.blk C1).ld2 0 0 rfl, ?_⟩
          exact L7.twoS (a := g6.size) (b := g2.size) (by simp) (by simp) (by have := L7.nd; simp at this; omega) fun h10 F10 Ba Bb S10 => j18 _ h10 _ _ F10 Ba (L7.ge _ (by simp)) ((Ta7.to S10).weak fun b hb e => hb.2 (by rw [e]; simp)) (find_cts hu k1le k1a k1b)
      · refine ⟨?_, ?_⟩
        · refine New.cells fun g9 F9 z9 B9 => ?_
          have L9 := L1.new F9 B9
          refine ⟨(L9.fw.blk C1).ld2 0 0 rfl, ?_⟩
          refine ⟨(L9.fw.blk C1).ld2 0 0 rfl, ?_⟩
          refine ⟨?_, ?_⟩
          · refine tsplit_ok (T3.to L9.to) (by have := k1le; omega) (by omega) (L9.hA hA3) fun v10_0 v10_1 g10 F10 Ta_10 Tb_10 => ?_
            have L10 := L9.step F10
            refine New.cells fun g11 F11 z11 B11 => ?_
            have L11 := L10.new F11 B11
            have Ta11 := Ta_10.to (To.xs_new F11)
            have Tb11 := Tb_10.to (To.xs_new F11)
            refine ⟨(L11.fw.blk C1).ld2 0 0 rfl, ?_⟩
            refine ⟨(L11.fw.blk C1).ld2 0 0 rfl, ?_⟩
            exact L11.twoS (a := g1.size) (b := g10.size) (by simp) (by simp) (by have := L11.nd; simp at this; omega) fun h10 F10 Ba Bb S10 => j18 _ h10 _ _ F10 Ba (L11.ge _ (by simp)) ((Ta11.to S10).weak fun b hb e => hb.2 (by rw [e]; simp)) (find_cts hu k1le k1a k1b)
          · refine New.cells fun g13 F13 z13 B13 => ?_
            have L13 := L9.new F13 B13
            refine ⟨(L13.fw.blk C1).ld2 0 0 rfl, ?_⟩
            refine ⟨(L13.fw.blk C1).ld2 0 0 rfl, ?_⟩
            refine tsplit_ok (T3.to L13.to) (by have := k1le; omega) (by omega) (L13.hA hA3) fun v14_0 v14_1 g14 F14 Ta_14 Tb_14 => ?_
            have L14 := L13.step F14
            exact L14.twoS (a := g1.size) (b := g9.size) (by simp) (by simp) (by have := L14.nd; simp at this; omega) fun h10 F10 Ba Bb S10 => j18 _ h10 _ _ F10 Ba (L14.ge _ (by simp)) ((Ta_14.to S10).weak fun b hb e => hb.2 (by rw [e]; simp)) (find_cts hu k1le k1a k1b)
        · refine New.cells fun g16 F16 z16 B16 => ?_
          have L16 := L1.new F16 B16
          refine ⟨(L16.fw.blk C1).ld2 0 0 rfl, ?_⟩
          refine ⟨(L16.fw.blk C1).ld2 0 0 rfl, ?_⟩
          refine ⟨?_, ?_⟩
          · refine tsplit_ok (T3.to L16.to) (by have := k1le; omega) (by omega) (L16.hA hA3) fun v17_0 v17_1 g17 F17 Ta_17 Tb_17 => ?_
            have L17 := L16.step F17
            refine New.cells fun g18 F18 z18 B18 => ?_
            have L18 := L17.new F18 B18
            have Ta18 := Ta_17.to (To.xs_new F18)
            have Tb18 := Tb_17.to (To.xs_new F18)
            refine ⟨(L18.fw.blk C1).ld2 0 0 rfl, ?_⟩
            refine ⟨(L18.fw.blk C1).ld2 0 0 rfl, ?_⟩
            exact L18.twoS (a := g17.size) (b := g1.size) (by simp) (by simp) (by have := L18.nd; simp at this; omega) fun h10 F10 Ba Bb S10 => j18 _ h10 _ _ F10 Ba (L18.ge _ (by simp)) ((Ta18.to S10).weak fun b hb e => hb.2 (by rw [e]; simp)) (find_cts hu k1le k1a k1b)
          · refine New.cells fun g20 F20 z20 B20 => ?_
            have L20 := L16.new F20 B20
            refine ⟨(L20.fw.blk C1).ld2 0 0 rfl, ?_⟩
            refine ⟨(L20.fw.blk C1).ld2 0 0 rfl, ?_⟩
            refine tsplit_ok (T3.to L20.to) (by have := k1le; omega) (by omega) (L20.hA hA3) fun v21_0 v21_1 g21 F21 Ta_21 Tb_21 => ?_
            have L21 := L20.step F21
            exact L21.twoS (a := g16.size) (b := g1.size) (by simp) (by simp) (by have := L21.nd; simp at this; omega) fun h10 F10 Ba Bb S10 => j18 _ h10 _ _ F10 Ba (L21.ge _ (by simp)) ((Ta_21.to S10).weak fun b hb e => hb.2 (by rw [e]; simp)) (find_cts hu k1le k1a k1b)
    · refine ⟨?_, ?_⟩
      · refine New.cells fun g23 F23 z23 B23 => ?_
        have L23 := L0.new F23 B23
        refine ⟨(L23.fw.blk C1).ld2 0 0 rfl, ?_⟩
        refine ⟨(L23.fw.blk C1).ld2 0 0 rfl, ?_⟩
        refine ⟨?_, ?_⟩
        · refine find_ok (T3.to L23.to) (ask_lo (L23.fw.blk B3)) rfl (by omega) fun k24 g24 F24 k24le k24a k24b => ?_
          have L24 := L23.step F24
          refine ⟨(L24.fw.blk C1).ld2 0 0 rfl, ?_⟩
          refine ⟨?_, ?_⟩
          · refine tsplit_ok (T3.to L24.to) (by have := k24le; omega) (by omega) (L24.hA hA3) fun v25_0 v25_1 g25 F25 Ta_25 Tb_25 => ?_
            have L25 := L24.step F25
            refine New.cells fun g26 F26 z26 B26 => ?_
            have L26 := L25.new F26 B26
            have Ta26 := Ta_25.to (To.xs_new F26)
            have Tb26 := Tb_25.to (To.xs_new F26)
            refine ⟨(L26.fw.blk C1).ld2 0 0 rfl, ?_⟩
            refine ⟨(L26.fw.blk C1).ld2 0 0 rfl, ?_⟩
            exact L26.twoS (a := h3.size) (b := g25.size) (by simp) (by simp) (by have := L26.nd; simp at this; omega) fun h10 F10 Ba Bb S10 => j18 _ h10 _ _ F10 Ba (L26.ge _ (by simp)) ((Ta26.to S10).weak fun b hb e => hb.2 (by rw [e]; simp)) (find_cts hu k24le k24a k24b)
          · refine New.cells fun g28 F28 z28 B28 => ?_
            have L28 := L24.new F28 B28
            refine ⟨(L28.fw.blk C1).ld2 0 0 rfl, ?_⟩
            refine ⟨(L28.fw.blk C1).ld2 0 0 rfl, ?_⟩
            refine tsplit_ok (T3.to L28.to) (by have := k24le; omega) (by omega) (L28.hA hA3) fun v29_0 v29_1 g29 F29 Ta_29 Tb_29 => ?_
            have L29 := L28.step F29
            exact L29.twoS (a := h3.size) (b := g24.size) (by simp) (by simp) (by have := L29.nd; simp at this; omega) fun h10 F10 Ba Bb S10 => j18 _ h10 _ _ F10 Ba (L29.ge _ (by simp)) ((Ta_29.to S10).weak fun b hb e => hb.2 (by rw [e]; simp)) (find_cts hu k24le k24a k24b)
        · refine New.cells fun g31 F31 z31 B31 => ?_
          have L31 := L23.new F31 B31
          refine ⟨(L31.fw.blk C1).ld2 0 0 rfl, ?_⟩
          refine ⟨(L31.fw.blk C1).ld2 0 0 rfl, ?_⟩
          refine find_ok (T3.to L31.to) (ask_lo (L31.fw.blk B3)) rfl (by omega) fun k32 g32 F32 k32le k32a k32b => ?_
          have L32 := L31.step F32
          refine ⟨(L32.fw.blk C1).ld2 0 0 rfl, ?_⟩
          refine tsplit_ok (T3.to L32.to) (by have := k32le; omega) (by omega) (L32.hA hA3) fun v33_0 v33_1 g33 F33 Ta_33 Tb_33 => ?_
          have L33 := L32.step F33
          exact L33.twoS (a := h3.size) (b := g23.size) (by simp) (by simp) (by have := L33.nd; simp at this; omega) fun h10 F10 Ba Bb S10 => j18 _ h10 _ _ F10 Ba (L33.ge _ (by simp)) ((Ta_33.to S10).weak fun b hb e => hb.2 (by rw [e]; simp)) (find_cts hu k32le k32a k32b)
      · refine New.cells fun g35 F35 z35 B35 => ?_
        have L35 := L0.new F35 B35
        refine ⟨(L35.fw.blk C1).ld2 0 0 rfl, ?_⟩
        refine ⟨(L35.fw.blk C1).ld2 0 0 rfl, ?_⟩
        refine ⟨?_, ?_⟩
        · refine find_ok (T3.to L35.to) (ask_lo (L35.fw.blk B3)) rfl (by omega) fun k36 g36 F36 k36le k36a k36b => ?_
          have L36 := L35.step F36
          refine ⟨(L36.fw.blk C1).ld2 0 0 rfl, ?_⟩
          refine ⟨?_, ?_⟩
          · refine tsplit_ok (T3.to L36.to) (by have := k36le; omega) (by omega) (L36.hA hA3) fun v37_0 v37_1 g37 F37 Ta_37 Tb_37 => ?_
            have L37 := L36.step F37
            refine New.cells fun g38 F38 z38 B38 => ?_
            have L38 := L37.new F38 B38
            have Ta38 := Ta_37.to (To.xs_new F38)
            have Tb38 := Tb_37.to (To.xs_new F38)
            refine ⟨(L38.fw.blk C1).ld2 0 0 rfl, ?_⟩
            refine ⟨(L38.fw.blk C1).ld2 0 0 rfl, ?_⟩
            exact L38.twoS (a := g37.size) (b := h3.size) (by simp) (by simp) (by have := L38.nd; simp at this; omega) fun h10 F10 Ba Bb S10 => j18 _ h10 _ _ F10 Ba (L38.ge _ (by simp)) ((Ta38.to S10).weak fun b hb e => hb.2 (by rw [e]; simp)) (find_cts hu k36le k36a k36b)
          · refine New.cells fun g40 F40 z40 B40 => ?_
            have L40 := L36.new F40 B40
            refine ⟨(L40.fw.blk C1).ld2 0 0 rfl, ?_⟩
            refine ⟨(L40.fw.blk C1).ld2 0 0 rfl, ?_⟩
            refine tsplit_ok (T3.to L40.to) (by have := k36le; omega) (by omega) (L40.hA hA3) fun v41_0 v41_1 g41 F41 Ta_41 Tb_41 => ?_
            have L41 := L40.step F41
            exact L41.twoS (a := g36.size) (b := h3.size) (by simp) (by simp) (by have := L41.nd; simp at this; omega) fun h10 F10 Ba Bb S10 => j18 _ h10 _ _ F10 Ba (L41.ge _ (by simp)) ((Ta_41.to S10).weak fun b hb e => hb.2 (by rw [e]; simp)) (find_cts hu k36le k36a k36b)
        · refine New.cells fun g43 F43 z43 B43 => ?_
          have L43 := L35.new F43 B43
          refine ⟨(L43.fw.blk C1).ld2 0 0 rfl, ?_⟩
          refine ⟨(L43.fw.blk C1).ld2 0 0 rfl, ?_⟩
          refine find_ok (T3.to L43.to) (ask_lo (L43.fw.blk B3)) rfl (by omega) fun k44 g44 F44 k44le k44a k44b => ?_
          have L44 := L43.step F44
          refine ⟨(L44.fw.blk C1).ld2 0 0 rfl, ?_⟩
          refine tsplit_ok (T3.to L44.to) (by have := k44le; omega) (by omega) (L44.hA hA3) fun v45_0 v45_1 g45 F45 Ta_45 Tb_45 => ?_
          have L45 := L44.step F45
          exact L45.twoS (a := g35.size) (b := h3.size) (by simp) (by simp) (by have := L45.nd; simp at this; omega) fun h10 F10 Ba Bb S10 => j18 _ h10 _ _ F10 Ba (L45.ge _ (by simp)) ((Ta_45.to S10).weak fun b hb e => hb.2 (by rw [e]; simp)) (find_cts hu k44le k44a k44b)
theorem iall_ok {x : Int} {R : Sl → Heap → Prop} (T : Tr A h q l) (hu : UpS l) (hz : l.length ≤ 5864062014700) (H : ∀ s h', Fw h h' → Own h.size 3 h' s (cellsP (ovF x x l)) → R s h') : ival_Map_All r q x h R := by
  apply ival_Map_All_of
  exact New.cells fun h1 E1 z1 B1 => ⟨_, B1.ld 0 rfl, over_ok (T.fw E1) hu hz fun s h2 E2 O => H s h2 (E1.trans E2) (O.mono E1.1)⟩
theorem iany_ok {x : Int} {R : Int → Int → Int → Bool → Heap → Prop} (T : Tr A h q l) (hu : UpS l) (hz : l.length ≤ 5864062014700) (H0 : ovF x x l = [] → ∀ h', Fw h h' → R 0 0 0 false h') (H1 : ∀ s rest h', ovF x x l = s :: rest → Fw h h' → R s.lo s.hi s.val true h') : ival_Map_Any r q x h R := by
  apply ival_Map_Any_of
  refine New.cells fun h1 E1 z1 B1 => New.cells fun h2 E2 z2 B2 => ⟨_, (E2.blk B1).ld 0 rfl, over_ok (T.fw (E1.trans E2)) hu hz fun s h3 E3 O => ?_⟩
  have E13 := (E1.trans E2).trans E3
  have C2 := E3.blk B2
  have sl := ss_len O.rs
  refine ⟨fun c => ?_, fun c => ?_⟩
  · have c := of_decide_eq_true c
    exact St.whole C2 rfl rfl fun h4 B4 o4 z4 => ⟨_, B4.ld 0 rfl, _, B4.ld 1 rfl, _, B4.ld 2 rfl, H0 (List.eq_nil_of_length_eq_zero (by omega)) h4 (E13.over E1.1 o4 z4)⟩
  · have c := of_decide_eq_false c
    cases hl : ovF x x l with
    | nil => rw [hl] at sl; simp at sl; omega
    | cons y rest =>
      rw [hl] at O
      refine SS.ix (i := 0) O.rs (by decide) (by simp) fun p p0 p1 p2 => ⟨_, p0, _, p1, _, p2, ?_⟩
      exact St.whole C2 rfl rfl fun h4 B4 o4 z4 => ⟨_, B4.ld 0 rfl, _, B4.ld 1 rfl, _, B4.ld 2 rfl, H1 y rest h4 hl (E13.over E1.1 o4 z4)⟩
theorem ovF_one (x lo hi v : Int) (h1 : lo ≤ x) (h2 : x ≤ hi) : ovF x x (insS ⟨lo, hi, v⟩ []) = [⟨lo, hi, v⟩] := by
  rw [ovF_eq (Int.le_refl _)]
  simp [insS, h1, h2]
theorem ovF_none (x lo hi v : Int) (h1 : hi < x) : ovF x x (insS ⟨lo, hi, v⟩ []) = [] := by
  rw [ovF_eq (Int.le_refl _)]
  simp [insS, h1]
theorem spanned_ok {R : Bool → Heap → Prop} (H : ∀ h', Fw h h' → R true h') : law3_spanned r h R := by
  apply law3_spanned_of
  refine New.cells fun h1 E1 z1 B1 => ⟨_, B1.ld 0 rfl, ?_⟩
  refine add_ok (A := Bs Any h.size) (s := ⟨2, 4, 5⟩) (Tr.nil _ _) List.Pairwise.nil (by decide) (fun b hb => ⟨trivial, by omega⟩) (fun c => absurd c (by decide)) fun _ q2 h2 E2 T2 => ?_
  have hu : UpS (insS ⟨2, 4, 5⟩ []) := insS_up List.Pairwise.nil
  have hz : (insS ⟨2, 4, 5⟩ []).length ≤ 5864062014700 := by rw [insS_len]; decide
  refine St.whole (E2.blk B1) rfl rfl fun h3 B3 o3 z3 => ⟨_, B3.ld 0 rfl, ?_⟩
  have E13 : Fw h h3 := (E1.trans E2).over (Nat.le_refl _) o3 z3
  have T3 : Tr (Bs Any h.size) h3 q2 (insS ⟨2, 4, 5⟩ []) := T2.to (To.over (fun e => e.2 rfl) o3 z3)
  have e3 := ovF_one 3 2 4 5 (by decide) (by decide)
  refine iany_ok T3 hu hz (fun c => by rw [e3] at c; cases c) fun s rest h4 e E4 => ?_
  rw [e3] at e
  injection e with e _
  subst e
  refine New.cells fun h5 E5 z5 B5 => St.whole B5 rfl rfl fun h6 B6 o6 z6 => ?_
  have F36 : Fw h3 h6 := (E4.trans E5).over E4.1 o6 z6
  refine ⟨_, (F36.blk B3).ld 0 rfl, iany_ok (T3.fw F36) hu hz (fun _ h7 E7 => ?_) fun s rest h7 e E7 => ?_⟩
  · refine New.cells fun h8 E8 z8 B8 => St.whole B8 rfl rfl fun h9 B9 o9 z9 => ?_
    have F69 : Fw h6 h9 := (E7.trans E8).over E7.1 o9 z9
    intro J HJ
    refine ⟨rfl, fun _ => ⟨fun _ => ⟨_, (F69.blk B6).ld 2 rfl, fun _ => HJ _ (H h9 ((E13.trans F36).trans F69)), fun c => absurd c (by decide)⟩, fun c => by cases c⟩, fun c => by cases c⟩
  · rw [ovF_none 5 2 4 5 (by decide)] at e; cases e
end
end Go.Proofs.YtcafckgflpmfgaaDoor.Iv
