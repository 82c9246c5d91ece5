/- Numbers in order, also twice: merged (printed by mk_ordm.py). -/
import Derived.Test.YtikccpmhoioaeaaOOrdQ
import Derived.Test.YtikccpmhoioaeaaManA
namespace Go.Proofs.Ytikccpmhoioaeaa.Or
open Go Go.RowKit Go.Tw Go.Many Go.Ord
set_option linter.unusedVariables false
section
variable {A : Nat → Prop} {r : World} {h : Heap} {q : Option Addr} {l : List Int}
theorem omerge_ok {m : List Int} {q2 : Option Addr} {R : Option Addr → Heap → Prop} (T : Tr A h q l) (U : Tr A h q2 m) (hu : Up l) (hv : Up m) (hz : l.length + m.length < 576460752303423485) (hA : ∀ b, h.size ≤ b → A b) (H : ∀ u q' h', Fw h h' → Up u → u.Perm (l ++ m) → Tr A h' q' u → R q' h') : ord_Order_Merge r q q2 h R := by
  apply ord_Order_Merge_of
  refine New.cells fun h1 E1 z1 B1 => New.cells fun h2 E2 z2 B2 => New.cells fun h3 E3 z3 B3 => New.cells fun h4 E4 z4 B4 => ?_
  intro X HX
  have E04 := ((E1.trans E2).trans E3).trans E4
  have hAg : ∀ (g : Heap), h4.size ≤ g.size → ∀ b, g.size ≤ b → Xs A [h.size, h1.size, h2.size, h3.size] b := fun g hg b hb => ⟨hA b (by omega), by simp; omega⟩
  have key : ∀ (n : Nat) (o p w : List Int) (qo qp qw : Option Addr) (h5 : Heap), o.length + p.length = n → Fw h h5 → h4.size ≤ h5.size → Blk h5 h.size [.pointer qo] → Blk h5 h1.size [.pointer qp] → Blk h5 h2.size [.pointer none] → Blk h5 h3.size [.pointer qw] →
      Tr (Xs A [h.size, h1.size, h2.size, h3.size]) h5 qo o → Tr (Xs A [h.size, h1.size, h2.size, h3.size]) h5 qp p → Tr (Xs A [h.size, h1.size, h2.size, h3.size]) h5 qw w → Up o → Up p → Up w → (∀ x ∈ w, ∀ y ∈ o ++ p, x ≤ y) → (w ++ (o ++ p)).Perm (l ++ m) → X h5 := by
    intro n
    induction n using Nat.strongRecOn with
    | _ n ih =>
    intro o p w qo qp qw h5 hn E5 hz5 C1 C2 C3 C4 To5 Tp Tw ho hp hw hle hperm
    have hpl := hperm.length_eq
    simp only [List.length_append] at hpl
    refine HX _ ?_
    intro J17 HJ17
    have done : ∀ h6, Fw h5 h6 → (o = [] ∨ p = []) → J17 false h6 := by
      intro h6 F6 he
      have a6 := F6.1
      refine HJ17 _ _ ⟨fun c => (by cases c), fun _ => ⟨_, (F6.blk C4).ld2 0 0 rfl, _, (F6.blk C1).ld2 0 0 rfl, _, (F6.blk C2).ld2 0 0 rfl, ?_⟩⟩
      refine tjoin_ok (Tw.fw F6) (To5.fw F6) (by omega) (hAg h6 (by omega)) fun qa ha Fa Ta => ⟨((F6.trans Fa).blk C2).ld2 0 0 rfl, ?_⟩
      have aa := Fa.1
      refine tjoin_ok Ta (Tp.fw (F6.trans Fa)) (by simp; omega) (hAg ha (by omega)) fun qb hb Fb Tb => ?_
      have F := (F6.trans Fa).trans Fb
      refine St.whole (F.blk C3) rfl rfl fun h7 B7 o7 z7 => ⟨_, B7.ld 0 rfl, ?_⟩
      rw [List.append_assoc] at Tb
      refine H _ _ h7 ((E5.trans F).over (by omega) o7 z7) ?_ hperm ((Tb.to (To.over (fun e => e.2 (by simp)) o7 z7)).weak fun b hb => hb.1)
      refine up_append.2 ⟨hw, ?_, hle⟩
      rcases he with rfl | rfl
      · simpa using hp
      · simpa using ho
    refine ⟨_, C1.ld2 0 0 rfl, len_ok To5 fun h6 F6 => ⟨fun c => ⟨_, (F6.blk C2).ld2 0 0 rfl, len_ok (Tp.fw F6) fun h7 F7 => ?_⟩, fun c => done h6 F6 (.inl ?_)⟩⟩
    rotate_left
    · have c := of_decide_eq_false c
      exact List.eq_nil_of_length_eq_zero (by omega)
    have c1 := of_decide_eq_true c
    clear c
    by_cases hp0 : p = []
    · rw [decide_eq_false (by subst hp0; simp)]
      exact done h7 (F6.trans F7) (.inr hp0)
    have hpl0 : 0 < p.length := List.length_pos_iff.2 hp0
    rw [decide_eq_true (by omega)]
    refine HJ17 _ _ ⟨fun _ => ?_, fun c => by cases c⟩
    have F57 := F6.trans F7
    refine ⟨_, (F57.blk C2).ld2 0 0 rfl, _, (F57.blk C1).ld2 0 0 rfl, at_ok (i := 0) (Tp.fw F57) (List.getElem?_eq_getElem hpl0) (by omega) fun h8 F8 => ⟨((F57.trans F8).blk C1).ld2 0 0 rfl, at_ok (i := 0) (To5.fw (F57.trans F8)) (List.getElem?_eq_getElem (show 0 < o.length by omega)) (by omega) fun h9 F9 => ?_⟩⟩
    have F59 := (F57.trans F8).trans F9
    have a9 := F59.1
    intro J26 HJ26
    have core : ∀ (o p : List Int) (qo qp : Option Addr) (x y : Int) (h9 : Heap), o.length + p.length = n → Fw h h9 → h4.size ≤ h9.size → Blk h9 h.size [.pointer qo] → Blk h9 h1.size [.pointer qp] → Blk h9 h2.size [.pointer none] → Blk h9 h3.size [.pointer qw] →
        Tr (Xs A [h.size, h1.size, h2.size, h3.size]) h9 qo o → Tr (Xs A [h.size, h1.size, h2.size, h3.size]) h9 qp p → Tr (Xs A [h.size, h1.size, h2.size, h3.size]) h9 qw w → Up o → Up p → (∀ x ∈ w, ∀ y ∈ o ++ p, x ≤ y) → (w ++ (o ++ p)).Perm (l ++ m) → o[0]? = some x → p[0]? = some y → x ≤ y → J26 h9 := by
      clear hpl hperm hle hp ho To5 Tp Tw C1 C2 C3 C4 done c1 hp0 hpl0 F6 F7 F57 F8 F9 F59 hn
      clear o p qo qp
      intro o p qo qp x y h9 hn E9 hz9 C1 C2 C3 C4 To9 Tp Tw ho hp hle hperm hx hy hxy
      have hA9 := hAg h9 hz9
      have hpl := hperm.length_eq
      simp only [List.length_append] at hpl
      refine HJ26 _ ?_
      intro J30 HJ30
      have j30 : ∀ (pa pb : Nat) (h10 : Heap) (ya yb : Option Addr) (k : Nat), Fw h9 h10 → Blk h10 pa [.pointer ya] → Blk h10 pb [.pointer yb] → Tr (Xs A [h.size, h1.size, h2.size, h3.size]) h10 ya (o.take k) → Tr (Xs A [h.size, h1.size, h2.size, h3.size]) h10 yb (o.drop k) → Tr (Xs A [h.size, h1.size, h2.size, h3.size]) h10 qp p → Tr (Xs A [h.size, h1.size, h2.size, h3.size]) h10 qw w →
          h9.size ≤ pa → h9.size ≤ pb → Ct (fun z => decide (z ≤ y)) o k → J30 (ad pa 0) (ad pb 0) h10 := by
        intro pa pb h10 ya yb k F Ba Bb Ta Tb Tp0 Tw0 ga gb K
        have aF := F.1
        have kle := K.le
        have k1 : 1 ≤ k := by
          apply Nat.pos_of_ne_zero
          intro e
          subst e
          have := K.no x (by rw [List.drop_zero]; exact List.mem_of_getElem? hx)
          simp at this; omega
        refine HJ30 _ _ _ ⟨_, (F.blk C4).ld2 0 0 rfl, _, Ba.ld 0 rfl, _, Bb.ld 0 rfl, tjoin_ok Tw0 Ta (by rw [List.length_take]; omega) (hAg h10 (by omega)) fun q11 h11 F11 T11 => ⟨(F11.blk Bb).ld 0 rfl, ?_⟩⟩
        have a11 := F11.1
        have D4 := F11.blk (F.blk C4)
        have D1 := F11.blk (F.blk C1)
        have D2 := F11.blk (F.blk C2)
        have D3 := F11.blk (F.blk C3)
        refine St.whole D4 rfl rfl fun h12 B12 o12 z12 => ⟨((F11.blk Bb).other o12 (by omega)).ld 0 rfl, St.whole (D1.other o12 (by omega)) rfl rfl fun h13 B13 o13 z13 => ?_⟩
        have S : ∀ {q l}, Tr (Xs A [h.size, h1.size, h2.size, h3.size]) h11 q l → Tr (Xs A [h.size, h1.size, h2.size, h3.size]) h13 q l := fun T => (T.to (To.over (fun e => e.2 (by simp)) o12 z12)).to (To.over (fun e => e.2 (by simp)) o13 z13)
        have ol : ∀ a ∈ o.take k, ∀ b ∈ o.drop k, a ≤ b := by
          have := ho
          rw [← List.take_append_drop k o] at this
          exact (up_append.1 this).2.2
        have otake : Up (o.take k) := ho.sublist (List.take_sublist k o)
        have odrop : Up (o.drop k) := ho.sublist (List.drop_sublist k o)
        have ple : ∀ a ∈ o.take k, ∀ b ∈ p, a ≤ b := by
          intro a ha b hb
          have h1 := K.yes a ha
          simp at h1
          obtain ⟨j, hj⟩ := List.mem_iff_getElem?.1 hb
          have hjl := (List.getElem?_eq_some_iff.1 hj).1
          have h2 := up_get hp hjl (Nat.zero_le j)
          rw [List.getElem?_eq_getElem hjl] at hj
          rw [List.getElem?_eq_getElem (by omega)] at hy
          injection hj with hj
          injection hy with hy
          omega
        refine ih (o.drop k ++ p).length (by rw [List.length_append, List.length_drop]; omega) (o.drop k) p (w ++ o.take k) _ _ _ h13 (by simp) (((E9.trans F).trans F11).over (by omega) o12 z12 |>.over (Nat.le_refl _) o13 z13) (by omega) B13 ((D2.other o12 (by omega)).other o13 (by omega)) ((D3.other o12 (by omega)).other o13 (by omega)) (B12.other o13 (by omega)) (S (Tb.fw F11)) (S (Tp0.fw F11)) (S T11) odrop hp ?_ ?_ ?_
        · exact up_append.2 ⟨hw, otake, fun a ha b hb => hle a ha b (List.mem_append_left _ (List.mem_of_mem_take hb))⟩
        · intro a ha b hb
          rcases List.mem_append.1 ha with ha | ha
          · rcases List.mem_append.1 hb with hb | hb
            · exact hle a ha b (List.mem_append_left _ (List.mem_of_mem_drop hb))
            · exact hle a ha b (List.mem_append_right _ hb)
          · rcases List.mem_append.1 hb with hb | hb
            · exact ol a ha b hb
            · exact ple a ha b hb
        · have e : w ++ o.take k ++ (o.drop k ++ p) = w ++ (o ++ p) := by
            rw [List.append_assoc, ← List.append_assoc (o.take k), List.take_append_drop]
          rw [e]; exact hperm
      have L0 := Al.start h9
      refine ⟨_, C1.ld2 0 0 rfl, _, C1.ld 0 rfl, _, C2.ld2 0 0 rfl, ?_⟩
      refine ⟨?_, ?_⟩
      · refine at_ok (i := 0) (Tp.to L0.to) hy (by omega) fun g1 F1 => ?_
        have L1 := L0.step F1
        refine ⟨(L1.fw.blk C1).ld 0 rfl, ?_⟩
        refine ⟨(L1.fw.blk C1).ld2 0 0 rfl, ?_⟩
        refine ⟨?_, ?_⟩
        · refine behind_ok (To9.to L1.to) ho (by omega) fun k2 g2 F2 K2 => ?_
          have L2 := L1.step F2
          refine ⟨(L2.fw.blk C1).ld2 0 0 rfl, ?_⟩
          refine ⟨?_, ?_⟩
          · refine tsplit_ok (To9.to L2.to) (by have := K2.le; omega) (by omega) (L2.hA hA9) fun v3_0 v3_1 g3 F3 Ta_3 Tb_3 => ?_
            have L3 := L2.step F3
            refine ⟨?_, ?_⟩
            · refine New.cells fun g4 F4 z4 B4 => ?_
              have L4 := L3.new F4 B4
              have Ta4 := Ta_3.to (To.xs_new F4)
              have Tb4 := Tb_3.to (To.xs_new F4)
              refine ⟨(L4.fw.blk C2).ld2 0 0 rfl, ?_⟩
              refine ⟨(L4.fw.blk C1).ld 0 rfl, ?_⟩
              refine ⟨(L4.fw.blk C1).ld2 0 0 rfl, ?_⟩
              refine New.cells fun g5 F5 z5 B5 => ?_
              have L5 := L4.new F5 B5
              have Ta5 := Ta4.to (To.xs_new F5)
              have Tb5 := Tb4.to (To.xs_new F5)
              refine ⟨(L5.fw.blk C2).ld2 0 0 rfl, ?_⟩
              refine ⟨(L5.fw.blk C1).ld 0 rfl, ?_⟩
              refine ⟨(L5.fw.blk C1).ld2 0 0 rfl, ?_⟩
              exact L5.two (a := g3.size) (b := g4.size) (by simp) (by simp) (by have := L5.nd; simp at this; omega) fun h10 F10 Ba Bb S10 => j30 _ _ h10 _ _ _ F10 Ba Bb (Ta5.to S10) (Tb5.to S10) ((Tp.to L5.to).to S10) ((Tw.to L5.to).to S10) (L5.ge _ (by simp)) (L5.ge _ (by simp)) K2
            · refine New.cells fun g7 F7 z7 B7 => ?_
              have L7 := L3.new F7 B7
              have Ta7 := Ta_3.to (To.xs_new F7)
              have Tb7 := Tb_3.to (To.xs_new F7)
              refine ⟨(L7.fw.blk C2).ld2 0 0 rfl, ?_⟩
              refine ⟨(L7.fw.blk C1).ld 0 rfl, ?_⟩
              refine ⟨(L7.fw.blk C1).ld2 0 0 rfl, ?_⟩
              refine New.cells fun g8 F8 z8 B8 => ?_
              have L8 := L7.new F8 B8
              have Ta8 := Ta7.to (To.xs_new F8)
              have Tb8 := Tb7.to (To.xs_new F8)
              refine ⟨(L8.fw.blk C2).ld2 0 0 rfl, ?_⟩
              refine ⟨(L8.fw.blk C1).ld 0 rfl, ?_⟩
              refine ⟨(L8.fw.blk C1).ld2 0 0 rfl, ?_⟩
              exact L8.two (a := g7.size) (b := g3.size) (by simp) (by simp) (by have := L8.nd; simp at this; omega) fun h10 F10 Ba Bb S10 => j30 _ _ h10 _ _ _ F10 Ba Bb (Ta8.to S10) (Tb8.to S10) ((Tp.to L8.to).to S10) ((Tw.to L8.to).to S10) (L8.ge _ (by simp)) (L8.ge _ (by simp)) K2
          · refine ⟨?_, ?_⟩
            · refine New.cells fun g10 F10 z10 B10 => ?_
              have L10 := L2.new F10 B10
              refine ⟨(L10.fw.blk C2).ld2 0 0 rfl, ?_⟩
              refine ⟨(L10.fw.blk C1).ld 0 rfl, ?_⟩
              refine ⟨(L10.fw.blk C1).ld2 0 0 rfl, ?_⟩
              refine ⟨?_, ?_⟩
              · refine tsplit_ok (To9.to L10.to) (by have := K2.le; omega) (by omega) (L10.hA hA9) fun v11_0 v11_1 g11 F11 Ta_11 Tb_11 => ?_
                have L11 := L10.step F11
                refine New.cells fun g12 F12 z12 B12 => ?_
                have L12 := L11.new F12 B12
                have Ta12 := Ta_11.to (To.xs_new F12)
                have Tb12 := Tb_11.to (To.xs_new F12)
                refine ⟨(L12.fw.blk C2).ld2 0 0 rfl, ?_⟩
                refine ⟨(L12.fw.blk C1).ld 0 rfl, ?_⟩
                refine ⟨(L12.fw.blk C1).ld2 0 0 rfl, ?_⟩
                exact L12.two (a := g2.size) (b := g11.size) (by simp) (by simp) (by have := L12.nd; simp at this; omega) fun h10 F10 Ba Bb S10 => j30 _ _ h10 _ _ _ F10 Ba Bb (Ta12.to S10) (Tb12.to S10) ((Tp.to L12.to).to S10) ((Tw.to L12.to).to S10) (L12.ge _ (by simp)) (L12.ge _ (by simp)) K2
              · refine New.cells fun g14 F14 z14 B14 => ?_
                have L14 := L10.new F14 B14
                refine ⟨(L14.fw.blk C2).ld2 0 0 rfl, ?_⟩
                refine ⟨(L14.fw.blk C1).ld 0 rfl, ?_⟩
                refine ⟨(L14.fw.blk C1).ld2 0 0 rfl, ?_⟩
                refine tsplit_ok (To9.to L14.to) (by have := K2.le; omega) (by omega) (L14.hA hA9) fun v15_0 v15_1 g15 F15 Ta_15 Tb_15 => ?_
                have L15 := L14.step F15
                exact L15.two (a := g2.size) (b := g10.size) (by simp) (by simp) (by have := L15.nd; simp at this; omega) fun h10 F10 Ba Bb S10 => j30 _ _ h10 _ _ _ F10 Ba Bb (Ta_15.to S10) (Tb_15.to S10) ((Tp.to L15.to).to S10) ((Tw.to L15.to).to S10) (L15.ge _ (by simp)) (L15.ge _ (by simp)) K2
            · refine New.cells fun g17 F17 z17 B17 => ?_
              have L17 := L2.new F17 B17
              refine ⟨(L17.fw.blk C2).ld2 0 0 rfl, ?_⟩
              refine ⟨(L17.fw.blk C1).ld 0 rfl, ?_⟩
              refine ⟨(L17.fw.blk C1).ld2 0 0 rfl, ?_⟩
              refine ⟨?_, ?_⟩
              · refine tsplit_ok (To9.to L17.to) (by have := K2.le; omega) (by omega) (L17.hA hA9) fun v18_0 v18_1 g18 F18 Ta_18 Tb_18 => ?_
                have L18 := L17.step F18
                refine New.cells fun g19 F19 z19 B19 => ?_
                have L19 := L18.new F19 B19
                have Ta19 := Ta_18.to (To.xs_new F19)
                have Tb19 := Tb_18.to (To.xs_new F19)
                refine ⟨(L19.fw.blk C2).ld2 0 0 rfl, ?_⟩
                refine ⟨(L19.fw.blk C1).ld 0 rfl, ?_⟩
                refine ⟨(L19.fw.blk C1).ld2 0 0 rfl, ?_⟩
                exact L19.two (a := g18.size) (b := g2.size) (by simp) (by simp) (by have := L19.nd; simp at this; omega) fun h10 F10 Ba Bb S10 => j30 _ _ h10 _ _ _ F10 Ba Bb (Ta19.to S10) (Tb19.to S10) ((Tp.to L19.to).to S10) ((Tw.to L19.to).to S10) (L19.ge _ (by simp)) (L19.ge _ (by simp)) K2
              · refine New.cells fun g21 F21 z21 B21 => ?_
                have L21 := L17.new F21 B21
                refine ⟨(L21.fw.blk C2).ld2 0 0 rfl, ?_⟩
                refine ⟨(L21.fw.blk C1).ld 0 rfl, ?_⟩
                refine ⟨(L21.fw.blk C1).ld2 0 0 rfl, ?_⟩
                refine tsplit_ok (To9.to L21.to) (by have := K2.le; omega) (by omega) (L21.hA hA9) fun v22_0 v22_1 g22 F22 Ta_22 Tb_22 => ?_
                have L22 := L21.step F22
                exact L22.two (a := g17.size) (b := g2.size) (by simp) (by simp) (by have := L22.nd; simp at this; omega) fun h10 F10 Ba Bb S10 => j30 _ _ h10 _ _ _ F10 Ba Bb (Ta_22.to S10) (Tb_22.to S10) ((Tp.to L22.to).to S10) ((Tw.to L22.to).to S10) (L22.ge _ (by simp)) (L22.ge _ (by simp)) K2
        · refine ⟨?_, ?_⟩
          · refine New.cells fun g24 F24 z24 B24 => ?_
            have L24 := L1.new F24 B24
            refine ⟨(L24.fw.blk C2).ld2 0 0 rfl, ?_⟩
            refine ⟨(L24.fw.blk C1).ld 0 rfl, ?_⟩
            refine ⟨(L24.fw.blk C1).ld2 0 0 rfl, ?_⟩
            refine ⟨?_, ?_⟩
            · refine behind_ok (To9.to L24.to) ho (by omega) fun k25 g25 F25 K25 => ?_
              have L25 := L24.step F25
              refine ⟨(L25.fw.blk C1).ld2 0 0 rfl, ?_⟩
              refine ⟨?_, ?_⟩
              · refine tsplit_ok (To9.to L25.to) (by have := K25.le; omega) (by omega) (L25.hA hA9) fun v26_0 v26_1 g26 F26 Ta_26 Tb_26 => ?_
                have L26 := L25.step F26
                refine New.cells fun g27 F27 z27 B27 => ?_
                have L27 := L26.new F27 B27
                have Ta27 := Ta_26.to (To.xs_new F27)
                have Tb27 := Tb_26.to (To.xs_new F27)
                refine ⟨(L27.fw.blk C2).ld2 0 0 rfl, ?_⟩
                refine ⟨(L27.fw.blk C1).ld 0 rfl, ?_⟩
                refine ⟨(L27.fw.blk C1).ld2 0 0 rfl, ?_⟩
                exact L27.two (a := g1.size) (b := g26.size) (by simp) (by simp) (by have := L27.nd; simp at this; omega) fun h10 F10 Ba Bb S10 => j30 _ _ h10 _ _ _ F10 Ba Bb (Ta27.to S10) (Tb27.to S10) ((Tp.to L27.to).to S10) ((Tw.to L27.to).to S10) (L27.ge _ (by simp)) (L27.ge _ (by simp)) K25
              · refine New.cells fun g29 F29 z29 B29 => ?_
                have L29 := L25.new F29 B29
                refine ⟨(L29.fw.blk C2).ld2 0 0 rfl, ?_⟩
                refine ⟨(L29.fw.blk C1).ld 0 rfl, ?_⟩
                refine ⟨(L29.fw.blk C1).ld2 0 0 rfl, ?_⟩
                refine tsplit_ok (To9.to L29.to) (by have := K25.le; omega) (by omega) (L29.hA hA9) fun v30_0 v30_1 g30 F30 Ta_30 Tb_30 => ?_
                have L30 := L29.step F30
                exact L30.two (a := g1.size) (b := g25.size) (by simp) (by simp) (by have := L30.nd; simp at this; omega) fun h10 F10 Ba Bb S10 => j30 _ _ h10 _ _ _ F10 Ba Bb (Ta_30.to S10) (Tb_30.to S10) ((Tp.to L30.to).to S10) ((Tw.to L30.to).to S10) (L30.ge _ (by simp)) (L30.ge _ (by simp)) K25
            · refine New.cells fun g32 F32 z32 B32 => ?_
              have L32 := L24.new F32 B32
              refine ⟨(L32.fw.blk C2).ld2 0 0 rfl, ?_⟩
              refine ⟨(L32.fw.blk C1).ld 0 rfl, ?_⟩
              refine ⟨(L32.fw.blk C1).ld2 0 0 rfl, ?_⟩
              refine behind_ok (To9.to L32.to) ho (by omega) fun k33 g33 F33 K33 => ?_
              have L33 := L32.step F33
              refine ⟨(L33.fw.blk C1).ld2 0 0 rfl, ?_⟩
              refine tsplit_ok (To9.to L33.to) (by have := K33.le; omega) (by omega) (L33.hA hA9) fun v34_0 v34_1 g34 F34 Ta_34 Tb_34 => ?_
              have L34 := L33.step F34
              exact L34.two (a := g1.size) (b := g24.size) (by simp) (by simp) (by have := L34.nd; simp at this; omega) fun h10 F10 Ba Bb S10 => j30 _ _ h10 _ _ _ F10 Ba Bb (Ta_34.to S10) (Tb_34.to S10) ((Tp.to L34.to).to S10) ((Tw.to L34.to).to S10) (L34.ge _ (by simp)) (L34.ge _ (by simp)) K33
          · refine New.cells fun g36 F36 z36 B36 => ?_
            have L36 := L1.new F36 B36
            refine ⟨(L36.fw.blk C2).ld2 0 0 rfl, ?_⟩
            refine ⟨(L36.fw.blk C1).ld 0 rfl, ?_⟩
            refine ⟨(L36.fw.blk C1).ld2 0 0 rfl, ?_⟩
            refine ⟨?_, ?_⟩
            · refine behind_ok (To9.to L36.to) ho (by omega) fun k37 g37 F37 K37 => ?_
              have L37 := L36.step F37
              refine ⟨(L37.fw.blk C1).ld2 0 0 rfl, ?_⟩
              refine ⟨?_, ?_⟩
              · refine tsplit_ok (To9.to L37.to) (by have := K37.le; omega) (by omega) (L37.hA hA9) fun v38_0 v38_1 g38 F38 Ta_38 Tb_38 => ?_
                have L38 := L37.step F38
                refine New.cells fun g39 F39 z39 B39 => ?_
                have L39 := L38.new F39 B39
                have Ta39 := Ta_38.to (To.xs_new F39)
                have Tb39 := Tb_38.to (To.xs_new F39)
                refine ⟨(L39.fw.blk C2).ld2 0 0 rfl, ?_⟩
                refine ⟨(L39.fw.blk C1).ld 0 rfl, ?_⟩
                refine ⟨(L39.fw.blk C1).ld2 0 0 rfl, ?_⟩
                exact L39.two (a := g38.size) (b := g1.size) (by simp) (by simp) (by have := L39.nd; simp at this; omega) fun h10 F10 Ba Bb S10 => j30 _ _ h10 _ _ _ F10 Ba Bb (Ta39.to S10) (Tb39.to S10) ((Tp.to L39.to).to S10) ((Tw.to L39.to).to S10) (L39.ge _ (by simp)) (L39.ge _ (by simp)) K37
              · refine New.cells fun g41 F41 z41 B41 => ?_
                have L41 := L37.new F41 B41
                refine ⟨(L41.fw.blk C2).ld2 0 0 rfl, ?_⟩
                refine ⟨(L41.fw.blk C1).ld 0 rfl, ?_⟩
                refine ⟨(L41.fw.blk C1).ld2 0 0 rfl, ?_⟩
                refine tsplit_ok (To9.to L41.to) (by have := K37.le; omega) (by omega) (L41.hA hA9) fun v42_0 v42_1 g42 F42 Ta_42 Tb_42 => ?_
                have L42 := L41.step F42
                exact L42.two (a := g37.size) (b := g1.size) (by simp) (by simp) (by have := L42.nd; simp at this; omega) fun h10 F10 Ba Bb S10 => j30 _ _ h10 _ _ _ F10 Ba Bb (Ta_42.to S10) (Tb_42.to S10) ((Tp.to L42.to).to S10) ((Tw.to L42.to).to S10) (L42.ge _ (by simp)) (L42.ge _ (by simp)) K37
            · refine New.cells fun g44 F44 z44 B44 => ?_
              have L44 := L36.new F44 B44
              refine ⟨(L44.fw.blk C2).ld2 0 0 rfl, ?_⟩
              refine ⟨(L44.fw.blk C1).ld 0 rfl, ?_⟩
              refine ⟨(L44.fw.blk C1).ld2 0 0 rfl, ?_⟩
              refine behind_ok (To9.to L44.to) ho (by omega) fun k45 g45 F45 K45 => ?_
              have L45 := L44.step F45
              refine ⟨(L45.fw.blk C1).ld2 0 0 rfl, ?_⟩
              refine tsplit_ok (To9.to L45.to) (by have := K45.le; omega) (by omega) (L45.hA hA9) fun v46_0 v46_1 g46 F46 Ta_46 Tb_46 => ?_
              have L46 := L45.step F46
              exact L46.two (a := g36.size) (b := g1.size) (by simp) (by simp) (by have := L46.nd; simp at this; omega) fun h10 F10 Ba Bb S10 => j30 _ _ h10 _ _ _ F10 Ba Bb (Ta_46.to S10) (Tb_46.to S10) ((Tp.to L46.to).to S10) ((Tw.to L46.to).to S10) (L46.ge _ (by simp)) (L46.ge _ (by simp)) K45
      · refine ⟨?_, ?_⟩
        · refine New.cells fun g48 F48 z48 B48 => ?_
          have L48 := L0.new F48 B48
          refine ⟨(L48.fw.blk C2).ld2 0 0 rfl, ?_⟩
          refine ⟨(L48.fw.blk C1).ld 0 rfl, ?_⟩
          refine ⟨(L48.fw.blk C1).ld2 0 0 rfl, ?_⟩
          refine ⟨?_, ?_⟩
          · refine at_ok (i := 0) (Tp.to L48.to) hy (by omega) fun g49 F49 => ?_
            have L49 := L48.step F49
            refine ⟨(L49.fw.blk C1).ld 0 rfl, ?_⟩
            refine ⟨(L49.fw.blk C1).ld2 0 0 rfl, ?_⟩
            refine ⟨?_, ?_⟩
            · refine behind_ok (To9.to L49.to) ho (by omega) fun k50 g50 F50 K50 => ?_
              have L50 := L49.step F50
              refine ⟨(L50.fw.blk C1).ld2 0 0 rfl, ?_⟩
              refine ⟨?_, ?_⟩
              · refine tsplit_ok (To9.to L50.to) (by have := K50.le; omega) (by omega) (L50.hA hA9) fun v51_0 v51_1 g51 F51 Ta_51 Tb_51 => ?_
                have L51 := L50.step F51
                refine New.cells fun g52 F52 z52 B52 => ?_
                have L52 := L51.new F52 B52
                have Ta52 := Ta_51.to (To.xs_new F52)
                have Tb52 := Tb_51.to (To.xs_new F52)
                refine ⟨(L52.fw.blk C2).ld2 0 0 rfl, ?_⟩
                refine ⟨(L52.fw.blk C1).ld 0 rfl, ?_⟩
                refine ⟨(L52.fw.blk C1).ld2 0 0 rfl, ?_⟩
                exact L52.two (a := h9.size) (b := g51.size) (by simp) (by simp) (by have := L52.nd; simp at this; omega) fun h10 F10 Ba Bb S10 => j30 _ _ h10 _ _ _ F10 Ba Bb (Ta52.to S10) (Tb52.to S10) ((Tp.to L52.to).to S10) ((Tw.to L52.to).to S10) (L52.ge _ (by simp)) (L52.ge _ (by simp)) K50
              · refine New.cells fun g54 F54 z54 B54 => ?_
                have L54 := L50.new F54 B54
                refine ⟨(L54.fw.blk C2).ld2 0 0 rfl, ?_⟩
                refine ⟨(L54.fw.blk C1).ld 0 rfl, ?_⟩
                refine ⟨(L54.fw.blk C1).ld2 0 0 rfl, ?_⟩
                refine tsplit_ok (To9.to L54.to) (by have := K50.le; omega) (by omega) (L54.hA hA9) fun v55_0 v55_1 g55 F55 Ta_55 Tb_55 => ?_
                have L55 := L54.step F55
                exact L55.two (a := h9.size) (b := g50.size) (by simp) (by simp) (by have := L55.nd; simp at this; omega) fun h10 F10 Ba Bb S10 => j30 _ _ h10 _ _ _ F10 Ba Bb (Ta_55.to S10) (Tb_55.to S10) ((Tp.to L55.to).to S10) ((Tw.to L55.to).to S10) (L55.ge _ (by simp)) (L55.ge _ (by simp)) K50
            · refine New.cells fun g57 F57 z57 B57 => ?_
              have L57 := L49.new F57 B57
              refine ⟨(L57.fw.blk C2).ld2 0 0 rfl, ?_⟩
              refine ⟨(L57.fw.blk C1).ld 0 rfl, ?_⟩
              refine ⟨(L57.fw.blk C1).ld2 0 0 rfl, ?_⟩
              refine behind_ok (To9.to L57.to) ho (by omega) fun k58 g58 F58 K58 => ?_
              have L58 := L57.step F58
              refine ⟨(L58.fw.blk C1).ld2 0 0 rfl, ?_⟩
              refine tsplit_ok (To9.to L58.to) (by have := K58.le; omega) (by omega) (L58.hA hA9) fun v59_0 v59_1 g59 F59 Ta_59 Tb_59 => ?_
              have L59 := L58.step F59
              exact L59.two (a := h9.size) (b := g49.size) (by simp) (by simp) (by have := L59.nd; simp at this; omega) fun h10 F10 Ba Bb S10 => j30 _ _ h10 _ _ _ F10 Ba Bb (Ta_59.to S10) (Tb_59.to S10) ((Tp.to L59.to).to S10) ((Tw.to L59.to).to S10) (L59.ge _ (by simp)) (L59.ge _ (by simp)) K58
          · refine New.cells fun g61 F61 z61 B61 => ?_
            have L61 := L48.new F61 B61
            refine ⟨(L61.fw.blk C2).ld2 0 0 rfl, ?_⟩
            refine ⟨(L61.fw.blk C1).ld 0 rfl, ?_⟩
            refine ⟨(L61.fw.blk C1).ld2 0 0 rfl, ?_⟩
            refine at_ok (i := 0) (Tp.to L61.to) hy (by omega) fun g62 F62 => ?_
            have L62 := L61.step F62
            refine ⟨(L62.fw.blk C1).ld 0 rfl, ?_⟩
            refine ⟨(L62.fw.blk C1).ld2 0 0 rfl, ?_⟩
            refine behind_ok (To9.to L62.to) ho (by omega) fun k63 g63 F63 K63 => ?_
            have L63 := L62.step F63
            refine ⟨(L63.fw.blk C1).ld2 0 0 rfl, ?_⟩
            refine tsplit_ok (To9.to L63.to) (by have := K63.le; omega) (by omega) (L63.hA hA9) fun v64_0 v64_1 g64 F64 Ta_64 Tb_64 => ?_
            have L64 := L63.step F64
            exact L64.two (a := h9.size) (b := g48.size) (by simp) (by simp) (by have := L64.nd; simp at this; omega) fun h10 F10 Ba Bb S10 => j30 _ _ h10 _ _ _ F10 Ba Bb (Ta_64.to S10) (Tb_64.to S10) ((Tp.to L64.to).to S10) ((Tw.to L64.to).to S10) (L64.ge _ (by simp)) (L64.ge _ (by simp)) K63
        · refine New.cells fun g66 F66 z66 B66 => ?_
          have L66 := L0.new F66 B66
          refine ⟨(L66.fw.blk C2).ld2 0 0 rfl, ?_⟩
          refine ⟨(L66.fw.blk C1).ld 0 rfl, ?_⟩
          refine ⟨(L66.fw.blk C1).ld2 0 0 rfl, ?_⟩
          refine ⟨?_, ?_⟩
          · refine at_ok (i := 0) (Tp.to L66.to) hy (by omega) fun g67 F67 => ?_
            have L67 := L66.step F67
            refine ⟨(L67.fw.blk C1).ld 0 rfl, ?_⟩
            refine ⟨(L67.fw.blk C1).ld2 0 0 rfl, ?_⟩
            refine ⟨?_, ?_⟩
            · refine behind_ok (To9.to L67.to) ho (by omega) fun k68 g68 F68 K68 => ?_
              have L68 := L67.step F68
              refine ⟨(L68.fw.blk C1).ld2 0 0 rfl, ?_⟩
              refine ⟨?_, ?_⟩
              · refine tsplit_ok (To9.to L68.to) (by have := K68.le; omega) (by omega) (L68.hA hA9) fun v69_0 v69_1 g69 F69 Ta_69 Tb_69 => ?_
                have L69 := L68.step F69
                refine New.cells fun g70 F70 z70 B70 => ?_
                have L70 := L69.new F70 B70
                have Ta70 := Ta_69.to (To.xs_new F70)
                have Tb70 := Tb_69.to (To.xs_new F70)
                refine ⟨(L70.fw.blk C2).ld2 0 0 rfl, ?_⟩
                refine ⟨(L70.fw.blk C1).ld 0 rfl, ?_⟩
                refine ⟨(L70.fw.blk C1).ld2 0 0 rfl, ?_⟩
                exact L70.two (a := g69.size) (b := h9.size) (by simp) (by simp) (by have := L70.nd; simp at this; omega) fun h10 F10 Ba Bb S10 => j30 _ _ h10 _ _ _ F10 Ba Bb (Ta70.to S10) (Tb70.to S10) ((Tp.to L70.to).to S10) ((Tw.to L70.to).to S10) (L70.ge _ (by simp)) (L70.ge _ (by simp)) K68
              · refine New.cells fun g72 F72 z72 B72 => ?_
                have L72 := L68.new F72 B72
                refine ⟨(L72.fw.blk C2).ld2 0 0 rfl, ?_⟩
                refine ⟨(L72.fw.blk C1).ld 0 rfl, ?_⟩
                refine ⟨(L72.fw.blk C1).ld2 0 0 rfl, ?_⟩
                refine tsplit_ok (To9.to L72.to) (by have := K68.le; omega) (by omega) (L72.hA hA9) fun v73_0 v73_1 g73 F73 Ta_73 Tb_73 => ?_
                have L73 := L72.step F73
                exact L73.two (a := g68.size) (b := h9.size) (by simp) (by simp) (by have := L73.nd; simp at this; omega) fun h10 F10 Ba Bb S10 => j30 _ _ h10 _ _ _ F10 Ba Bb (Ta_73.to S10) (Tb_73.to S10) ((Tp.to L73.to).to S10) ((Tw.to L73.to).to S10) (L73.ge _ (by simp)) (L73.ge _ (by simp)) K68
            · refine New.cells fun g75 F75 z75 B75 => ?_
              have L75 := L67.new F75 B75
              refine ⟨(L75.fw.blk C2).ld2 0 0 rfl, ?_⟩
              refine ⟨(L75.fw.blk C1).ld 0 rfl, ?_⟩
              refine ⟨(L75.fw.blk C1).ld2 0 0 rfl, ?_⟩
              refine behind_ok (To9.to L75.to) ho (by omega) fun k76 g76 F76 K76 => ?_
              have L76 := L75.step F76
              refine ⟨(L76.fw.blk C1).ld2 0 0 rfl, ?_⟩
              refine tsplit_ok (To9.to L76.to) (by have := K76.le; omega) (by omega) (L76.hA hA9) fun v77_0 v77_1 g77 F77 Ta_77 Tb_77 => ?_
              have L77 := L76.step F77
              exact L77.two (a := g67.size) (b := h9.size) (by simp) (by simp) (by have := L77.nd; simp at this; omega) fun h10 F10 Ba Bb S10 => j30 _ _ h10 _ _ _ F10 Ba Bb (Ta_77.to S10) (Tb_77.to S10) ((Tp.to L77.to).to S10) ((Tw.to L77.to).to S10) (L77.ge _ (by simp)) (L77.ge _ (by simp)) K76
          · refine New.cells fun g79 F79 z79 B79 => ?_
            have L79 := L66.new F79 B79
            refine ⟨(L79.fw.blk C2).ld2 0 0 rfl, ?_⟩
            refine ⟨(L79.fw.blk C1).ld 0 rfl, ?_⟩
            refine ⟨(L79.fw.blk C1).ld2 0 0 rfl, ?_⟩
            refine at_ok (i := 0) (Tp.to L79.to) hy (by omega) fun g80 F80 => ?_
            have L80 := L79.step F80
            refine ⟨(L80.fw.blk C1).ld 0 rfl, ?_⟩
            refine ⟨(L80.fw.blk C1).ld2 0 0 rfl, ?_⟩
            refine behind_ok (To9.to L80.to) ho (by omega) fun k81 g81 F81 K81 => ?_
            have L81 := L80.step F81
            refine ⟨(L81.fw.blk C1).ld2 0 0 rfl, ?_⟩
            refine tsplit_ok (To9.to L81.to) (by have := K81.le; omega) (by omega) (L81.hA hA9) fun v82_0 v82_1 g82 F82 Ta_82 Tb_82 => ?_
            have L82 := L81.step F82
            exact L82.two (a := g66.size) (b := h9.size) (by simp) (by simp) (by have := L82.nd; simp at this; omega) fun h10 F10 Ba Bb S10 => j30 _ _ h10 _ _ _ F10 Ba Bb (Ta_82.to S10) (Tb_82.to S10) ((Tp.to L82.to).to S10) ((Tw.to L82.to).to S10) (L82.ge _ (by simp)) (L82.ge _ (by simp)) K81
    have C1 := F59.blk C1
    have C2 := F59.blk C2
    have C3 := F59.blk C3
    have C4 := F59.blk C4
    have To9 := To5.fw F59
    have Tp9 := Tp.fw F59
    have Tw9 := Tw.fw F59
    have E9 := E5.trans F59
    refine ⟨fun c2 => ?_, fun c2 => ?_⟩
    · have c2 := of_decide_eq_true c2
      refine ⟨_, C2.ld 0 rfl, _, C1.ld 0 rfl, St.whole C1 rfl rfl fun h10 B10 o10 z10 => St.whole (C2.other o10 (by omega)) rfl rfl fun h11 B11 o11 z11 => ?_⟩
      have S : ∀ {q l}, Tr (Xs A [h.size, h1.size, h2.size, h3.size]) h9 q l → Tr (Xs A [h.size, h1.size, h2.size, h3.size]) h11 q l := fun T => (T.to (To.over (fun e => e.2 (by simp)) o10 z10)).to (To.over (fun e => e.2 (by simp)) o11 z11)
      refine core p o qp qo _ _ h11 (by omega) ((E9.over (Nat.le_refl _) o10 z10).over (by omega) o11 z11) (by omega) (B10.other o11 (by omega)) B11 ((C3.other o10 (by omega)).other o11 (by omega)) ((C4.other o10 (by omega)).other o11 (by omega)) (S Tp9) (S To9) (S Tw9) hp ho (fun x hx y hy => hle x hx y (by simp at hy ⊢; exact hy.symm)) ?_ (List.getElem?_eq_getElem hpl0) (List.getElem?_eq_getElem (show 0 < o.length by omega)) (by omega)
      exact ((List.perm_append_comm (l₁ := p) (l₂ := o)).append_left w).trans hperm
    · have c2 := of_decide_eq_false c2
      exact core o p qo qp _ _ h9 hn E9 (by omega) C1 C2 C3 C4 To9 Tp9 Tw9 ho hp hle hperm (List.getElem?_eq_getElem (show 0 < o.length by omega)) (List.getElem?_eq_getElem hpl0) (by omega)
  exact key _ l m [] q q2 none h4 rfl E04 (Nat.le_refl _) (((E2.trans E3).trans E4).blk B1) ((E3.trans E4).blk B2) (E4.blk B3) B4 (T.to (To.old E04 fun b hb hl => ⟨hb, by simp; omega⟩)) (U.to (To.old E04 fun b hb hl => ⟨hb, by simp; omega⟩)) (Tr.nil _ _) hu hv List.Pairwise.nil (fun x hx => by cases hx) (by simp)
end
end Go.Proofs.Ytikccpmhoioaeaa.Or
