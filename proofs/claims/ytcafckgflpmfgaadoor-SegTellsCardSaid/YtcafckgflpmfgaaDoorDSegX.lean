/- Typed words of functions, and that they hold: printed by gen.py (an own tool of this claim) off the model's own form of each function. -/
import Derived.Test.YtcafckgflpmfgaaDoorProg
import Derived.Test.YtcafckgflpmfgaaDoorDSeg
import Derived.Test.YtcafckgflpmfgaaDoorDTab
namespace Go.Proofs.YtcafckgflpmfgaaDoor
open Go Go.RowKit Go.Tw
set_option linter.unusedVariables false

theorem slFDSegX_22 : SlF Tryd.prog 22 3 1 8 (.int .i64 0) := ⟨Tryd.underlying22, ⟨Tryd.t3, by kernel_rfl, rfl, rfl, rfl⟩, rfl, Tryd.sizeOf3, Tryd.zeroValue3⟩

/-! ### the calls -/

abbrev law5_segged (r : World)  (h : Heap) (R : Bool → Heap → Prop) : Prop :=
  CallsH Tryd.prog r 39 [] h fun v h' => ∃ (y1 : Bool), v = (.bool y1) ∧ R y1 h'

theorem law5_segged.mono {r : World}  {h : Heap} {R R' : Bool → Heap → Prop} (H : law5_segged r  h R) (hr : ∀ y1 h, R y1 h → R' y1 h) : law5_segged r  h R' :=
  CallsH.mono H fun _ _ hx => by
    obtain ⟨y1, hv, hR⟩ := hx
    exact ⟨y1, hv, hr _ _ hR⟩

abbrev law5_SegTells (r : World) (l1 : Sl) (puts2 : Sl) (is3 : Sl) (js4 : Sl) (xs5 : Sl) (h : Heap) (R : Bool → Heap → Prop) : Prop :=
  CallsH Tryd.prog r 7 [(Sl.v l1), (Sl.v puts2), (Sl.v is3), (Sl.v js4), (Sl.v xs5)] h fun v h' => ∃ (y6 : Bool), v = (.bool y6) ∧ R y6 h'

theorem law5_SegTells.mono {r : World} {l1 : Sl} {puts2 : Sl} {is3 : Sl} {js4 : Sl} {xs5 : Sl} {h : Heap} {R R' : Bool → Heap → Prop} (H : law5_SegTells r l1 puts2 is3 js4 xs5 h R) (hr : ∀ y6 h, R y6 h → R' y6 h) : law5_SegTells r l1 puts2 is3 js4 xs5 h R' :=
  CallsH.mono H fun _ _ hx => by
    obtain ⟨y6, hv, hR⟩ := hx
    exact ⟨y6, hv, hr _ _ hR⟩

/-! ### law5_segged -/

def law5_segged_F (r : World)  (h : Heap) (R : Bool → Heap → Prop) : Prop :=
  New h (.cells #[(.int .i64 5), (.int .i64 3)] 3) fun p1 h1 =>
  seg_New r ((⟨some p1, 2, 2⟩ : Sl)) h1 fun y4 y5 h2 =>
  (isIface y5 = true) ∧
  Br ((!(isNil y5)) || (Option.isNone y4)) (
    R false h2) (
    seg_Seg_Sum r y4 0 2 h2 fun y10 y11 h3 =>
    seg_Seg_Least r y4 0 2 h3 fun y12 y13 h4 =>
    (isIface y11 = true) ∧
    (isIface y13 = true) ∧
    ∀ x25 : Bool, x25 = ((((isNil y11) && (isNil y13)) && (decide (y10 = 8))) && (decide (y12 = 3))) →
    R x25 h4)

set_option maxRecDepth 100000 in
theorem law5_segged_of {r : World}  {h : Heap} {R : Bool → Heap → Prop} (H : law5_segged_F r  h R) : law5_segged r  h R := by
  unfold law5_segged_F at H
  refine calls_of 42 [.tmp 0] Tryd.func39 rfl rfl rfl rfl rfl ?_
  refine W_seq ?_
  refine W_region (.pu 0 .fin) rfl rfl ?_
  refine s_pu (d := some 0) (v := (.bool false)) rfl rfl rfl (r_assign rfl) ?_
  refine s_fin ?_
  show W _ _ _ _ _ _ _ _
  refine W_seq ?_
  refine W_region (.ef 0 [] (.ef 1 [] (.pu 2 (.pu 3 (.pu 4 (.pu 5 (.pu 6 .fin))))) .no) .no) rfl rfl ?_
  obtain ⟨p1, e2⟩ : ∃ p : Addr, p = ⟨h.size, 0, none⟩ := ⟨_, rfl⟩
  obtain ⟨h1, e3⟩ : ∃ hh : Heap, hh = h.push (.cells #[(.int .i64 5), (.int .i64 3)] 3) := ⟨_, rfl⟩
  have H := H p1 h1 e2 e3
  refine s_ef1 (d := some 8) (v := (Sl.v ((⟨some p1, 2, 2⟩ : Sl)))) (h' := h1) rfl rfl rfl (fun dr => (slFDSegX_22.build (cells := #[(.int .i64 5), (.int .i64 3)]) (by decide) rfl (by kernel_rfl)).trans (by rw [e2, e3]; rfl)) trivial ?_ trivial
  refine s_ef (d := some 9) rfl rfl rfl (fun dr => r_call Tryd.call40 rfl rfl H) ?_ trivial
  rintro _ h2 ⟨y4, y5, rfl, H⟩
  refine ⟨trivial, ?_⟩
  refine s_pu (d := some 7) (v := (.tuple #[(.pointer y4), y5])) rfl rfl rfl (r_move rfl) ?_
  refine s_pu (d := some 10) (v := (.pointer y4)) rfl rfl rfl (r_extract rfl rfl) ?_
  refine s_pu (d := some 11) (v := y5) rfl rfl rfl (r_extract rfl rfl) ?_
  refine s_pu (d := some 1) (v := (.pointer y4)) rfl rfl rfl (r_assign rfl) ?_
  refine s_pu (d := some 2) (v := y5) rfl rfl rfl (r_assign rfl) ?_
  refine s_fin ?_
  show W _ _ _ _ _ _ _ _
  refine W_seq ?_
  refine W_seq ?_
  refine W_region (.pu 0 (.pu 1 (.pu 2 (.pu 3 (.pu 4 (.pu 5 .fin)))))) rfl rfl ?_
  refine s_pu (d := some 12) (v := y5) rfl rfl rfl (r_move rfl) ?_
  obtain ⟨e6, H⟩ := H
  refine s_pu (d := some 13) (v := (.bool (!(isNil y5)))) rfl rfl rfl (r_notNilI Tryd.underlying26 rfl e6 rfl) ?_
  refine s_pu (d := some 14) (v := (.bool (!(isNil y5)))) rfl rfl rfl (r_move rfl) ?_
  refine S_meet (l := [(1, (.pointer y4)), (17, (.bool ((!(isNil y5)) || (Option.isNone y4))))]) (i := 3) ?_ (fun HJ => ?_)
  · intro b
    show S _ _ _ _ _ _
    refine s_fin ?_
    show W _ _ _ _ _ _ _ _
    refine W_if ((!(isNil y5)) || (Option.isNone y4)) rfl (fun g30 => ?_) (fun g30 => ?_)
    · have H := H.1 g30
      refine W_seq ?_
      refine W_region (.pu 0 .fin) rfl rfl ?_
      refine s_pu (d := some 0) (v := (.bool false)) rfl rfl rfl (r_assign rfl) ?_
      refine s_fin ?_
      show W _ _ _ _ _ _ _ _
      refine W_ret ?_
      exact ⟨[(.bool false)], ⟨_, _, rfl, rfl, rfl⟩, false, rfl, H⟩
    · have H := H.2 g30
      refine W_skip ?_
      show W _ _ _ _ _ _ _ _
      refine W_seq ?_
      refine W_region (.pu 0 (.ef 1 [] (.pu 2 (.pu 3 (.pu 4 (.pu 5 (.pu 6 .fin))))) .no)) rfl rfl ?_
      refine s_pu (d := some 19) (v := (.pointer y4)) rfl rfl rfl (r_move rfl) ?_
      refine s_ef (d := some 20) rfl rfl rfl (fun dr => r_call Tryd.call43 rfl rfl H) ?_ trivial
      rintro _ h3 ⟨y10, y11, rfl, H⟩
      refine ⟨trivial, ?_⟩
      refine s_pu (d := some 18) (v := (.tuple #[(.int .i64 y10), y11])) rfl rfl rfl (r_move rfl) ?_
      refine s_pu (d := some 21) (v := (.int .i64 y10)) rfl rfl rfl (r_extract rfl rfl) ?_
      refine s_pu (d := some 22) (v := y11) rfl rfl rfl (r_extract rfl rfl) ?_
      refine s_pu (d := some 3) (v := (.int .i64 y10)) rfl rfl rfl (r_assign rfl) ?_
      refine s_pu (d := some 4) (v := y11) rfl rfl rfl (r_assign rfl) ?_
      refine s_fin ?_
      show W _ _ _ _ _ _ _ _
      refine W_seq ?_
      refine W_region (.pu 0 (.ef 1 [] (.pu 2 (.pu 3 (.pu 4 (.pu 5 (.pu 6 .fin))))) .no)) rfl rfl ?_
      refine s_pu (d := some 24) (v := (.pointer y4)) rfl rfl rfl (r_move rfl) ?_
      refine s_ef (d := some 25) rfl rfl rfl (fun dr => r_call Tryd.call44 rfl rfl H) ?_ trivial
      rintro _ h4 ⟨y12, y13, rfl, H⟩
      refine ⟨trivial, ?_⟩
      refine s_pu (d := some 23) (v := (.tuple #[(.int .i64 y12), y13])) rfl rfl rfl (r_move rfl) ?_
      refine s_pu (d := some 26) (v := (.int .i64 y12)) rfl rfl rfl (r_extract rfl rfl) ?_
      refine s_pu (d := some 27) (v := y13) rfl rfl rfl (r_extract rfl rfl) ?_
      refine s_pu (d := some 5) (v := (.int .i64 y12)) rfl rfl rfl (r_assign rfl) ?_
      refine s_pu (d := some 6) (v := y13) rfl rfl rfl (r_assign rfl) ?_
      refine s_fin ?_
      show W _ _ _ _ _ _ _ _
      refine W_seq ?_
      refine W_region (.pu 0 (.pu 1 (.pu 2 (.pu 3 (.pu 4 (.pu 5 (.pu 6 (.pu 7 (.pu 8 (.pu 9 (.pu 10 (.pu 11 (.pu 12 (.pu 13 (.pu 14 .fin))))))))))))))) rfl rfl ?_
      refine s_pu (d := some 28) (v := y11) rfl rfl rfl (r_move rfl) ?_
      obtain ⟨e14, H⟩ := H
      refine s_pu (d := some 29) (v := (.bool (isNil y11))) rfl rfl rfl (r_nilI Tryd.underlying26 rfl e14 rfl) ?_
      refine s_pu (d := some 30) (v := (.bool (isNil y11))) rfl rfl rfl (r_move rfl) ?_
      obtain ⟨e16, H⟩ := H
      refine S_meet (l := [(3, (.int .i64 y10)), (5, (.int .i64 y12)), (33, (.bool ((isNil y11) && (isNil y13))))]) (i := 3) ?_ (fun HJ => ?_)
      · intro b
        show S _ _ _ _ _ _
        refine s_pu (d := some 34) (v := (.bool ((isNil y11) && (isNil y13)))) rfl rfl rfl (r_move rfl) ?_
        refine S_meet (l := [(5, (.int .i64 y12)), (37, (.bool (((isNil y11) && (isNil y13)) && (decide (y10 = 8)))))]) (i := 3) ?_ (fun HJ => ?_)
        · intro b
          show S _ _ _ _ _ _
          refine s_pu (d := some 38) (v := (.bool (((isNil y11) && (isNil y13)) && (decide (y10 = 8))))) rfl rfl rfl (r_move rfl) ?_
          refine S_meet (l := [(41, (.bool ((((isNil y11) && (isNil y13)) && (decide (y10 = 8))) && (decide (y12 = 3)))))]) (i := 3) ?_ (fun HJ => ?_)
          · intro b
            show S _ _ _ _ _ _
            obtain ⟨x25, e26⟩ : ∃ x : Bool, x = ((((isNil y11) && (isNil y13)) && (decide (y10 = 8))) && (decide (y12 = 3))) := ⟨_, rfl⟩
            have H := H x25 e26
            refine s_pu (d := some 0) (v := (.bool x25)) rfl rfl rfl (r_assign (congrArg Value.bool e26.symm)) ?_
            refine s_fin ?_
            show W _ _ _ _ _ _ _ _
            refine W_ret ?_
            exact ⟨[(.bool x25)], ⟨_, _, rfl, rfl, rfl⟩, x25, rfl, H⟩
          · rcases Bool.eq_false_or_eq_true (((isNil y11) && (isNil y13)) && (decide (y10 = 8))) with g22 | g22
            · refine s_pu (d := some 39) (v := (.int .i64 y12)) rfl rfl (wants_yes rfl rfl rfl rfl g22) (r_move rfl) ?_
              refine s_pu (d := some 40) (v := (.bool (decide (y12 = 3)))) rfl rfl (wants_yes rfl rfl rfl rfl g22) (r_eql rfl rfl) ?_
              refine s_pu (d := some 41) (v := (.bool (decide (y12 = 3)))) rfl rfl rfl (r_pick1 rfl g22 rfl) ?_
              exact S_mk (l := [(41, (.bool ((((isNil y11) && (isNil y13)) && (decide (y10 = 8))) && (decide (y12 = 3)))))]) HJ ⟨(by rw [g22]; rfl), trivial⟩
            · refine s_sk (d := some 39) rfl rfl (wants_no rfl rfl rfl rfl g22) ?_
              refine s_sk (d := some 40) rfl rfl (wants_no rfl rfl rfl rfl g22) ?_
              refine s_pu (d := some 41) (v := (.bool false)) rfl rfl rfl (r_pick0 rfl g22 rfl) ?_
              exact S_mk (l := [(41, (.bool ((((isNil y11) && (isNil y13)) && (decide (y10 = 8))) && (decide (y12 = 3)))))]) HJ ⟨(by rw [g22]; rfl), trivial⟩
        · rcases Bool.eq_false_or_eq_true ((isNil y11) && (isNil y13)) with g19 | g19
          · refine s_pu (d := some 35) (v := (.int .i64 y10)) rfl rfl (wants_yes rfl rfl rfl rfl g19) (r_move rfl) ?_
            refine s_pu (d := some 36) (v := (.bool (decide (y10 = 8)))) rfl rfl (wants_yes rfl rfl rfl rfl g19) (r_eql rfl rfl) ?_
            refine s_pu (d := some 37) (v := (.bool (decide (y10 = 8)))) rfl rfl rfl (r_pick1 rfl g19 rfl) ?_
            exact S_mk (l := [(5, (.int .i64 y12)), (37, (.bool (((isNil y11) && (isNil y13)) && (decide (y10 = 8)))))]) HJ ⟨rfl, (by rw [g19]; rfl), trivial⟩
          · refine s_sk (d := some 35) rfl rfl (wants_no rfl rfl rfl rfl g19) ?_
            refine s_sk (d := some 36) rfl rfl (wants_no rfl rfl rfl rfl g19) ?_
            refine s_pu (d := some 37) (v := (.bool false)) rfl rfl rfl (r_pick0 rfl g19 rfl) ?_
            exact S_mk (l := [(5, (.int .i64 y12)), (37, (.bool (((isNil y11) && (isNil y13)) && (decide (y10 = 8)))))]) HJ ⟨rfl, (by rw [g19]; rfl), trivial⟩
      · rcases Bool.eq_false_or_eq_true (isNil y11) with g15 | g15
        · refine s_pu (d := some 31) (v := y13) rfl rfl (wants_yes rfl rfl rfl rfl g15) (r_move rfl) ?_
          refine s_pu (d := some 32) (v := (.bool (isNil y13))) rfl rfl (wants_yes rfl rfl rfl rfl g15) (r_nilI Tryd.underlying26 rfl e16 rfl) ?_
          refine s_pu (d := some 33) (v := (.bool (isNil y13))) rfl rfl rfl (r_pick1 rfl g15 rfl) ?_
          exact S_mk (l := [(3, (.int .i64 y10)), (5, (.int .i64 y12)), (33, (.bool ((isNil y11) && (isNil y13))))]) HJ ⟨rfl, rfl, (by rw [g15]; rfl), trivial⟩
        · refine s_sk (d := some 31) rfl rfl (wants_no rfl rfl rfl rfl g15) ?_
          refine s_sk (d := some 32) rfl rfl (wants_no rfl rfl rfl rfl g15) ?_
          refine s_pu (d := some 33) (v := (.bool false)) rfl rfl rfl (r_pick0 rfl g15 rfl) ?_
          exact S_mk (l := [(3, (.int .i64 y10)), (5, (.int .i64 y12)), (33, (.bool ((isNil y11) && (isNil y13))))]) HJ ⟨rfl, rfl, (by rw [g15]; rfl), trivial⟩
  · rcases Bool.eq_false_or_eq_true (!(isNil y5)) with g7 | g7
    · refine s_sk (d := some 15) rfl rfl (wants_no rfl rfl rfl rfl g7) ?_
      refine s_sk (d := some 16) rfl rfl (wants_no rfl rfl rfl rfl g7) ?_
      refine s_pu (d := some 17) (v := (.bool true)) rfl rfl rfl (r_pick1 rfl g7 rfl) ?_
      exact S_mk (l := [(1, (.pointer y4)), (17, (.bool ((!(isNil y5)) || (Option.isNone y4))))]) HJ ⟨rfl, (by rw [g7]; rfl), trivial⟩
    · refine s_pu (d := some 15) (v := (.pointer y4)) rfl rfl (wants_yes rfl rfl rfl rfl g7) (r_move rfl) ?_
      refine s_pu (d := some 16) (v := (.bool (Option.isNone y4))) rfl rfl (wants_yes rfl rfl rfl rfl g7) (r_nilP Tryd.underlying62 rfl rfl) ?_
      refine s_pu (d := some 17) (v := (.bool (Option.isNone y4))) rfl rfl rfl (r_pick0 rfl g7 rfl) ?_
      exact S_mk (l := [(1, (.pointer y4)), (17, (.bool ((!(isNil y5)) || (Option.isNone y4))))]) HJ ⟨rfl, (by rw [g7]; rfl), trivial⟩

/-! ### law5_SegTells -/

def law5_SegTells_F (r : World) (l1 : Sl) (puts2 : Sl) (is3 : Sl) (js4 : Sl) (xs5 : Sl) (h : Heap) (R : Bool → Heap → Prop) : Prop :=
  law5_segged r h fun y6 h1 =>
  seg_New r l1 h1 fun y7 y8 h2 =>
  ∀ J10 : Int → Prop, (∀ (ve9 : Int),
    (same_Error r y8 ve9 h2 fun y12 h3 =>
    ∀ J18 : Bool → Prop, (∀ (x17 : Bool),
      (Br x17 (
        R false h3) (
        Br (((!decide (ve9 = 0)) || (decide (60 < ((l1.len : Int))))) || (decide (20 < ((puts2.len : Int))))) (
          R true h3) (
          ref1_Cat r l1 Sl.nil h3 fun y26 h4 =>
          ∀ X28 : Int → Heap → Prop, (∀ (k27 : Int) (h5 : Heap),
            (Br ((((decide (k27 < ((puts2.len : Int)))) && (decide (k27 < ((is3.len : Int))))) && (decide (k27 < ((js4.len : Int))))) && (decide (k27 < ((xs5.len : Int))))) (
              Ix is3 k27 1 fun q42 =>
              LdI h5 q42 fun x44 =>
              Ix js4 k27 1 fun q50 =>
              LdI h5 q50 fun x52 =>
              law5_within r ((l1.len : Int)) x44 x52 h5 fun y54 h6 =>
              ∀ J56 : Int → Prop, (∀ (ve55 : Int),
                (Ix is3 k27 1 fun q62 =>
                LdI h6 q62 fun x64 =>
                Ix js4 k27 1 fun q70 =>
                LdI h6 q70 fun x72 =>
                seg_Seg_Add r y7 x64 x72 0 h6 fun y74 h7 =>
                Ix puts2 k27 1 fun q79 =>
                LdB h7 q79 fun x81 =>
                ∀ J84 : Value → Heap → Prop, (∀ (err83 : Value) (h8 : Heap),
                  (same_Error r err83 ve55 h8 fun y86 h9 =>
                  Br (!y86) (
                    R false h9) (
                    Ix is3 k27 1 fun q91 =>
                    LdI h9 q91 fun x93 =>
                    ∀ X96 : Int → Heap → Prop, (∀ (i95 : Int) (h10 : Heap),
                      (∀ J98 : Bool → Prop, (∀ (x97 : Bool),
                        (Br x97 (
                          ∀ J100 : Heap → Prop, (∀ (h11 : Heap),
                            (X96 (w64 (i95 + 1)) h11) →
                            J100 h11) →
                          Ix puts2 k27 1 fun q106 =>
                          LdB h10 q106 fun x108 =>
                          Br x108 (
                            Ix xs5 k27 1 fun q114 =>
                            LdI h10 q114 fun x116 =>
                            Ix y26 i95 1 fun q122 =>
                            St h10 q122 1 [(.int .i64 x116)] fun h12 =>
                            J100 h12) (
                            Ix y26 i95 1 fun q130 =>
                            LdI h10 q130 fun x132 =>
                            Ix xs5 k27 1 fun q138 =>
                            LdI h10 q138 fun x140 =>
                            Ix y26 i95 1 fun q146 =>
                            St h10 q146 1 [(.int .i64 (w64 (x132 + x140)))] fun h13 =>
                            J100 h13)) (
                          ∀ J152 : Bool → Prop, (∀ (x151 : Bool),
                            (∀ J155 : Int → Prop, (∀ (f154 : Int),
                              (∀ J158 : Int → Heap → Prop, (∀ (sum157 : Int) (h14 : Heap),
                                (∀ J162 : Int → Int → Heap → Prop, (∀ (low160 : Int) (high161 : Int) (h15 : Heap),
                                  (Ix is3 k27 1 fun q168 =>
                                  LdI h15 q168 fun x170 =>
                                  Ix js4 k27 1 fun q176 =>
                                  LdI h15 q176 fun x178 =>
                                  seg_Seg_Sum r y7 x170 x178 h15 fun y180 y181 h16 =>
                                  same_Error r y181 ve55 h16 fun y182 h17 =>
                                  Ix is3 k27 1 fun q187 =>
                                  LdI h17 q187 fun x189 =>
                                  Ix js4 k27 1 fun q195 =>
                                  LdI h17 q195 fun x197 =>
                                  seg_Seg_Least r y7 x189 x197 h17 fun y199 y200 h18 =>
                                  same_Error r y200 f154 h18 fun y201 h19 =>
                                  Ix is3 k27 1 fun q206 =>
                                  LdI h19 q206 fun x208 =>
                                  Ix js4 k27 1 fun q214 =>
                                  LdI h19 q214 fun x216 =>
                                  seg_Seg_Most r y7 x208 x216 h19 fun y218 y219 h20 =>
                                  same_Error r y219 f154 h20 fun y220 h21 =>
                                  seg_Seg_Ints r y7 h21 fun y221 h22 =>
                                  same_Ints r y221 y26 h22 fun y222 h23 =>
                                  Br (((((((!y182) || (!y201)) || (!y220)) || (!y222)) || (!decide (y180 = sum157))) || (!decide (y199 = low160))) || (!decide (y218 = high161))) (
                                    R false h23) (
                                    X28 (w64 (k27 + 1)) h23)) →
                                  J162 low160 high161 h15) →
                                Br (decide (f154 = 0)) (
                                  Ix is3 k27 1 fun q252 =>
                                  LdI h14 q252 fun x254 =>
                                  Ix js4 k27 1 fun q260 =>
                                  LdI h14 q260 fun x262 =>
                                  ref1_Spot r y26 x254 x262 false h14 fun y264 h24 =>
                                  Ix y26 y264 1 fun q269 =>
                                  LdI h24 q269 fun x271 =>
                                  Ix is3 k27 1 fun q277 =>
                                  LdI h24 q277 fun x279 =>
                                  Ix js4 k27 1 fun q285 =>
                                  LdI h24 q285 fun x287 =>
                                  ref1_Spot r y26 x279 x287 true h24 fun y289 h25 =>
                                  Ix y26 y289 1 fun q294 =>
                                  LdI h25 q294 fun x296 =>
                                  J162 x271 x296 h25) (
                                  J162 0 0 h14)) →
                                J158 sum157 h14) →
                              Br (decide (ve55 = 0)) (
                                Ix is3 k27 1 fun q303 =>
                                LdI h10 q303 fun x305 =>
                                Ix js4 k27 1 fun q311 =>
                                LdI h10 q311 fun x313 =>
                                Sub y26 x305 x313 ((y26.cap : Int)) 1 fun s315 =>
                                ref1_SumOf r s315 h10 fun y321 h26 =>
                                J158 y321 h26) (
                                J158 0 h10)) →
                              J155 f154) →
                            Br x151 (
                              J155 2) (
                              J155 ve55)) →
                            J152 x151) →
                          Br (decide (ve55 = 0)) (
                            Ix is3 k27 1 fun q329 =>
                            LdI h10 q329 fun x331 =>
                            Ix js4 k27 1 fun q337 =>
                            LdI h10 q337 fun x339 =>
                            J152 (decide (x331 = x339))) (
                            J152 false))) →
                        J98 x97) →
                      Br (decide (ve55 = 0)) (
                        Ix js4 k27 1 fun q347 =>
                        LdI h10 q347 fun x349 =>
                        J98 (decide (i95 < x349))) (
                        J98 false)) →
                      X96 i95 h10) →
                    X96 x93 h9)) →
                  J84 err83 h8) →
                Br x81 (
                  Ix is3 k27 1 fun q356 =>
                  LdI h7 q356 fun x358 =>
                  Ix js4 k27 1 fun q364 =>
                  LdI h7 q364 fun x366 =>
                  Ix xs5 k27 1 fun q372 =>
                  LdI h7 q372 fun x374 =>
                  seg_Seg_Put r y7 x358 x366 x374 h7 fun y376 h27 =>
                  J84 y376 h27) (
                  (isIface y74 = true) ∧
                  Br (isNil y74) (
                    Ix is3 k27 1 fun q382 =>
                    LdI h7 q382 fun x384 =>
                    Ix js4 k27 1 fun q390 =>
                    LdI h7 q390 fun x392 =>
                    Ix xs5 k27 1 fun q398 =>
                    LdI h7 q398 fun x400 =>
                    seg_Seg_Add r y7 x384 x392 x400 h7 fun y402 h28 =>
                    J84 y402 h28) (
                    J84 y74 h7))) →
                J56 ve55) →
              Br (!y54) (
                J56 1) (
                J56 0)) (
              R true h5)) →
            X28 k27 h5) →
          X28 0 h4))) →
      J18 x17) →
    Br (!y6) (
      J18 true) (
      Br (!y12) (
        J18 true) (
        Br (!decide (ve9 = 0)) (
          J18 (!(Option.isNone y7))) (
          J18 false)))) →
    J10 ve9) →
  Br (decide (5000 < ((l1.len : Int)))) (
    J10 4) (
    J10 0)

set_option maxRecDepth 100000 in
theorem law5_SegTells_of {r : World} {l1 : Sl} {puts2 : Sl} {is3 : Sl} {js4 : Sl} {xs5 : Sl} {h : Heap} {R : Bool → Heap → Prop} (H : law5_SegTells_F r l1 puts2 is3 js4 xs5 h R) : law5_SegTells r l1 puts2 is3 js4 xs5 h R := by
  unfold law5_SegTells_F at H
  refine calls_of 329 [.tmp 10] Tryd.func7 rfl rfl rfl rfl rfl ?_
  refine W_seq ?_
  refine W_region (.pu 0 .fin) rfl rfl ?_
  refine s_pu (d := some 10) (v := (.bool false)) rfl rfl rfl (r_assign rfl) ?_
  refine s_fin ?_
  show W _ _ _ _ _ _ _ _
  refine W_seq ?_
  refine W_region (.ef 0 [] (.pu 1 .fin) .no) rfl rfl ?_
  refine s_ef (d := some 31) rfl rfl rfl (fun dr => r_call Tryd.call39 rfl rfl H) ?_ trivial
  rintro _ h1 ⟨y6, rfl, H⟩
  refine ⟨trivial, ?_⟩
  refine s_pu (d := some 11) (v := (.bool y6)) rfl rfl rfl (r_assign rfl) ?_
  refine s_fin ?_
  show W _ _ _ _ _ _ _ _
  refine W_seq ?_
  refine W_region (.pu 0 (.ef 1 [] (.pu 2 (.pu 3 (.pu 4 (.pu 5 (.pu 6 .fin))))) .no)) rfl rfl ?_
  refine s_pu (d := some 33) (v := (Sl.v l1)) rfl rfl rfl (r_move rfl) ?_
  refine s_ef (d := some 34) rfl rfl rfl (fun dr => r_call Tryd.call40 rfl rfl H) ?_ trivial
  rintro _ h2 ⟨y7, y8, rfl, H⟩
  refine ⟨trivial, ?_⟩
  refine s_pu (d := some 32) (v := (.tuple #[(.pointer y7), y8])) rfl rfl rfl (r_move rfl) ?_
  refine s_pu (d := some 35) (v := (.pointer y7)) rfl rfl rfl (r_extract rfl rfl) ?_
  refine s_pu (d := some 36) (v := y8) rfl rfl rfl (r_extract rfl rfl) ?_
  refine s_pu (d := some 12) (v := (.pointer y7)) rfl rfl rfl (r_assign rfl) ?_
  refine s_pu (d := some 13) (v := y8) rfl rfl rfl (r_assign rfl) ?_
  refine s_fin ?_
  show W _ _ _ _ _ _ _ _
  refine W_seq ?_
  refine W_region (.pu 0 .fin) rfl rfl ?_
  refine s_pu (d := some 14) (v := (.int .i64 0)) rfl rfl rfl (r_assign rfl) ?_
  refine s_fin ?_
  show W _ _ _ _ _ _ _ _
  refine W_seq ?_
  refine W_seq ?_
  refine W_region (.pu 0 (.pu 1 (.pu 2 .fin))) rfl rfl ?_
  refine s_pu (d := some 37) (v := (Sl.v l1)) rfl rfl rfl (r_move rfl) ?_
  refine s_pu (d := some 38) (v := (.int .i64 ((l1.len : Int)))) rfl rfl rfl (r_len Tryd.underlying22 rfl) ?_
  refine s_pu (d := some 39) (v := (.bool (decide (5000 < ((l1.len : Int)))))) rfl rfl rfl (r_gtr rfl rfl) ?_
  refine s_fin ?_
  show W _ _ _ _ _ _ _ _
  refine W_set ?_
  intro N11 eN11
  have H := H (fun (ve9 : Int) => ∀ b, N11 [] (mkE [(0, (Sl.v l1)), (1, (Sl.v puts2)), (2, (Sl.v is3)), (3, (Sl.v js4)), (4, (Sl.v xs5)), (11, (.bool y6)), (12, (.pointer y7)), (13, y8), (14, (.int .i64 ve9))] b) h2) (by
    intro ve9 H b
    rw [eN11]
    show W _ _ _ _ _ _ _ _
    refine W_seq ?_
    refine W_region (.pu 0 (.pu 1 (.ef 2 [] (.pu 3 .fin) .no))) rfl rfl ?_
    refine s_pu (d := some 40) (v := y8) rfl rfl rfl (r_move rfl) ?_
    refine s_pu (d := some 41) (v := (.int .i64 ve9)) rfl rfl rfl (r_move rfl) ?_
    refine s_ef (d := some 42) rfl rfl rfl (fun dr => r_call Tryd.call12 rfl rfl H) ?_ trivial
    rintro _ h3 ⟨y12, rfl, H⟩
    refine ⟨trivial, ?_⟩
    refine s_pu (d := some 15) (v := (.bool y12)) rfl rfl rfl (r_assign rfl) ?_
    refine s_fin ?_
    show W _ _ _ _ _ _ _ _
    refine W_seq ?_
    refine W_seq ?_
    refine W_set ?_
    intro N19 eN19
    have H := H (fun (x17 : Bool) => ∀ b, N19 [] (mkE [(0, (Sl.v l1)), (1, (Sl.v puts2)), (2, (Sl.v is3)), (3, (Sl.v js4)), (4, (Sl.v xs5)), (12, (.pointer y7)), (14, (.int .i64 ve9)), (56, (.bool x17))] b) h3) (by
      intro x17 H b
      rw [eN19]
      show W _ _ _ _ _ _ _ _
      refine W_if x17 rfl (fun g413 => ?_) (fun g413 => ?_)
      · have H := H.1 g413
        refine W_seq ?_
        refine W_region (.pu 0 .fin) rfl rfl ?_
        refine s_pu (d := some 10) (v := (.bool false)) rfl rfl rfl (r_assign rfl) ?_
        refine s_fin ?_
        show W _ _ _ _ _ _ _ _
        refine W_ret ?_
        exact ⟨[(.bool false)], ⟨_, _, rfl, rfl, rfl⟩, false, rfl, H⟩
      · have H := H.2 g413
        refine W_skip ?_
        show W _ _ _ _ _ _ _ _
        refine W_seq ?_
        refine W_seq ?_
        refine W_region (.pu 0 (.pu 1 (.pu 2 (.pu 3 (.pu 4 (.pu 5 (.pu 6 (.pu 7 (.pu 8 (.pu 9 (.pu 10 (.pu 11 .fin)))))))))))) rfl rfl ?_
        refine s_pu (d := some 57) (v := (.int .i64 ve9)) rfl rfl rfl (r_move rfl) ?_
        refine s_pu (d := some 58) (v := (.bool (!decide (ve9 = 0)))) rfl rfl rfl (r_neq rfl rfl) ?_
        refine s_pu (d := some 59) (v := (.bool (!decide (ve9 = 0)))) rfl rfl rfl (r_move rfl) ?_
        refine S_meet (l := [(0, (Sl.v l1)), (1, (Sl.v puts2)), (2, (Sl.v is3)), (3, (Sl.v js4)), (4, (Sl.v xs5)), (12, (.pointer y7)), (63, (.bool ((!decide (ve9 = 0)) || (decide (60 < ((l1.len : Int)))))))]) (i := 4) ?_ (fun HJ => ?_)
        · intro b
          show S _ _ _ _ _ _
          refine s_pu (d := some 64) (v := (.bool ((!decide (ve9 = 0)) || (decide (60 < ((l1.len : Int))))))) rfl rfl rfl (r_move rfl) ?_
          refine S_meet (l := [(0, (Sl.v l1)), (1, (Sl.v puts2)), (2, (Sl.v is3)), (3, (Sl.v js4)), (4, (Sl.v xs5)), (12, (.pointer y7)), (68, (.bool (((!decide (ve9 = 0)) || (decide (60 < ((l1.len : Int))))) || (decide (20 < ((puts2.len : Int)))))))]) (i := 4) ?_ (fun HJ => ?_)
          · intro b
            show S _ _ _ _ _ _
            refine s_fin ?_
            show W _ _ _ _ _ _ _ _
            refine W_if (((!decide (ve9 = 0)) || (decide (60 < ((l1.len : Int))))) || (decide (20 < ((puts2.len : Int))))) rfl (fun g410 => ?_) (fun g410 => ?_)
            · have H := H.1 g410
              refine W_seq ?_
              refine W_region (.pu 0 .fin) rfl rfl ?_
              refine s_pu (d := some 10) (v := (.bool true)) rfl rfl rfl (r_assign rfl) ?_
              refine s_fin ?_
              show W _ _ _ _ _ _ _ _
              refine W_ret ?_
              exact ⟨[(.bool true)], ⟨_, _, rfl, rfl, rfl⟩, true, rfl, H⟩
            · have H := H.2 g410
              refine W_skip ?_
              show W _ _ _ _ _ _ _ _
              refine W_seq ?_
              refine W_region (.pu 0 (.ef 1 [] (.pu 2 .fin) .no)) rfl rfl ?_
              refine s_pu (d := some 69) (v := (Sl.v l1)) rfl rfl rfl (r_move rfl) ?_
              refine s_ef (d := some 70) rfl rfl rfl (fun dr => r_call Tryd.call31 rfl rfl H) ?_ trivial
              rintro _ h4 ⟨y26, rfl, H⟩
              refine ⟨trivial, ?_⟩
              refine s_pu (d := some 16) (v := (Sl.v y26)) rfl rfl rfl (r_assign rfl) ?_
              refine s_fin ?_
              show W _ _ _ _ _ _ _ _
              refine W_seq ?_
              refine W_seq ?_
              refine W_region (.pu 0 .fin) rfl rfl ?_
              refine s_pu (d := some 17) (v := (.int .i64 0)) rfl rfl rfl (r_assign rfl) ?_
              refine s_fin ?_
              show W _ _ _ _ _ _ _ _
              refine W_block ?_
              refine W_loop (WL_mk (l := [(0, (Sl.v l1)), (1, (Sl.v puts2)), (2, (Sl.v is3)), (3, (Sl.v js4)), (4, (Sl.v xs5)), (12, (.pointer y7)), (16, (Sl.v y26)), (17, (.int .i64 0))]) ?_ ⟨rfl, rfl, rfl, rfl, rfl, rfl, rfl, rfl, trivial⟩)
              refine H (fun (k27 : Int) (h5 : Heap) => ∀ b, WL _ _ _ _ _ _ (mkE [(0, (Sl.v l1)), (1, (Sl.v puts2)), (2, (Sl.v is3)), (3, (Sl.v js4)), (4, (Sl.v xs5)), (12, (.pointer y7)), (16, (Sl.v y26)), (17, (.int .i64 k27))] b) h5) ?_
              intro k27 h5 H b
              refine WL_round ?_
              refine W_seq ?_
              refine W_seq ?_
              refine W_region (.pu 0 (.pu 1 (.pu 2 (.pu 3 (.pu 4 (.pu 5 (.pu 6 (.pu 7 (.pu 8 (.pu 9 (.pu 10 (.pu 11 (.pu 12 (.pu 13 (.pu 14 (.pu 15 (.pu 16 (.pu 17 (.pu 18 (.pu 19 (.pu 20 (.pu 21 .fin)))))))))))))))))))))) rfl rfl ?_
              refine s_pu (d := some 71) (v := (.int .i64 k27)) rfl rfl rfl (r_move rfl) ?_
              refine s_pu (d := some 72) (v := (Sl.v puts2)) rfl rfl rfl (r_move rfl) ?_
              refine s_pu (d := some 73) (v := (.int .i64 ((puts2.len : Int)))) rfl rfl rfl (r_len Tryd.underlying61 rfl) ?_
              refine s_pu (d := some 74) (v := (.bool (decide (k27 < ((puts2.len : Int)))))) rfl rfl rfl (r_lss rfl rfl) ?_
              refine s_pu (d := some 75) (v := (.bool (decide (k27 < ((puts2.len : Int)))))) rfl rfl rfl (r_move rfl) ?_
              refine S_meet (l := [(0, (Sl.v l1)), (1, (Sl.v puts2)), (2, (Sl.v is3)), (3, (Sl.v js4)), (4, (Sl.v xs5)), (12, (.pointer y7)), (16, (Sl.v y26)), (17, (.int .i64 k27)), (80, (.bool ((decide (k27 < ((puts2.len : Int)))) && (decide (k27 < ((is3.len : Int)))))))]) (i := 5) ?_ (fun HJ => ?_)
              · intro b
                show S _ _ _ _ _ _
                refine s_pu (d := some 81) (v := (.bool ((decide (k27 < ((puts2.len : Int)))) && (decide (k27 < ((is3.len : Int))))))) rfl rfl rfl (r_move rfl) ?_
                refine S_meet (l := [(0, (Sl.v l1)), (1, (Sl.v puts2)), (2, (Sl.v is3)), (3, (Sl.v js4)), (4, (Sl.v xs5)), (12, (.pointer y7)), (16, (Sl.v y26)), (17, (.int .i64 k27)), (86, (.bool (((decide (k27 < ((puts2.len : Int)))) && (decide (k27 < ((is3.len : Int))))) && (decide (k27 < ((js4.len : Int)))))))]) (i := 5) ?_ (fun HJ => ?_)
                · intro b
                  show S _ _ _ _ _ _
                  refine s_pu (d := some 87) (v := (.bool (((decide (k27 < ((puts2.len : Int)))) && (decide (k27 < ((is3.len : Int))))) && (decide (k27 < ((js4.len : Int))))))) rfl rfl rfl (r_move rfl) ?_
                  refine S_meet (l := [(0, (Sl.v l1)), (1, (Sl.v puts2)), (2, (Sl.v is3)), (3, (Sl.v js4)), (4, (Sl.v xs5)), (12, (.pointer y7)), (16, (Sl.v y26)), (17, (.int .i64 k27)), (92, (.bool ((((decide (k27 < ((puts2.len : Int)))) && (decide (k27 < ((is3.len : Int))))) && (decide (k27 < ((js4.len : Int))))) && (decide (k27 < ((xs5.len : Int)))))))]) (i := 5) ?_ (fun HJ => ?_)
                  · intro b
                    show S _ _ _ _ _ _
                    refine s_fin ?_
                    show W _ _ _ _ _ _ _ _
                    refine W_if ((((decide (k27 < ((puts2.len : Int)))) && (decide (k27 < ((is3.len : Int))))) && (decide (k27 < ((js4.len : Int))))) && (decide (k27 < ((xs5.len : Int))))) rfl (fun g406 => ?_) (fun g406 => ?_)
                    · have H := H.1 g406
                      refine W_skip ?_
                      show W _ _ _ _ _ _ _ _
                      refine W_seq ?_
                      refine W_block ?_
                      refine W_seq ?_
                      refine W_region (.pu 0 .fin) rfl rfl ?_
                      refine s_pu (d := some 14) (v := (.int .i64 0)) rfl rfl rfl (r_assign rfl) ?_
                      refine s_fin ?_
                      show W _ _ _ _ _ _ _ _
                      refine W_seq ?_
                      refine W_seq ?_
                      refine W_draw [0, 1, 0, 0, 12, 28, 0, 0, 192, 448, 1023, 2047] (.pu 0 (.pu 1 (.pu 2 (.pu 3 (.pu 4 (.rd 5 (.pu 6 (.pu 7 (.pu 8 (.rd 9 (.ef 10 [5, 9] (.pu 11 .fin) .no))))))))))) (by kernel_rfl) (by kernel_rfl) ?_
                      refine s_pu (d := some 95) (v := (Sl.v l1)) rfl rfl rfl (r_move rfl) ?_
                      refine s_pu (d := some 96) (v := (.int .i64 ((l1.len : Int)))) rfl rfl rfl (r_len Tryd.underlying22 rfl) ?_
                      refine s_pu (d := some 97) (v := (Sl.v is3)) rfl rfl rfl (r_move rfl) ?_
                      refine s_pu (d := some 98) (v := (.int .i64 k27)) rfl rfl rfl (r_move rfl) ?_
                      obtain ⟨p38, e39, e40, e41, H⟩ := H
                      obtain ⟨q42, e43⟩ : ∃ q : Addr, q = Addr.add p38 (Int.toNat k27 * 1) := ⟨_, rfl⟩
                      rw [← e43] at H
                      refine s_pu (d := some 99) (v := (.pointer (some q42))) rfl rfl rfl (fun w => (r_indexAddr Tryd.underlying22 Tryd.sizeOf3 rfl rfl e39 e40 e41 w).trans (by rw [e43])) ?_
                      obtain ⟨x44, e45, H⟩ := H
                      refine s_rd (d := some 100) (v := (.int .i64 x44)) rfl rfl rfl (fun dr => r_load1 Tryd.isAgg3 rfl e45) ?_
                      refine s_pu (d := some 101) (v := (Sl.v js4)) rfl rfl rfl (r_move rfl) ?_
                      refine s_pu (d := some 102) (v := (.int .i64 k27)) rfl rfl rfl (r_move rfl) ?_
                      obtain ⟨p46, e47, e48, e49, H⟩ := H
                      obtain ⟨q50, e51⟩ : ∃ q : Addr, q = Addr.add p46 (Int.toNat k27 * 1) := ⟨_, rfl⟩
                      rw [← e51] at H
                      refine s_pu (d := some 103) (v := (.pointer (some q50))) rfl rfl rfl (fun w => (r_indexAddr Tryd.underlying22 Tryd.sizeOf3 rfl rfl e47 e48 e49 w).trans (by rw [e51])) ?_
                      obtain ⟨x52, e53, H⟩ := H
                      refine s_rd (d := some 104) (v := (.int .i64 x52)) rfl rfl rfl (fun dr => r_load1 Tryd.isAgg3 rfl e53) ?_
                      refine s_ef (d := some 105) rfl rfl rfl (fun dr => r_call Tryd.call21 rfl rfl H) ?_ trivial
                      rintro _ h6 ⟨y54, rfl, H⟩
                      refine ⟨⟨trivial, trivial, trivial⟩, ?_⟩
                      refine s_pu (d := some 106) (v := (.bool (!y54))) rfl rfl rfl (r_not rfl) ?_
                      refine s_fin ?_
                      show W _ _ _ _ _ _ _ _
                      refine W_set ?_
                      intro N57 eN57
                      have H := H (fun (ve55 : Int) => ∀ b, N57 [] (mkE [(0, (Sl.v l1)), (1, (Sl.v puts2)), (2, (Sl.v is3)), (3, (Sl.v js4)), (4, (Sl.v xs5)), (12, (.pointer y7)), (14, (.int .i64 ve55)), (16, (Sl.v y26)), (17, (.int .i64 k27))] b) h6) (by
                        intro ve55 H b
                        rw [eN57]
                        show W _ _ _ _ _ _ _ _
                        refine W_seq ?_
                        refine W_draw [0, 0, 0, 6, 14, 0, 0, 96, 224, 511, 1023] (.pu 0 (.pu 1 (.pu 2 (.pu 3 (.rd 4 (.pu 5 (.pu 6 (.pu 7 (.rd 8 (.ef 9 [4, 8] (.pu 10 .fin) .no)))))))))) (by kernel_rfl) (by kernel_rfl) ?_
                        refine s_pu (d := some 107) (v := (.pointer y7)) rfl rfl rfl (r_move rfl) ?_
                        refine s_pu (d := some 108) (v := (Sl.v is3)) rfl rfl rfl (r_move rfl) ?_
                        refine s_pu (d := some 109) (v := (.int .i64 k27)) rfl rfl rfl (r_move rfl) ?_
                        obtain ⟨p58, e59, e60, e61, H⟩ := H
                        obtain ⟨q62, e63⟩ : ∃ q : Addr, q = Addr.add p58 (Int.toNat k27 * 1) := ⟨_, rfl⟩
                        rw [← e63] at H
                        refine s_pu (d := some 110) (v := (.pointer (some q62))) rfl rfl rfl (fun w => (r_indexAddr Tryd.underlying22 Tryd.sizeOf3 rfl rfl e59 e60 e61 w).trans (by rw [e63])) ?_
                        obtain ⟨x64, e65, H⟩ := H
                        refine s_rd (d := some 111) (v := (.int .i64 x64)) rfl rfl rfl (fun dr => r_load1 Tryd.isAgg3 rfl e65) ?_
                        refine s_pu (d := some 112) (v := (Sl.v js4)) rfl rfl rfl (r_move rfl) ?_
                        refine s_pu (d := some 113) (v := (.int .i64 k27)) rfl rfl rfl (r_move rfl) ?_
                        obtain ⟨p66, e67, e68, e69, H⟩ := H
                        obtain ⟨q70, e71⟩ : ∃ q : Addr, q = Addr.add p66 (Int.toNat k27 * 1) := ⟨_, rfl⟩
                        rw [← e71] at H
                        refine s_pu (d := some 114) (v := (.pointer (some q70))) rfl rfl rfl (fun w => (r_indexAddr Tryd.underlying22 Tryd.sizeOf3 rfl rfl e67 e68 e69 w).trans (by rw [e71])) ?_
                        obtain ⟨x72, e73, H⟩ := H
                        refine s_rd (d := some 115) (v := (.int .i64 x72)) rfl rfl rfl (fun dr => r_load1 Tryd.isAgg3 rfl e73) ?_
                        refine s_ef (d := some 116) rfl rfl rfl (fun dr => r_call Tryd.call41 rfl rfl H) ?_ trivial
                        rintro y74 h7 H
                        refine ⟨⟨trivial, trivial, trivial⟩, ?_⟩
                        refine s_pu (d := some 13) (v := y74) rfl rfl rfl (r_assign rfl) ?_
                        refine s_fin ?_
                        show W _ _ _ _ _ _ _ _
                        refine W_seq ?_
                        refine W_seq ?_
                        refine W_region (.pu 0 (.pu 1 (.pu 2 (.rl 3 .fin)))) rfl rfl ?_
                        refine s_pu (d := some 117) (v := (Sl.v puts2)) rfl rfl rfl (r_move rfl) ?_
                        refine s_pu (d := some 118) (v := (.int .i64 k27)) rfl rfl rfl (r_move rfl) ?_
                        obtain ⟨p75, e76, e77, e78, H⟩ := H
                        obtain ⟨q79, e80⟩ : ∃ q : Addr, q = Addr.add p75 (Int.toNat k27 * 1) := ⟨_, rfl⟩
                        rw [← e80] at H
                        refine s_pu (d := some 119) (v := (.pointer (some q79))) rfl rfl rfl (fun w => (r_indexAddr Tryd.underlying61 Tryd.sizeOf4 rfl rfl e76 e77 e78 w).trans (by rw [e80])) ?_
                        obtain ⟨x81, e82, H⟩ := H
                        refine s_rl (d := some 120) (v := (.bool x81)) rfl rfl rfl (fun dr => r_load1 Tryd.isAgg4 rfl e82) ?_
                        refine s_fin ?_
                        show W _ _ _ _ _ _ _ _
                        refine W_set ?_
                        intro N85 eN85
                        have H := H (fun (err83 : Value) (h8 : Heap) => ∀ b, N85 [] (mkE [(0, (Sl.v l1)), (1, (Sl.v puts2)), (2, (Sl.v is3)), (3, (Sl.v js4)), (4, (Sl.v xs5)), (12, (.pointer y7)), (13, err83), (14, (.int .i64 ve55)), (16, (Sl.v y26)), (17, (.int .i64 k27))] b) h8) (by
                          intro err83 h8 H b
                          rw [eN85]
                          show W _ _ _ _ _ _ _ _
                          refine W_seq ?_
                          refine W_region (.pu 0 (.pu 1 (.ef 2 [] (.pu 3 .fin) .no))) rfl rfl ?_
                          refine s_pu (d := some 151) (v := err83) rfl rfl rfl (r_move rfl) ?_
                          refine s_pu (d := some 152) (v := (.int .i64 ve55)) rfl rfl rfl (r_move rfl) ?_
                          refine s_ef (d := some 153) rfl rfl rfl (fun dr => r_call Tryd.call12 rfl rfl H) ?_ trivial
                          rintro _ h9 ⟨y86, rfl, H⟩
                          refine ⟨trivial, ?_⟩
                          refine s_pu (d := some 15) (v := (.bool y86)) rfl rfl rfl (r_assign rfl) ?_
                          refine s_fin ?_
                          show W _ _ _ _ _ _ _ _
                          refine W_seq ?_
                          refine W_seq ?_
                          refine W_region (.pu 0 (.pu 1 .fin)) rfl rfl ?_
                          refine s_pu (d := some 154) (v := (.bool y86)) rfl rfl rfl (r_move rfl) ?_
                          refine s_pu (d := some 155) (v := (.bool (!y86))) rfl rfl rfl (r_not rfl) ?_
                          refine s_fin ?_
                          show W _ _ _ _ _ _ _ _
                          refine W_if (!y86) rfl (fun g351 => ?_) (fun g351 => ?_)
                          · have H := H.1 g351
                            refine W_seq ?_
                            refine W_region (.pu 0 .fin) rfl rfl ?_
                            refine s_pu (d := some 10) (v := (.bool false)) rfl rfl rfl (r_assign rfl) ?_
                            refine s_fin ?_
                            show W _ _ _ _ _ _ _ _
                            refine W_ret ?_
                            exact ⟨[(.bool false)], ⟨_, _, rfl, rfl, rfl⟩, false, rfl, H⟩
                          · have H := H.2 g351
                            refine W_skip ?_
                            show W _ _ _ _ _ _ _ _
                            refine W_seq ?_
                            refine W_seq ?_
                            refine W_region (.pu 0 (.pu 1 (.pu 2 (.rl 3 (.pu 4 .fin))))) rfl rfl ?_
                            refine s_pu (d := some 156) (v := (Sl.v is3)) rfl rfl rfl (r_move rfl) ?_
                            refine s_pu (d := some 157) (v := (.int .i64 k27)) rfl rfl rfl (r_move rfl) ?_
                            obtain ⟨p87, e88, e89, e90, H⟩ := H
                            obtain ⟨q91, e92⟩ : ∃ q : Addr, q = Addr.add p87 (Int.toNat k27 * 1) := ⟨_, rfl⟩
                            rw [← e92] at H
                            refine s_pu (d := some 158) (v := (.pointer (some q91))) rfl rfl rfl (fun w => (r_indexAddr Tryd.underlying22 Tryd.sizeOf3 rfl rfl e88 e89 e90 w).trans (by rw [e92])) ?_
                            obtain ⟨x93, e94, H⟩ := H
                            refine s_rl (d := some 159) (v := (.int .i64 x93)) rfl rfl rfl (fun dr => r_load1 Tryd.isAgg3 rfl e94) ?_
                            refine s_pu (d := some 18) (v := (.int .i64 x93)) rfl rfl rfl (r_assign rfl) ?_
                            refine s_fin ?_
                            show W _ _ _ _ _ _ _ _
                            refine W_block ?_
                            refine W_loop (WL_mk (l := [(0, (Sl.v l1)), (1, (Sl.v puts2)), (2, (Sl.v is3)), (3, (Sl.v js4)), (4, (Sl.v xs5)), (12, (.pointer y7)), (14, (.int .i64 ve55)), (16, (Sl.v y26)), (17, (.int .i64 k27)), (18, (.int .i64 x93))]) ?_ ⟨rfl, rfl, rfl, rfl, rfl, rfl, rfl, rfl, rfl, rfl, trivial⟩)
                            refine H (fun (i95 : Int) (h10 : Heap) => ∀ b, WL _ _ _ _ _ _ (mkE [(0, (Sl.v l1)), (1, (Sl.v puts2)), (2, (Sl.v is3)), (3, (Sl.v js4)), (4, (Sl.v xs5)), (12, (.pointer y7)), (14, (.int .i64 ve55)), (16, (Sl.v y26)), (17, (.int .i64 k27)), (18, (.int .i64 i95))] b) h10) ?_
                            intro i95 h10 H b
                            refine WL_round ?_
                            refine W_seq ?_
                            refine W_seq ?_
                            refine W_set ?_
                            intro N99 eN99
                            have H := H (fun (x97 : Bool) => ∀ b, N99 [] (mkE [(0, (Sl.v l1)), (1, (Sl.v puts2)), (2, (Sl.v is3)), (3, (Sl.v js4)), (4, (Sl.v xs5)), (12, (.pointer y7)), (14, (.int .i64 ve55)), (16, (Sl.v y26)), (17, (.int .i64 k27)), (18, (.int .i64 i95)), (169, (.bool x97))] b) h10) (by
                              intro x97 H b
                              rw [eN99]
                              show W _ _ _ _ _ _ _ _
                              refine W_if x97 rfl (fun g341 => ?_) (fun g341 => ?_)
                              · have H := H.1 g341
                                refine W_skip ?_
                                show W _ _ _ _ _ _ _ _
                                refine W_seq ?_
                                refine W_set ?_
                                intro N101 eN101
                                have H := H (fun (h11 : Heap) => ∀ b, N101 [] (mkE [(0, (Sl.v l1)), (1, (Sl.v puts2)), (2, (Sl.v is3)), (3, (Sl.v js4)), (4, (Sl.v xs5)), (12, (.pointer y7)), (14, (.int .i64 ve55)), (16, (Sl.v y26)), (17, (.int .i64 k27)), (18, (.int .i64 i95))] b) h11) (by
                                  intro h11 H b
                                  rw [eN101]
                                  show W _ _ _ _ _ _ _ _
                                  refine W_region (.pu 0 (.pu 1 (.pu 2 .fin))) rfl rfl ?_
                                  refine s_pu (d := some 170) (v := (.int .i64 i95)) rfl rfl rfl (r_move rfl) ?_
                                  refine s_pu (d := some 171) (v := (.int .i64 (w64 (i95 + 1)))) rfl rfl rfl (r_add rfl rfl) ?_
                                  refine s_pu (d := some 18) (v := (.int .i64 (w64 (i95 + 1)))) rfl rfl rfl (r_assign rfl) ?_
                                  refine s_fin ?_
                                  exact WL_mk (l := [(0, (Sl.v l1)), (1, (Sl.v puts2)), (2, (Sl.v is3)), (3, (Sl.v js4)), (4, (Sl.v xs5)), (12, (.pointer y7)), (14, (.int .i64 ve55)), (16, (Sl.v y26)), (17, (.int .i64 k27)), (18, (.int .i64 (w64 (i95 + 1))))]) H ⟨rfl, rfl, rfl, rfl, rfl, rfl, rfl, rfl, rfl, rfl, trivial⟩)
                                clear eN101
                                refine W_block ?_
                                refine W_seq ?_
                                refine W_region (.pu 0 (.pu 1 (.pu 2 (.rl 3 .fin)))) rfl rfl ?_
                                refine s_pu (d := some 172) (v := (Sl.v puts2)) rfl rfl rfl (r_move rfl) ?_
                                refine s_pu (d := some 173) (v := (.int .i64 k27)) rfl rfl rfl (r_move rfl) ?_
                                obtain ⟨p102, e103, e104, e105, H⟩ := H
                                obtain ⟨q106, e107⟩ : ∃ q : Addr, q = Addr.add p102 (Int.toNat k27 * 1) := ⟨_, rfl⟩
                                rw [← e107] at H
                                refine s_pu (d := some 174) (v := (.pointer (some q106))) rfl rfl rfl (fun w => (r_indexAddr Tryd.underlying61 Tryd.sizeOf4 rfl rfl e103 e104 e105 w).trans (by rw [e107])) ?_
                                obtain ⟨x108, e109, H⟩ := H
                                refine s_rl (d := some 175) (v := (.bool x108)) rfl rfl rfl (fun dr => r_load1 Tryd.isAgg4 rfl e109) ?_
                                refine s_fin ?_
                                show W _ _ _ _ _ _ _ _
                                refine W_if x108 rfl (fun g150 => ?_) (fun g150 => ?_)
                                · have H := H.1 g150
                                  refine W_region (.pu 0 (.pu 1 (.pu 2 (.pu 3 (.pu 4 (.rl 5 (.pu 6 (.ef 7 [] .fin .no)))))))) rfl rfl ?_
                                  refine s_pu (d := some 176) (v := (Sl.v y26)) rfl rfl rfl (r_move rfl) ?_
                                  refine s_pu (d := some 177) (v := (.int .i64 i95)) rfl rfl rfl (r_move rfl) ?_
                                  refine s_pu (d := some 178) (v := (Sl.v xs5)) rfl rfl rfl (r_move rfl) ?_
                                  refine s_pu (d := some 179) (v := (.int .i64 k27)) rfl rfl rfl (r_move rfl) ?_
                                  obtain ⟨p110, e111, e112, e113, H⟩ := H
                                  obtain ⟨q114, e115⟩ : ∃ q : Addr, q = Addr.add p110 (Int.toNat k27 * 1) := ⟨_, rfl⟩
                                  rw [← e115] at H
                                  refine s_pu (d := some 180) (v := (.pointer (some q114))) rfl rfl rfl (fun w => (r_indexAddr Tryd.underlying22 Tryd.sizeOf3 rfl rfl e111 e112 e113 w).trans (by rw [e115])) ?_
                                  obtain ⟨x116, e117, H⟩ := H
                                  refine s_rl (d := some 181) (v := (.int .i64 x116)) rfl rfl rfl (fun dr => r_load1 Tryd.isAgg3 rfl e117) ?_
                                  obtain ⟨p118, e119, e120, e121, H⟩ := H
                                  obtain ⟨q122, e123⟩ : ∃ q : Addr, q = Addr.add p118 (Int.toNat i95 * 1) := ⟨_, rfl⟩
                                  rw [← e123] at H
                                  refine s_pu (d := some 182) (v := (.pointer (some q122))) rfl rfl rfl (fun w => (r_indexAddr Tryd.underlying22 Tryd.sizeOf3 rfl rfl e119 e120 e121 w).trans (by rw [e123])) ?_
                                  obtain ⟨e125, H⟩ := H
                                  obtain ⟨h12, e124⟩ : ∃ hh : Heap, hh = hsets h10 q122 0 [(.int .i64 x116)] := ⟨_, rfl⟩
                                  have H := H h12 e124
                                  refine s_st (d := none) (h' := h12) rfl rfl rfl (fun dr => (r_store (v := (.int .i64 x116)) Tryd.sizeOf3 rfl rfl rfl (one_all rfl) e125).trans (by rw [e124]; rfl)) trivial ?_ trivial
                                  refine s_fin ?_
                                  exact N_mk (l := [(0, (Sl.v l1)), (1, (Sl.v puts2)), (2, (Sl.v is3)), (3, (Sl.v js4)), (4, (Sl.v xs5)), (12, (.pointer y7)), (14, (.int .i64 ve55)), (16, (Sl.v y26)), (17, (.int .i64 k27)), (18, (.int .i64 i95))]) H ⟨rfl, rfl, rfl, rfl, rfl, rfl, rfl, rfl, rfl, rfl, trivial⟩
                                · have H := H.2 g150
                                  refine W_draw [0, 0, 3, 7, 0, 0, 48, 112, 255, 511, 1023] (.pu 0 (.pu 1 (.pu 2 (.rd 3 (.pu 4 (.pu 5 (.pu 6 (.rd 7 (.pu 8 (.pu 9 (.ef 10 [3, 7] .fin .no))))))))))) (by kernel_rfl) (by kernel_rfl) ?_
                                  refine s_pu (d := some 183) (v := (Sl.v y26)) rfl rfl rfl (r_move rfl) ?_
                                  refine s_pu (d := some 184) (v := (.int .i64 i95)) rfl rfl rfl (r_move rfl) ?_
                                  obtain ⟨p126, e127, e128, e129, H⟩ := H
                                  obtain ⟨q130, e131⟩ : ∃ q : Addr, q = Addr.add p126 (Int.toNat i95 * 1) := ⟨_, rfl⟩
                                  rw [← e131] at H
                                  refine s_pu (d := some 185) (v := (.pointer (some q130))) rfl rfl rfl (fun w => (r_indexAddr Tryd.underlying22 Tryd.sizeOf3 rfl rfl e127 e128 e129 w).trans (by rw [e131])) ?_
                                  obtain ⟨x132, e133, H⟩ := H
                                  refine s_rd (d := some 186) (v := (.int .i64 x132)) rfl rfl rfl (fun dr => r_load1 Tryd.isAgg3 rfl e133) ?_
                                  refine s_pu (d := some 187) (v := (Sl.v xs5)) rfl rfl rfl (r_move rfl) ?_
                                  refine s_pu (d := some 188) (v := (.int .i64 k27)) rfl rfl rfl (r_move rfl) ?_
                                  obtain ⟨p134, e135, e136, e137, H⟩ := H
                                  obtain ⟨q138, e139⟩ : ∃ q : Addr, q = Addr.add p134 (Int.toNat k27 * 1) := ⟨_, rfl⟩
                                  rw [← e139] at H
                                  refine s_pu (d := some 189) (v := (.pointer (some q138))) rfl rfl rfl (fun w => (r_indexAddr Tryd.underlying22 Tryd.sizeOf3 rfl rfl e135 e136 e137 w).trans (by rw [e139])) ?_
                                  obtain ⟨x140, e141, H⟩ := H
                                  refine s_rd (d := some 190) (v := (.int .i64 x140)) rfl rfl rfl (fun dr => r_load1 Tryd.isAgg3 rfl e141) ?_
                                  refine s_pu (d := some 191) (v := (.int .i64 (w64 (x132 + x140)))) rfl rfl rfl (r_add rfl rfl) ?_
                                  obtain ⟨p142, e143, e144, e145, H⟩ := H
                                  obtain ⟨q146, e147⟩ : ∃ q : Addr, q = Addr.add p142 (Int.toNat i95 * 1) := ⟨_, rfl⟩
                                  rw [← e147] at H
                                  refine s_pu (d := some 192) (v := (.pointer (some q146))) rfl rfl rfl (fun w => (r_indexAddr Tryd.underlying22 Tryd.sizeOf3 rfl rfl e143 e144 e145 w).trans (by rw [e147])) ?_
                                  obtain ⟨e149, H⟩ := H
                                  obtain ⟨h13, e148⟩ : ∃ hh : Heap, hh = hsets h10 q146 0 [(.int .i64 (w64 (x132 + x140)))] := ⟨_, rfl⟩
                                  have H := H h13 e148
                                  refine s_st (d := none) (h' := h13) rfl rfl rfl (fun dr => (r_store (v := (.int .i64 (w64 (x132 + x140)))) Tryd.sizeOf3 rfl rfl rfl (one_all rfl) e149).trans (by rw [e148]; rfl)) ⟨trivial, trivial, trivial⟩ ?_ trivial
                                  refine s_fin ?_
                                  exact N_mk (l := [(0, (Sl.v l1)), (1, (Sl.v puts2)), (2, (Sl.v is3)), (3, (Sl.v js4)), (4, (Sl.v xs5)), (12, (.pointer y7)), (14, (.int .i64 ve55)), (16, (Sl.v y26)), (17, (.int .i64 k27)), (18, (.int .i64 i95))]) H ⟨rfl, rfl, rfl, rfl, rfl, rfl, rfl, rfl, rfl, rfl, trivial⟩
                              · have H := H.2 g341
                                refine W_exit (inX_here ?_)
                                show W _ _ _ _ _ _ _ _
                                refine W_seq ?_
                                refine W_region (.pu 0 (.pu 1 .fin)) rfl rfl ?_
                                refine s_pu (d := some 193) (v := (.int .i64 ve55)) rfl rfl rfl (r_move rfl) ?_
                                refine s_pu (d := some 19) (v := (.int .i64 ve55)) rfl rfl rfl (r_assign rfl) ?_
                                refine s_fin ?_
                                show W _ _ _ _ _ _ _ _
                                refine W_seq ?_
                                refine W_seq ?_
                                refine W_set ?_
                                intro N153 eN153
                                have H := H (fun (x151 : Bool) => ∀ b, N153 [] (mkE [(0, (Sl.v l1)), (1, (Sl.v puts2)), (2, (Sl.v is3)), (3, (Sl.v js4)), (4, (Sl.v xs5)), (12, (.pointer y7)), (14, (.int .i64 ve55)), (16, (Sl.v y26)), (17, (.int .i64 k27)), (19, (.int .i64 ve55)), (206, (.bool x151))] b) h10) (by
                                  intro x151 H b
                                  rw [eN153]
                                  show W _ _ _ _ _ _ _ _
                                  refine W_set ?_
                                  intro N156 eN156
                                  have H := H (fun (f154 : Int) => ∀ b, N156 [] (mkE [(0, (Sl.v l1)), (1, (Sl.v puts2)), (2, (Sl.v is3)), (3, (Sl.v js4)), (4, (Sl.v xs5)), (12, (.pointer y7)), (14, (.int .i64 ve55)), (16, (Sl.v y26)), (17, (.int .i64 k27)), (19, (.int .i64 f154))] b) h10) (by
                                    intro f154 H b
                                    rw [eN156]
                                    show W _ _ _ _ _ _ _ _
                                    refine W_seq ?_
                                    refine W_region (.pu 0 .fin) rfl rfl ?_
                                    refine s_pu (d := some 20) (v := (.int .i64 0)) rfl rfl rfl (r_assign rfl) ?_
                                    refine s_fin ?_
                                    show W _ _ _ _ _ _ _ _
                                    refine W_seq ?_
                                    refine W_region (.pu 0 .fin) rfl rfl ?_
                                    refine s_pu (d := some 21) (v := (.int .i64 0)) rfl rfl rfl (r_assign rfl) ?_
                                    refine s_fin ?_
                                    show W _ _ _ _ _ _ _ _
                                    refine W_seq ?_
                                    refine W_region (.pu 0 .fin) rfl rfl ?_
                                    refine s_pu (d := some 22) (v := (.int .i64 0)) rfl rfl rfl (r_assign rfl) ?_
                                    refine s_fin ?_
                                    show W _ _ _ _ _ _ _ _
                                    refine W_seq ?_
                                    refine W_seq ?_
                                    refine W_region (.pu 0 (.pu 1 .fin)) rfl rfl ?_
                                    refine s_pu (d := some 207) (v := (.int .i64 ve55)) rfl rfl rfl (r_move rfl) ?_
                                    refine s_pu (d := some 208) (v := (.bool (decide (ve55 = 0)))) rfl rfl rfl (r_eql rfl rfl) ?_
                                    refine s_fin ?_
                                    show W _ _ _ _ _ _ _ _
                                    refine W_set ?_
                                    intro N159 eN159
                                    have H := H (fun (sum157 : Int) (h14 : Heap) => ∀ b, N159 [] (mkE [(0, (Sl.v l1)), (1, (Sl.v puts2)), (2, (Sl.v is3)), (3, (Sl.v js4)), (4, (Sl.v xs5)), (12, (.pointer y7)), (14, (.int .i64 ve55)), (16, (Sl.v y26)), (17, (.int .i64 k27)), (19, (.int .i64 f154)), (20, (.int .i64 sum157)), (21, (.int .i64 0)), (22, (.int .i64 0))] b) h14) (by
                                      intro sum157 h14 H b
                                      rw [eN159]
                                      show W _ _ _ _ _ _ _ _
                                      refine W_seq ?_
                                      refine W_seq ?_
                                      refine W_region (.pu 0 (.pu 1 .fin)) rfl rfl ?_
                                      refine s_pu (d := some 220) (v := (.int .i64 f154)) rfl rfl rfl (r_move rfl) ?_
                                      refine s_pu (d := some 221) (v := (.bool (decide (f154 = 0)))) rfl rfl rfl (r_eql rfl rfl) ?_
                                      refine s_fin ?_
                                      show W _ _ _ _ _ _ _ _
                                      refine W_set ?_
                                      intro N163 eN163
                                      have H := H (fun (low160 : Int) (high161 : Int) (h15 : Heap) => ∀ b, N163 [] (mkE [(0, (Sl.v l1)), (1, (Sl.v puts2)), (2, (Sl.v is3)), (3, (Sl.v js4)), (4, (Sl.v xs5)), (12, (.pointer y7)), (14, (.int .i64 ve55)), (16, (Sl.v y26)), (17, (.int .i64 k27)), (19, (.int .i64 f154)), (20, (.int .i64 sum157)), (21, (.int .i64 low160)), (22, (.int .i64 high161))] b) h15) (by
                                        intro low160 high161 h15 H b
                                        rw [eN163]
                                        show W _ _ _ _ _ _ _ _
                                        refine W_seq ?_
                                        refine W_draw [0, 0, 0, 6, 14, 0, 0, 96, 224, 511, 1023, 2047, 2047, 4095, 16383] (.pu 0 (.pu 1 (.pu 2 (.pu 3 (.rd 4 (.pu 5 (.pu 6 (.pu 7 (.rd 8 (.ef 9 [4, 8] (.pu 10 (.pu 11 (.pu 12 (.pu 13 (.pu 14 .fin))))) .no)))))))))) (by kernel_rfl) (by kernel_rfl) ?_
                                        refine s_pu (d := some 249) (v := (.pointer y7)) rfl rfl rfl (r_move rfl) ?_
                                        refine s_pu (d := some 250) (v := (Sl.v is3)) rfl rfl rfl (r_move rfl) ?_
                                        refine s_pu (d := some 251) (v := (.int .i64 k27)) rfl rfl rfl (r_move rfl) ?_
                                        obtain ⟨p164, e165, e166, e167, H⟩ := H
                                        obtain ⟨q168, e169⟩ : ∃ q : Addr, q = Addr.add p164 (Int.toNat k27 * 1) := ⟨_, rfl⟩
                                        rw [← e169] at H
                                        refine s_pu (d := some 252) (v := (.pointer (some q168))) rfl rfl rfl (fun w => (r_indexAddr Tryd.underlying22 Tryd.sizeOf3 rfl rfl e165 e166 e167 w).trans (by rw [e169])) ?_
                                        obtain ⟨x170, e171, H⟩ := H
                                        refine s_rd (d := some 253) (v := (.int .i64 x170)) rfl rfl rfl (fun dr => r_load1 Tryd.isAgg3 rfl e171) ?_
                                        refine s_pu (d := some 254) (v := (Sl.v js4)) rfl rfl rfl (r_move rfl) ?_
                                        refine s_pu (d := some 255) (v := (.int .i64 k27)) rfl rfl rfl (r_move rfl) ?_
                                        obtain ⟨p172, e173, e174, e175, H⟩ := H
                                        obtain ⟨q176, e177⟩ : ∃ q : Addr, q = Addr.add p172 (Int.toNat k27 * 1) := ⟨_, rfl⟩
                                        rw [← e177] at H
                                        refine s_pu (d := some 256) (v := (.pointer (some q176))) rfl rfl rfl (fun w => (r_indexAddr Tryd.underlying22 Tryd.sizeOf3 rfl rfl e173 e174 e175 w).trans (by rw [e177])) ?_
                                        obtain ⟨x178, e179, H⟩ := H
                                        refine s_rd (d := some 257) (v := (.int .i64 x178)) rfl rfl rfl (fun dr => r_load1 Tryd.isAgg3 rfl e179) ?_
                                        refine s_ef (d := some 258) rfl rfl rfl (fun dr => r_call Tryd.call43 rfl rfl H) ?_ trivial
                                        rintro _ h16 ⟨y180, y181, rfl, H⟩
                                        refine ⟨⟨trivial, trivial, trivial⟩, ?_⟩
                                        refine s_pu (d := some 248) (v := (.tuple #[(.int .i64 y180), y181])) rfl rfl rfl (r_move rfl) ?_
                                        refine s_pu (d := some 259) (v := (.int .i64 y180)) rfl rfl rfl (r_extract rfl rfl) ?_
                                        refine s_pu (d := some 260) (v := y181) rfl rfl rfl (r_extract rfl rfl) ?_
                                        refine s_pu (d := some 23) (v := (.int .i64 y180)) rfl rfl rfl (r_assign rfl) ?_
                                        refine s_pu (d := some 24) (v := y181) rfl rfl rfl (r_assign rfl) ?_
                                        refine s_fin ?_
                                        show W _ _ _ _ _ _ _ _
                                        refine W_seq ?_
                                        refine W_region (.pu 0 (.pu 1 (.ef 2 [] (.pu 3 .fin) .no))) rfl rfl ?_
                                        refine s_pu (d := some 261) (v := y181) rfl rfl rfl (r_move rfl) ?_
                                        refine s_pu (d := some 262) (v := (.int .i64 ve55)) rfl rfl rfl (r_move rfl) ?_
                                        refine s_ef (d := some 263) rfl rfl rfl (fun dr => r_call Tryd.call12 rfl rfl H) ?_ trivial
                                        rintro _ h17 ⟨y182, rfl, H⟩
                                        refine ⟨trivial, ?_⟩
                                        refine s_pu (d := some 25) (v := (.bool y182)) rfl rfl rfl (r_assign rfl) ?_
                                        refine s_fin ?_
                                        show W _ _ _ _ _ _ _ _
                                        refine W_seq ?_
                                        refine W_draw [0, 0, 0, 6, 14, 0, 0, 96, 224, 511, 1023, 2047, 2047, 4095, 16383] (.pu 0 (.pu 1 (.pu 2 (.pu 3 (.rd 4 (.pu 5 (.pu 6 (.pu 7 (.rd 8 (.ef 9 [4, 8] (.pu 10 (.pu 11 (.pu 12 (.pu 13 (.pu 14 .fin))))) .no)))))))))) (by kernel_rfl) (by kernel_rfl) ?_
                                        refine s_pu (d := some 265) (v := (.pointer y7)) rfl rfl rfl (r_move rfl) ?_
                                        refine s_pu (d := some 266) (v := (Sl.v is3)) rfl rfl rfl (r_move rfl) ?_
                                        refine s_pu (d := some 267) (v := (.int .i64 k27)) rfl rfl rfl (r_move rfl) ?_
                                        obtain ⟨p183, e184, e185, e186, H⟩ := H
                                        obtain ⟨q187, e188⟩ : ∃ q : Addr, q = Addr.add p183 (Int.toNat k27 * 1) := ⟨_, rfl⟩
                                        rw [← e188] at H
                                        refine s_pu (d := some 268) (v := (.pointer (some q187))) rfl rfl rfl (fun w => (r_indexAddr Tryd.underlying22 Tryd.sizeOf3 rfl rfl e184 e185 e186 w).trans (by rw [e188])) ?_
                                        obtain ⟨x189, e190, H⟩ := H
                                        refine s_rd (d := some 269) (v := (.int .i64 x189)) rfl rfl rfl (fun dr => r_load1 Tryd.isAgg3 rfl e190) ?_
                                        refine s_pu (d := some 270) (v := (Sl.v js4)) rfl rfl rfl (r_move rfl) ?_
                                        refine s_pu (d := some 271) (v := (.int .i64 k27)) rfl rfl rfl (r_move rfl) ?_
                                        obtain ⟨p191, e192, e193, e194, H⟩ := H
                                        obtain ⟨q195, e196⟩ : ∃ q : Addr, q = Addr.add p191 (Int.toNat k27 * 1) := ⟨_, rfl⟩
                                        rw [← e196] at H
                                        refine s_pu (d := some 272) (v := (.pointer (some q195))) rfl rfl rfl (fun w => (r_indexAddr Tryd.underlying22 Tryd.sizeOf3 rfl rfl e192 e193 e194 w).trans (by rw [e196])) ?_
                                        obtain ⟨x197, e198, H⟩ := H
                                        refine s_rd (d := some 273) (v := (.int .i64 x197)) rfl rfl rfl (fun dr => r_load1 Tryd.isAgg3 rfl e198) ?_
                                        refine s_ef (d := some 274) rfl rfl rfl (fun dr => r_call Tryd.call44 rfl rfl H) ?_ trivial
                                        rintro _ h18 ⟨y199, y200, rfl, H⟩
                                        refine ⟨⟨trivial, trivial, trivial⟩, ?_⟩
                                        refine s_pu (d := some 264) (v := (.tuple #[(.int .i64 y199), y200])) rfl rfl rfl (r_move rfl) ?_
                                        refine s_pu (d := some 275) (v := (.int .i64 y199)) rfl rfl rfl (r_extract rfl rfl) ?_
                                        refine s_pu (d := some 276) (v := y200) rfl rfl rfl (r_extract rfl rfl) ?_
                                        refine s_pu (d := some 26) (v := (.int .i64 y199)) rfl rfl rfl (r_assign rfl) ?_
                                        refine s_pu (d := some 24) (v := y200) rfl rfl rfl (r_assign rfl) ?_
                                        refine s_fin ?_
                                        show W _ _ _ _ _ _ _ _
                                        refine W_seq ?_
                                        refine W_region (.pu 0 (.pu 1 (.ef 2 [] (.pu 3 .fin) .no))) rfl rfl ?_
                                        refine s_pu (d := some 277) (v := y200) rfl rfl rfl (r_move rfl) ?_
                                        refine s_pu (d := some 278) (v := (.int .i64 f154)) rfl rfl rfl (r_move rfl) ?_
                                        refine s_ef (d := some 279) rfl rfl rfl (fun dr => r_call Tryd.call12 rfl rfl H) ?_ trivial
                                        rintro _ h19 ⟨y201, rfl, H⟩
                                        refine ⟨trivial, ?_⟩
                                        refine s_pu (d := some 27) (v := (.bool y201)) rfl rfl rfl (r_assign rfl) ?_
                                        refine s_fin ?_
                                        show W _ _ _ _ _ _ _ _
                                        refine W_seq ?_
                                        refine W_draw [0, 0, 0, 6, 14, 0, 0, 96, 224, 511, 1023, 2047, 2047, 4095, 16383] (.pu 0 (.pu 1 (.pu 2 (.pu 3 (.rd 4 (.pu 5 (.pu 6 (.pu 7 (.rd 8 (.ef 9 [4, 8] (.pu 10 (.pu 11 (.pu 12 (.pu 13 (.pu 14 .fin))))) .no)))))))))) (by kernel_rfl) (by kernel_rfl) ?_
                                        refine s_pu (d := some 281) (v := (.pointer y7)) rfl rfl rfl (r_move rfl) ?_
                                        refine s_pu (d := some 282) (v := (Sl.v is3)) rfl rfl rfl (r_move rfl) ?_
                                        refine s_pu (d := some 283) (v := (.int .i64 k27)) rfl rfl rfl (r_move rfl) ?_
                                        obtain ⟨p202, e203, e204, e205, H⟩ := H
                                        obtain ⟨q206, e207⟩ : ∃ q : Addr, q = Addr.add p202 (Int.toNat k27 * 1) := ⟨_, rfl⟩
                                        rw [← e207] at H
                                        refine s_pu (d := some 284) (v := (.pointer (some q206))) rfl rfl rfl (fun w => (r_indexAddr Tryd.underlying22 Tryd.sizeOf3 rfl rfl e203 e204 e205 w).trans (by rw [e207])) ?_
                                        obtain ⟨x208, e209, H⟩ := H
                                        refine s_rd (d := some 285) (v := (.int .i64 x208)) rfl rfl rfl (fun dr => r_load1 Tryd.isAgg3 rfl e209) ?_
                                        refine s_pu (d := some 286) (v := (Sl.v js4)) rfl rfl rfl (r_move rfl) ?_
                                        refine s_pu (d := some 287) (v := (.int .i64 k27)) rfl rfl rfl (r_move rfl) ?_
                                        obtain ⟨p210, e211, e212, e213, H⟩ := H
                                        obtain ⟨q214, e215⟩ : ∃ q : Addr, q = Addr.add p210 (Int.toNat k27 * 1) := ⟨_, rfl⟩
                                        rw [← e215] at H
                                        refine s_pu (d := some 288) (v := (.pointer (some q214))) rfl rfl rfl (fun w => (r_indexAddr Tryd.underlying22 Tryd.sizeOf3 rfl rfl e211 e212 e213 w).trans (by rw [e215])) ?_
                                        obtain ⟨x216, e217, H⟩ := H
                                        refine s_rd (d := some 289) (v := (.int .i64 x216)) rfl rfl rfl (fun dr => r_load1 Tryd.isAgg3 rfl e217) ?_
                                        refine s_ef (d := some 290) rfl rfl rfl (fun dr => r_call Tryd.call45 rfl rfl H) ?_ trivial
                                        rintro _ h20 ⟨y218, y219, rfl, H⟩
                                        refine ⟨⟨trivial, trivial, trivial⟩, ?_⟩
                                        refine s_pu (d := some 280) (v := (.tuple #[(.int .i64 y218), y219])) rfl rfl rfl (r_move rfl) ?_
                                        refine s_pu (d := some 291) (v := (.int .i64 y218)) rfl rfl rfl (r_extract rfl rfl) ?_
                                        refine s_pu (d := some 292) (v := y219) rfl rfl rfl (r_extract rfl rfl) ?_
                                        refine s_pu (d := some 28) (v := (.int .i64 y218)) rfl rfl rfl (r_assign rfl) ?_
                                        refine s_pu (d := some 24) (v := y219) rfl rfl rfl (r_assign rfl) ?_
                                        refine s_fin ?_
                                        show W _ _ _ _ _ _ _ _
                                        refine W_seq ?_
                                        refine W_region (.pu 0 (.pu 1 (.ef 2 [] (.pu 3 .fin) .no))) rfl rfl ?_
                                        refine s_pu (d := some 293) (v := y219) rfl rfl rfl (r_move rfl) ?_
                                        refine s_pu (d := some 294) (v := (.int .i64 f154)) rfl rfl rfl (r_move rfl) ?_
                                        refine s_ef (d := some 295) rfl rfl rfl (fun dr => r_call Tryd.call12 rfl rfl H) ?_ trivial
                                        rintro _ h21 ⟨y220, rfl, H⟩
                                        refine ⟨trivial, ?_⟩
                                        refine s_pu (d := some 29) (v := (.bool y220)) rfl rfl rfl (r_assign rfl) ?_
                                        refine s_fin ?_
                                        show W _ _ _ _ _ _ _ _
                                        refine W_seq ?_
                                        refine W_region (.pu 0 (.ef 1 [] (.pu 2 (.ef 3 [] (.pu 4 .fin) .no)) .no)) rfl rfl ?_
                                        refine s_pu (d := some 296) (v := (.pointer y7)) rfl rfl rfl (r_move rfl) ?_
                                        refine s_ef (d := some 297) rfl rfl rfl (fun dr => r_call Tryd.call46 rfl rfl H) ?_ trivial
                                        rintro _ h22 ⟨y221, rfl, H⟩
                                        refine ⟨trivial, ?_⟩
                                        refine s_pu (d := some 298) (v := (Sl.v y26)) rfl rfl rfl (r_move rfl) ?_
                                        refine s_ef (d := some 299) rfl rfl rfl (fun dr => r_call Tryd.call17 rfl rfl H) ?_ trivial
                                        rintro _ h23 ⟨y222, rfl, H⟩
                                        refine ⟨trivial, ?_⟩
                                        refine s_pu (d := some 30) (v := (.bool y222)) rfl rfl rfl (r_assign rfl) ?_
                                        refine s_fin ?_
                                        show W _ _ _ _ _ _ _ _
                                        refine W_seq ?_
                                        refine W_region (.pu 0 (.pu 1 (.pu 2 (.pu 3 (.pu 4 (.pu 5 (.pu 6 (.pu 7 (.pu 8 (.pu 9 (.pu 10 (.pu 11 (.pu 12 (.pu 13 (.pu 14 (.pu 15 (.pu 16 (.pu 17 (.pu 18 (.pu 19 (.pu 20 (.pu 21 (.pu 22 (.pu 23 (.pu 24 (.pu 25 (.pu 26 (.pu 27 (.pu 28 .fin))))))))))))))))))))))))))))) rfl rfl ?_
                                        refine s_pu (d := some 300) (v := (.bool y182)) rfl rfl rfl (r_move rfl) ?_
                                        refine s_pu (d := some 301) (v := (.bool (!y182))) rfl rfl rfl (r_not rfl) ?_
                                        refine s_pu (d := some 302) (v := (.bool (!y182))) rfl rfl rfl (r_move rfl) ?_
                                        refine S_meet (l := [(0, (Sl.v l1)), (1, (Sl.v puts2)), (2, (Sl.v is3)), (3, (Sl.v js4)), (4, (Sl.v xs5)), (12, (.pointer y7)), (16, (Sl.v y26)), (17, (.int .i64 k27)), (20, (.int .i64 sum157)), (21, (.int .i64 low160)), (22, (.int .i64 high161)), (23, (.int .i64 y180)), (26, (.int .i64 y199)), (28, (.int .i64 y218)), (29, (.bool y220)), (30, (.bool y222)), (305, (.bool ((!y182) || (!y201))))]) (i := 3) ?_ (fun HJ => ?_)
                                        · intro b
                                          show S _ _ _ _ _ _
                                          refine s_pu (d := some 306) (v := (.bool ((!y182) || (!y201)))) rfl rfl rfl (r_move rfl) ?_
                                          refine S_meet (l := [(0, (Sl.v l1)), (1, (Sl.v puts2)), (2, (Sl.v is3)), (3, (Sl.v js4)), (4, (Sl.v xs5)), (12, (.pointer y7)), (16, (Sl.v y26)), (17, (.int .i64 k27)), (20, (.int .i64 sum157)), (21, (.int .i64 low160)), (22, (.int .i64 high161)), (23, (.int .i64 y180)), (26, (.int .i64 y199)), (28, (.int .i64 y218)), (30, (.bool y222)), (309, (.bool (((!y182) || (!y201)) || (!y220))))]) (i := 3) ?_ (fun HJ => ?_)
                                          · intro b
                                            show S _ _ _ _ _ _
                                            refine s_pu (d := some 310) (v := (.bool (((!y182) || (!y201)) || (!y220)))) rfl rfl rfl (r_move rfl) ?_
                                            refine S_meet (l := [(0, (Sl.v l1)), (1, (Sl.v puts2)), (2, (Sl.v is3)), (3, (Sl.v js4)), (4, (Sl.v xs5)), (12, (.pointer y7)), (16, (Sl.v y26)), (17, (.int .i64 k27)), (20, (.int .i64 sum157)), (21, (.int .i64 low160)), (22, (.int .i64 high161)), (23, (.int .i64 y180)), (26, (.int .i64 y199)), (28, (.int .i64 y218)), (313, (.bool ((((!y182) || (!y201)) || (!y220)) || (!y222))))]) (i := 3) ?_ (fun HJ => ?_)
                                            · intro b
                                              show S _ _ _ _ _ _
                                              refine s_pu (d := some 314) (v := (.bool ((((!y182) || (!y201)) || (!y220)) || (!y222)))) rfl rfl rfl (r_move rfl) ?_
                                              refine S_meet (l := [(0, (Sl.v l1)), (1, (Sl.v puts2)), (2, (Sl.v is3)), (3, (Sl.v js4)), (4, (Sl.v xs5)), (12, (.pointer y7)), (16, (Sl.v y26)), (17, (.int .i64 k27)), (21, (.int .i64 low160)), (22, (.int .i64 high161)), (26, (.int .i64 y199)), (28, (.int .i64 y218)), (318, (.bool (((((!y182) || (!y201)) || (!y220)) || (!y222)) || (!decide (y180 = sum157)))))]) (i := 4) ?_ (fun HJ => ?_)
                                              · intro b
                                                show S _ _ _ _ _ _
                                                refine s_pu (d := some 319) (v := (.bool (((((!y182) || (!y201)) || (!y220)) || (!y222)) || (!decide (y180 = sum157))))) rfl rfl rfl (r_move rfl) ?_
                                                refine S_meet (l := [(0, (Sl.v l1)), (1, (Sl.v puts2)), (2, (Sl.v is3)), (3, (Sl.v js4)), (4, (Sl.v xs5)), (12, (.pointer y7)), (16, (Sl.v y26)), (17, (.int .i64 k27)), (22, (.int .i64 high161)), (28, (.int .i64 y218)), (323, (.bool ((((((!y182) || (!y201)) || (!y220)) || (!y222)) || (!decide (y180 = sum157))) || (!decide (y199 = low160)))))]) (i := 4) ?_ (fun HJ => ?_)
                                                · intro b
                                                  show S _ _ _ _ _ _
                                                  refine s_pu (d := some 324) (v := (.bool ((((((!y182) || (!y201)) || (!y220)) || (!y222)) || (!decide (y180 = sum157))) || (!decide (y199 = low160))))) rfl rfl rfl (r_move rfl) ?_
                                                  refine S_meet (l := [(0, (Sl.v l1)), (1, (Sl.v puts2)), (2, (Sl.v is3)), (3, (Sl.v js4)), (4, (Sl.v xs5)), (12, (.pointer y7)), (16, (Sl.v y26)), (17, (.int .i64 k27)), (328, (.bool (((((((!y182) || (!y201)) || (!y220)) || (!y222)) || (!decide (y180 = sum157))) || (!decide (y199 = low160))) || (!decide (y218 = high161)))))]) (i := 4) ?_ (fun HJ => ?_)
                                                  · intro b
                                                    show S _ _ _ _ _ _
                                                    refine s_fin ?_
                                                    show W _ _ _ _ _ _ _ _
                                                    refine W_if (((((((!y182) || (!y201)) || (!y220)) || (!y222)) || (!decide (y180 = sum157))) || (!decide (y199 = low160))) || (!decide (y218 = high161))) rfl (fun g241 => ?_) (fun g241 => ?_)
                                                    · have H := H.1 g241
                                                      refine W_seq ?_
                                                      refine W_region (.pu 0 .fin) rfl rfl ?_
                                                      refine s_pu (d := some 10) (v := (.bool false)) rfl rfl rfl (r_assign rfl) ?_
                                                      refine s_fin ?_
                                                      show W _ _ _ _ _ _ _ _
                                                      refine W_ret ?_
                                                      exact ⟨[(.bool false)], ⟨_, _, rfl, rfl, rfl⟩, false, rfl, H⟩
                                                    · have H := H.2 g241
                                                      refine W_skip ?_
                                                      show W _ _ _ _ _ _ _ _
                                                      refine W_region (.pu 0 (.pu 1 (.pu 2 .fin))) rfl rfl ?_
                                                      refine s_pu (d := some 93) (v := (.int .i64 k27)) rfl rfl rfl (r_move rfl) ?_
                                                      refine s_pu (d := some 94) (v := (.int .i64 (w64 (k27 + 1)))) rfl rfl rfl (r_add rfl rfl) ?_
                                                      refine s_pu (d := some 17) (v := (.int .i64 (w64 (k27 + 1)))) rfl rfl rfl (r_assign rfl) ?_
                                                      refine s_fin ?_
                                                      exact WL_mk (l := [(0, (Sl.v l1)), (1, (Sl.v puts2)), (2, (Sl.v is3)), (3, (Sl.v js4)), (4, (Sl.v xs5)), (12, (.pointer y7)), (16, (Sl.v y26)), (17, (.int .i64 (w64 (k27 + 1))))]) H ⟨rfl, rfl, rfl, rfl, rfl, rfl, rfl, rfl, trivial⟩
                                                  · rcases Bool.eq_false_or_eq_true ((((((!y182) || (!y201)) || (!y220)) || (!y222)) || (!decide (y180 = sum157))) || (!decide (y199 = low160))) with g238 | g238
                                                    · refine s_sk (d := some 325) rfl rfl (wants_no rfl rfl rfl rfl g238) ?_
                                                      refine s_sk (d := some 326) rfl rfl (wants_no rfl rfl rfl rfl g238) ?_
                                                      refine s_sk (d := some 327) rfl rfl (wants_no rfl rfl rfl rfl g238) ?_
                                                      refine s_pu (d := some 328) (v := (.bool true)) rfl rfl rfl (r_pick1 rfl g238 rfl) ?_
                                                      exact S_mk (l := [(0, (Sl.v l1)), (1, (Sl.v puts2)), (2, (Sl.v is3)), (3, (Sl.v js4)), (4, (Sl.v xs5)), (12, (.pointer y7)), (16, (Sl.v y26)), (17, (.int .i64 k27)), (328, (.bool (((((((!y182) || (!y201)) || (!y220)) || (!y222)) || (!decide (y180 = sum157))) || (!decide (y199 = low160))) || (!decide (y218 = high161)))))]) HJ ⟨rfl, rfl, rfl, rfl, rfl, rfl, rfl, rfl, (by rw [g238]; rfl), trivial⟩
                                                    · refine s_pu (d := some 325) (v := (.int .i64 y218)) rfl rfl (wants_yes rfl rfl rfl rfl g238) (r_move rfl) ?_
                                                      refine s_pu (d := some 326) (v := (.int .i64 high161)) rfl rfl (wants_yes rfl rfl rfl rfl g238) (r_move rfl) ?_
                                                      refine s_pu (d := some 327) (v := (.bool (!decide (y218 = high161)))) rfl rfl (wants_yes rfl rfl rfl rfl g238) (r_neq rfl rfl) ?_
                                                      refine s_pu (d := some 328) (v := (.bool (!decide (y218 = high161)))) rfl rfl rfl (r_pick0 rfl g238 rfl) ?_
                                                      exact S_mk (l := [(0, (Sl.v l1)), (1, (Sl.v puts2)), (2, (Sl.v is3)), (3, (Sl.v js4)), (4, (Sl.v xs5)), (12, (.pointer y7)), (16, (Sl.v y26)), (17, (.int .i64 k27)), (328, (.bool (((((((!y182) || (!y201)) || (!y220)) || (!y222)) || (!decide (y180 = sum157))) || (!decide (y199 = low160))) || (!decide (y218 = high161)))))]) HJ ⟨rfl, rfl, rfl, rfl, rfl, rfl, rfl, rfl, (by rw [g238]; rfl), trivial⟩
                                                · rcases Bool.eq_false_or_eq_true (((((!y182) || (!y201)) || (!y220)) || (!y222)) || (!decide (y180 = sum157))) with g235 | g235
                                                  · refine s_sk (d := some 320) rfl rfl (wants_no rfl rfl rfl rfl g235) ?_
                                                    refine s_sk (d := some 321) rfl rfl (wants_no rfl rfl rfl rfl g235) ?_
                                                    refine s_sk (d := some 322) rfl rfl (wants_no rfl rfl rfl rfl g235) ?_
                                                    refine s_pu (d := some 323) (v := (.bool true)) rfl rfl rfl (r_pick1 rfl g235 rfl) ?_
                                                    exact S_mk (l := [(0, (Sl.v l1)), (1, (Sl.v puts2)), (2, (Sl.v is3)), (3, (Sl.v js4)), (4, (Sl.v xs5)), (12, (.pointer y7)), (16, (Sl.v y26)), (17, (.int .i64 k27)), (22, (.int .i64 high161)), (28, (.int .i64 y218)), (323, (.bool ((((((!y182) || (!y201)) || (!y220)) || (!y222)) || (!decide (y180 = sum157))) || (!decide (y199 = low160)))))]) HJ ⟨rfl, rfl, rfl, rfl, rfl, rfl, rfl, rfl, rfl, rfl, (by rw [g235]; rfl), trivial⟩
                                                  · refine s_pu (d := some 320) (v := (.int .i64 y199)) rfl rfl (wants_yes rfl rfl rfl rfl g235) (r_move rfl) ?_
                                                    refine s_pu (d := some 321) (v := (.int .i64 low160)) rfl rfl (wants_yes rfl rfl rfl rfl g235) (r_move rfl) ?_
                                                    refine s_pu (d := some 322) (v := (.bool (!decide (y199 = low160)))) rfl rfl (wants_yes rfl rfl rfl rfl g235) (r_neq rfl rfl) ?_
                                                    refine s_pu (d := some 323) (v := (.bool (!decide (y199 = low160)))) rfl rfl rfl (r_pick0 rfl g235 rfl) ?_
                                                    exact S_mk (l := [(0, (Sl.v l1)), (1, (Sl.v puts2)), (2, (Sl.v is3)), (3, (Sl.v js4)), (4, (Sl.v xs5)), (12, (.pointer y7)), (16, (Sl.v y26)), (17, (.int .i64 k27)), (22, (.int .i64 high161)), (28, (.int .i64 y218)), (323, (.bool ((((((!y182) || (!y201)) || (!y220)) || (!y222)) || (!decide (y180 = sum157))) || (!decide (y199 = low160)))))]) HJ ⟨rfl, rfl, rfl, rfl, rfl, rfl, rfl, rfl, rfl, rfl, (by rw [g235]; rfl), trivial⟩
                                              · rcases Bool.eq_false_or_eq_true ((((!y182) || (!y201)) || (!y220)) || (!y222)) with g232 | g232
                                                · refine s_sk (d := some 315) rfl rfl (wants_no rfl rfl rfl rfl g232) ?_
                                                  refine s_sk (d := some 316) rfl rfl (wants_no rfl rfl rfl rfl g232) ?_
                                                  refine s_sk (d := some 317) rfl rfl (wants_no rfl rfl rfl rfl g232) ?_
                                                  refine s_pu (d := some 318) (v := (.bool true)) rfl rfl rfl (r_pick1 rfl g232 rfl) ?_
                                                  exact S_mk (l := [(0, (Sl.v l1)), (1, (Sl.v puts2)), (2, (Sl.v is3)), (3, (Sl.v js4)), (4, (Sl.v xs5)), (12, (.pointer y7)), (16, (Sl.v y26)), (17, (.int .i64 k27)), (21, (.int .i64 low160)), (22, (.int .i64 high161)), (26, (.int .i64 y199)), (28, (.int .i64 y218)), (318, (.bool (((((!y182) || (!y201)) || (!y220)) || (!y222)) || (!decide (y180 = sum157)))))]) HJ ⟨rfl, rfl, rfl, rfl, rfl, rfl, rfl, rfl, rfl, rfl, rfl, rfl, (by rw [g232]; rfl), trivial⟩
                                                · refine s_pu (d := some 315) (v := (.int .i64 y180)) rfl rfl (wants_yes rfl rfl rfl rfl g232) (r_move rfl) ?_
                                                  refine s_pu (d := some 316) (v := (.int .i64 sum157)) rfl rfl (wants_yes rfl rfl rfl rfl g232) (r_move rfl) ?_
                                                  refine s_pu (d := some 317) (v := (.bool (!decide (y180 = sum157)))) rfl rfl (wants_yes rfl rfl rfl rfl g232) (r_neq rfl rfl) ?_
                                                  refine s_pu (d := some 318) (v := (.bool (!decide (y180 = sum157)))) rfl rfl rfl (r_pick0 rfl g232 rfl) ?_
                                                  exact S_mk (l := [(0, (Sl.v l1)), (1, (Sl.v puts2)), (2, (Sl.v is3)), (3, (Sl.v js4)), (4, (Sl.v xs5)), (12, (.pointer y7)), (16, (Sl.v y26)), (17, (.int .i64 k27)), (21, (.int .i64 low160)), (22, (.int .i64 high161)), (26, (.int .i64 y199)), (28, (.int .i64 y218)), (318, (.bool (((((!y182) || (!y201)) || (!y220)) || (!y222)) || (!decide (y180 = sum157)))))]) HJ ⟨rfl, rfl, rfl, rfl, rfl, rfl, rfl, rfl, rfl, rfl, rfl, rfl, (by rw [g232]; rfl), trivial⟩
                                            · rcases Bool.eq_false_or_eq_true (((!y182) || (!y201)) || (!y220)) with g229 | g229
                                              · refine s_sk (d := some 311) rfl rfl (wants_no rfl rfl rfl rfl g229) ?_
                                                refine s_sk (d := some 312) rfl rfl (wants_no rfl rfl rfl rfl g229) ?_
                                                refine s_pu (d := some 313) (v := (.bool true)) rfl rfl rfl (r_pick1 rfl g229 rfl) ?_
                                                exact S_mk (l := [(0, (Sl.v l1)), (1, (Sl.v puts2)), (2, (Sl.v is3)), (3, (Sl.v js4)), (4, (Sl.v xs5)), (12, (.pointer y7)), (16, (Sl.v y26)), (17, (.int .i64 k27)), (20, (.int .i64 sum157)), (21, (.int .i64 low160)), (22, (.int .i64 high161)), (23, (.int .i64 y180)), (26, (.int .i64 y199)), (28, (.int .i64 y218)), (313, (.bool ((((!y182) || (!y201)) || (!y220)) || (!y222))))]) HJ ⟨rfl, rfl, rfl, rfl, rfl, rfl, rfl, rfl, rfl, rfl, rfl, rfl, rfl, rfl, (by rw [g229]; rfl), trivial⟩
                                              · refine s_pu (d := some 311) (v := (.bool y222)) rfl rfl (wants_yes rfl rfl rfl rfl g229) (r_move rfl) ?_
                                                refine s_pu (d := some 312) (v := (.bool (!y222))) rfl rfl (wants_yes rfl rfl rfl rfl g229) (r_not rfl) ?_
                                                refine s_pu (d := some 313) (v := (.bool (!y222))) rfl rfl rfl (r_pick0 rfl g229 rfl) ?_
                                                exact S_mk (l := [(0, (Sl.v l1)), (1, (Sl.v puts2)), (2, (Sl.v is3)), (3, (Sl.v js4)), (4, (Sl.v xs5)), (12, (.pointer y7)), (16, (Sl.v y26)), (17, (.int .i64 k27)), (20, (.int .i64 sum157)), (21, (.int .i64 low160)), (22, (.int .i64 high161)), (23, (.int .i64 y180)), (26, (.int .i64 y199)), (28, (.int .i64 y218)), (313, (.bool ((((!y182) || (!y201)) || (!y220)) || (!y222))))]) HJ ⟨rfl, rfl, rfl, rfl, rfl, rfl, rfl, rfl, rfl, rfl, rfl, rfl, rfl, rfl, (by rw [g229]; rfl), trivial⟩
                                          · rcases Bool.eq_false_or_eq_true ((!y182) || (!y201)) with g226 | g226
                                            · refine s_sk (d := some 307) rfl rfl (wants_no rfl rfl rfl rfl g226) ?_
                                              refine s_sk (d := some 308) rfl rfl (wants_no rfl rfl rfl rfl g226) ?_
                                              refine s_pu (d := some 309) (v := (.bool true)) rfl rfl rfl (r_pick1 rfl g226 rfl) ?_
                                              exact S_mk (l := [(0, (Sl.v l1)), (1, (Sl.v puts2)), (2, (Sl.v is3)), (3, (Sl.v js4)), (4, (Sl.v xs5)), (12, (.pointer y7)), (16, (Sl.v y26)), (17, (.int .i64 k27)), (20, (.int .i64 sum157)), (21, (.int .i64 low160)), (22, (.int .i64 high161)), (23, (.int .i64 y180)), (26, (.int .i64 y199)), (28, (.int .i64 y218)), (30, (.bool y222)), (309, (.bool (((!y182) || (!y201)) || (!y220))))]) HJ ⟨rfl, rfl, rfl, rfl, rfl, rfl, rfl, rfl, rfl, rfl, rfl, rfl, rfl, rfl, rfl, (by rw [g226]; rfl), trivial⟩
                                            · refine s_pu (d := some 307) (v := (.bool y220)) rfl rfl (wants_yes rfl rfl rfl rfl g226) (r_move rfl) ?_
                                              refine s_pu (d := some 308) (v := (.bool (!y220))) rfl rfl (wants_yes rfl rfl rfl rfl g226) (r_not rfl) ?_
                                              refine s_pu (d := some 309) (v := (.bool (!y220))) rfl rfl rfl (r_pick0 rfl g226 rfl) ?_
                                              exact S_mk (l := [(0, (Sl.v l1)), (1, (Sl.v puts2)), (2, (Sl.v is3)), (3, (Sl.v js4)), (4, (Sl.v xs5)), (12, (.pointer y7)), (16, (Sl.v y26)), (17, (.int .i64 k27)), (20, (.int .i64 sum157)), (21, (.int .i64 low160)), (22, (.int .i64 high161)), (23, (.int .i64 y180)), (26, (.int .i64 y199)), (28, (.int .i64 y218)), (30, (.bool y222)), (309, (.bool (((!y182) || (!y201)) || (!y220))))]) HJ ⟨rfl, rfl, rfl, rfl, rfl, rfl, rfl, rfl, rfl, rfl, rfl, rfl, rfl, rfl, rfl, (by rw [g226]; rfl), trivial⟩
                                        · rcases Bool.eq_false_or_eq_true (!y182) with g223 | g223
                                          · refine s_sk (d := some 303) rfl rfl (wants_no rfl rfl rfl rfl g223) ?_
                                            refine s_sk (d := some 304) rfl rfl (wants_no rfl rfl rfl rfl g223) ?_
                                            refine s_pu (d := some 305) (v := (.bool true)) rfl rfl rfl (r_pick1 rfl g223 rfl) ?_
                                            exact S_mk (l := [(0, (Sl.v l1)), (1, (Sl.v puts2)), (2, (Sl.v is3)), (3, (Sl.v js4)), (4, (Sl.v xs5)), (12, (.pointer y7)), (16, (Sl.v y26)), (17, (.int .i64 k27)), (20, (.int .i64 sum157)), (21, (.int .i64 low160)), (22, (.int .i64 high161)), (23, (.int .i64 y180)), (26, (.int .i64 y199)), (28, (.int .i64 y218)), (29, (.bool y220)), (30, (.bool y222)), (305, (.bool ((!y182) || (!y201))))]) HJ ⟨rfl, rfl, rfl, rfl, rfl, rfl, rfl, rfl, rfl, rfl, rfl, rfl, rfl, rfl, rfl, rfl, (by rw [g223]; rfl), trivial⟩
                                          · refine s_pu (d := some 303) (v := (.bool y201)) rfl rfl (wants_yes rfl rfl rfl rfl g223) (r_move rfl) ?_
                                            refine s_pu (d := some 304) (v := (.bool (!y201))) rfl rfl (wants_yes rfl rfl rfl rfl g223) (r_not rfl) ?_
                                            refine s_pu (d := some 305) (v := (.bool (!y201))) rfl rfl rfl (r_pick0 rfl g223 rfl) ?_
                                            exact S_mk (l := [(0, (Sl.v l1)), (1, (Sl.v puts2)), (2, (Sl.v is3)), (3, (Sl.v js4)), (4, (Sl.v xs5)), (12, (.pointer y7)), (16, (Sl.v y26)), (17, (.int .i64 k27)), (20, (.int .i64 sum157)), (21, (.int .i64 low160)), (22, (.int .i64 high161)), (23, (.int .i64 y180)), (26, (.int .i64 y199)), (28, (.int .i64 y218)), (29, (.bool y220)), (30, (.bool y222)), (305, (.bool ((!y182) || (!y201))))]) HJ ⟨rfl, rfl, rfl, rfl, rfl, rfl, rfl, rfl, rfl, rfl, rfl, rfl, rfl, rfl, rfl, rfl, (by rw [g223]; rfl), trivial⟩)
                                      clear eN163
                                      refine W_if (decide (f154 = 0)) rfl (fun g298 => ?_) (fun g298 => ?_)
                                      · have H := H.1 g298
                                        refine W_seq ?_
                                        refine W_draw [0, 0, 0, 0, 12, 28, 0, 0, 192, 448, 1022, 2047, 4095, 8191] (.pu 0 (.pu 1 (.pu 2 (.pu 3 (.pu 4 (.rd 5 (.pu 6 (.pu 7 (.pu 8 (.rd 9 (.ef 10 [5, 9] (.pu 11 (.rd 12 (.pu 13 .fin))) .no))))))))))) (by kernel_rfl) (by kernel_rfl) ?_
                                        refine s_pu (d := some 222) (v := (Sl.v y26)) rfl rfl rfl (r_move rfl) ?_
                                        refine s_pu (d := some 223) (v := (Sl.v y26)) rfl rfl rfl (r_move rfl) ?_
                                        refine s_pu (d := some 224) (v := (Sl.v is3)) rfl rfl rfl (r_move rfl) ?_
                                        refine s_pu (d := some 225) (v := (.int .i64 k27)) rfl rfl rfl (r_move rfl) ?_
                                        obtain ⟨p248, e249, e250, e251, H⟩ := H
                                        obtain ⟨q252, e253⟩ : ∃ q : Addr, q = Addr.add p248 (Int.toNat k27 * 1) := ⟨_, rfl⟩
                                        rw [← e253] at H
                                        refine s_pu (d := some 226) (v := (.pointer (some q252))) rfl rfl rfl (fun w => (r_indexAddr Tryd.underlying22 Tryd.sizeOf3 rfl rfl e249 e250 e251 w).trans (by rw [e253])) ?_
                                        obtain ⟨x254, e255, H⟩ := H
                                        refine s_rd (d := some 227) (v := (.int .i64 x254)) rfl rfl rfl (fun dr => r_load1 Tryd.isAgg3 rfl e255) ?_
                                        refine s_pu (d := some 228) (v := (Sl.v js4)) rfl rfl rfl (r_move rfl) ?_
                                        refine s_pu (d := some 229) (v := (.int .i64 k27)) rfl rfl rfl (r_move rfl) ?_
                                        obtain ⟨p256, e257, e258, e259, H⟩ := H
                                        obtain ⟨q260, e261⟩ : ∃ q : Addr, q = Addr.add p256 (Int.toNat k27 * 1) := ⟨_, rfl⟩
                                        rw [← e261] at H
                                        refine s_pu (d := some 230) (v := (.pointer (some q260))) rfl rfl rfl (fun w => (r_indexAddr Tryd.underlying22 Tryd.sizeOf3 rfl rfl e257 e258 e259 w).trans (by rw [e261])) ?_
                                        obtain ⟨x262, e263, H⟩ := H
                                        refine s_rd (d := some 231) (v := (.int .i64 x262)) rfl rfl rfl (fun dr => r_load1 Tryd.isAgg3 rfl e263) ?_
                                        refine s_ef (d := some 232) rfl rfl rfl (fun dr => r_call Tryd.call22 rfl rfl H) ?_ trivial
                                        rintro _ h24 ⟨y264, rfl, H⟩
                                        refine ⟨⟨trivial, trivial, trivial⟩, ?_⟩
                                        obtain ⟨p265, e266, e267, e268, H⟩ := H
                                        obtain ⟨q269, e270⟩ : ∃ q : Addr, q = Addr.add p265 (Int.toNat y264 * 1) := ⟨_, rfl⟩
                                        rw [← e270] at H
                                        refine s_pu (d := some 233) (v := (.pointer (some q269))) rfl rfl rfl (fun w => (r_indexAddr Tryd.underlying22 Tryd.sizeOf3 rfl rfl e266 e267 e268 w).trans (by rw [e270])) ?_
                                        obtain ⟨x271, e272, H⟩ := H
                                        refine s_rd (d := some 234) (v := (.int .i64 x271)) rfl rfl rfl (fun dr => r_load1 Tryd.isAgg3 rfl e272) ?_
                                        refine s_pu (d := some 21) (v := (.int .i64 x271)) rfl rfl rfl (r_assign rfl) ?_
                                        refine s_fin ?_
                                        show W _ _ _ _ _ _ _ _
                                        refine W_draw [0, 0, 0, 0, 12, 28, 0, 0, 192, 448, 1022, 2047, 4095, 8191] (.pu 0 (.pu 1 (.pu 2 (.pu 3 (.pu 4 (.rd 5 (.pu 6 (.pu 7 (.pu 8 (.rd 9 (.ef 10 [5, 9] (.pu 11 (.rd 12 (.pu 13 .fin))) .no))))))))))) (by kernel_rfl) (by kernel_rfl) ?_
                                        refine s_pu (d := some 235) (v := (Sl.v y26)) rfl rfl rfl (r_move rfl) ?_
                                        refine s_pu (d := some 236) (v := (Sl.v y26)) rfl rfl rfl (r_move rfl) ?_
                                        refine s_pu (d := some 237) (v := (Sl.v is3)) rfl rfl rfl (r_move rfl) ?_
                                        refine s_pu (d := some 238) (v := (.int .i64 k27)) rfl rfl rfl (r_move rfl) ?_
                                        obtain ⟨p273, e274, e275, e276, H⟩ := H
                                        obtain ⟨q277, e278⟩ : ∃ q : Addr, q = Addr.add p273 (Int.toNat k27 * 1) := ⟨_, rfl⟩
                                        rw [← e278] at H
                                        refine s_pu (d := some 239) (v := (.pointer (some q277))) rfl rfl rfl (fun w => (r_indexAddr Tryd.underlying22 Tryd.sizeOf3 rfl rfl e274 e275 e276 w).trans (by rw [e278])) ?_
                                        obtain ⟨x279, e280, H⟩ := H
                                        refine s_rd (d := some 240) (v := (.int .i64 x279)) rfl rfl rfl (fun dr => r_load1 Tryd.isAgg3 rfl e280) ?_
                                        refine s_pu (d := some 241) (v := (Sl.v js4)) rfl rfl rfl (r_move rfl) ?_
                                        refine s_pu (d := some 242) (v := (.int .i64 k27)) rfl rfl rfl (r_move rfl) ?_
                                        obtain ⟨p281, e282, e283, e284, H⟩ := H
                                        obtain ⟨q285, e286⟩ : ∃ q : Addr, q = Addr.add p281 (Int.toNat k27 * 1) := ⟨_, rfl⟩
                                        rw [← e286] at H
                                        refine s_pu (d := some 243) (v := (.pointer (some q285))) rfl rfl rfl (fun w => (r_indexAddr Tryd.underlying22 Tryd.sizeOf3 rfl rfl e282 e283 e284 w).trans (by rw [e286])) ?_
                                        obtain ⟨x287, e288, H⟩ := H
                                        refine s_rd (d := some 244) (v := (.int .i64 x287)) rfl rfl rfl (fun dr => r_load1 Tryd.isAgg3 rfl e288) ?_
                                        refine s_ef (d := some 245) rfl rfl rfl (fun dr => r_call Tryd.call22 rfl rfl H) ?_ trivial
                                        rintro _ h25 ⟨y289, rfl, H⟩
                                        refine ⟨⟨trivial, trivial, trivial⟩, ?_⟩
                                        obtain ⟨p290, e291, e292, e293, H⟩ := H
                                        obtain ⟨q294, e295⟩ : ∃ q : Addr, q = Addr.add p290 (Int.toNat y289 * 1) := ⟨_, rfl⟩
                                        rw [← e295] at H
                                        refine s_pu (d := some 246) (v := (.pointer (some q294))) rfl rfl rfl (fun w => (r_indexAddr Tryd.underlying22 Tryd.sizeOf3 rfl rfl e291 e292 e293 w).trans (by rw [e295])) ?_
                                        obtain ⟨x296, e297, H⟩ := H
                                        refine s_rd (d := some 247) (v := (.int .i64 x296)) rfl rfl rfl (fun dr => r_load1 Tryd.isAgg3 rfl e297) ?_
                                        refine s_pu (d := some 22) (v := (.int .i64 x296)) rfl rfl rfl (r_assign rfl) ?_
                                        refine s_fin ?_
                                        exact N_mk (l := [(0, (Sl.v l1)), (1, (Sl.v puts2)), (2, (Sl.v is3)), (3, (Sl.v js4)), (4, (Sl.v xs5)), (12, (.pointer y7)), (14, (.int .i64 ve55)), (16, (Sl.v y26)), (17, (.int .i64 k27)), (19, (.int .i64 f154)), (20, (.int .i64 sum157)), (21, (.int .i64 x271)), (22, (.int .i64 x296))]) H ⟨rfl, rfl, rfl, rfl, rfl, rfl, rfl, rfl, rfl, rfl, rfl, rfl, rfl, trivial⟩
                                      · have H := H.2 g298
                                        refine W_skip ?_
                                        exact N_mk (l := [(0, (Sl.v l1)), (1, (Sl.v puts2)), (2, (Sl.v is3)), (3, (Sl.v js4)), (4, (Sl.v xs5)), (12, (.pointer y7)), (14, (.int .i64 ve55)), (16, (Sl.v y26)), (17, (.int .i64 k27)), (19, (.int .i64 f154)), (20, (.int .i64 sum157)), (21, (.int .i64 0)), (22, (.int .i64 0))]) H ⟨rfl, rfl, rfl, rfl, rfl, rfl, rfl, rfl, rfl, rfl, rfl, rfl, rfl, trivial⟩)
                                    clear eN159
                                    refine W_if (decide (ve55 = 0)) rfl (fun g322 => ?_) (fun g322 => ?_)
                                    · have H := H.1 g322
                                      refine W_draw [0, 0, 0, 6, 14, 0, 0, 96, 224, 511, 1023, 2047] (.pu 0 (.pu 1 (.pu 2 (.pu 3 (.rd 4 (.pu 5 (.pu 6 (.pu 7 (.rd 8 (.pu 9 (.ef 10 [4, 8] (.pu 11 .fin) .no))))))))))) (by kernel_rfl) (by kernel_rfl) ?_
                                      refine s_pu (d := some 209) (v := (Sl.v y26)) rfl rfl rfl (r_move rfl) ?_
                                      refine s_pu (d := some 210) (v := (Sl.v is3)) rfl rfl rfl (r_move rfl) ?_
                                      refine s_pu (d := some 211) (v := (.int .i64 k27)) rfl rfl rfl (r_move rfl) ?_
                                      obtain ⟨p299, e300, e301, e302, H⟩ := H
                                      obtain ⟨q303, e304⟩ : ∃ q : Addr, q = Addr.add p299 (Int.toNat k27 * 1) := ⟨_, rfl⟩
                                      rw [← e304] at H
                                      refine s_pu (d := some 212) (v := (.pointer (some q303))) rfl rfl rfl (fun w => (r_indexAddr Tryd.underlying22 Tryd.sizeOf3 rfl rfl e300 e301 e302 w).trans (by rw [e304])) ?_
                                      obtain ⟨x305, e306, H⟩ := H
                                      refine s_rd (d := some 213) (v := (.int .i64 x305)) rfl rfl rfl (fun dr => r_load1 Tryd.isAgg3 rfl e306) ?_
                                      refine s_pu (d := some 214) (v := (Sl.v js4)) rfl rfl rfl (r_move rfl) ?_
                                      refine s_pu (d := some 215) (v := (.int .i64 k27)) rfl rfl rfl (r_move rfl) ?_
                                      obtain ⟨p307, e308, e309, e310, H⟩ := H
                                      obtain ⟨q311, e312⟩ : ∃ q : Addr, q = Addr.add p307 (Int.toNat k27 * 1) := ⟨_, rfl⟩
                                      rw [← e312] at H
                                      refine s_pu (d := some 216) (v := (.pointer (some q311))) rfl rfl rfl (fun w => (r_indexAddr Tryd.underlying22 Tryd.sizeOf3 rfl rfl e308 e309 e310 w).trans (by rw [e312])) ?_
                                      obtain ⟨x313, e314, H⟩ := H
                                      refine s_rd (d := some 217) (v := (.int .i64 x313)) rfl rfl rfl (fun dr => r_load1 Tryd.isAgg3 rfl e314) ?_
                                      obtain ⟨e316, e317, e318, e319, H⟩ := H
                                      obtain ⟨s315, e320⟩ : ∃ t : Sl, t = ⟨sliceA y26.a (Int.toNat ((y26.cap : Int))) (Int.toNat x305) 1, Int.toNat x313 - Int.toNat x305, Int.toNat ((y26.cap : Int)) - Int.toNat x305⟩ := ⟨_, rfl⟩
                                      have H := H s315 e320
                                      refine s_pu (d := some 218) (v := (Sl.v s315)) rfl rfl rfl (fun w => (r_slice (lo := (.some (.tmp 213))) (hi := (.some (.tmp 217))) (mx := .none) Tryd.underlying22 Tryd.sizeOf3 rfl ((y26.cap : Int)) x313 x305 rfl ⟨_, rfl⟩ ⟨_, rfl⟩ e316 e317 (.inr e318) e319 w).trans (by rw [e320]; rfl)) ?_
                                      refine s_ef (d := some 219) rfl rfl rfl (fun dr => r_call Tryd.call14 rfl rfl H) ?_ trivial
                                      rintro _ h26 ⟨y321, rfl, H⟩
                                      refine ⟨⟨trivial, trivial, trivial⟩, ?_⟩
                                      refine s_pu (d := some 20) (v := (.int .i64 y321)) rfl rfl rfl (r_assign rfl) ?_
                                      refine s_fin ?_
                                      exact N_mk (l := [(0, (Sl.v l1)), (1, (Sl.v puts2)), (2, (Sl.v is3)), (3, (Sl.v js4)), (4, (Sl.v xs5)), (12, (.pointer y7)), (14, (.int .i64 ve55)), (16, (Sl.v y26)), (17, (.int .i64 k27)), (19, (.int .i64 f154)), (20, (.int .i64 y321)), (21, (.int .i64 0)), (22, (.int .i64 0))]) H ⟨rfl, rfl, rfl, rfl, rfl, rfl, rfl, rfl, rfl, rfl, rfl, rfl, rfl, trivial⟩
                                    · have H := H.2 g322
                                      refine W_skip ?_
                                      exact N_mk (l := [(0, (Sl.v l1)), (1, (Sl.v puts2)), (2, (Sl.v is3)), (3, (Sl.v js4)), (4, (Sl.v xs5)), (12, (.pointer y7)), (14, (.int .i64 ve55)), (16, (Sl.v y26)), (17, (.int .i64 k27)), (19, (.int .i64 f154)), (20, (.int .i64 0)), (21, (.int .i64 0)), (22, (.int .i64 0))]) H ⟨rfl, rfl, rfl, rfl, rfl, rfl, rfl, rfl, rfl, rfl, rfl, rfl, rfl, trivial⟩)
                                  clear eN156
                                  refine W_if x151 rfl (fun g323 => ?_) (fun g323 => ?_)
                                  · have H := H.1 g323
                                    refine W_region (.pu 0 .fin) rfl rfl ?_
                                    refine s_pu (d := some 19) (v := (.int .i64 2)) rfl rfl rfl (r_assign rfl) ?_
                                    refine s_fin ?_
                                    exact N_mk (l := [(0, (Sl.v l1)), (1, (Sl.v puts2)), (2, (Sl.v is3)), (3, (Sl.v js4)), (4, (Sl.v xs5)), (12, (.pointer y7)), (14, (.int .i64 ve55)), (16, (Sl.v y26)), (17, (.int .i64 k27)), (19, (.int .i64 2))]) H ⟨rfl, rfl, rfl, rfl, rfl, rfl, rfl, rfl, rfl, rfl, trivial⟩
                                  · have H := H.2 g323
                                    refine W_skip ?_
                                    exact N_mk (l := [(0, (Sl.v l1)), (1, (Sl.v puts2)), (2, (Sl.v is3)), (3, (Sl.v js4)), (4, (Sl.v xs5)), (12, (.pointer y7)), (14, (.int .i64 ve55)), (16, (Sl.v y26)), (17, (.int .i64 k27)), (19, (.int .i64 ve55))]) H ⟨rfl, rfl, rfl, rfl, rfl, rfl, rfl, rfl, rfl, rfl, trivial⟩)
                                clear eN153
                                refine W_draw [0, 1, 3, 7, 7, 31, 63, 7, 7, 391, 903, 2047, 4095] (.pu 0 (.pu 1 (.pu 2 (.pu 3 (.pu 4 (.pu 5 (.rd 6 (.pu 7 (.pu 8 (.pu 9 (.rd 10 (.pu 11 (.pu 12 .fin))))))))))))) (by kernel_rfl) (by kernel_rfl) ?_
                                refine s_pu (d := some 194) (v := (.int .i64 ve55)) rfl rfl rfl (r_move rfl) ?_
                                refine s_pu (d := some 195) (v := (.bool (decide (ve55 = 0)))) rfl rfl rfl (r_eql rfl rfl) ?_
                                refine s_pu (d := some 196) (v := (.bool (decide (ve55 = 0)))) rfl rfl rfl (r_move rfl) ?_
                                rcases Bool.eq_false_or_eq_true (decide (ve55 = 0)) with g324 | g324
                                · have H := H.1 g324
                                  refine s_pu (d := some 197) (v := (Sl.v is3)) rfl rfl (wants_yes rfl rfl rfl rfl g324) (r_move rfl) ?_
                                  refine s_pu (d := some 198) (v := (.int .i64 k27)) rfl rfl (wants_yes rfl rfl rfl rfl g324) (r_move rfl) ?_
                                  obtain ⟨p325, e326, e327, e328, H⟩ := H
                                  obtain ⟨q329, e330⟩ : ∃ q : Addr, q = Addr.add p325 (Int.toNat k27 * 1) := ⟨_, rfl⟩
                                  rw [← e330] at H
                                  refine s_pu (d := some 199) (v := (.pointer (some q329))) rfl rfl (wants_yes rfl rfl rfl rfl g324) (fun w => (r_indexAddr Tryd.underlying22 Tryd.sizeOf3 rfl rfl e326 e327 e328 w).trans (by rw [e330])) ?_
                                  obtain ⟨x331, e332, H⟩ := H
                                  refine s_rd (d := some 200) (v := (.int .i64 x331)) rfl rfl (wants_yes rfl rfl rfl rfl g324) (fun dr => r_load1 Tryd.isAgg3 rfl e332) ?_
                                  refine s_pu (d := some 201) (v := (Sl.v js4)) rfl rfl (wants_yes rfl rfl rfl rfl g324) (r_move rfl) ?_
                                  refine s_pu (d := some 202) (v := (.int .i64 k27)) rfl rfl (wants_yes rfl rfl rfl rfl g324) (r_move rfl) ?_
                                  obtain ⟨p333, e334, e335, e336, H⟩ := H
                                  obtain ⟨q337, e338⟩ : ∃ q : Addr, q = Addr.add p333 (Int.toNat k27 * 1) := ⟨_, rfl⟩
                                  rw [← e338] at H
                                  refine s_pu (d := some 203) (v := (.pointer (some q337))) rfl rfl (wants_yes rfl rfl rfl rfl g324) (fun w => (r_indexAddr Tryd.underlying22 Tryd.sizeOf3 rfl rfl e334 e335 e336 w).trans (by rw [e338])) ?_
                                  obtain ⟨x339, e340, H⟩ := H
                                  refine s_rd (d := some 204) (v := (.int .i64 x339)) rfl rfl (wants_yes rfl rfl rfl rfl g324) (fun dr => r_load1 Tryd.isAgg3 rfl e340) ?_
                                  refine s_pu (d := some 205) (v := (.bool (decide (x331 = x339)))) rfl rfl (wants_yes rfl rfl rfl rfl g324) (r_eql rfl rfl) ?_
                                  refine s_pu (d := some 206) (v := (.bool (decide (x331 = x339)))) rfl rfl rfl (r_pick1 rfl g324 rfl) ?_
                                  refine s_fin ?_
                                  exact N_mk (l := [(0, (Sl.v l1)), (1, (Sl.v puts2)), (2, (Sl.v is3)), (3, (Sl.v js4)), (4, (Sl.v xs5)), (12, (.pointer y7)), (14, (.int .i64 ve55)), (16, (Sl.v y26)), (17, (.int .i64 k27)), (19, (.int .i64 ve55)), (206, (.bool (decide (x331 = x339))))]) H ⟨rfl, rfl, rfl, rfl, rfl, rfl, rfl, rfl, rfl, rfl, rfl, trivial⟩
                                · have H := H.2 g324
                                  refine s_sk (d := some 197) rfl rfl (wants_no rfl rfl rfl rfl g324) ?_
                                  refine s_sk (d := some 198) rfl rfl (wants_no rfl rfl rfl rfl g324) ?_
                                  refine s_sk (d := some 199) rfl rfl (wants_no rfl rfl rfl rfl g324) ?_
                                  refine s_skd (d := some 200) rfl rfl (wants_no rfl rfl rfl rfl g324) ?_
                                  refine s_sk (d := some 201) rfl rfl (wants_no rfl rfl rfl rfl g324) ?_
                                  refine s_sk (d := some 202) rfl rfl (wants_no rfl rfl rfl rfl g324) ?_
                                  refine s_sk (d := some 203) rfl rfl (wants_no rfl rfl rfl rfl g324) ?_
                                  refine s_skd (d := some 204) rfl rfl (wants_no rfl rfl rfl rfl g324) ?_
                                  refine s_sk (d := some 205) rfl rfl (wants_no rfl rfl rfl rfl g324) ?_
                                  refine s_pu (d := some 206) (v := (.bool false)) rfl rfl rfl (r_pick0 rfl g324 rfl) ?_
                                  refine s_fin ?_
                                  exact N_mk (l := [(0, (Sl.v l1)), (1, (Sl.v puts2)), (2, (Sl.v is3)), (3, (Sl.v js4)), (4, (Sl.v xs5)), (12, (.pointer y7)), (14, (.int .i64 ve55)), (16, (Sl.v y26)), (17, (.int .i64 k27)), (19, (.int .i64 ve55)), (206, (.bool false))]) H ⟨rfl, rfl, rfl, rfl, rfl, rfl, rfl, rfl, rfl, rfl, rfl, trivial⟩)
                            clear eN99
                            refine W_region (.pu 0 (.pu 1 (.pu 2 (.pu 3 (.pu 4 (.pu 5 (.pu 6 (.rl 7 (.pu 8 (.pu 9 .fin)))))))))) rfl rfl ?_
                            refine s_pu (d := some 160) (v := (.int .i64 ve55)) rfl rfl rfl (r_move rfl) ?_
                            refine s_pu (d := some 161) (v := (.bool (decide (ve55 = 0)))) rfl rfl rfl (r_eql rfl rfl) ?_
                            refine s_pu (d := some 162) (v := (.bool (decide (ve55 = 0)))) rfl rfl rfl (r_move rfl) ?_
                            rcases Bool.eq_false_or_eq_true (decide (ve55 = 0)) with g342 | g342
                            · have H := H.1 g342
                              refine s_pu (d := some 163) (v := (.int .i64 i95)) rfl rfl (wants_yes rfl rfl rfl rfl g342) (r_move rfl) ?_
                              refine s_pu (d := some 164) (v := (Sl.v js4)) rfl rfl (wants_yes rfl rfl rfl rfl g342) (r_move rfl) ?_
                              refine s_pu (d := some 165) (v := (.int .i64 k27)) rfl rfl (wants_yes rfl rfl rfl rfl g342) (r_move rfl) ?_
                              obtain ⟨p343, e344, e345, e346, H⟩ := H
                              obtain ⟨q347, e348⟩ : ∃ q : Addr, q = Addr.add p343 (Int.toNat k27 * 1) := ⟨_, rfl⟩
                              rw [← e348] at H
                              refine s_pu (d := some 166) (v := (.pointer (some q347))) rfl rfl (wants_yes rfl rfl rfl rfl g342) (fun w => (r_indexAddr Tryd.underlying22 Tryd.sizeOf3 rfl rfl e344 e345 e346 w).trans (by rw [e348])) ?_
                              obtain ⟨x349, e350, H⟩ := H
                              refine s_rl (d := some 167) (v := (.int .i64 x349)) rfl rfl (wants_yes rfl rfl rfl rfl g342) (fun dr => r_load1 Tryd.isAgg3 rfl e350) ?_
                              refine s_pu (d := some 168) (v := (.bool (decide (i95 < x349)))) rfl rfl (wants_yes rfl rfl rfl rfl g342) (r_lss rfl rfl) ?_
                              refine s_pu (d := some 169) (v := (.bool (decide (i95 < x349)))) rfl rfl rfl (r_pick1 rfl g342 rfl) ?_
                              refine s_fin ?_
                              exact N_mk (l := [(0, (Sl.v l1)), (1, (Sl.v puts2)), (2, (Sl.v is3)), (3, (Sl.v js4)), (4, (Sl.v xs5)), (12, (.pointer y7)), (14, (.int .i64 ve55)), (16, (Sl.v y26)), (17, (.int .i64 k27)), (18, (.int .i64 i95)), (169, (.bool (decide (i95 < x349))))]) H ⟨rfl, rfl, rfl, rfl, rfl, rfl, rfl, rfl, rfl, rfl, rfl, trivial⟩
                            · have H := H.2 g342
                              refine s_sk (d := some 163) rfl rfl (wants_no rfl rfl rfl rfl g342) ?_
                              refine s_sk (d := some 164) rfl rfl (wants_no rfl rfl rfl rfl g342) ?_
                              refine s_sk (d := some 165) rfl rfl (wants_no rfl rfl rfl rfl g342) ?_
                              refine s_sk (d := some 166) rfl rfl (wants_no rfl rfl rfl rfl g342) ?_
                              refine s_skl (d := some 167) rfl rfl (wants_no rfl rfl rfl rfl g342) ?_
                              refine s_sk (d := some 168) rfl rfl (wants_no rfl rfl rfl rfl g342) ?_
                              refine s_pu (d := some 169) (v := (.bool false)) rfl rfl rfl (r_pick0 rfl g342 rfl) ?_
                              refine s_fin ?_
                              exact N_mk (l := [(0, (Sl.v l1)), (1, (Sl.v puts2)), (2, (Sl.v is3)), (3, (Sl.v js4)), (4, (Sl.v xs5)), (12, (.pointer y7)), (14, (.int .i64 ve55)), (16, (Sl.v y26)), (17, (.int .i64 k27)), (18, (.int .i64 i95)), (169, (.bool false))]) H ⟨rfl, rfl, rfl, rfl, rfl, rfl, rfl, rfl, rfl, rfl, rfl, trivial⟩)
                        clear eN85
                        refine W_if x81 rfl (fun g404 => ?_) (fun g404 => ?_)
                        · have H := H.1 g404
                          refine W_draw [0, 0, 0, 6, 14, 0, 0, 96, 224, 0, 0, 1536, 3584, 8191, 16383] (.pu 0 (.pu 1 (.pu 2 (.pu 3 (.rd 4 (.pu 5 (.pu 6 (.pu 7 (.rd 8 (.pu 9 (.pu 10 (.pu 11 (.rd 12 (.ef 13 [4, 8, 12] (.pu 14 .fin) .no)))))))))))))) (by kernel_rfl) (by kernel_rfl) ?_
                          refine s_pu (d := some 121) (v := (.pointer y7)) rfl rfl rfl (r_move rfl) ?_
                          refine s_pu (d := some 122) (v := (Sl.v is3)) rfl rfl rfl (r_move rfl) ?_
                          refine s_pu (d := some 123) (v := (.int .i64 k27)) rfl rfl rfl (r_move rfl) ?_
                          obtain ⟨p352, e353, e354, e355, H⟩ := H
                          obtain ⟨q356, e357⟩ : ∃ q : Addr, q = Addr.add p352 (Int.toNat k27 * 1) := ⟨_, rfl⟩
                          rw [← e357] at H
                          refine s_pu (d := some 124) (v := (.pointer (some q356))) rfl rfl rfl (fun w => (r_indexAddr Tryd.underlying22 Tryd.sizeOf3 rfl rfl e353 e354 e355 w).trans (by rw [e357])) ?_
                          obtain ⟨x358, e359, H⟩ := H
                          refine s_rd (d := some 125) (v := (.int .i64 x358)) rfl rfl rfl (fun dr => r_load1 Tryd.isAgg3 rfl e359) ?_
                          refine s_pu (d := some 126) (v := (Sl.v js4)) rfl rfl rfl (r_move rfl) ?_
                          refine s_pu (d := some 127) (v := (.int .i64 k27)) rfl rfl rfl (r_move rfl) ?_
                          obtain ⟨p360, e361, e362, e363, H⟩ := H
                          obtain ⟨q364, e365⟩ : ∃ q : Addr, q = Addr.add p360 (Int.toNat k27 * 1) := ⟨_, rfl⟩
                          rw [← e365] at H
                          refine s_pu (d := some 128) (v := (.pointer (some q364))) rfl rfl rfl (fun w => (r_indexAddr Tryd.underlying22 Tryd.sizeOf3 rfl rfl e361 e362 e363 w).trans (by rw [e365])) ?_
                          obtain ⟨x366, e367, H⟩ := H
                          refine s_rd (d := some 129) (v := (.int .i64 x366)) rfl rfl rfl (fun dr => r_load1 Tryd.isAgg3 rfl e367) ?_
                          refine s_pu (d := some 130) (v := (Sl.v xs5)) rfl rfl rfl (r_move rfl) ?_
                          refine s_pu (d := some 131) (v := (.int .i64 k27)) rfl rfl rfl (r_move rfl) ?_
                          obtain ⟨p368, e369, e370, e371, H⟩ := H
                          obtain ⟨q372, e373⟩ : ∃ q : Addr, q = Addr.add p368 (Int.toNat k27 * 1) := ⟨_, rfl⟩
                          rw [← e373] at H
                          refine s_pu (d := some 132) (v := (.pointer (some q372))) rfl rfl rfl (fun w => (r_indexAddr Tryd.underlying22 Tryd.sizeOf3 rfl rfl e369 e370 e371 w).trans (by rw [e373])) ?_
                          obtain ⟨x374, e375, H⟩ := H
                          refine s_rd (d := some 133) (v := (.int .i64 x374)) rfl rfl rfl (fun dr => r_load1 Tryd.isAgg3 rfl e375) ?_
                          refine s_ef (d := some 134) rfl rfl rfl (fun dr => r_call Tryd.call42 rfl rfl H) ?_ trivial
                          rintro y376 h27 H
                          refine ⟨⟨trivial, trivial, trivial, trivial⟩, ?_⟩
                          refine s_pu (d := some 13) (v := y376) rfl rfl rfl (r_assign rfl) ?_
                          refine s_fin ?_
                          exact N_mk (l := [(0, (Sl.v l1)), (1, (Sl.v puts2)), (2, (Sl.v is3)), (3, (Sl.v js4)), (4, (Sl.v xs5)), (12, (.pointer y7)), (13, y376), (14, (.int .i64 ve55)), (16, (Sl.v y26)), (17, (.int .i64 k27))]) H ⟨rfl, rfl, rfl, rfl, rfl, rfl, rfl, rfl, rfl, rfl, trivial⟩
                        · have H := H.2 g404
                          refine W_seq ?_
                          refine W_region (.pu 0 (.pu 1 .fin)) rfl rfl ?_
                          refine s_pu (d := some 135) (v := y74) rfl rfl rfl (r_move rfl) ?_
                          obtain ⟨e377, H⟩ := H
                          refine s_pu (d := some 136) (v := (.bool (isNil y74))) rfl rfl rfl (r_nilI Tryd.underlying26 rfl e377 rfl) ?_
                          refine s_fin ?_
                          show W _ _ _ _ _ _ _ _
                          refine W_if (isNil y74) rfl (fun g403 => ?_) (fun g403 => ?_)
                          · have H := H.1 g403
                            refine W_draw [0, 0, 0, 6, 14, 0, 0, 96, 224, 0, 0, 1536, 3584, 8191, 16383] (.pu 0 (.pu 1 (.pu 2 (.pu 3 (.rd 4 (.pu 5 (.pu 6 (.pu 7 (.rd 8 (.pu 9 (.pu 10 (.pu 11 (.rd 12 (.ef 13 [4, 8, 12] (.pu 14 .fin) .no)))))))))))))) (by kernel_rfl) (by kernel_rfl) ?_
                            refine s_pu (d := some 137) (v := (.pointer y7)) rfl rfl rfl (r_move rfl) ?_
                            refine s_pu (d := some 138) (v := (Sl.v is3)) rfl rfl rfl (r_move rfl) ?_
                            refine s_pu (d := some 139) (v := (.int .i64 k27)) rfl rfl rfl (r_move rfl) ?_
                            obtain ⟨p378, e379, e380, e381, H⟩ := H
                            obtain ⟨q382, e383⟩ : ∃ q : Addr, q = Addr.add p378 (Int.toNat k27 * 1) := ⟨_, rfl⟩
                            rw [← e383] at H
                            refine s_pu (d := some 140) (v := (.pointer (some q382))) rfl rfl rfl (fun w => (r_indexAddr Tryd.underlying22 Tryd.sizeOf3 rfl rfl e379 e380 e381 w).trans (by rw [e383])) ?_
                            obtain ⟨x384, e385, H⟩ := H
                            refine s_rd (d := some 141) (v := (.int .i64 x384)) rfl rfl rfl (fun dr => r_load1 Tryd.isAgg3 rfl e385) ?_
                            refine s_pu (d := some 142) (v := (Sl.v js4)) rfl rfl rfl (r_move rfl) ?_
                            refine s_pu (d := some 143) (v := (.int .i64 k27)) rfl rfl rfl (r_move rfl) ?_
                            obtain ⟨p386, e387, e388, e389, H⟩ := H
                            obtain ⟨q390, e391⟩ : ∃ q : Addr, q = Addr.add p386 (Int.toNat k27 * 1) := ⟨_, rfl⟩
                            rw [← e391] at H
                            refine s_pu (d := some 144) (v := (.pointer (some q390))) rfl rfl rfl (fun w => (r_indexAddr Tryd.underlying22 Tryd.sizeOf3 rfl rfl e387 e388 e389 w).trans (by rw [e391])) ?_
                            obtain ⟨x392, e393, H⟩ := H
                            refine s_rd (d := some 145) (v := (.int .i64 x392)) rfl rfl rfl (fun dr => r_load1 Tryd.isAgg3 rfl e393) ?_
                            refine s_pu (d := some 146) (v := (Sl.v xs5)) rfl rfl rfl (r_move rfl) ?_
                            refine s_pu (d := some 147) (v := (.int .i64 k27)) rfl rfl rfl (r_move rfl) ?_
                            obtain ⟨p394, e395, e396, e397, H⟩ := H
                            obtain ⟨q398, e399⟩ : ∃ q : Addr, q = Addr.add p394 (Int.toNat k27 * 1) := ⟨_, rfl⟩
                            rw [← e399] at H
                            refine s_pu (d := some 148) (v := (.pointer (some q398))) rfl rfl rfl (fun w => (r_indexAddr Tryd.underlying22 Tryd.sizeOf3 rfl rfl e395 e396 e397 w).trans (by rw [e399])) ?_
                            obtain ⟨x400, e401, H⟩ := H
                            refine s_rd (d := some 149) (v := (.int .i64 x400)) rfl rfl rfl (fun dr => r_load1 Tryd.isAgg3 rfl e401) ?_
                            refine s_ef (d := some 150) rfl rfl rfl (fun dr => r_call Tryd.call41 rfl rfl H) ?_ trivial
                            rintro y402 h28 H
                            refine ⟨⟨trivial, trivial, trivial, trivial⟩, ?_⟩
                            refine s_pu (d := some 13) (v := y402) rfl rfl rfl (r_assign rfl) ?_
                            refine s_fin ?_
                            exact N_mk (l := [(0, (Sl.v l1)), (1, (Sl.v puts2)), (2, (Sl.v is3)), (3, (Sl.v js4)), (4, (Sl.v xs5)), (12, (.pointer y7)), (13, y402), (14, (.int .i64 ve55)), (16, (Sl.v y26)), (17, (.int .i64 k27))]) H ⟨rfl, rfl, rfl, rfl, rfl, rfl, rfl, rfl, rfl, rfl, trivial⟩
                          · have H := H.2 g403
                            refine W_skip ?_
                            exact N_mk (l := [(0, (Sl.v l1)), (1, (Sl.v puts2)), (2, (Sl.v is3)), (3, (Sl.v js4)), (4, (Sl.v xs5)), (12, (.pointer y7)), (13, y74), (14, (.int .i64 ve55)), (16, (Sl.v y26)), (17, (.int .i64 k27))]) H ⟨rfl, rfl, rfl, rfl, rfl, rfl, rfl, rfl, rfl, rfl, trivial⟩)
                      clear eN57
                      refine W_if (!y54) rfl (fun g405 => ?_) (fun g405 => ?_)
                      · have H := H.1 g405
                        refine W_region (.pu 0 .fin) rfl rfl ?_
                        refine s_pu (d := some 14) (v := (.int .i64 1)) rfl rfl rfl (r_assign rfl) ?_
                        refine s_fin ?_
                        exact N_mk (l := [(0, (Sl.v l1)), (1, (Sl.v puts2)), (2, (Sl.v is3)), (3, (Sl.v js4)), (4, (Sl.v xs5)), (12, (.pointer y7)), (14, (.int .i64 1)), (16, (Sl.v y26)), (17, (.int .i64 k27))]) H ⟨rfl, rfl, rfl, rfl, rfl, rfl, rfl, rfl, rfl, trivial⟩
                      · have H := H.2 g405
                        refine W_skip ?_
                        exact N_mk (l := [(0, (Sl.v l1)), (1, (Sl.v puts2)), (2, (Sl.v is3)), (3, (Sl.v js4)), (4, (Sl.v xs5)), (12, (.pointer y7)), (14, (.int .i64 0)), (16, (Sl.v y26)), (17, (.int .i64 k27))]) H ⟨rfl, rfl, rfl, rfl, rfl, rfl, rfl, rfl, rfl, trivial⟩
                    · have H := H.2 g406
                      refine W_exit (inX_here ?_)
                      show W _ _ _ _ _ _ _ _
                      refine W_seq ?_
                      refine W_region (.pu 0 .fin) rfl rfl ?_
                      refine s_pu (d := some 10) (v := (.bool true)) rfl rfl rfl (r_assign rfl) ?_
                      refine s_fin ?_
                      show W _ _ _ _ _ _ _ _
                      refine W_ret ?_
                      exact ⟨[(.bool true)], ⟨_, _, rfl, rfl, rfl⟩, true, rfl, H⟩
                  · rcases Bool.eq_false_or_eq_true (((decide (k27 < ((puts2.len : Int)))) && (decide (k27 < ((is3.len : Int))))) && (decide (k27 < ((js4.len : Int))))) with g35 | g35
                    · refine s_pu (d := some 88) (v := (.int .i64 k27)) rfl rfl (wants_yes rfl rfl rfl rfl g35) (r_move rfl) ?_
                      refine s_pu (d := some 89) (v := (Sl.v xs5)) rfl rfl (wants_yes rfl rfl rfl rfl g35) (r_move rfl) ?_
                      refine s_pu (d := some 90) (v := (.int .i64 ((xs5.len : Int)))) rfl rfl (wants_yes rfl rfl rfl rfl g35) (r_len Tryd.underlying22 rfl) ?_
                      refine s_pu (d := some 91) (v := (.bool (decide (k27 < ((xs5.len : Int)))))) rfl rfl (wants_yes rfl rfl rfl rfl g35) (r_lss rfl rfl) ?_
                      refine s_pu (d := some 92) (v := (.bool (decide (k27 < ((xs5.len : Int)))))) rfl rfl rfl (r_pick1 rfl g35 rfl) ?_
                      exact S_mk (l := [(0, (Sl.v l1)), (1, (Sl.v puts2)), (2, (Sl.v is3)), (3, (Sl.v js4)), (4, (Sl.v xs5)), (12, (.pointer y7)), (16, (Sl.v y26)), (17, (.int .i64 k27)), (92, (.bool ((((decide (k27 < ((puts2.len : Int)))) && (decide (k27 < ((is3.len : Int))))) && (decide (k27 < ((js4.len : Int))))) && (decide (k27 < ((xs5.len : Int)))))))]) HJ ⟨rfl, rfl, rfl, rfl, rfl, rfl, rfl, rfl, (by rw [g35]; rfl), trivial⟩
                    · refine s_sk (d := some 88) rfl rfl (wants_no rfl rfl rfl rfl g35) ?_
                      refine s_sk (d := some 89) rfl rfl (wants_no rfl rfl rfl rfl g35) ?_
                      refine s_sk (d := some 90) rfl rfl (wants_no rfl rfl rfl rfl g35) ?_
                      refine s_sk (d := some 91) rfl rfl (wants_no rfl rfl rfl rfl g35) ?_
                      refine s_pu (d := some 92) (v := (.bool false)) rfl rfl rfl (r_pick0 rfl g35 rfl) ?_
                      exact S_mk (l := [(0, (Sl.v l1)), (1, (Sl.v puts2)), (2, (Sl.v is3)), (3, (Sl.v js4)), (4, (Sl.v xs5)), (12, (.pointer y7)), (16, (Sl.v y26)), (17, (.int .i64 k27)), (92, (.bool ((((decide (k27 < ((puts2.len : Int)))) && (decide (k27 < ((is3.len : Int))))) && (decide (k27 < ((js4.len : Int))))) && (decide (k27 < ((xs5.len : Int)))))))]) HJ ⟨rfl, rfl, rfl, rfl, rfl, rfl, rfl, rfl, (by rw [g35]; rfl), trivial⟩
                · rcases Bool.eq_false_or_eq_true ((decide (k27 < ((puts2.len : Int)))) && (decide (k27 < ((is3.len : Int))))) with g32 | g32
                  · refine s_pu (d := some 82) (v := (.int .i64 k27)) rfl rfl (wants_yes rfl rfl rfl rfl g32) (r_move rfl) ?_
                    refine s_pu (d := some 83) (v := (Sl.v js4)) rfl rfl (wants_yes rfl rfl rfl rfl g32) (r_move rfl) ?_
                    refine s_pu (d := some 84) (v := (.int .i64 ((js4.len : Int)))) rfl rfl (wants_yes rfl rfl rfl rfl g32) (r_len Tryd.underlying22 rfl) ?_
                    refine s_pu (d := some 85) (v := (.bool (decide (k27 < ((js4.len : Int)))))) rfl rfl (wants_yes rfl rfl rfl rfl g32) (r_lss rfl rfl) ?_
                    refine s_pu (d := some 86) (v := (.bool (decide (k27 < ((js4.len : Int)))))) rfl rfl rfl (r_pick1 rfl g32 rfl) ?_
                    exact S_mk (l := [(0, (Sl.v l1)), (1, (Sl.v puts2)), (2, (Sl.v is3)), (3, (Sl.v js4)), (4, (Sl.v xs5)), (12, (.pointer y7)), (16, (Sl.v y26)), (17, (.int .i64 k27)), (86, (.bool (((decide (k27 < ((puts2.len : Int)))) && (decide (k27 < ((is3.len : Int))))) && (decide (k27 < ((js4.len : Int)))))))]) HJ ⟨rfl, rfl, rfl, rfl, rfl, rfl, rfl, rfl, (by rw [g32]; rfl), trivial⟩
                  · refine s_sk (d := some 82) rfl rfl (wants_no rfl rfl rfl rfl g32) ?_
                    refine s_sk (d := some 83) rfl rfl (wants_no rfl rfl rfl rfl g32) ?_
                    refine s_sk (d := some 84) rfl rfl (wants_no rfl rfl rfl rfl g32) ?_
                    refine s_sk (d := some 85) rfl rfl (wants_no rfl rfl rfl rfl g32) ?_
                    refine s_pu (d := some 86) (v := (.bool false)) rfl rfl rfl (r_pick0 rfl g32 rfl) ?_
                    exact S_mk (l := [(0, (Sl.v l1)), (1, (Sl.v puts2)), (2, (Sl.v is3)), (3, (Sl.v js4)), (4, (Sl.v xs5)), (12, (.pointer y7)), (16, (Sl.v y26)), (17, (.int .i64 k27)), (86, (.bool (((decide (k27 < ((puts2.len : Int)))) && (decide (k27 < ((is3.len : Int))))) && (decide (k27 < ((js4.len : Int)))))))]) HJ ⟨rfl, rfl, rfl, rfl, rfl, rfl, rfl, rfl, (by rw [g32]; rfl), trivial⟩
              · rcases Bool.eq_false_or_eq_true (decide (k27 < ((puts2.len : Int)))) with g29 | g29
                · refine s_pu (d := some 76) (v := (.int .i64 k27)) rfl rfl (wants_yes rfl rfl rfl rfl g29) (r_move rfl) ?_
                  refine s_pu (d := some 77) (v := (Sl.v is3)) rfl rfl (wants_yes rfl rfl rfl rfl g29) (r_move rfl) ?_
                  refine s_pu (d := some 78) (v := (.int .i64 ((is3.len : Int)))) rfl rfl (wants_yes rfl rfl rfl rfl g29) (r_len Tryd.underlying22 rfl) ?_
                  refine s_pu (d := some 79) (v := (.bool (decide (k27 < ((is3.len : Int)))))) rfl rfl (wants_yes rfl rfl rfl rfl g29) (r_lss rfl rfl) ?_
                  refine s_pu (d := some 80) (v := (.bool (decide (k27 < ((is3.len : Int)))))) rfl rfl rfl (r_pick1 rfl g29 rfl) ?_
                  exact S_mk (l := [(0, (Sl.v l1)), (1, (Sl.v puts2)), (2, (Sl.v is3)), (3, (Sl.v js4)), (4, (Sl.v xs5)), (12, (.pointer y7)), (16, (Sl.v y26)), (17, (.int .i64 k27)), (80, (.bool ((decide (k27 < ((puts2.len : Int)))) && (decide (k27 < ((is3.len : Int)))))))]) HJ ⟨rfl, rfl, rfl, rfl, rfl, rfl, rfl, rfl, (by rw [g29]; rfl), trivial⟩
                · refine s_sk (d := some 76) rfl rfl (wants_no rfl rfl rfl rfl g29) ?_
                  refine s_sk (d := some 77) rfl rfl (wants_no rfl rfl rfl rfl g29) ?_
                  refine s_sk (d := some 78) rfl rfl (wants_no rfl rfl rfl rfl g29) ?_
                  refine s_sk (d := some 79) rfl rfl (wants_no rfl rfl rfl rfl g29) ?_
                  refine s_pu (d := some 80) (v := (.bool false)) rfl rfl rfl (r_pick0 rfl g29 rfl) ?_
                  exact S_mk (l := [(0, (Sl.v l1)), (1, (Sl.v puts2)), (2, (Sl.v is3)), (3, (Sl.v js4)), (4, (Sl.v xs5)), (12, (.pointer y7)), (16, (Sl.v y26)), (17, (.int .i64 k27)), (80, (.bool ((decide (k27 < ((puts2.len : Int)))) && (decide (k27 < ((is3.len : Int)))))))]) HJ ⟨rfl, rfl, rfl, rfl, rfl, rfl, rfl, rfl, (by rw [g29]; rfl), trivial⟩
          · rcases Bool.eq_false_or_eq_true ((!decide (ve9 = 0)) || (decide (60 < ((l1.len : Int))))) with g23 | g23
            · refine s_sk (d := some 65) rfl rfl (wants_no rfl rfl rfl rfl g23) ?_
              refine s_sk (d := some 66) rfl rfl (wants_no rfl rfl rfl rfl g23) ?_
              refine s_sk (d := some 67) rfl rfl (wants_no rfl rfl rfl rfl g23) ?_
              refine s_pu (d := some 68) (v := (.bool true)) rfl rfl rfl (r_pick1 rfl g23 rfl) ?_
              exact S_mk (l := [(0, (Sl.v l1)), (1, (Sl.v puts2)), (2, (Sl.v is3)), (3, (Sl.v js4)), (4, (Sl.v xs5)), (12, (.pointer y7)), (68, (.bool (((!decide (ve9 = 0)) || (decide (60 < ((l1.len : Int))))) || (decide (20 < ((puts2.len : Int)))))))]) HJ ⟨rfl, rfl, rfl, rfl, rfl, rfl, (by rw [g23]; rfl), trivial⟩
            · refine s_pu (d := some 65) (v := (Sl.v puts2)) rfl rfl (wants_yes rfl rfl rfl rfl g23) (r_move rfl) ?_
              refine s_pu (d := some 66) (v := (.int .i64 ((puts2.len : Int)))) rfl rfl (wants_yes rfl rfl rfl rfl g23) (r_len Tryd.underlying61 rfl) ?_
              refine s_pu (d := some 67) (v := (.bool (decide (20 < ((puts2.len : Int)))))) rfl rfl (wants_yes rfl rfl rfl rfl g23) (r_gtr rfl rfl) ?_
              refine s_pu (d := some 68) (v := (.bool (decide (20 < ((puts2.len : Int)))))) rfl rfl rfl (r_pick0 rfl g23 rfl) ?_
              exact S_mk (l := [(0, (Sl.v l1)), (1, (Sl.v puts2)), (2, (Sl.v is3)), (3, (Sl.v js4)), (4, (Sl.v xs5)), (12, (.pointer y7)), (68, (.bool (((!decide (ve9 = 0)) || (decide (60 < ((l1.len : Int))))) || (decide (20 < ((puts2.len : Int)))))))]) HJ ⟨rfl, rfl, rfl, rfl, rfl, rfl, (by rw [g23]; rfl), trivial⟩
        · rcases Bool.eq_false_or_eq_true (!decide (ve9 = 0)) with g20 | g20
          · refine s_sk (d := some 60) rfl rfl (wants_no rfl rfl rfl rfl g20) ?_
            refine s_sk (d := some 61) rfl rfl (wants_no rfl rfl rfl rfl g20) ?_
            refine s_sk (d := some 62) rfl rfl (wants_no rfl rfl rfl rfl g20) ?_
            refine s_pu (d := some 63) (v := (.bool true)) rfl rfl rfl (r_pick1 rfl g20 rfl) ?_
            exact S_mk (l := [(0, (Sl.v l1)), (1, (Sl.v puts2)), (2, (Sl.v is3)), (3, (Sl.v js4)), (4, (Sl.v xs5)), (12, (.pointer y7)), (63, (.bool ((!decide (ve9 = 0)) || (decide (60 < ((l1.len : Int)))))))]) HJ ⟨rfl, rfl, rfl, rfl, rfl, rfl, (by rw [g20]; rfl), trivial⟩
          · refine s_pu (d := some 60) (v := (Sl.v l1)) rfl rfl (wants_yes rfl rfl rfl rfl g20) (r_move rfl) ?_
            refine s_pu (d := some 61) (v := (.int .i64 ((l1.len : Int)))) rfl rfl (wants_yes rfl rfl rfl rfl g20) (r_len Tryd.underlying22 rfl) ?_
            refine s_pu (d := some 62) (v := (.bool (decide (60 < ((l1.len : Int)))))) rfl rfl (wants_yes rfl rfl rfl rfl g20) (r_gtr rfl rfl) ?_
            refine s_pu (d := some 63) (v := (.bool (decide (60 < ((l1.len : Int)))))) rfl rfl rfl (r_pick0 rfl g20 rfl) ?_
            exact S_mk (l := [(0, (Sl.v l1)), (1, (Sl.v puts2)), (2, (Sl.v is3)), (3, (Sl.v js4)), (4, (Sl.v xs5)), (12, (.pointer y7)), (63, (.bool ((!decide (ve9 = 0)) || (decide (60 < ((l1.len : Int)))))))]) HJ ⟨rfl, rfl, rfl, rfl, rfl, rfl, (by rw [g20]; rfl), trivial⟩)
    clear eN19
    refine W_region (.pu 0 (.pu 1 (.pu 2 (.pu 3 (.pu 4 (.pu 5 (.pu 6 (.pu 7 (.pu 8 (.pu 9 (.pu 10 (.pu 11 (.pu 12 (.pu 13 .fin)))))))))))))) rfl rfl ?_
    refine s_pu (d := some 43) (v := (.bool y6)) rfl rfl rfl (r_move rfl) ?_
    refine s_pu (d := some 44) (v := (.bool (!y6))) rfl rfl rfl (r_not rfl) ?_
    refine s_pu (d := some 45) (v := (.bool (!y6))) rfl rfl rfl (r_move rfl) ?_
    rcases Bool.eq_false_or_eq_true (!y6) with g418 | g418
    · have H := H.1 g418
      refine s_sk (d := some 46) rfl rfl (wants_no rfl rfl rfl rfl g418) ?_
      refine s_sk (d := some 47) rfl rfl (wants_no rfl rfl rfl rfl g418) ?_
      refine s_pu (d := some 48) (v := (.bool true)) rfl rfl rfl (r_pick1 rfl g418 rfl) ?_
      refine s_pu (d := some 49) (v := (.bool true)) rfl rfl rfl (r_move rfl) ?_
      refine s_sk (d := some 50) rfl rfl (wants_no rfl rfl rfl rfl rfl) ?_
      refine s_sk (d := some 51) rfl rfl (wants_no rfl rfl rfl rfl rfl) ?_
      refine s_sk (d := some 52) rfl rfl (wants_no rfl rfl rfl rfl rfl) ?_
      refine s_sk (d := some 53) rfl rfl (wants_un rfl rfl rfl) ?_
      refine s_sk (d := some 54) rfl rfl (wants_un rfl rfl rfl) ?_
      refine s_sk (d := some 55) rfl rfl (wants_no rfl rfl rfl rfl rfl) ?_
      refine s_pu (d := some 56) (v := (.bool true)) rfl rfl rfl (r_pick1 rfl rfl rfl) ?_
      refine s_fin ?_
      exact N_mk (l := [(0, (Sl.v l1)), (1, (Sl.v puts2)), (2, (Sl.v is3)), (3, (Sl.v js4)), (4, (Sl.v xs5)), (12, (.pointer y7)), (14, (.int .i64 ve9)), (56, (.bool true))]) H ⟨rfl, rfl, rfl, rfl, rfl, rfl, rfl, rfl, trivial⟩
    · have H := H.2 g418
      refine s_pu (d := some 46) (v := (.bool y12)) rfl rfl (wants_yes rfl rfl rfl rfl g418) (r_move rfl) ?_
      refine s_pu (d := some 47) (v := (.bool (!y12))) rfl rfl (wants_yes rfl rfl rfl rfl g418) (r_not rfl) ?_
      refine s_pu (d := some 48) (v := (.bool (!y12))) rfl rfl rfl (r_pick0 rfl g418 rfl) ?_
      refine s_pu (d := some 49) (v := (.bool (!y12))) rfl rfl rfl (r_move rfl) ?_
      rcases Bool.eq_false_or_eq_true (!y12) with g419 | g419
      · have H := H.1 g419
        refine s_sk (d := some 50) rfl rfl (wants_no rfl rfl rfl rfl g419) ?_
        refine s_sk (d := some 51) rfl rfl (wants_no rfl rfl rfl rfl g419) ?_
        refine s_sk (d := some 52) rfl rfl (wants_no rfl rfl rfl rfl g419) ?_
        refine s_sk (d := some 53) rfl rfl (wants_un rfl rfl rfl) ?_
        refine s_sk (d := some 54) rfl rfl (wants_un rfl rfl rfl) ?_
        refine s_sk (d := some 55) rfl rfl (wants_no rfl rfl rfl rfl g419) ?_
        refine s_pu (d := some 56) (v := (.bool true)) rfl rfl rfl (r_pick1 rfl g419 rfl) ?_
        refine s_fin ?_
        exact N_mk (l := [(0, (Sl.v l1)), (1, (Sl.v puts2)), (2, (Sl.v is3)), (3, (Sl.v js4)), (4, (Sl.v xs5)), (12, (.pointer y7)), (14, (.int .i64 ve9)), (56, (.bool true))]) H ⟨rfl, rfl, rfl, rfl, rfl, rfl, rfl, rfl, trivial⟩
      · have H := H.2 g419
        refine s_pu (d := some 50) (v := (.int .i64 ve9)) rfl rfl (wants_yes rfl rfl rfl rfl g419) (r_move rfl) ?_
        refine s_pu (d := some 51) (v := (.bool (!decide (ve9 = 0)))) rfl rfl (wants_yes rfl rfl rfl rfl g419) (r_neq rfl rfl) ?_
        refine s_pu (d := some 52) (v := (.bool (!decide (ve9 = 0)))) rfl rfl (wants_yes rfl rfl rfl rfl g419) (r_move rfl) ?_
        rcases Bool.eq_false_or_eq_true (!decide (ve9 = 0)) with g420 | g420
        · have H := H.1 g420
          refine s_pu (d := some 53) (v := (.pointer y7)) rfl rfl (wants_yes rfl rfl rfl rfl g420) (r_move rfl) ?_
          refine s_pu (d := some 54) (v := (.bool (!(Option.isNone y7)))) rfl rfl (wants_yes rfl rfl rfl rfl g420) (r_notNilP Tryd.underlying62 rfl rfl) ?_
          refine s_pu (d := some 55) (v := (.bool (!(Option.isNone y7)))) rfl rfl (wants_yes rfl rfl rfl rfl g419) (r_pick1 rfl g420 rfl) ?_
          refine s_pu (d := some 56) (v := (.bool (!(Option.isNone y7)))) rfl rfl rfl (r_pick0 rfl g419 rfl) ?_
          refine s_fin ?_
          exact N_mk (l := [(0, (Sl.v l1)), (1, (Sl.v puts2)), (2, (Sl.v is3)), (3, (Sl.v js4)), (4, (Sl.v xs5)), (12, (.pointer y7)), (14, (.int .i64 ve9)), (56, (.bool (!(Option.isNone y7))))]) H ⟨rfl, rfl, rfl, rfl, rfl, rfl, rfl, rfl, trivial⟩
        · have H := H.2 g420
          refine s_sk (d := some 53) rfl rfl (wants_no rfl rfl rfl rfl g420) ?_
          refine s_sk (d := some 54) rfl rfl (wants_no rfl rfl rfl rfl g420) ?_
          refine s_pu (d := some 55) (v := (.bool false)) rfl rfl (wants_yes rfl rfl rfl rfl g419) (r_pick0 rfl g420 rfl) ?_
          refine s_pu (d := some 56) (v := (.bool false)) rfl rfl rfl (r_pick0 rfl g419 rfl) ?_
          refine s_fin ?_
          exact N_mk (l := [(0, (Sl.v l1)), (1, (Sl.v puts2)), (2, (Sl.v is3)), (3, (Sl.v js4)), (4, (Sl.v xs5)), (12, (.pointer y7)), (14, (.int .i64 ve9)), (56, (.bool false))]) H ⟨rfl, rfl, rfl, rfl, rfl, rfl, rfl, rfl, trivial⟩)
  clear eN11
  refine W_if (decide (5000 < ((l1.len : Int)))) rfl (fun g421 => ?_) (fun g421 => ?_)
  · have H := H.1 g421
    refine W_region (.pu 0 .fin) rfl rfl ?_
    refine s_pu (d := some 14) (v := (.int .i64 4)) rfl rfl rfl (r_assign rfl) ?_
    refine s_fin ?_
    exact N_mk (l := [(0, (Sl.v l1)), (1, (Sl.v puts2)), (2, (Sl.v is3)), (3, (Sl.v js4)), (4, (Sl.v xs5)), (11, (.bool y6)), (12, (.pointer y7)), (13, y8), (14, (.int .i64 4))]) H ⟨rfl, rfl, rfl, rfl, rfl, rfl, rfl, rfl, rfl, trivial⟩
  · have H := H.2 g421
    refine W_skip ?_
    exact N_mk (l := [(0, (Sl.v l1)), (1, (Sl.v puts2)), (2, (Sl.v is3)), (3, (Sl.v js4)), (4, (Sl.v xs5)), (11, (.bool y6)), (12, (.pointer y7)), (13, y8), (14, (.int .i64 0))]) H ⟨rfl, rfl, rfl, rfl, rfl, rfl, rfl, rfl, rfl, trivial⟩

end Go.Proofs.YtcafckgflpmfgaaDoor
