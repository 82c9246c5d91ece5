/- Typed words of functions, and that they hold: printed by gen.py (an own tool of this claim) off the model's own form of each function. -/
import Derived.Test.YtmjljnbjoldeaaaProg
import Derived.Test.YtmjljnbjoldeaaaTreeX
import Derived.Test.YtmjljnbjoldeaaaTwArr
namespace Go.Proofs.Ytmjljnbjoldeaaa
open Go Go.RowKit Go.Tw
set_option linter.unusedVariables false

theorem slFDigX_46 : SlF Try.prog 46 26 1 8 (.agg #[(.pointer none)]) := ⟨Try.underlying46, ⟨Try.t26, by kernel_rfl, rfl, rfl, rfl⟩, rfl, Try.sizeOf26, Try.zeroValue26⟩

/-! ### the calls -/

abbrev law3_FingerDigits (r : World) (l1 : Sl) (m2 : Sl) (n3 : Int) (h : Heap) (R : Bool → Heap → Prop) : Prop :=
  CallsH Try.prog r 7 [(Sl.v l1), (Sl.v m2), (.int .i64 n3)] h fun v h' => ∃ (y4 : Bool), v = (.bool y4) ∧ R y4 h'

theorem law3_FingerDigits.mono {r : World} {l1 : Sl} {m2 : Sl} {n3 : Int} {h : Heap} {R R' : Bool → Heap → Prop} (H : law3_FingerDigits r l1 m2 n3 h R) (hr : ∀ y4 h, R y4 h → R' y4 h) : law3_FingerDigits r l1 m2 n3 h R' :=
  CallsH.mono H fun _ _ hx => by
    obtain ⟨y4, hv, hR⟩ := hx
    exact ⟨y4, hv, hr _ _ hR⟩

abbrev law3_FingerDigits_1 (r : World) (x1 : Int) (x2 : Int) (x3 : Int) (x4 : Int) (x5 : Int) (c6 : Addr) (h : Heap) (R : Bool → Heap → Prop) : Prop :=
  CallsH Try.prog r 28 [(.agg #[(.int .i64 x1), (.int .i64 x2), (.int .i64 x3), (.int .i64 x4), (.int .i64 x5)]), (.pointer (some c6))] h fun v h' => ∃ (y7 : Bool), v = (.bool y7) ∧ R y7 h'

theorem law3_FingerDigits_1.mono {r : World} {x1 : Int} {x2 : Int} {x3 : Int} {x4 : Int} {x5 : Int} {c6 : Addr} {h : Heap} {R R' : Bool → Heap → Prop} (H : law3_FingerDigits_1 r x1 x2 x3 x4 x5 c6 h R) (hr : ∀ y7 h, R y7 h → R' y7 h) : law3_FingerDigits_1 r x1 x2 x3 x4 x5 c6 h R' :=
  CallsH.mono H fun _ _ hx => by
    obtain ⟨y7, hv, hR⟩ := hx
    exact ⟨y7, hv, hr _ _ hR⟩

/-! ### law3_FingerDigits -/

def law3_FingerDigits_F (r : World) (l1 : Sl) (m2 : Sl) (n3 : Int) (h : Heap) (R : Bool → Heap → Prop) : Prop :=
  New h (.cells #[(.int .i64 n3)] 3) fun p4 h1 =>
  law3_fingered r h1 fun y7 h2 =>
  Br (!y7) (
    R false h2) (
    finger_Of r l1 h2 fun y8 h3 =>
    finger_Of r m2 h3 fun y9 h4 =>
    finger_Tree_Join r y8 y9 h4 fun y10 h5 =>
    finger_Tree_Split r y10 ((.func (.func 28) #[] #[(.pointer (some p4))])) h5 fun y11 y12 h6 =>
    New h6 (.cells #[(.pointer none)] 26) fun p13 h7 =>
    New h7 (.cells #[(.pointer none)] 26) fun p16 h8 =>
    St h8 p13 1 [(.pointer y11)] fun h9 =>
    St h9 p16 1 [(.pointer y12)] fun h10 =>
    LdP h10 (Addr.add p13 0) fun x23 =>
    LdP h10 (Addr.add p16 0) fun x25 =>
    LdP h10 (Addr.add p16 0) fun x27 =>
    LdP h10 (Addr.add p13 0) fun x29 =>
    finger_Tree_Join r x27 x29 h10 fun y31 h11 =>
    (hcell h11 (Addr.add p16 0) = some (.pointer x25)) ∧
    (hcell h11 (Addr.add p13 0) = some (.pointer x23)) ∧
    New h11 (.cells #[(.pointer x23), (.pointer x25), (.pointer y31)] 26) fun p34 h12 =>
    ∀ X38 : Int → Heap → Prop, (∀ (k37 : Int) (h13 : Heap),
      (Br (decide (k37 < ((((⟨some p34, 3, 3⟩ : Sl)).len : Int)))) (
        Ix ((⟨some p34, 3, 3⟩ : Sl)) k37 1 fun q43 =>
        LdP h13 (Addr.add q43 0) fun x45 =>
        finger_Tree_Digits r x45 h13 fun y47 h14 =>
        ∀ X51 : Int → Int → Int → Prop, (∀ (least48 : Int) (size49 : Int) (i50 : Int),
          (Br (decide (i50 < ((y47.len : Int)))) (
            ∀ J53 : Bool → Prop, (∀ (alone52 : Bool),
              (∀ J56 : Bool → Prop, (∀ (x55 : Bool),
                (Br x55 (
                  R false h14) (
                  Ix y47 i50 2 fun q62 =>
                  LdI h14 (Addr.add q62 0) fun x64 =>
                  Ix y47 i50 2 fun q70 =>
                  LdI h14 (Addr.add q70 1) fun x72 =>
                  ∀ x74 : Int, x74 = (w64 (least48 + (w64 (size49 * (w64 (x64 + x72)))))) →
                  X51 x74 (w64 (2 * size49)) (w64 (i50 + 1)))) →
                J56 x55) →
              Br (!alone52) (
                Ix y47 i50 2 fun q82 =>
                LdI h14 (Addr.add q82 0) fun x84 =>
                Br (decide (x84 < 1)) (
                  J56 true) (
                  Ix y47 i50 2 fun q91 =>
                  LdI h14 (Addr.add q91 0) fun x93 =>
                  Br (decide (4 < x93)) (
                    J56 true) (
                    Ix y47 i50 2 fun q100 =>
                    LdI h14 (Addr.add q100 1) fun x102 =>
                    Br (decide (x102 < 1)) (
                      J56 true) (
                      Ix y47 i50 2 fun q109 =>
                      LdI h14 (Addr.add q109 1) fun x111 =>
                      J56 (decide (4 < x111)))))) (
                J56 false)) →
              J53 alone52) →
            Br (decide (i50 = (w64 (((y47.len : Int)) - 1)))) (
              Ix y47 i50 2 fun q118 =>
              LdI h14 (Addr.add q118 0) fun x120 =>
              LdI h14 (Addr.add q118 1) fun x122 =>
              J53 (decide (x120 = 1 ∧ x122 = 0))) (
              J53 false)) (
            ∀ J125 : Bool → Heap → Prop, (∀ (x124 : Bool) (h15 : Heap),
              (Br x124 (
                R false h15) (
                X38 (w64 (k37 + 1)) h15)) →
              J125 x124 h15) →
            Ix ((⟨some p34, 3, 3⟩ : Sl)) k37 1 fun q132 =>
            LdP h14 (Addr.add q132 0) fun x134 =>
            finger_Tree_Measure r x134 h14 fun y136 y137 y138 y139 y140 h16 =>
            Br (decide (y136 < least48)) (
              J125 true h16) (
              Ix ((⟨some p34, 3, 3⟩ : Sl)) k37 1 fun q146 =>
              LdP h16 (Addr.add q146 0) fun x148 =>
              finger_Tree_Measure r x148 h16 fun y150 y151 y152 y153 y154 h17 =>
              J125 ((decide (((y47.len : Int)) = 0)) != (decide (y150 = 0))) h17))) →
          X51 least48 size49 i50) →
        X51 0 1 0) (
        R true h13)) →
      X38 k37 h13) →
    X38 0 h12)

set_option maxRecDepth 100000 in
theorem law3_FingerDigits_of {r : World} {l1 : Sl} {m2 : Sl} {n3 : Int} {h : Heap} {R : Bool → Heap → Prop} (H : law3_FingerDigits_F r l1 m2 n3 h R) : law3_FingerDigits r l1 m2 n3 h R := by
  unfold law3_FingerDigits_F at H
  refine calls_of 138 [.tmp 6] Try.func7 rfl rfl rfl rfl rfl ?_
  refine W_seq ?_
  refine W_region (.ef 0 [] (.pu 1 .fin) .no) rfl rfl ?_
  obtain ⟨p4, e5⟩ : ∃ p : Addr, p = ⟨h.size, 0, none⟩ := ⟨_, rfl⟩
  obtain ⟨h1, e6⟩ : ∃ hh : Heap, hh = h.push (.cells #[(.int .i64 n3)] 3) := ⟨_, rfl⟩
  have H := H p4 h1 e5 e6
  refine s_ef1 (d := some 5) (v := (.pointer (some p4))) (h' := h1) rfl rfl rfl (fun dr => (r_box (v := (.int .i64 n3)) rfl).trans (by rw [e5, e6]; rfl)) trivial ?_ trivial
  refine s_pu (d := some 6) (v := (.bool false)) rfl rfl rfl (r_assign rfl) ?_
  refine s_fin ?_
  show W _ _ _ _ _ _ _ _
  refine W_seq ?_
  refine W_region (.ef 0 [] (.pu 1 .fin) .no) rfl rfl ?_
  refine s_ef (d := some 17) rfl rfl rfl (fun dr => r_call Try.call12 rfl rfl H) ?_ trivial
  rintro _ h2 ⟨y7, rfl, H⟩
  refine ⟨trivial, ?_⟩
  refine s_pu (d := some 7) (v := (.bool y7)) rfl rfl rfl (r_assign rfl) ?_
  refine s_fin ?_
  show W _ _ _ _ _ _ _ _
  refine W_seq ?_
  refine W_seq ?_
  refine W_region (.pu 0 (.pu 1 .fin)) rfl rfl ?_
  refine s_pu (d := some 18) (v := (.bool y7)) rfl rfl rfl (r_move rfl) ?_
  refine s_pu (d := some 19) (v := (.bool (!y7))) rfl rfl rfl (r_not rfl) ?_
  refine s_fin ?_
  show W _ _ _ _ _ _ _ _
  refine W_if (!y7) rfl (fun g157 => ?_) (fun g157 => ?_)
  · have H := H.1 g157
    refine W_seq ?_
    refine W_region (.pu 0 .fin) rfl rfl ?_
    refine s_pu (d := some 6) (v := (.bool false)) rfl rfl rfl (r_assign rfl) ?_
    refine s_fin ?_
    show W _ _ _ _ _ _ _ _
    refine W_ret ?_
    exact ⟨[(.bool false)], ⟨_, _, rfl, rfl, rfl⟩, false, rfl, H⟩
  · have H := H.2 g157
    refine W_skip ?_
    show W _ _ _ _ _ _ _ _
    refine W_seq ?_
    refine W_region (.pu 0 (.ef 1 [] (.pu 2 (.ef 3 [] (.ef 4 [] (.pu 5 (.ef 6 [] (.pu 7 (.pu 8 (.pu 9 (.ef 10 [] (.ef 11 [] (.ef 12 [] (.ef 13 [] .fin .no) .no) .no) .no)))) .no)) .no) .no)) .no)) rfl rfl ?_
    refine s_pu (d := some 21) (v := (Sl.v l1)) rfl rfl rfl (r_move rfl) ?_
    refine s_ef (d := some 22) rfl rfl rfl (fun dr => r_call Try.call22 rfl rfl H) ?_ trivial
    rintro _ h3 ⟨y8, rfl, H⟩
    refine ⟨trivial, ?_⟩
    refine s_pu (d := some 23) (v := (Sl.v m2)) rfl rfl rfl (r_move rfl) ?_
    refine s_ef (d := some 24) rfl rfl rfl (fun dr => r_call Try.call22 rfl rfl H) ?_ trivial
    rintro _ h4 ⟨y9, rfl, H⟩
    refine ⟨trivial, ?_⟩
    refine s_ef (d := some 25) rfl rfl rfl (fun dr => r_call Try.call26 rfl rfl H) ?_ trivial
    rintro _ h5 ⟨y10, rfl, H⟩
    refine ⟨trivial, ?_⟩
    refine s_pu (d := some 26) (v := ((.func (.func 28) #[] #[(.pointer (some p4))]))) rfl rfl rfl (r_makeFunc rfl rfl) ?_
    refine s_ef (d := some 27) rfl rfl rfl (fun dr => r_call Try.call25 rfl rfl H) ?_ trivial
    rintro _ h6 ⟨y11, y12, rfl, H⟩
    refine ⟨trivial, ?_⟩
    refine s_pu (d := some 20) (v := (.tuple #[(.agg #[(.pointer y11)]), (.agg #[(.pointer y12)])])) rfl rfl rfl (r_move rfl) ?_
    refine s_pu (d := some 28) (v := (.agg #[(.pointer y11)])) rfl rfl rfl (r_extract rfl rfl) ?_
    refine s_pu (d := some 29) (v := (.agg #[(.pointer y12)])) rfl rfl rfl (r_extract rfl rfl) ?_
    obtain ⟨p13, e14⟩ : ∃ p : Addr, p = ⟨h6.size, 0, none⟩ := ⟨_, rfl⟩
    obtain ⟨h7, e15⟩ : ∃ hh : Heap, hh = h6.push (.cells #[(.pointer none)] 26) := ⟨_, rfl⟩
    have H := H p13 h7 e14 e15
    refine s_ef1 (d := some 8) (v := (.pointer (some p13))) (h' := h7) rfl rfl rfl (fun dr => (r_alloc Try.zeroValue26).trans (by rw [e14, e15]; rfl)) trivial ?_ trivial
    obtain ⟨p16, e17⟩ : ∃ p : Addr, p = ⟨h7.size, 0, none⟩ := ⟨_, rfl⟩
    obtain ⟨h8, e18⟩ : ∃ hh : Heap, hh = h7.push (.cells #[(.pointer none)] 26) := ⟨_, rfl⟩
    have H := H p16 h8 e17 e18
    refine s_ef1 (d := some 9) (v := (.pointer (some p16))) (h' := h8) rfl rfl rfl (fun dr => (r_alloc Try.zeroValue26).trans (by rw [e17, e18]; rfl)) trivial ?_ trivial
    obtain ⟨e20, H⟩ := H
    obtain ⟨h9, e19⟩ : ∃ hh : Heap, hh = hsets h8 p13 0 [(.pointer y11)] := ⟨_, rfl⟩
    have H := H h9 e19
    refine s_st (d := none) (h' := h9) rfl rfl rfl (fun dr => (r_store (v := (.agg #[(.pointer y11)])) Try.sizeOf26 rfl rfl rfl (one_all rfl) e20).trans (by rw [e19]; rfl)) trivial ?_ trivial
    obtain ⟨e22, H⟩ := H
    obtain ⟨h10, e21⟩ : ∃ hh : Heap, hh = hsets h9 p16 0 [(.pointer y12)] := ⟨_, rfl⟩
    have H := H h10 e21
    refine s_st (d := none) (h' := h10) rfl rfl rfl (fun dr => (r_store (v := (.agg #[(.pointer y12)])) Try.sizeOf26 rfl rfl rfl (one_all rfl) e22).trans (by rw [e21]; rfl)) trivial ?_ trivial
    refine s_fin ?_
    show W _ _ _ _ _ _ _ _
    refine W_seq ?_
    refine W_draw [0, 0, 0, 0, 12, 31, 63] (.rd 0 (.rd 1 (.rd 2 (.rd 3 (.ef 4 [2, 3] (.ef 5 [0, 1, 2, 3] (.pu 6 .fin) .no) .no))))) (by kernel_rfl) (by kernel_rfl) ?_
    obtain ⟨x23, e24, H⟩ := H
    refine s_rd (d := some 30) (v := (.agg #[(.pointer x23)])) rfl rfl rfl (fun dr => r_loadN Try.isAgg26 Try.sizeOf26 (vs := [(.pointer x23)]) rfl rfl ⟨e24, trivial⟩) ?_
    obtain ⟨x25, e26, H⟩ := H
    refine s_rd (d := some 31) (v := (.agg #[(.pointer x25)])) rfl rfl rfl (fun dr => r_loadN Try.isAgg26 Try.sizeOf26 (vs := [(.pointer x25)]) rfl rfl ⟨e26, trivial⟩) ?_
    obtain ⟨x27, e28, H⟩ := H
    refine s_rd (d := some 32) (v := (.agg #[(.pointer x27)])) rfl rfl rfl (fun dr => r_loadN Try.isAgg26 Try.sizeOf26 (vs := [(.pointer x27)]) rfl rfl ⟨e28, trivial⟩) ?_
    obtain ⟨x29, e30, H⟩ := H
    refine s_rd (d := some 33) (v := (.agg #[(.pointer x29)])) rfl rfl rfl (fun dr => r_loadN Try.isAgg26 Try.sizeOf26 (vs := [(.pointer x29)]) rfl rfl ⟨e30, trivial⟩) ?_
    refine s_ef (d := some 34) rfl rfl rfl (fun dr => r_call Try.call26 rfl rfl H) ?_ trivial
    rintro _ h11 ⟨y31, rfl, H⟩
    obtain ⟨e32, H⟩ := H
    obtain ⟨e33, H⟩ := H
    refine ⟨⟨trivial, trivial, (.inl ⟨rfl, fun dr => r_loadN Try.isAgg26 Try.sizeOf26 (vs := [(.pointer x25)]) rfl rfl ⟨e32, trivial⟩⟩), (.inl ⟨rfl, fun dr => r_loadN Try.isAgg26 Try.sizeOf26 (vs := [(.pointer x23)]) rfl rfl ⟨e33, trivial⟩⟩), trivial⟩, ?_⟩
    obtain ⟨p34, e35⟩ : ∃ p : Addr, p = ⟨h11.size, 0, none⟩ := ⟨_, rfl⟩
    obtain ⟨h12, e36⟩ : ∃ hh : Heap, hh = h11.push (.cells #[(.pointer x23), (.pointer x25), (.pointer y31)] 26) := ⟨_, rfl⟩
    have H := H p34 h12 e35 e36
    refine s_ef1 (d := some 35) (v := (Sl.v ((⟨some p34, 3, 3⟩ : Sl)))) (h' := h12) rfl rfl rfl (fun dr => (slFDigX_46.build (cells := #[(.pointer x23), (.pointer x25), (.pointer y31)]) (by decide) rfl (by kernel_rfl)).trans (by rw [e35, e36]; rfl)) ⟨trivial, trivial, trivial, trivial, trivial⟩ ?_ trivial
    refine s_pu (d := some 10) (v := (Sl.v ((⟨some p34, 3, 3⟩ : Sl)))) rfl rfl rfl (r_assign rfl) ?_
    refine s_fin ?_
    show W _ _ _ _ _ _ _ _
    refine W_seq ?_
    refine W_seq ?_
    refine W_region (.pu 0 .fin) rfl rfl ?_
    refine s_pu (d := some 11) (v := (.int .i64 0)) rfl rfl rfl (r_assign rfl) ?_
    refine s_fin ?_
    show W _ _ _ _ _ _ _ _
    refine W_block ?_
    refine W_loop (WL_mk (l := [(10, (Sl.v ((⟨some p34, 3, 3⟩ : Sl)))), (11, (.int .i64 0))]) ?_ ⟨rfl, rfl, trivial⟩)
    refine H (fun (k37 : Int) (h13 : Heap) => ∀ b, WL _ _ _ _ _ _ (mkE [(10, (Sl.v ((⟨some p34, 3, 3⟩ : Sl)))), (11, (.int .i64 k37))] b) h13) ?_
    intro k37 h13 H b
    refine WL_round ?_
    refine W_seq ?_
    refine W_seq ?_
    refine W_region (.pu 0 (.pu 1 (.pu 2 (.pu 3 .fin)))) rfl rfl ?_
    refine s_pu (d := some 36) (v := (.int .i64 k37)) rfl rfl rfl (r_move rfl) ?_
    refine s_pu (d := some 37) (v := (Sl.v ((⟨some p34, 3, 3⟩ : Sl)))) rfl rfl rfl (r_move rfl) ?_
    refine s_pu (d := some 38) (v := (.int .i64 ((((⟨some p34, 3, 3⟩ : Sl)).len : Int)))) rfl rfl rfl (r_len Try.underlying46 rfl) ?_
    refine s_pu (d := some 39) (v := (.bool (decide (k37 < ((((⟨some p34, 3, 3⟩ : Sl)).len : Int)))))) rfl rfl rfl (r_lss rfl rfl) ?_
    refine s_fin ?_
    show W _ _ _ _ _ _ _ _
    refine W_if (decide (k37 < ((((⟨some p34, 3, 3⟩ : Sl)).len : Int)))) rfl (fun g156 => ?_) (fun g156 => ?_)
    · have H := H.1 g156
      refine W_skip ?_
      show W _ _ _ _ _ _ _ _
      refine W_seq ?_
      refine W_block ?_
      refine W_seq ?_
      refine W_region (.pu 0 (.pu 1 (.pu 2 (.rl 3 (.ef 4 [] (.pu 5 .fin) .no))))) rfl rfl ?_
      refine s_pu (d := some 42) (v := (Sl.v ((⟨some p34, 3, 3⟩ : Sl)))) rfl rfl rfl (r_move rfl) ?_
      refine s_pu (d := some 43) (v := (.int .i64 k37)) rfl rfl rfl (r_move rfl) ?_
      obtain ⟨p39, e40, e41, e42, H⟩ := H
      obtain ⟨q43, e44⟩ : ∃ q : Addr, q = Addr.add p39 (Int.toNat k37 * 1) := ⟨_, rfl⟩
      rw [← e44] at H
      refine s_pu (d := some 44) (v := (.pointer (some q43))) rfl rfl rfl (fun w => (r_indexAddr Try.underlying46 Try.sizeOf26 rfl rfl e40 e41 e42 w).trans (by rw [e44])) ?_
      obtain ⟨x45, e46, H⟩ := H
      refine s_rl (d := some 45) (v := (.agg #[(.pointer x45)])) rfl rfl rfl (fun dr => r_loadN Try.isAgg26 Try.sizeOf26 (vs := [(.pointer x45)]) rfl rfl ⟨e46, trivial⟩) ?_
      refine s_ef (d := some 46) rfl rfl rfl (fun dr => r_call Try.call29 rfl rfl H) ?_ trivial
      rintro _ h14 ⟨y47, rfl, H⟩
      refine ⟨trivial, ?_⟩
      refine s_pu (d := some 12) (v := (Sl.v y47)) rfl rfl rfl (r_assign rfl) ?_
      refine s_fin ?_
      show W _ _ _ _ _ _ _ _
      refine W_seq ?_
      refine W_region (.pu 0 .fin) rfl rfl ?_
      refine s_pu (d := some 13) (v := (.int .i64 0)) rfl rfl rfl (r_assign rfl) ?_
      refine s_fin ?_
      show W _ _ _ _ _ _ _ _
      refine W_seq ?_
      refine W_region (.pu 0 .fin) rfl rfl ?_
      refine s_pu (d := some 14) (v := (.int .i64 1)) rfl rfl rfl (r_assign rfl) ?_
      refine s_fin ?_
      show W _ _ _ _ _ _ _ _
      refine W_seq ?_
      refine W_seq ?_
      refine W_region (.pu 0 .fin) rfl rfl ?_
      refine s_pu (d := some 15) (v := (.int .i64 0)) rfl rfl rfl (r_assign rfl) ?_
      refine s_fin ?_
      show W _ _ _ _ _ _ _ _
      refine W_block ?_
      refine W_loop (WL_mk (l := [(10, (Sl.v ((⟨some p34, 3, 3⟩ : Sl)))), (11, (.int .i64 k37)), (12, (Sl.v y47)), (13, (.int .i64 0)), (14, (.int .i64 1)), (15, (.int .i64 0))]) ?_ ⟨rfl, rfl, rfl, rfl, rfl, rfl, trivial⟩)
      refine H (fun (least48 : Int) (size49 : Int) (i50 : Int) => ∀ b, WL _ _ _ _ _ _ (mkE [(10, (Sl.v ((⟨some p34, 3, 3⟩ : Sl)))), (11, (.int .i64 k37)), (12, (Sl.v y47)), (13, (.int .i64 least48)), (14, (.int .i64 size49)), (15, (.int .i64 i50))] b) h14) ?_
      intro least48 size49 i50 H b
      refine WL_round ?_
      refine W_seq ?_
      refine W_seq ?_
      refine W_region (.pu 0 (.pu 1 (.pu 2 (.pu 3 .fin)))) rfl rfl ?_
      refine s_pu (d := some 47) (v := (.int .i64 i50)) rfl rfl rfl (r_move rfl) ?_
      refine s_pu (d := some 48) (v := (Sl.v y47)) rfl rfl rfl (r_move rfl) ?_
      refine s_pu (d := some 49) (v := (.int .i64 ((y47.len : Int)))) rfl rfl rfl (r_len Try.underlying47 rfl) ?_
      refine s_pu (d := some 50) (v := (.bool (decide (i50 < ((y47.len : Int)))))) rfl rfl rfl (r_lss rfl rfl) ?_
      refine s_fin ?_
      show W _ _ _ _ _ _ _ _
      refine W_if (decide (i50 < ((y47.len : Int)))) rfl (fun g155 => ?_) (fun g155 => ?_)
      · have H := H.1 g155
        refine W_skip ?_
        show W _ _ _ _ _ _ _ _
        refine W_seq ?_
        refine W_block ?_
        refine W_seq ?_
        refine W_set ?_
        intro N54 eN54
        have H := H (fun (alone52 : Bool) => ∀ b, N54 [] (mkE [(10, (Sl.v ((⟨some p34, 3, 3⟩ : Sl)))), (11, (.int .i64 k37)), (12, (Sl.v y47)), (13, (.int .i64 least48)), (14, (.int .i64 size49)), (15, (.int .i64 i50)), (16, (.bool alone52))] b) h14) (by
          intro alone52 H b
          rw [eN54]
          show W _ _ _ _ _ _ _ _
          refine W_seq ?_
          refine W_seq ?_
          refine W_set ?_
          intro N57 eN57
          have H := H (fun (x55 : Bool) => ∀ b, N57 [] (mkE [(10, (Sl.v ((⟨some p34, 3, 3⟩ : Sl)))), (11, (.int .i64 k37)), (12, (Sl.v y47)), (13, (.int .i64 least48)), (14, (.int .i64 size49)), (15, (.int .i64 i50)), (99, (.bool x55))] b) h14) (by
            intro x55 H b
            rw [eN57]
            show W _ _ _ _ _ _ _ _
            refine W_if x55 rfl (fun g76 => ?_) (fun g76 => ?_)
            · have H := H.1 g76
              refine W_seq ?_
              refine W_region (.pu 0 .fin) rfl rfl ?_
              refine s_pu (d := some 6) (v := (.bool false)) rfl rfl rfl (r_assign rfl) ?_
              refine s_fin ?_
              show W _ _ _ _ _ _ _ _
              refine W_ret ?_
              exact ⟨[(.bool false)], ⟨_, _, rfl, rfl, rfl⟩, false, rfl, H⟩
            · have H := H.2 g76
              refine W_skip ?_
              show W _ _ _ _ _ _ _ _
              refine W_seq ?_
              refine W_draw [0, 0, 0, 0, 12, 28, 60, 0, 0, 384, 896, 1920, 4092, 8190, 16383, 32767] (.pu 0 (.pu 1 (.pu 2 (.pu 3 (.pu 4 (.pu 5 (.rd 6 (.pu 7 (.pu 8 (.pu 9 (.pu 10 (.rd 11 (.pu 12 (.pu 13 (.pu 14 (.pu 15 .fin)))))))))))))))) (by kernel_rfl) (by kernel_rfl) ?_
              refine s_pu (d := some 100) (v := (.int .i64 least48)) rfl rfl rfl (r_move rfl) ?_
              refine s_pu (d := some 101) (v := (.int .i64 size49)) rfl rfl rfl (r_move rfl) ?_
              refine s_pu (d := some 102) (v := (Sl.v y47)) rfl rfl rfl (r_move rfl) ?_
              refine s_pu (d := some 103) (v := (.int .i64 i50)) rfl rfl rfl (r_move rfl) ?_
              obtain ⟨p58, e59, e60, e61, H⟩ := H
              obtain ⟨q62, e63⟩ : ∃ q : Addr, q = Addr.add p58 (Int.toNat i50 * 2) := ⟨_, rfl⟩
              rw [← e63] at H
              refine s_pu (d := some 104) (v := (.pointer (some q62))) rfl rfl rfl (fun w => (r_indexAddr Try.underlying47 Try.sizeOf49 rfl rfl e59 e60 e61 w).trans (by rw [e63])) ?_
              refine s_pu (d := some 105) (v := (.pointer (some (Addr.add q62 0)))) rfl rfl rfl (r_indexArr (off := 0) Try.underlying49 Try.sizeOf3 rfl rfl (by decide) (by decide) rfl) ?_
              obtain ⟨x64, e65, H⟩ := H
              refine s_rd (d := some 106) (v := (.int .i64 x64)) rfl rfl rfl (fun dr => r_load1 Try.isAgg3 rfl e65) ?_
              refine s_pu (d := some 107) (v := (Sl.v y47)) rfl rfl rfl (r_move rfl) ?_
              refine s_pu (d := some 108) (v := (.int .i64 i50)) rfl rfl rfl (r_move rfl) ?_
              obtain ⟨p66, e67, e68, e69, H⟩ := H
              obtain ⟨q70, e71⟩ : ∃ q : Addr, q = Addr.add p66 (Int.toNat i50 * 2) := ⟨_, rfl⟩
              rw [← e71] at H
              refine s_pu (d := some 109) (v := (.pointer (some q70))) rfl rfl rfl (fun w => (r_indexAddr Try.underlying47 Try.sizeOf49 rfl rfl e67 e68 e69 w).trans (by rw [e71])) ?_
              refine s_pu (d := some 110) (v := (.pointer (some (Addr.add q70 1)))) rfl rfl rfl (r_indexArr (off := 1) Try.underlying49 Try.sizeOf3 rfl rfl (by decide) (by decide) rfl) ?_
              obtain ⟨x72, e73, H⟩ := H
              refine s_rd (d := some 111) (v := (.int .i64 x72)) rfl rfl rfl (fun dr => r_load1 Try.isAgg3 rfl e73) ?_
              refine s_pu (d := some 112) (v := (.int .i64 (w64 (x64 + x72)))) rfl rfl rfl (r_add rfl rfl) ?_
              refine s_pu (d := some 113) (v := (.int .i64 (w64 (size49 * (w64 (x64 + x72)))))) rfl rfl rfl (r_mul rfl rfl) ?_
              refine s_pu (d := some 114) (v := (.int .i64 (w64 (least48 + (w64 (size49 * (w64 (x64 + x72)))))))) rfl rfl rfl (r_add rfl rfl) ?_
              obtain ⟨x74, e75⟩ : ∃ x : Int, x = (w64 (least48 + (w64 (size49 * (w64 (x64 + x72)))))) := ⟨_, rfl⟩
              have H := H x74 e75
              refine s_pu (d := some 13) (v := (.int .i64 x74)) rfl rfl rfl (r_assign (congrArg (Value.int .i64) e75.symm)) ?_
              refine s_fin ?_
              show W _ _ _ _ _ _ _ _
              refine W_region (.pu 0 (.pu 1 (.pu 2 .fin))) rfl rfl ?_
              refine s_pu (d := some 115) (v := (.int .i64 size49)) rfl rfl rfl (r_move rfl) ?_
              refine s_pu (d := some 116) (v := (.int .i64 (w64 (2 * size49)))) rfl rfl rfl (r_mul rfl rfl) ?_
              refine s_pu (d := some 14) (v := (.int .i64 (w64 (2 * size49)))) rfl rfl rfl (r_assign rfl) ?_
              refine s_fin ?_
              show W _ _ _ _ _ _ _ _
              refine W_region (.pu 0 (.pu 1 (.pu 2 .fin))) rfl rfl ?_
              refine s_pu (d := some 51) (v := (.int .i64 i50)) rfl rfl rfl (r_move rfl) ?_
              refine s_pu (d := some 52) (v := (.int .i64 (w64 (i50 + 1)))) rfl rfl rfl (r_add rfl rfl) ?_
              refine s_pu (d := some 15) (v := (.int .i64 (w64 (i50 + 1)))) rfl rfl rfl (r_assign rfl) ?_
              refine s_fin ?_
              exact WL_mk (l := [(10, (Sl.v ((⟨some p34, 3, 3⟩ : Sl)))), (11, (.int .i64 k37)), (12, (Sl.v y47)), (13, (.int .i64 x74)), (14, (.int .i64 (w64 (2 * size49)))), (15, (.int .i64 (w64 (i50 + 1))))]) H ⟨rfl, rfl, rfl, rfl, rfl, rfl, trivial⟩)
          clear eN57
          refine W_region (.pu 0 (.pu 1 (.pu 2 (.pu 3 (.pu 4 (.pu 5 (.pu 6 (.rl 7 (.pu 8 (.pu 9 (.pu 10 (.pu 11 (.pu 12 (.pu 13 (.rl 14 (.pu 15 (.pu 16 (.pu 17 (.pu 18 (.pu 19 (.pu 20 (.pu 21 (.rl 22 (.pu 23 (.pu 24 (.pu 25 (.pu 26 (.pu 27 (.pu 28 (.pu 29 (.rl 30 (.pu 31 (.pu 32 (.pu 33 .fin)))))))))))))))))))))))))))))))))) rfl rfl ?_
          refine s_pu (d := some 66) (v := (.bool alone52)) rfl rfl rfl (r_move rfl) ?_
          refine s_pu (d := some 67) (v := (.bool (!alone52))) rfl rfl rfl (r_not rfl) ?_
          refine s_pu (d := some 68) (v := (.bool (!alone52))) rfl rfl rfl (r_move rfl) ?_
          rcases Bool.eq_false_or_eq_true (!alone52) with g77 | g77
          · have H := H.1 g77
            refine s_pu (d := some 69) (v := (Sl.v y47)) rfl rfl (wants_yes rfl rfl rfl rfl g77) (r_move rfl) ?_
            refine s_pu (d := some 70) (v := (.int .i64 i50)) rfl rfl (wants_yes rfl rfl rfl rfl g77) (r_move rfl) ?_
            obtain ⟨p78, e79, e80, e81, H⟩ := H
            obtain ⟨q82, e83⟩ : ∃ q : Addr, q = Addr.add p78 (Int.toNat i50 * 2) := ⟨_, rfl⟩
            rw [← e83] at H
            refine s_pu (d := some 71) (v := (.pointer (some q82))) rfl rfl (wants_yes rfl rfl rfl rfl g77) (fun w => (r_indexAddr Try.underlying47 Try.sizeOf49 rfl rfl e79 e80 e81 w).trans (by rw [e83])) ?_
            refine s_pu (d := some 72) (v := (.pointer (some (Addr.add q82 0)))) rfl rfl (wants_yes rfl rfl rfl rfl g77) (r_indexArr (off := 0) Try.underlying49 Try.sizeOf3 rfl rfl (by decide) (by decide) rfl) ?_
            obtain ⟨x84, e85, H⟩ := H
            refine s_rl (d := some 73) (v := (.int .i64 x84)) rfl rfl (wants_yes rfl rfl rfl rfl g77) (fun dr => r_load1 Try.isAgg3 rfl e85) ?_
            refine s_pu (d := some 74) (v := (.bool (decide (x84 < 1)))) rfl rfl (wants_yes rfl rfl rfl rfl g77) (r_lss rfl rfl) ?_
            refine s_pu (d := some 75) (v := (.bool (decide (x84 < 1)))) rfl rfl (wants_yes rfl rfl rfl rfl g77) (r_move rfl) ?_
            rcases Bool.eq_false_or_eq_true (decide (x84 < 1)) with g86 | g86
            · have H := H.1 g86
              refine s_sk (d := some 76) rfl rfl (wants_no rfl rfl rfl rfl g86) ?_
              refine s_sk (d := some 77) rfl rfl (wants_no rfl rfl rfl rfl g86) ?_
              refine s_sk (d := some 78) rfl rfl (wants_no rfl rfl rfl rfl g86) ?_
              refine s_sk (d := some 79) rfl rfl (wants_no rfl rfl rfl rfl g86) ?_
              refine s_skl (d := some 80) rfl rfl (wants_no rfl rfl rfl rfl g86) ?_
              refine s_sk (d := some 81) rfl rfl (wants_no rfl rfl rfl rfl g86) ?_
              refine s_pu (d := some 82) (v := (.bool true)) rfl rfl (wants_yes rfl rfl rfl rfl g77) (r_pick1 rfl g86 rfl) ?_
              refine s_pu (d := some 83) (v := (.bool true)) rfl rfl (wants_yes rfl rfl rfl rfl g77) (r_move rfl) ?_
              refine s_sk (d := some 84) rfl rfl (wants_no rfl rfl rfl rfl rfl) ?_
              refine s_sk (d := some 85) rfl rfl (wants_no rfl rfl rfl rfl rfl) ?_
              refine s_sk (d := some 86) rfl rfl (wants_no rfl rfl rfl rfl rfl) ?_
              refine s_sk (d := some 87) rfl rfl (wants_no rfl rfl rfl rfl rfl) ?_
              refine s_skl (d := some 88) rfl rfl (wants_no rfl rfl rfl rfl rfl) ?_
              refine s_sk (d := some 89) rfl rfl (wants_no rfl rfl rfl rfl rfl) ?_
              refine s_pu (d := some 90) (v := (.bool true)) rfl rfl (wants_yes rfl rfl rfl rfl g77) (r_pick1 rfl rfl rfl) ?_
              refine s_pu (d := some 91) (v := (.bool true)) rfl rfl (wants_yes rfl rfl rfl rfl g77) (r_move rfl) ?_
              refine s_sk (d := some 92) rfl rfl (wants_no rfl rfl rfl rfl rfl) ?_
              refine s_sk (d := some 93) rfl rfl (wants_no rfl rfl rfl rfl rfl) ?_
              refine s_sk (d := some 94) rfl rfl (wants_no rfl rfl rfl rfl rfl) ?_
              refine s_sk (d := some 95) rfl rfl (wants_no rfl rfl rfl rfl rfl) ?_
              refine s_skl (d := some 96) rfl rfl (wants_no rfl rfl rfl rfl rfl) ?_
              refine s_sk (d := some 97) rfl rfl (wants_no rfl rfl rfl rfl rfl) ?_
              refine s_pu (d := some 98) (v := (.bool true)) rfl rfl (wants_yes rfl rfl rfl rfl g77) (r_pick1 rfl rfl rfl) ?_
              refine s_pu (d := some 99) (v := (.bool true)) rfl rfl rfl (r_pick1 rfl g77 rfl) ?_
              refine s_fin ?_
              exact N_mk (l := [(10, (Sl.v ((⟨some p34, 3, 3⟩ : Sl)))), (11, (.int .i64 k37)), (12, (Sl.v y47)), (13, (.int .i64 least48)), (14, (.int .i64 size49)), (15, (.int .i64 i50)), (99, (.bool true))]) H ⟨rfl, rfl, rfl, rfl, rfl, rfl, rfl, trivial⟩
            · have H := H.2 g86
              refine s_pu (d := some 76) (v := (Sl.v y47)) rfl rfl (wants_yes rfl rfl rfl rfl g86) (r_move rfl) ?_
              refine s_pu (d := some 77) (v := (.int .i64 i50)) rfl rfl (wants_yes rfl rfl rfl rfl g86) (r_move rfl) ?_
              obtain ⟨p87, e88, e89, e90, H⟩ := H
              obtain ⟨q91, e92⟩ : ∃ q : Addr, q = Addr.add p87 (Int.toNat i50 * 2) := ⟨_, rfl⟩
              rw [← e92] at H
              refine s_pu (d := some 78) (v := (.pointer (some q91))) rfl rfl (wants_yes rfl rfl rfl rfl g86) (fun w => (r_indexAddr Try.underlying47 Try.sizeOf49 rfl rfl e88 e89 e90 w).trans (by rw [e92])) ?_
              refine s_pu (d := some 79) (v := (.pointer (some (Addr.add q91 0)))) rfl rfl (wants_yes rfl rfl rfl rfl g86) (r_indexArr (off := 0) Try.underlying49 Try.sizeOf3 rfl rfl (by decide) (by decide) rfl) ?_
              obtain ⟨x93, e94, H⟩ := H
              refine s_rl (d := some 80) (v := (.int .i64 x93)) rfl rfl (wants_yes rfl rfl rfl rfl g86) (fun dr => r_load1 Try.isAgg3 rfl e94) ?_
              refine s_pu (d := some 81) (v := (.bool (decide (4 < x93)))) rfl rfl (wants_yes rfl rfl rfl rfl g86) (r_gtr rfl rfl) ?_
              refine s_pu (d := some 82) (v := (.bool (decide (4 < x93)))) rfl rfl (wants_yes rfl rfl rfl rfl g77) (r_pick0 rfl g86 rfl) ?_
              refine s_pu (d := some 83) (v := (.bool (decide (4 < x93)))) rfl rfl (wants_yes rfl rfl rfl rfl g77) (r_move rfl) ?_
              rcases Bool.eq_false_or_eq_true (decide (4 < x93)) with g95 | g95
              · have H := H.1 g95
                refine s_sk (d := some 84) rfl rfl (wants_no rfl rfl rfl rfl g95) ?_
                refine s_sk (d := some 85) rfl rfl (wants_no rfl rfl rfl rfl g95) ?_
                refine s_sk (d := some 86) rfl rfl (wants_no rfl rfl rfl rfl g95) ?_
                refine s_sk (d := some 87) rfl rfl (wants_no rfl rfl rfl rfl g95) ?_
                refine s_skl (d := some 88) rfl rfl (wants_no rfl rfl rfl rfl g95) ?_
                refine s_sk (d := some 89) rfl rfl (wants_no rfl rfl rfl rfl g95) ?_
                refine s_pu (d := some 90) (v := (.bool true)) rfl rfl (wants_yes rfl rfl rfl rfl g77) (r_pick1 rfl g95 rfl) ?_
                refine s_pu (d := some 91) (v := (.bool true)) rfl rfl (wants_yes rfl rfl rfl rfl g77) (r_move rfl) ?_
                refine s_sk (d := some 92) rfl rfl (wants_no rfl rfl rfl rfl rfl) ?_
                refine s_sk (d := some 93) rfl rfl (wants_no rfl rfl rfl rfl rfl) ?_
                refine s_sk (d := some 94) rfl rfl (wants_no rfl rfl rfl rfl rfl) ?_
                refine s_sk (d := some 95) rfl rfl (wants_no rfl rfl rfl rfl rfl) ?_
                refine s_skl (d := some 96) rfl rfl (wants_no rfl rfl rfl rfl rfl) ?_
                refine s_sk (d := some 97) rfl rfl (wants_no rfl rfl rfl rfl rfl) ?_
                refine s_pu (d := some 98) (v := (.bool true)) rfl rfl (wants_yes rfl rfl rfl rfl g77) (r_pick1 rfl rfl rfl) ?_
                refine s_pu (d := some 99) (v := (.bool true)) rfl rfl rfl (r_pick1 rfl g77 rfl) ?_
                refine s_fin ?_
                exact N_mk (l := [(10, (Sl.v ((⟨some p34, 3, 3⟩ : Sl)))), (11, (.int .i64 k37)), (12, (Sl.v y47)), (13, (.int .i64 least48)), (14, (.int .i64 size49)), (15, (.int .i64 i50)), (99, (.bool true))]) H ⟨rfl, rfl, rfl, rfl, rfl, rfl, rfl, trivial⟩
              · have H := H.2 g95
                refine s_pu (d := some 84) (v := (Sl.v y47)) rfl rfl (wants_yes rfl rfl rfl rfl g95) (r_move rfl) ?_
                refine s_pu (d := some 85) (v := (.int .i64 i50)) rfl rfl (wants_yes rfl rfl rfl rfl g95) (r_move rfl) ?_
                obtain ⟨p96, e97, e98, e99, H⟩ := H
                obtain ⟨q100, e101⟩ : ∃ q : Addr, q = Addr.add p96 (Int.toNat i50 * 2) := ⟨_, rfl⟩
                rw [← e101] at H
                refine s_pu (d := some 86) (v := (.pointer (some q100))) rfl rfl (wants_yes rfl rfl rfl rfl g95) (fun w => (r_indexAddr Try.underlying47 Try.sizeOf49 rfl rfl e97 e98 e99 w).trans (by rw [e101])) ?_
                refine s_pu (d := some 87) (v := (.pointer (some (Addr.add q100 1)))) rfl rfl (wants_yes rfl rfl rfl rfl g95) (r_indexArr (off := 1) Try.underlying49 Try.sizeOf3 rfl rfl (by decide) (by decide) rfl) ?_
                obtain ⟨x102, e103, H⟩ := H
                refine s_rl (d := some 88) (v := (.int .i64 x102)) rfl rfl (wants_yes rfl rfl rfl rfl g95) (fun dr => r_load1 Try.isAgg3 rfl e103) ?_
                refine s_pu (d := some 89) (v := (.bool (decide (x102 < 1)))) rfl rfl (wants_yes rfl rfl rfl rfl g95) (r_lss rfl rfl) ?_
                refine s_pu (d := some 90) (v := (.bool (decide (x102 < 1)))) rfl rfl (wants_yes rfl rfl rfl rfl g77) (r_pick0 rfl g95 rfl) ?_
                refine s_pu (d := some 91) (v := (.bool (decide (x102 < 1)))) rfl rfl (wants_yes rfl rfl rfl rfl g77) (r_move rfl) ?_
                rcases Bool.eq_false_or_eq_true (decide (x102 < 1)) with g104 | g104
                · have H := H.1 g104
                  refine s_sk (d := some 92) rfl rfl (wants_no rfl rfl rfl rfl g104) ?_
                  refine s_sk (d := some 93) rfl rfl (wants_no rfl rfl rfl rfl g104) ?_
                  refine s_sk (d := some 94) rfl rfl (wants_no rfl rfl rfl rfl g104) ?_
                  refine s_sk (d := some 95) rfl rfl (wants_no rfl rfl rfl rfl g104) ?_
                  refine s_skl (d := some 96) rfl rfl (wants_no rfl rfl rfl rfl g104) ?_
                  refine s_sk (d := some 97) rfl rfl (wants_no rfl rfl rfl rfl g104) ?_
                  refine s_pu (d := some 98) (v := (.bool true)) rfl rfl (wants_yes rfl rfl rfl rfl g77) (r_pick1 rfl g104 rfl) ?_
                  refine s_pu (d := some 99) (v := (.bool true)) rfl rfl rfl (r_pick1 rfl g77 rfl) ?_
                  refine s_fin ?_
                  exact N_mk (l := [(10, (Sl.v ((⟨some p34, 3, 3⟩ : Sl)))), (11, (.int .i64 k37)), (12, (Sl.v y47)), (13, (.int .i64 least48)), (14, (.int .i64 size49)), (15, (.int .i64 i50)), (99, (.bool true))]) H ⟨rfl, rfl, rfl, rfl, rfl, rfl, rfl, trivial⟩
                · have H := H.2 g104
                  refine s_pu (d := some 92) (v := (Sl.v y47)) rfl rfl (wants_yes rfl rfl rfl rfl g104) (r_move rfl) ?_
                  refine s_pu (d := some 93) (v := (.int .i64 i50)) rfl rfl (wants_yes rfl rfl rfl rfl g104) (r_move rfl) ?_
                  obtain ⟨p105, e106, e107, e108, H⟩ := H
                  obtain ⟨q109, e110⟩ : ∃ q : Addr, q = Addr.add p105 (Int.toNat i50 * 2) := ⟨_, rfl⟩
                  rw [← e110] at H
                  refine s_pu (d := some 94) (v := (.pointer (some q109))) rfl rfl (wants_yes rfl rfl rfl rfl g104) (fun w => (r_indexAddr Try.underlying47 Try.sizeOf49 rfl rfl e106 e107 e108 w).trans (by rw [e110])) ?_
                  refine s_pu (d := some 95) (v := (.pointer (some (Addr.add q109 1)))) rfl rfl (wants_yes rfl rfl rfl rfl g104) (r_indexArr (off := 1) Try.underlying49 Try.sizeOf3 rfl rfl (by decide) (by decide) rfl) ?_
                  obtain ⟨x111, e112, H⟩ := H
                  refine s_rl (d := some 96) (v := (.int .i64 x111)) rfl rfl (wants_yes rfl rfl rfl rfl g104) (fun dr => r_load1 Try.isAgg3 rfl e112) ?_
                  refine s_pu (d := some 97) (v := (.bool (decide (4 < x111)))) rfl rfl (wants_yes rfl rfl rfl rfl g104) (r_gtr rfl rfl) ?_
                  refine s_pu (d := some 98) (v := (.bool (decide (4 < x111)))) rfl rfl (wants_yes rfl rfl rfl rfl g77) (r_pick0 rfl g104 rfl) ?_
                  refine s_pu (d := some 99) (v := (.bool (decide (4 < x111)))) rfl rfl rfl (r_pick1 rfl g77 rfl) ?_
                  refine s_fin ?_
                  exact N_mk (l := [(10, (Sl.v ((⟨some p34, 3, 3⟩ : Sl)))), (11, (.int .i64 k37)), (12, (Sl.v y47)), (13, (.int .i64 least48)), (14, (.int .i64 size49)), (15, (.int .i64 i50)), (99, (.bool (decide (4 < x111))))]) H ⟨rfl, rfl, rfl, rfl, rfl, rfl, rfl, trivial⟩
          · have H := H.2 g77
            refine s_sk (d := some 69) rfl rfl (wants_no rfl rfl rfl rfl g77) ?_
            refine s_sk (d := some 70) rfl rfl (wants_no rfl rfl rfl rfl g77) ?_
            refine s_sk (d := some 71) rfl rfl (wants_no rfl rfl rfl rfl g77) ?_
            refine s_sk (d := some 72) rfl rfl (wants_no rfl rfl rfl rfl g77) ?_
            refine s_skl (d := some 73) rfl rfl (wants_no rfl rfl rfl rfl g77) ?_
            refine s_sk (d := some 74) rfl rfl (wants_no rfl rfl rfl rfl g77) ?_
            refine s_sk (d := some 75) rfl rfl (wants_no rfl rfl rfl rfl g77) ?_
            refine s_sk (d := some 76) rfl rfl (wants_un rfl rfl rfl) ?_
            refine s_sk (d := some 77) rfl rfl (wants_un rfl rfl rfl) ?_
            refine s_sk (d := some 78) rfl rfl (wants_un rfl rfl rfl) ?_
            refine s_sk (d := some 79) rfl rfl (wants_un rfl rfl rfl) ?_
            refine s_skl (d := some 80) rfl rfl (wants_un rfl rfl rfl) ?_
            refine s_sk (d := some 81) rfl rfl (wants_un rfl rfl rfl) ?_
            refine s_sk (d := some 82) rfl rfl (wants_no rfl rfl rfl rfl g77) ?_
            refine s_sk (d := some 83) rfl rfl (wants_no rfl rfl rfl rfl g77) ?_
            refine s_sk (d := some 84) rfl rfl (wants_un rfl rfl rfl) ?_
            refine s_sk (d := some 85) rfl rfl (wants_un rfl rfl rfl) ?_
            refine s_sk (d := some 86) rfl rfl (wants_un rfl rfl rfl) ?_
            refine s_sk (d := some 87) rfl rfl (wants_un rfl rfl rfl) ?_
            refine s_skl (d := some 88) rfl rfl (wants_un rfl rfl rfl) ?_
            refine s_sk (d := some 89) rfl rfl (wants_un rfl rfl rfl) ?_
            refine s_sk (d := some 90) rfl rfl (wants_no rfl rfl rfl rfl g77) ?_
            refine s_sk (d := some 91) rfl rfl (wants_no rfl rfl rfl rfl g77) ?_
            refine s_sk (d := some 92) rfl rfl (wants_un rfl rfl rfl) ?_
            refine s_sk (d := some 93) rfl rfl (wants_un rfl rfl rfl) ?_
            refine s_sk (d := some 94) rfl rfl (wants_un rfl rfl rfl) ?_
            refine s_sk (d := some 95) rfl rfl (wants_un rfl rfl rfl) ?_
            refine s_skl (d := some 96) rfl rfl (wants_un rfl rfl rfl) ?_
            refine s_sk (d := some 97) rfl rfl (wants_un rfl rfl rfl) ?_
            refine s_sk (d := some 98) rfl rfl (wants_no rfl rfl rfl rfl g77) ?_
            refine s_pu (d := some 99) (v := (.bool false)) rfl rfl rfl (r_pick0 rfl g77 rfl) ?_
            refine s_fin ?_
            exact N_mk (l := [(10, (Sl.v ((⟨some p34, 3, 3⟩ : Sl)))), (11, (.int .i64 k37)), (12, (Sl.v y47)), (13, (.int .i64 least48)), (14, (.int .i64 size49)), (15, (.int .i64 i50)), (99, (.bool false))]) H ⟨rfl, rfl, rfl, rfl, rfl, rfl, rfl, trivial⟩)
        clear eN54
        refine W_region (.pu 0 (.pu 1 (.pu 2 (.pu 3 (.pu 4 (.pu 5 (.pu 6 (.pu 7 (.pu 8 (.rl 9 (.pu 10 (.pu 11 (.pu 12 (.pu 13 .fin)))))))))))))) rfl rfl ?_
        refine s_pu (d := some 53) (v := (.int .i64 i50)) rfl rfl rfl (r_move rfl) ?_
        refine s_pu (d := some 54) (v := (Sl.v y47)) rfl rfl rfl (r_move rfl) ?_
        refine s_pu (d := some 55) (v := (.int .i64 ((y47.len : Int)))) rfl rfl rfl (r_len Try.underlying47 rfl) ?_
        refine s_pu (d := some 56) (v := (.int .i64 (w64 (((y47.len : Int)) - 1)))) rfl rfl rfl (r_sub rfl rfl) ?_
        refine s_pu (d := some 57) (v := (.bool (decide (i50 = (w64 (((y47.len : Int)) - 1)))))) rfl rfl rfl (r_eql rfl rfl) ?_
        refine s_pu (d := some 58) (v := (.bool (decide (i50 = (w64 (((y47.len : Int)) - 1)))))) rfl rfl rfl (r_move rfl) ?_
        rcases Bool.eq_false_or_eq_true (decide (i50 = (w64 (((y47.len : Int)) - 1)))) with g113 | g113
        · have H := H.1 g113
          refine s_pu (d := some 59) (v := (Sl.v y47)) rfl rfl (wants_yes rfl rfl rfl rfl g113) (r_move rfl) ?_
          refine s_pu (d := some 60) (v := (.int .i64 i50)) rfl rfl (wants_yes rfl rfl rfl rfl g113) (r_move rfl) ?_
          obtain ⟨p114, e115, e116, e117, H⟩ := H
          obtain ⟨q118, e119⟩ : ∃ q : Addr, q = Addr.add p114 (Int.toNat i50 * 2) := ⟨_, rfl⟩
          rw [← e119] at H
          refine s_pu (d := some 61) (v := (.pointer (some q118))) rfl rfl (wants_yes rfl rfl rfl rfl g113) (fun w => (r_indexAddr Try.underlying47 Try.sizeOf49 rfl rfl e115 e116 e117 w).trans (by rw [e119])) ?_
          obtain ⟨x120, e121, H⟩ := H
          obtain ⟨x122, e123, H⟩ := H
          refine s_rl (d := some 62) (v := (.agg #[(.int .i64 x120), (.int .i64 x122)])) rfl rfl (wants_yes rfl rfl rfl rfl g113) (fun dr => r_loadN Try.isAgg49 Try.sizeOf49 (vs := [(.int .i64 x120), (.int .i64 x122)]) rfl rfl ⟨e121, e123, trivial⟩) ?_
          refine s_pu (d := some 63) (v := (.agg #[(.int .i64 1), (.int .i64 0)])) rfl rfl (wants_yes rfl rfl rfl rfl g113) (fun w => by kernel_rfl) ?_
          refine s_pu (d := some 64) (v := (.bool (decide (x120 = 1 ∧ x122 = 0)))) rfl rfl (wants_yes rfl rfl rfl rfl g113) (r_eqlAgg_Try49 rfl rfl) ?_
          refine s_pu (d := some 65) (v := (.bool (decide (x120 = 1 ∧ x122 = 0)))) rfl rfl rfl (r_pick1 rfl g113 rfl) ?_
          refine s_pu (d := some 16) (v := (.bool (decide (x120 = 1 ∧ x122 = 0)))) rfl rfl rfl (r_assign rfl) ?_
          refine s_fin ?_
          exact N_mk (l := [(10, (Sl.v ((⟨some p34, 3, 3⟩ : Sl)))), (11, (.int .i64 k37)), (12, (Sl.v y47)), (13, (.int .i64 least48)), (14, (.int .i64 size49)), (15, (.int .i64 i50)), (16, (.bool (decide (x120 = 1 ∧ x122 = 0))))]) H ⟨rfl, rfl, rfl, rfl, rfl, rfl, rfl, trivial⟩
        · have H := H.2 g113
          refine s_sk (d := some 59) rfl rfl (wants_no rfl rfl rfl rfl g113) ?_
          refine s_sk (d := some 60) rfl rfl (wants_no rfl rfl rfl rfl g113) ?_
          refine s_sk (d := some 61) rfl rfl (wants_no rfl rfl rfl rfl g113) ?_
          refine s_skl (d := some 62) rfl rfl (wants_no rfl rfl rfl rfl g113) ?_
          refine s_sk (d := some 63) rfl rfl (wants_no rfl rfl rfl rfl g113) ?_
          refine s_sk (d := some 64) rfl rfl (wants_no rfl rfl rfl rfl g113) ?_
          refine s_pu (d := some 65) (v := (.bool false)) rfl rfl rfl (r_pick0 rfl g113 rfl) ?_
          refine s_pu (d := some 16) (v := (.bool false)) rfl rfl rfl (r_assign rfl) ?_
          refine s_fin ?_
          exact N_mk (l := [(10, (Sl.v ((⟨some p34, 3, 3⟩ : Sl)))), (11, (.int .i64 k37)), (12, (Sl.v y47)), (13, (.int .i64 least48)), (14, (.int .i64 size49)), (15, (.int .i64 i50)), (16, (.bool false))]) H ⟨rfl, rfl, rfl, rfl, rfl, rfl, rfl, trivial⟩
      · have H := H.2 g155
        refine W_exit (inX_here ?_)
        show W _ _ _ _ _ _ _ _
        refine W_seq ?_
        refine W_set ?_
        intro N126 eN126
        have H := H (fun (x124 : Bool) (h15 : Heap) => ∀ b, N126 [] (mkE [(10, (Sl.v ((⟨some p34, 3, 3⟩ : Sl)))), (11, (.int .i64 k37)), (137, (.bool x124))] b) h15) (by
          intro x124 h15 H b
          rw [eN126]
          show W _ _ _ _ _ _ _ _
          refine W_if x124 rfl (fun g127 => ?_) (fun g127 => ?_)
          · have H := H.1 g127
            refine W_seq ?_
            refine W_region (.pu 0 .fin) rfl rfl ?_
            refine s_pu (d := some 6) (v := (.bool false)) rfl rfl rfl (r_assign rfl) ?_
            refine s_fin ?_
            show W _ _ _ _ _ _ _ _
            refine W_ret ?_
            exact ⟨[(.bool false)], ⟨_, _, rfl, rfl, rfl⟩, false, rfl, H⟩
          · have H := H.2 g127
            refine W_skip ?_
            show W _ _ _ _ _ _ _ _
            refine W_region (.pu 0 (.pu 1 (.pu 2 .fin))) rfl rfl ?_
            refine s_pu (d := some 40) (v := (.int .i64 k37)) rfl rfl rfl (r_move rfl) ?_
            refine s_pu (d := some 41) (v := (.int .i64 (w64 (k37 + 1)))) rfl rfl rfl (r_add rfl rfl) ?_
            refine s_pu (d := some 11) (v := (.int .i64 (w64 (k37 + 1)))) rfl rfl rfl (r_assign rfl) ?_
            refine s_fin ?_
            exact WL_mk (l := [(10, (Sl.v ((⟨some p34, 3, 3⟩ : Sl)))), (11, (.int .i64 (w64 (k37 + 1))))]) H ⟨rfl, rfl, trivial⟩)
        clear eN126
        refine W_region (.pu 0 (.pu 1 (.pu 2 (.rl 3 (.ef 4 [] (.pu 5 (.pu 6 (.pu 7 (.pu 8 (.pu 9 (.pu 10 (.pu 11 (.pu 12 (.pu 13 (.pu 14 (.rl 15 (.ef 16 [] (.pu 17 (.pu 18 (.pu 19 (.pu 20 .fin)))) .no)))))))))))) .no))))) rfl rfl ?_
        refine s_pu (d := some 117) (v := (Sl.v ((⟨some p34, 3, 3⟩ : Sl)))) rfl rfl rfl (r_move rfl) ?_
        refine s_pu (d := some 118) (v := (.int .i64 k37)) rfl rfl rfl (r_move rfl) ?_
        obtain ⟨p128, e129, e130, e131, H⟩ := H
        obtain ⟨q132, e133⟩ : ∃ q : Addr, q = Addr.add p128 (Int.toNat k37 * 1) := ⟨_, rfl⟩
        rw [← e133] at H
        refine s_pu (d := some 119) (v := (.pointer (some q132))) rfl rfl rfl (fun w => (r_indexAddr Try.underlying46 Try.sizeOf26 rfl rfl e129 e130 e131 w).trans (by rw [e133])) ?_
        obtain ⟨x134, e135, H⟩ := H
        refine s_rl (d := some 120) (v := (.agg #[(.pointer x134)])) rfl rfl rfl (fun dr => r_loadN Try.isAgg26 Try.sizeOf26 (vs := [(.pointer x134)]) rfl rfl ⟨e135, trivial⟩) ?_
        refine s_ef (d := some 121) rfl rfl rfl (fun dr => r_call Try.call20 rfl rfl H) ?_ trivial
        rintro _ h16 ⟨y136, y137, y138, y139, y140, rfl, H⟩
        refine ⟨trivial, ?_⟩
        refine s_pu (d := some 122) (v := (.int .i64 y136)) rfl rfl rfl (fun w => by kernel_rfl) ?_
        refine s_pu (d := some 123) (v := (.int .i64 least48)) rfl rfl rfl (r_move rfl) ?_
        refine s_pu (d := some 124) (v := (.bool (decide (y136 < least48)))) rfl rfl rfl (r_lss rfl rfl) ?_
        refine s_pu (d := some 125) (v := (.bool (decide (y136 < least48)))) rfl rfl rfl (r_move rfl) ?_
        rcases Bool.eq_false_or_eq_true (decide (y136 < least48)) with g141 | g141
        · have H := H.1 g141
          refine s_sk (d := some 126) rfl rfl (wants_no rfl rfl rfl rfl g141) ?_
          refine s_sk (d := some 127) rfl rfl (wants_no rfl rfl rfl rfl g141) ?_
          refine s_sk (d := some 128) rfl rfl (wants_no rfl rfl rfl rfl g141) ?_
          refine s_sk (d := some 129) rfl rfl (wants_no rfl rfl rfl rfl g141) ?_
          refine s_sk (d := some 130) rfl rfl (wants_no rfl rfl rfl rfl g141) ?_
          refine s_sk (d := some 131) rfl rfl (wants_no rfl rfl rfl rfl g141) ?_
          refine s_skl (d := some 132) rfl rfl (wants_no rfl rfl rfl rfl g141) ?_
          refine s_skf (d := some 133) rfl rfl (wants_no rfl rfl rfl rfl g141) trivial ?_ trivial
          refine s_sk (d := some 134) rfl rfl (wants_no rfl rfl rfl rfl g141) ?_
          refine s_sk (d := some 135) rfl rfl (wants_no rfl rfl rfl rfl g141) ?_
          refine s_sk (d := some 136) rfl rfl (wants_no rfl rfl rfl rfl g141) ?_
          refine s_pu (d := some 137) (v := (.bool true)) rfl rfl rfl (r_pick1 rfl g141 rfl) ?_
          refine s_fin ?_
          exact N_mk (l := [(10, (Sl.v ((⟨some p34, 3, 3⟩ : Sl)))), (11, (.int .i64 k37)), (137, (.bool true))]) H ⟨rfl, rfl, rfl, trivial⟩
        · have H := H.2 g141
          refine s_pu (d := some 126) (v := (Sl.v y47)) rfl rfl (wants_yes rfl rfl rfl rfl g141) (r_move rfl) ?_
          refine s_pu (d := some 127) (v := (.int .i64 ((y47.len : Int)))) rfl rfl (wants_yes rfl rfl rfl rfl g141) (r_len Try.underlying47 rfl) ?_
          refine s_pu (d := some 128) (v := (.bool (decide (((y47.len : Int)) = 0)))) rfl rfl (wants_yes rfl rfl rfl rfl g141) (r_eql rfl rfl) ?_
          refine s_pu (d := some 129) (v := (Sl.v ((⟨some p34, 3, 3⟩ : Sl)))) rfl rfl (wants_yes rfl rfl rfl rfl g141) (r_move rfl) ?_
          refine s_pu (d := some 130) (v := (.int .i64 k37)) rfl rfl (wants_yes rfl rfl rfl rfl g141) (r_move rfl) ?_
          obtain ⟨p142, e143, e144, e145, H⟩ := H
          obtain ⟨q146, e147⟩ : ∃ q : Addr, q = Addr.add p142 (Int.toNat k37 * 1) := ⟨_, rfl⟩
          rw [← e147] at H
          refine s_pu (d := some 131) (v := (.pointer (some q146))) rfl rfl (wants_yes rfl rfl rfl rfl g141) (fun w => (r_indexAddr Try.underlying46 Try.sizeOf26 rfl rfl e143 e144 e145 w).trans (by rw [e147])) ?_
          obtain ⟨x148, e149, H⟩ := H
          refine s_rl (d := some 132) (v := (.agg #[(.pointer x148)])) rfl rfl (wants_yes rfl rfl rfl rfl g141) (fun dr => r_loadN Try.isAgg26 Try.sizeOf26 (vs := [(.pointer x148)]) rfl rfl ⟨e149, trivial⟩) ?_
          refine s_ef (d := some 133) rfl rfl (wants_yes rfl rfl rfl rfl g141) (fun dr => r_call Try.call20 rfl rfl H) ?_ trivial
          rintro _ h17 ⟨y150, y151, y152, y153, y154, rfl, H⟩
          refine ⟨trivial, ?_⟩
          refine s_pu (d := some 134) (v := (.int .i64 y150)) rfl rfl (wants_yes rfl rfl rfl rfl g141) (fun w => by kernel_rfl) ?_
          refine s_pu (d := some 135) (v := (.bool (decide (y150 = 0)))) rfl rfl (wants_yes rfl rfl rfl rfl g141) (r_eql rfl rfl) ?_
          refine s_pu (d := some 136) (v := (.bool ((decide (((y47.len : Int)) = 0)) != (decide (y150 = 0))))) rfl rfl (wants_yes rfl rfl rfl rfl g141) (r_neqB Try.underlying4 rfl rfl) ?_
          refine s_pu (d := some 137) (v := (.bool ((decide (((y47.len : Int)) = 0)) != (decide (y150 = 0))))) rfl rfl rfl (r_pick0 rfl g141 rfl) ?_
          refine s_fin ?_
          exact N_mk (l := [(10, (Sl.v ((⟨some p34, 3, 3⟩ : Sl)))), (11, (.int .i64 k37)), (137, (.bool ((decide (((y47.len : Int)) = 0)) != (decide (y150 = 0)))))]) H ⟨rfl, rfl, rfl, trivial⟩
    · have H := H.2 g156
      refine W_exit (inX_here ?_)
      show W _ _ _ _ _ _ _ _
      refine W_seq ?_
      refine W_region (.pu 0 .fin) rfl rfl ?_
      refine s_pu (d := some 6) (v := (.bool true)) rfl rfl rfl (r_assign rfl) ?_
      refine s_fin ?_
      show W _ _ _ _ _ _ _ _
      refine W_ret ?_
      exact ⟨[(.bool true)], ⟨_, _, rfl, rfl, rfl⟩, true, rfl, H⟩

/-! ### law3_FingerDigits_1 -/

def law3_FingerDigits_1_F (r : World) (x1 : Int) (x2 : Int) (x3 : Int) (x4 : Int) (x5 : Int) (c6 : Addr) (h : Heap) (R : Bool → Heap → Prop) : Prop :=
  New h (.cells #[(.int .i64 x1), (.int .i64 x2), (.int .i64 x3), (.int .i64 x4), (.int .i64 x5)] 34) fun p7 h1 =>
  LdI h1 (Addr.add p7 0) fun x10 =>
  LdI h1 c6 fun x12 =>
  R (decide (x12 < x10)) h1

set_option maxRecDepth 100000 in
theorem law3_FingerDigits_1_of {r : World} {x1 : Int} {x2 : Int} {x3 : Int} {x4 : Int} {x5 : Int} {c6 : Addr} {h : Heap} {R : Bool → Heap → Prop} (H : law3_FingerDigits_1_F r x1 x2 x3 x4 x5 c6 h R) : law3_FingerDigits_1 r x1 x2 x3 x4 x5 c6 h R := by
  unfold law3_FingerDigits_1_F at H
  refine calls_of 8 [.tmp 3] Try.func28 rfl rfl rfl rfl rfl ?_
  refine W_seq ?_
  refine W_region (.ef 0 [] (.pu 1 .fin) .no) rfl rfl ?_
  obtain ⟨p7, e8⟩ : ∃ p : Addr, p = ⟨h.size, 0, none⟩ := ⟨_, rfl⟩
  obtain ⟨h1, e9⟩ : ∃ hh : Heap, hh = h.push (.cells #[(.int .i64 x1), (.int .i64 x2), (.int .i64 x3), (.int .i64 x4), (.int .i64 x5)] 34) := ⟨_, rfl⟩
  have H := H p7 h1 e8 e9
  refine s_ef1 (d := some 2) (v := (.pointer (some p7))) (h' := h1) rfl rfl rfl (fun dr => (r_box (v := (.agg #[(.int .i64 x1), (.int .i64 x2), (.int .i64 x3), (.int .i64 x4), (.int .i64 x5)])) rfl).trans (by rw [e8, e9]; rfl)) trivial ?_ trivial
  refine s_pu (d := some 3) (v := (.bool false)) rfl rfl rfl (r_assign rfl) ?_
  refine s_fin ?_
  show W _ _ _ _ _ _ _ _
  refine W_seq ?_
  refine W_region (.pu 0 (.rl 1 (.rl 2 (.pu 3 (.pu 4 .fin))))) rfl rfl ?_
  refine s_pu (d := some 4) (v := (.pointer (some (Addr.add p7 0)))) rfl rfl rfl (r_fieldAddr Try.underlying34 Try.sizeOf3 rfl rfl rfl) ?_
  obtain ⟨x10, e11, H⟩ := H
  refine s_rl (d := some 5) (v := (.int .i64 x10)) rfl rfl rfl (fun dr => r_load1 Try.isAgg3 rfl e11) ?_
  obtain ⟨x12, e13, H⟩ := H
  refine s_rl (d := some 6) (v := (.int .i64 x12)) rfl rfl rfl (fun dr => r_load1 Try.isAgg3 rfl e13) ?_
  refine s_pu (d := some 7) (v := (.bool (decide (x12 < x10)))) rfl rfl rfl (r_gtr rfl rfl) ?_
  refine s_pu (d := some 3) (v := (.bool (decide (x12 < x10)))) rfl rfl rfl (r_assign rfl) ?_
  refine s_fin ?_
  show W _ _ _ _ _ _ _ _
  refine W_ret ?_
  exact ⟨[(.bool (decide (x12 < x10)))], ⟨_, _, rfl, rfl, rfl⟩, (decide (x12 < x10)), rfl, H⟩

end Go.Proofs.Ytmjljnbjoldeaaa
