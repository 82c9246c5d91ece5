/- Typed words of functions, and that they hold: printed by gen.py (an own tool of this claim) off the model's own form of each function. -/
import Derived.Test.YtcafckgflpmfgaaProg
import Derived.Test.YtcafckgflpmfgaaVInv
import Derived.Test.YtcafckgflpmfgaaVRef
namespace Go.Proofs.Ytcafckgflpmfgaa
open Go Go.RowKit Go.Tw
set_option linter.unusedVariables false

theorem slFVLaw_22 : SlF Try.prog 22 3 1 8 (.int .i64 0) := ⟨Try.underlying22, ⟨Try.t3, by kernel_rfl, rfl, rfl, rfl⟩, rfl, Try.sizeOf3, Try.zeroValue3⟩

/-! ### the calls -/

abbrev law5_sorted (r : World)  (h : Heap) (R : Bool → Heap → Prop) : Prop :=
  CallsH Try.prog r 8 [] h fun v h' => ∃ (y1 : Bool), v = (.bool y1) ∧ R y1 h'

theorem law5_sorted.mono {r : World}  {h : Heap} {R R' : Bool → Heap → Prop} (H : law5_sorted r  h R) (hr : ∀ y1 h, R y1 h → R' y1 h) : law5_sorted r  h R' :=
  CallsH.mono H fun _ _ hx => by
    obtain ⟨y1, hv, hR⟩ := hx
    exact ⟨y1, hv, hr _ _ hR⟩

abbrev law5_InvSwaps (r : World) (l1 : Sl) (i2 : Int) (h : Heap) (R : Bool → Heap → Prop) : Prop :=
  CallsH Try.prog r 3 [(Sl.v l1), (.int .i64 i2)] h fun v h' => ∃ (y3 : Bool), v = (.bool y3) ∧ R y3 h'

theorem law5_InvSwaps.mono {r : World} {l1 : Sl} {i2 : Int} {h : Heap} {R R' : Bool → Heap → Prop} (H : law5_InvSwaps r l1 i2 h R) (hr : ∀ y3 h, R y3 h → R' y3 h) : law5_InvSwaps r l1 i2 h R' :=
  CallsH.mono H fun _ _ hx => by
    obtain ⟨y3, hv, hR⟩ := hx
    exact ⟨y3, hv, hr _ _ hR⟩

abbrev law5_InvSigns (r : World) (p1 : Sl) (q2 : Sl) (h : Heap) (R : Bool → Heap → Prop) : Prop :=
  CallsH Try.prog r 4 [(Sl.v p1), (Sl.v q2)] h fun v h' => ∃ (y3 : Bool), v = (.bool y3) ∧ R y3 h'

theorem law5_InvSigns.mono {r : World} {p1 : Sl} {q2 : Sl} {h : Heap} {R R' : Bool → Heap → Prop} (H : law5_InvSigns r p1 q2 h R) (hr : ∀ y3 h, R y3 h → R' y3 h) : law5_InvSigns r p1 q2 h R' :=
  CallsH.mono H fun _ _ hx => by
    obtain ⟨y3, hv, hR⟩ := hx
    exact ⟨y3, hv, hr _ _ hR⟩

abbrev law5_InvRanks (r : World) (n1 : Int) (a2 : Int) (vb3 : Int) (h : Heap) (R : Bool → Heap → Prop) : Prop :=
  CallsH Try.prog r 5 [(.int .i64 n1), (.int .i64 a2), (.int .i64 vb3)] h fun v h' => ∃ (y4 : Bool), v = (.bool y4) ∧ R y4 h'

theorem law5_InvRanks.mono {r : World} {n1 : Int} {a2 : Int} {vb3 : Int} {h : Heap} {R R' : Bool → Heap → Prop} (H : law5_InvRanks r n1 a2 vb3 h R) (hr : ∀ y4 h, R y4 h → R' y4 h) : law5_InvRanks r n1 a2 vb3 h R' :=
  CallsH.mono H fun _ _ hx => by
    obtain ⟨y4, hv, hR⟩ := hx
    exact ⟨y4, hv, hr _ _ hR⟩

abbrev law5_InvBack (r : World) (p1 : Sl) (h : Heap) (R : Bool → Heap → Prop) : Prop :=
  CallsH Try.prog r 6 [(Sl.v p1)] h fun v h' => ∃ (y2 : Bool), v = (.bool y2) ∧ R y2 h'

theorem law5_InvBack.mono {r : World} {p1 : Sl} {h : Heap} {R R' : Bool → Heap → Prop} (H : law5_InvBack r p1 h R) (hr : ∀ y2 h, R y2 h → R' y2 h) : law5_InvBack r p1 h R' :=
  CallsH.mono H fun _ _ hx => by
    obtain ⟨y2, hv, hR⟩ := hx
    exact ⟨y2, hv, hr _ _ hR⟩

abbrev top_TopRanks (r : World) (l1 : Sl) (h : Heap) (R : Bool → Heap → Prop) : Prop :=
  CallsH Try.prog r 7 [(Sl.v l1)] h fun v h' => ∃ (y2 : Bool), v = (.bool y2) ∧ R y2 h'

theorem top_TopRanks.mono {r : World} {l1 : Sl} {h : Heap} {R R' : Bool → Heap → Prop} (H : top_TopRanks r l1 h R) (hr : ∀ y2 h, R y2 h → R' y2 h) : top_TopRanks r l1 h R' :=
  CallsH.mono H fun _ _ hx => by
    obtain ⟨y2, hv, hR⟩ := hx
    exact ⟨y2, hv, hr _ _ hR⟩

/-! ### law5_sorted -/

def law5_sorted_F (r : World)  (h : Heap) (R : Bool → Heap → Prop) : Prop :=
  New h (.cells #[(.int .i64 3), (.int .i64 1), (.int .i64 2)] 3) fun p1 h1 =>
  inv_Count r ((⟨some p1, 3, 3⟩ : Sl)) h1 fun y4 h2 =>
  New h2 (.cells #[(.int .i64 2), (.int .i64 0), (.int .i64 1)] 3) fun p5 h3 =>
  inv_Lehmer r ((⟨some p5, 3, 3⟩ : Sl)) h3 fun y8 y9 h4 =>
  New h4 (.cells #[(.int .i64 2), (.int .i64 0), (.int .i64 0)] 3) fun p10 h5 =>
  same_Ints r y8 ((⟨some p10, 3, 3⟩ : Sl)) h5 fun y13 h6 =>
  (isIface y9 = true) ∧
  R (((decide (y4 = 2)) && (isNil y9)) && y13) h6

set_option maxRecDepth 100000 in
theorem law5_sorted_of {r : World}  {h : Heap} {R : Bool → Heap → Prop} (H : law5_sorted_F r  h R) : law5_sorted r  h R := by
  unfold law5_sorted_F at H
  refine calls_of 24 [.tmp 0] Try.func8 rfl rfl rfl rfl rfl ?_
  refine W_seq ?_
  refine W_region (.pu 0 .fin) rfl rfl ?_
  refine s_pu (d := some 0) (v := (.bool false)) rfl rfl rfl (r_assign rfl) ?_
  refine s_fin ?_
  show W _ _ _ _ _ _ _ _
  refine W_seq ?_
  refine W_region (.ef 0 [] (.ef 1 [] (.pu 2 .fin) .no) .no) rfl rfl ?_
  obtain ⟨p1, e2⟩ : ∃ p : Addr, p = ⟨h.size, 0, none⟩ := ⟨_, rfl⟩
  obtain ⟨h1, e3⟩ : ∃ hh : Heap, hh = h.push (.cells #[(.int .i64 3), (.int .i64 1), (.int .i64 2)] 3) := ⟨_, rfl⟩
  have H := H p1 h1 e2 e3
  refine s_ef1 (d := some 5) (v := (Sl.v ((⟨some p1, 3, 3⟩ : Sl)))) (h' := h1) rfl rfl rfl (fun dr => (slFVLaw_22.build (cells := #[(.int .i64 3), (.int .i64 1), (.int .i64 2)]) (by decide) rfl (by kernel_rfl)).trans (by rw [e2, e3]; rfl)) trivial ?_ trivial
  refine s_ef (d := some 6) rfl rfl rfl (fun dr => r_call Try.call9 rfl rfl H) ?_ trivial
  rintro _ h2 ⟨y4, rfl, H⟩
  refine ⟨trivial, ?_⟩
  refine s_pu (d := some 1) (v := (.int .i64 y4)) rfl rfl rfl (r_assign rfl) ?_
  refine s_fin ?_
  show W _ _ _ _ _ _ _ _
  refine W_seq ?_
  refine W_region (.ef 0 [] (.ef 1 [] (.pu 2 (.pu 3 (.pu 4 (.pu 5 (.pu 6 .fin))))) .no) .no) rfl rfl ?_
  obtain ⟨p5, e6⟩ : ∃ p : Addr, p = ⟨h2.size, 0, none⟩ := ⟨_, rfl⟩
  obtain ⟨h3, e7⟩ : ∃ hh : Heap, hh = h2.push (.cells #[(.int .i64 2), (.int .i64 0), (.int .i64 1)] 3) := ⟨_, rfl⟩
  have H := H p5 h3 e6 e7
  refine s_ef1 (d := some 8) (v := (Sl.v ((⟨some p5, 3, 3⟩ : Sl)))) (h' := h3) rfl rfl rfl (fun dr => (slFVLaw_22.build (cells := #[(.int .i64 2), (.int .i64 0), (.int .i64 1)]) (by decide) rfl (by kernel_rfl)).trans (by rw [e6, e7]; rfl)) trivial ?_ trivial
  refine s_ef (d := some 9) rfl rfl rfl (fun dr => r_call Try.call13 rfl rfl H) ?_ trivial
  rintro _ h4 ⟨y8, y9, rfl, H⟩
  refine ⟨trivial, ?_⟩
  refine s_pu (d := some 7) (v := (.tuple #[(Sl.v y8), y9])) rfl rfl rfl (r_move rfl) ?_
  refine s_pu (d := some 10) (v := (Sl.v y8)) rfl rfl rfl (r_extract rfl rfl) ?_
  refine s_pu (d := some 11) (v := y9) rfl rfl rfl (r_extract rfl rfl) ?_
  refine s_pu (d := some 2) (v := (Sl.v y8)) rfl rfl rfl (r_assign rfl) ?_
  refine s_pu (d := some 3) (v := y9) rfl rfl rfl (r_assign rfl) ?_
  refine s_fin ?_
  show W _ _ _ _ _ _ _ _
  refine W_seq ?_
  refine W_region (.pu 0 (.ef 1 [] (.ef 2 [] (.pu 3 .fin) .no) .no)) rfl rfl ?_
  refine s_pu (d := some 12) (v := (Sl.v y8)) rfl rfl rfl (r_move rfl) ?_
  obtain ⟨p10, e11⟩ : ∃ p : Addr, p = ⟨h4.size, 0, none⟩ := ⟨_, rfl⟩
  obtain ⟨h5, e12⟩ : ∃ hh : Heap, hh = h4.push (.cells #[(.int .i64 2), (.int .i64 0), (.int .i64 0)] 3) := ⟨_, rfl⟩
  have H := H p10 h5 e11 e12
  refine s_ef1 (d := some 13) (v := (Sl.v ((⟨some p10, 3, 3⟩ : Sl)))) (h' := h5) rfl rfl rfl (fun dr => (slFVLaw_22.build (cells := #[(.int .i64 2), (.int .i64 0), (.int .i64 0)]) (by decide) rfl (by kernel_rfl)).trans (by rw [e11, e12]; rfl)) trivial ?_ trivial
  refine s_ef (d := some 14) rfl rfl rfl (fun dr => r_call Try.call17 rfl rfl H) ?_ trivial
  rintro _ h6 ⟨y13, rfl, H⟩
  refine ⟨trivial, ?_⟩
  refine s_pu (d := some 4) (v := (.bool y13)) rfl rfl rfl (r_assign rfl) ?_
  refine s_fin ?_
  show W _ _ _ _ _ _ _ _
  refine W_seq ?_
  refine W_region (.pu 0 (.pu 1 (.pu 2 (.pu 3 (.pu 4 (.pu 5 (.pu 6 (.pu 7 (.pu 8 (.pu 9 .fin)))))))))) rfl rfl ?_
  refine s_pu (d := some 15) (v := (.int .i64 y4)) rfl rfl rfl (r_move rfl) ?_
  refine s_pu (d := some 16) (v := (.bool (decide (y4 = 2)))) rfl rfl rfl (r_eql rfl rfl) ?_
  refine s_pu (d := some 17) (v := (.bool (decide (y4 = 2)))) rfl rfl rfl (r_move rfl) ?_
  obtain ⟨e15, H⟩ := H
  refine S_meet (l := [(4, (.bool y13)), (20, (.bool ((decide (y4 = 2)) && (isNil y9))))]) (i := 3) ?_ (fun HJ => ?_)
  · intro b
    show S _ _ _ _ _ _
    refine s_pu (d := some 21) (v := (.bool ((decide (y4 = 2)) && (isNil y9)))) rfl rfl rfl (r_move rfl) ?_
    refine S_meet (l := [(23, (.bool (((decide (y4 = 2)) && (isNil y9)) && y13)))]) (i := 2) ?_ (fun HJ => ?_)
    · intro b
      show S _ _ _ _ _ _
      refine s_pu (d := some 0) (v := (.bool (((decide (y4 = 2)) && (isNil y9)) && y13))) rfl rfl rfl (r_assign rfl) ?_
      refine s_fin ?_
      show W _ _ _ _ _ _ _ _
      refine W_ret ?_
      exact ⟨[(.bool (((decide (y4 = 2)) && (isNil y9)) && y13))], ⟨_, _, rfl, rfl, rfl⟩, (((decide (y4 = 2)) && (isNil y9)) && y13), rfl, H⟩
    · rcases Bool.eq_false_or_eq_true ((decide (y4 = 2)) && (isNil y9)) with g18 | g18
      · refine s_pu (d := some 22) (v := (.bool y13)) rfl rfl (wants_yes rfl rfl rfl rfl g18) (r_move rfl) ?_
        refine s_pu (d := some 23) (v := (.bool y13)) rfl rfl rfl (r_pick1 rfl g18 rfl) ?_
        exact S_mk (l := [(23, (.bool (((decide (y4 = 2)) && (isNil y9)) && y13)))]) HJ ⟨(by rw [g18]; rfl), trivial⟩
      · refine s_sk (d := some 22) rfl rfl (wants_no rfl rfl rfl rfl g18) ?_
        refine s_pu (d := some 23) (v := (.bool false)) rfl rfl rfl (r_pick0 rfl g18 rfl) ?_
        exact S_mk (l := [(23, (.bool (((decide (y4 = 2)) && (isNil y9)) && y13)))]) HJ ⟨(by rw [g18]; rfl), trivial⟩
  · rcases Bool.eq_false_or_eq_true (decide (y4 = 2)) with g14 | g14
    · refine s_pu (d := some 18) (v := y9) rfl rfl (wants_yes rfl rfl rfl rfl g14) (r_move rfl) ?_
      refine s_pu (d := some 19) (v := (.bool (isNil y9))) rfl rfl (wants_yes rfl rfl rfl rfl g14) (r_nilI Try.underlying28 rfl e15 rfl) ?_
      refine s_pu (d := some 20) (v := (.bool (isNil y9))) rfl rfl rfl (r_pick1 rfl g14 rfl) ?_
      exact S_mk (l := [(4, (.bool y13)), (20, (.bool ((decide (y4 = 2)) && (isNil y9))))]) HJ ⟨rfl, (by rw [g14]; rfl), trivial⟩
    · refine s_sk (d := some 18) rfl rfl (wants_no rfl rfl rfl rfl g14) ?_
      refine s_sk (d := some 19) rfl rfl (wants_no rfl rfl rfl rfl g14) ?_
      refine s_pu (d := some 20) (v := (.bool false)) rfl rfl rfl (r_pick0 rfl g14 rfl) ?_
      exact S_mk (l := [(4, (.bool y13)), (20, (.bool ((decide (y4 = 2)) && (isNil y9))))]) HJ ⟨rfl, (by rw [g14]; rfl), trivial⟩

/-! ### law5_InvSwaps -/

def law5_InvSwaps_F (r : World) (l1 : Sl) (i2 : Int) (h : Heap) (R : Bool → Heap → Prop) : Prop :=
  law5_sorted r h fun y3 h1 =>
  Br (!y3) (
    R false h1) (
    inv_Count r l1 h1 fun y4 h2 =>
    Br ((decide (y4 < 0)) || (decide ((w64 (((l1.len : Int)) * (w64 (((l1.len : Int)) - 1)))) < (w64 (2 * y4))))) (
      R false h2) (
      Br ((decide (i2 < 0)) || (decide ((w64 (((l1.len : Int)) - 1)) ≤ i2))) (
        R true h2) (
        Ix l1 (w64 (i2 + 1)) 1 fun q15 =>
        LdI h2 q15 fun x17 =>
        Ix l1 i2 1 fun q23 =>
        LdI h2 q23 fun x25 =>
        ref1_Put r l1 i2 x17 h2 fun y27 h3 =>
        (hcell h3 q23 = some (.int .i64 x25)) ∧
        ref1_Put r y27 (w64 (i2 + 1)) x25 h3 fun y29 h4 =>
        inv_Count r y29 h4 fun y30 h5 =>
        Ix l1 i2 1 fun q35 =>
        LdI h5 q35 fun x37 =>
        Ix l1 (w64 (i2 + 1)) 1 fun q43 =>
        LdI h5 q43 fun x45 =>
        Br (decide (x45 < x37)) (
          R (decide (y30 = (w64 (y4 - 1)))) h5) (
          Ix l1 i2 1 fun q51 =>
          LdI h5 q51 fun x53 =>
          Ix l1 (w64 (i2 + 1)) 1 fun q59 =>
          LdI h5 q59 fun x61 =>
          Br (decide (x53 < x61)) (
            R (decide (y30 = (w64 (y4 + 1)))) h5) (
            R (decide (y30 = y4)) h5)))))

set_option maxRecDepth 100000 in
theorem law5_InvSwaps_of {r : World} {l1 : Sl} {i2 : Int} {h : Heap} {R : Bool → Heap → Prop} (H : law5_InvSwaps_F r l1 i2 h R) : law5_InvSwaps r l1 i2 h R := by
  unfold law5_InvSwaps_F at H
  refine calls_of 84 [.tmp 4] Try.func3 rfl rfl rfl rfl rfl ?_
  refine W_seq ?_
  refine W_region (.pu 0 .fin) rfl rfl ?_
  refine s_pu (d := some 4) (v := (.bool false)) rfl rfl rfl (r_assign rfl) ?_
  refine s_fin ?_
  show W _ _ _ _ _ _ _ _
  refine W_seq ?_
  refine W_region (.ef 0 [] (.pu 1 .fin) .no) rfl rfl ?_
  refine s_ef (d := some 9) rfl rfl rfl (fun dr => r_call Try.call8 rfl rfl H) ?_ trivial
  rintro _ h1 ⟨y3, rfl, H⟩
  refine ⟨trivial, ?_⟩
  refine s_pu (d := some 5) (v := (.bool y3)) rfl rfl rfl (r_assign rfl) ?_
  refine s_fin ?_
  show W _ _ _ _ _ _ _ _
  refine W_seq ?_
  refine W_seq ?_
  refine W_region (.pu 0 (.pu 1 .fin)) rfl rfl ?_
  refine s_pu (d := some 10) (v := (.bool y3)) rfl rfl rfl (r_move rfl) ?_
  refine s_pu (d := some 11) (v := (.bool (!y3))) rfl rfl rfl (r_not rfl) ?_
  refine s_fin ?_
  show W _ _ _ _ _ _ _ _
  refine W_if (!y3) rfl (fun g69 => ?_) (fun g69 => ?_)
  · have H := H.1 g69
    refine W_seq ?_
    refine W_region (.pu 0 .fin) rfl rfl ?_
    refine s_pu (d := some 4) (v := (.bool false)) rfl rfl rfl (r_assign rfl) ?_
    refine s_fin ?_
    show W _ _ _ _ _ _ _ _
    refine W_ret ?_
    exact ⟨[(.bool false)], ⟨_, _, rfl, rfl, rfl⟩, false, rfl, H⟩
  · have H := H.2 g69
    refine W_skip ?_
    show W _ _ _ _ _ _ _ _
    refine W_seq ?_
    refine W_region (.pu 0 (.ef 1 [] (.pu 2 .fin) .no)) rfl rfl ?_
    refine s_pu (d := some 12) (v := (Sl.v l1)) rfl rfl rfl (r_move rfl) ?_
    refine s_ef (d := some 13) rfl rfl rfl (fun dr => r_call Try.call9 rfl rfl H) ?_ trivial
    rintro _ h2 ⟨y4, rfl, H⟩
    refine ⟨trivial, ?_⟩
    refine s_pu (d := some 6) (v := (.int .i64 y4)) rfl rfl rfl (r_assign rfl) ?_
    refine s_fin ?_
    show W _ _ _ _ _ _ _ _
    refine W_seq ?_
    refine W_seq ?_
    refine W_region (.pu 0 (.pu 1 (.pu 2 (.pu 3 (.pu 4 (.pu 5 (.pu 6 (.pu 7 (.pu 8 (.pu 9 (.pu 10 (.pu 11 (.pu 12 .fin))))))))))))) rfl rfl ?_
    refine s_pu (d := some 14) (v := (.int .i64 y4)) rfl rfl rfl (r_move rfl) ?_
    refine s_pu (d := some 15) (v := (.bool (decide (y4 < 0)))) rfl rfl rfl (r_lss rfl rfl) ?_
    refine s_pu (d := some 16) (v := (.bool (decide (y4 < 0)))) rfl rfl rfl (r_move rfl) ?_
    refine S_meet (l := [(0, (Sl.v l1)), (1, (.int .i64 i2)), (6, (.int .i64 y4)), (26, (.bool ((decide (y4 < 0)) || (decide ((w64 (((l1.len : Int)) * (w64 (((l1.len : Int)) - 1)))) < (w64 (2 * y4)))))))]) (i := 10) ?_ (fun HJ => ?_)
    · intro b
      show S _ _ _ _ _ _
      refine s_fin ?_
      show W _ _ _ _ _ _ _ _
      refine W_if ((decide (y4 < 0)) || (decide ((w64 (((l1.len : Int)) * (w64 (((l1.len : Int)) - 1)))) < (w64 (2 * y4))))) rfl (fun g67 => ?_) (fun g67 => ?_)
      · have H := H.1 g67
        refine W_seq ?_
        refine W_region (.pu 0 .fin) rfl rfl ?_
        refine s_pu (d := some 4) (v := (.bool false)) rfl rfl rfl (r_assign rfl) ?_
        refine s_fin ?_
        show W _ _ _ _ _ _ _ _
        refine W_ret ?_
        exact ⟨[(.bool false)], ⟨_, _, rfl, rfl, rfl⟩, false, rfl, H⟩
      · have H := H.2 g67
        refine W_skip ?_
        show W _ _ _ _ _ _ _ _
        refine W_seq ?_
        refine W_seq ?_
        refine W_region (.pu 0 (.pu 1 (.pu 2 (.pu 3 (.pu 4 (.pu 5 (.pu 6 (.pu 7 (.pu 8 .fin))))))))) rfl rfl ?_
        refine s_pu (d := some 27) (v := (.int .i64 i2)) rfl rfl rfl (r_move rfl) ?_
        refine s_pu (d := some 28) (v := (.bool (decide (i2 < 0)))) rfl rfl rfl (r_lss rfl rfl) ?_
        refine s_pu (d := some 29) (v := (.bool (decide (i2 < 0)))) rfl rfl rfl (r_move rfl) ?_
        refine S_meet (l := [(0, (Sl.v l1)), (1, (.int .i64 i2)), (6, (.int .i64 y4)), (35, (.bool ((decide (i2 < 0)) || (decide ((w64 (((l1.len : Int)) - 1)) ≤ i2)))))]) (i := 6) ?_ (fun HJ => ?_)
        · intro b
          show S _ _ _ _ _ _
          refine s_fin ?_
          show W _ _ _ _ _ _ _ _
          refine W_if ((decide (i2 < 0)) || (decide ((w64 (((l1.len : Int)) - 1)) ≤ i2))) rfl (fun g65 => ?_) (fun g65 => ?_)
          · have H := H.1 g65
            refine W_seq ?_
            refine W_region (.pu 0 .fin) rfl rfl ?_
            refine s_pu (d := some 4) (v := (.bool true)) rfl rfl rfl (r_assign rfl) ?_
            refine s_fin ?_
            show W _ _ _ _ _ _ _ _
            refine W_ret ?_
            exact ⟨[(.bool true)], ⟨_, _, rfl, rfl, rfl⟩, true, rfl, H⟩
          · have H := H.2 g65
            refine W_skip ?_
            show W _ _ _ _ _ _ _ _
            refine W_seq ?_
            refine W_draw [0, 0, 0, 0, 8, 28, 60, 127, 0, 256, 0, 0, 3072, 7168, 16383, 32767] (.pu 0 (.pu 1 (.pu 2 (.pu 3 (.pu 4 (.pu 5 (.rd 6 (.pu 8 (.pu 9 (.pu 10 (.pu 11 (.pu 12 (.rd 13 (.ef 7 [6] (.ef 14 [6, 13] (.pu 15 .fin) .no) .no)))))))))))))) (by kernel_rfl) (by kernel_rfl) ?_
            refine s_pu (d := some 36) (v := (Sl.v l1)) rfl rfl rfl (r_move rfl) ?_
            refine s_pu (d := some 37) (v := (.int .i64 i2)) rfl rfl rfl (r_move rfl) ?_
            refine s_pu (d := some 38) (v := (Sl.v l1)) rfl rfl rfl (r_move rfl) ?_
            refine s_pu (d := some 39) (v := (.int .i64 i2)) rfl rfl rfl (r_move rfl) ?_
            refine s_pu (d := some 40) (v := (.int .i64 (w64 (i2 + 1)))) rfl rfl rfl (r_add rfl rfl) ?_
            obtain ⟨p11, e12, e13, e14, H⟩ := H
            obtain ⟨q15, e16⟩ : ∃ q : Addr, q = Addr.add p11 (Int.toNat (w64 (i2 + 1)) * 1) := ⟨_, rfl⟩
            rw [← e16] at H
            refine s_pu (d := some 41) (v := (.pointer (some q15))) rfl rfl rfl (fun w => (r_indexAddr Try.underlying22 Try.sizeOf3 rfl rfl e12 e13 e14 w).trans (by rw [e16])) ?_
            obtain ⟨x17, e18, H⟩ := H
            refine s_rd (d := some 42) (v := (.int .i64 x17)) rfl rfl rfl (fun dr => r_load1 Try.isAgg3 rfl e18) ?_
            refine s_pu (d := some 44) (v := (.int .i64 i2)) rfl rfl rfl (r_move rfl) ?_
            refine s_pu (d := some 45) (v := (.int .i64 (w64 (i2 + 1)))) rfl rfl rfl (r_add rfl rfl) ?_
            refine s_pu (d := some 46) (v := (Sl.v l1)) rfl rfl rfl (r_move rfl) ?_
            refine s_pu (d := some 47) (v := (.int .i64 i2)) rfl rfl rfl (r_move rfl) ?_
            obtain ⟨p19, e20, e21, e22, H⟩ := H
            obtain ⟨q23, e24⟩ : ∃ q : Addr, q = Addr.add p19 (Int.toNat i2 * 1) := ⟨_, rfl⟩
            rw [← e24] at H
            refine s_pu (d := some 48) (v := (.pointer (some q23))) rfl rfl rfl (fun w => (r_indexAddr Try.underlying22 Try.sizeOf3 rfl rfl e20 e21 e22 w).trans (by rw [e24])) ?_
            obtain ⟨x25, e26, H⟩ := H
            refine s_rd (d := some 49) (v := (.int .i64 x25)) rfl rfl rfl (fun dr => r_load1 Try.isAgg3 rfl e26) ?_
            refine s_ef (d := some 43) rfl rfl rfl (fun dr => r_call Try.call10 rfl rfl H) ?_ trivial
            rintro _ h3 ⟨y27, rfl, H⟩
            obtain ⟨e28, H⟩ := H
            refine ⟨⟨(.inl ⟨rfl, fun dr => r_load1 Try.isAgg3 rfl e28⟩), trivial, trivial⟩, ?_⟩
            refine s_ef (d := some 50) rfl rfl rfl (fun dr => r_call Try.call10 rfl rfl H) ?_ trivial
            rintro _ h4 ⟨y29, rfl, H⟩
            refine ⟨⟨trivial, trivial, trivial⟩, ?_⟩
            refine s_pu (d := some 7) (v := (Sl.v y29)) rfl rfl rfl (r_assign rfl) ?_
            refine s_fin ?_
            show W _ _ _ _ _ _ _ _
            refine W_seq ?_
            refine W_region (.pu 0 (.ef 1 [] (.pu 2 .fin) .no)) rfl rfl ?_
            refine s_pu (d := some 51) (v := (Sl.v y29)) rfl rfl rfl (r_move rfl) ?_
            refine s_ef (d := some 52) rfl rfl rfl (fun dr => r_call Try.call9 rfl rfl H) ?_ trivial
            rintro _ h5 ⟨y30, rfl, H⟩
            refine ⟨trivial, ?_⟩
            refine s_pu (d := some 8) (v := (.int .i64 y30)) rfl rfl rfl (r_assign rfl) ?_
            refine s_fin ?_
            show W _ _ _ _ _ _ _ _
            refine W_seq ?_
            refine W_seq ?_
            refine W_draw [0, 0, 3, 7, 0, 0, 32, 112, 240, 511] (.pu 0 (.pu 1 (.pu 2 (.rd 3 (.pu 4 (.pu 5 (.pu 6 (.pu 7 (.rd 8 (.pu 9 .fin)))))))))) (by kernel_rfl) (by kernel_rfl) ?_
            refine s_pu (d := some 53) (v := (Sl.v l1)) rfl rfl rfl (r_move rfl) ?_
            refine s_pu (d := some 54) (v := (.int .i64 i2)) rfl rfl rfl (r_move rfl) ?_
            obtain ⟨p31, e32, e33, e34, H⟩ := H
            obtain ⟨q35, e36⟩ : ∃ q : Addr, q = Addr.add p31 (Int.toNat i2 * 1) := ⟨_, rfl⟩
            rw [← e36] at H
            refine s_pu (d := some 55) (v := (.pointer (some q35))) rfl rfl rfl (fun w => (r_indexAddr Try.underlying22 Try.sizeOf3 rfl rfl e32 e33 e34 w).trans (by rw [e36])) ?_
            obtain ⟨x37, e38, H⟩ := H
            refine s_rd (d := some 56) (v := (.int .i64 x37)) rfl rfl rfl (fun dr => r_load1 Try.isAgg3 rfl e38) ?_
            refine s_pu (d := some 57) (v := (Sl.v l1)) rfl rfl rfl (r_move rfl) ?_
            refine s_pu (d := some 58) (v := (.int .i64 i2)) rfl rfl rfl (r_move rfl) ?_
            refine s_pu (d := some 59) (v := (.int .i64 (w64 (i2 + 1)))) rfl rfl rfl (r_add rfl rfl) ?_
            obtain ⟨p39, e40, e41, e42, H⟩ := H
            obtain ⟨q43, e44⟩ : ∃ q : Addr, q = Addr.add p39 (Int.toNat (w64 (i2 + 1)) * 1) := ⟨_, rfl⟩
            rw [← e44] at H
            refine s_pu (d := some 60) (v := (.pointer (some q43))) rfl rfl rfl (fun w => (r_indexAddr Try.underlying22 Try.sizeOf3 rfl rfl e40 e41 e42 w).trans (by rw [e44])) ?_
            obtain ⟨x45, e46, H⟩ := H
            refine s_rd (d := some 61) (v := (.int .i64 x45)) rfl rfl rfl (fun dr => r_load1 Try.isAgg3 rfl e46) ?_
            refine s_pu (d := some 62) (v := (.bool (decide (x45 < x37)))) rfl rfl rfl (r_gtr rfl rfl) ?_
            refine s_fin ?_
            show W _ _ _ _ _ _ _ _
            refine W_if (decide (x45 < x37)) rfl (fun g64 => ?_) (fun g64 => ?_)
            · have H := H.1 g64
              refine W_seq ?_
              refine W_region (.pu 0 (.pu 1 (.pu 2 (.pu 3 (.pu 4 .fin))))) rfl rfl ?_
              refine s_pu (d := some 63) (v := (.int .i64 y30)) rfl rfl rfl (r_move rfl) ?_
              refine s_pu (d := some 64) (v := (.int .i64 y4)) rfl rfl rfl (r_move rfl) ?_
              refine s_pu (d := some 65) (v := (.int .i64 (w64 (y4 - 1)))) rfl rfl rfl (r_sub rfl rfl) ?_
              refine s_pu (d := some 66) (v := (.bool (decide (y30 = (w64 (y4 - 1)))))) rfl rfl rfl (r_eql rfl rfl) ?_
              refine s_pu (d := some 4) (v := (.bool (decide (y30 = (w64 (y4 - 1)))))) rfl rfl rfl (r_assign rfl) ?_
              refine s_fin ?_
              show W _ _ _ _ _ _ _ _
              refine W_ret ?_
              exact ⟨[(.bool (decide (y30 = (w64 (y4 - 1)))))], ⟨_, _, rfl, rfl, rfl⟩, (decide (y30 = (w64 (y4 - 1)))), rfl, H⟩
            · have H := H.2 g64
              refine W_skip ?_
              show W _ _ _ _ _ _ _ _
              refine W_seq ?_
              refine W_seq ?_
              refine W_draw [0, 0, 3, 7, 0, 0, 32, 112, 240, 511] (.pu 0 (.pu 1 (.pu 2 (.rd 3 (.pu 4 (.pu 5 (.pu 6 (.pu 7 (.rd 8 (.pu 9 .fin)))))))))) (by kernel_rfl) (by kernel_rfl) ?_
              refine s_pu (d := some 67) (v := (Sl.v l1)) rfl rfl rfl (r_move rfl) ?_
              refine s_pu (d := some 68) (v := (.int .i64 i2)) rfl rfl rfl (r_move rfl) ?_
              obtain ⟨p47, e48, e49, e50, H⟩ := H
              obtain ⟨q51, e52⟩ : ∃ q : Addr, q = Addr.add p47 (Int.toNat i2 * 1) := ⟨_, rfl⟩
              rw [← e52] at H
              refine s_pu (d := some 69) (v := (.pointer (some q51))) rfl rfl rfl (fun w => (r_indexAddr Try.underlying22 Try.sizeOf3 rfl rfl e48 e49 e50 w).trans (by rw [e52])) ?_
              obtain ⟨x53, e54, H⟩ := H
              refine s_rd (d := some 70) (v := (.int .i64 x53)) rfl rfl rfl (fun dr => r_load1 Try.isAgg3 rfl e54) ?_
              refine s_pu (d := some 71) (v := (Sl.v l1)) rfl rfl rfl (r_move rfl) ?_
              refine s_pu (d := some 72) (v := (.int .i64 i2)) rfl rfl rfl (r_move rfl) ?_
              refine s_pu (d := some 73) (v := (.int .i64 (w64 (i2 + 1)))) rfl rfl rfl (r_add rfl rfl) ?_
              obtain ⟨p55, e56, e57, e58, H⟩ := H
              obtain ⟨q59, e60⟩ : ∃ q : Addr, q = Addr.add p55 (Int.toNat (w64 (i2 + 1)) * 1) := ⟨_, rfl⟩
              rw [← e60] at H
              refine s_pu (d := some 74) (v := (.pointer (some q59))) rfl rfl rfl (fun w => (r_indexAddr Try.underlying22 Try.sizeOf3 rfl rfl e56 e57 e58 w).trans (by rw [e60])) ?_
              obtain ⟨x61, e62, H⟩ := H
              refine s_rd (d := some 75) (v := (.int .i64 x61)) rfl rfl rfl (fun dr => r_load1 Try.isAgg3 rfl e62) ?_
              refine s_pu (d := some 76) (v := (.bool (decide (x53 < x61)))) rfl rfl rfl (r_lss rfl rfl) ?_
              refine s_fin ?_
              show W _ _ _ _ _ _ _ _
              refine W_if (decide (x53 < x61)) rfl (fun g63 => ?_) (fun g63 => ?_)
              · have H := H.1 g63
                refine W_seq ?_
                refine W_region (.pu 0 (.pu 1 (.pu 2 (.pu 3 (.pu 4 .fin))))) rfl rfl ?_
                refine s_pu (d := some 77) (v := (.int .i64 y30)) rfl rfl rfl (r_move rfl) ?_
                refine s_pu (d := some 78) (v := (.int .i64 y4)) rfl rfl rfl (r_move rfl) ?_
                refine s_pu (d := some 79) (v := (.int .i64 (w64 (y4 + 1)))) rfl rfl rfl (r_add rfl rfl) ?_
                refine s_pu (d := some 80) (v := (.bool (decide (y30 = (w64 (y4 + 1)))))) rfl rfl rfl (r_eql rfl rfl) ?_
                refine s_pu (d := some 4) (v := (.bool (decide (y30 = (w64 (y4 + 1)))))) rfl rfl rfl (r_assign rfl) ?_
                refine s_fin ?_
                show W _ _ _ _ _ _ _ _
                refine W_ret ?_
                exact ⟨[(.bool (decide (y30 = (w64 (y4 + 1)))))], ⟨_, _, rfl, rfl, rfl⟩, (decide (y30 = (w64 (y4 + 1)))), rfl, H⟩
              · have H := H.2 g63
                refine W_skip ?_
                show W _ _ _ _ _ _ _ _
                refine W_seq ?_
                refine W_region (.pu 0 (.pu 1 (.pu 2 (.pu 3 .fin)))) rfl rfl ?_
                refine s_pu (d := some 81) (v := (.int .i64 y30)) rfl rfl rfl (r_move rfl) ?_
                refine s_pu (d := some 82) (v := (.int .i64 y4)) rfl rfl rfl (r_move rfl) ?_
                refine s_pu (d := some 83) (v := (.bool (decide (y30 = y4)))) rfl rfl rfl (r_eql rfl rfl) ?_
                refine s_pu (d := some 4) (v := (.bool (decide (y30 = y4)))) rfl rfl rfl (r_assign rfl) ?_
                refine s_fin ?_
                show W _ _ _ _ _ _ _ _
                refine W_ret ?_
                exact ⟨[(.bool (decide (y30 = y4)))], ⟨_, _, rfl, rfl, rfl⟩, (decide (y30 = y4)), rfl, H⟩
        · rcases Bool.eq_false_or_eq_true (decide (i2 < 0)) with g8 | g8
          · refine s_sk (d := some 30) rfl rfl (wants_no rfl rfl rfl rfl g8) ?_
            refine s_sk (d := some 31) rfl rfl (wants_no rfl rfl rfl rfl g8) ?_
            refine s_sk (d := some 32) rfl rfl (wants_no rfl rfl rfl rfl g8) ?_
            refine s_sk (d := some 33) rfl rfl (wants_no rfl rfl rfl rfl g8) ?_
            refine s_sk (d := some 34) rfl rfl (wants_no rfl rfl rfl rfl g8) ?_
            refine s_pu (d := some 35) (v := (.bool true)) rfl rfl rfl (r_pick1 rfl g8 rfl) ?_
            exact S_mk (l := [(0, (Sl.v l1)), (1, (.int .i64 i2)), (6, (.int .i64 y4)), (35, (.bool ((decide (i2 < 0)) || (decide ((w64 (((l1.len : Int)) - 1)) ≤ i2)))))]) HJ ⟨rfl, rfl, rfl, (by rw [g8]; rfl), trivial⟩
          · refine s_pu (d := some 30) (v := (.int .i64 i2)) rfl rfl (wants_yes rfl rfl rfl rfl g8) (r_move rfl) ?_
            refine s_pu (d := some 31) (v := (Sl.v l1)) rfl rfl (wants_yes rfl rfl rfl rfl g8) (r_move rfl) ?_
            refine s_pu (d := some 32) (v := (.int .i64 ((l1.len : Int)))) rfl rfl (wants_yes rfl rfl rfl rfl g8) (r_len Try.underlying22 rfl) ?_
            refine s_pu (d := some 33) (v := (.int .i64 (w64 (((l1.len : Int)) - 1)))) rfl rfl (wants_yes rfl rfl rfl rfl g8) (r_sub rfl rfl) ?_
            refine s_pu (d := some 34) (v := (.bool (decide ((w64 (((l1.len : Int)) - 1)) ≤ i2)))) rfl rfl (wants_yes rfl rfl rfl rfl g8) (r_geq rfl rfl) ?_
            refine s_pu (d := some 35) (v := (.bool (decide ((w64 (((l1.len : Int)) - 1)) ≤ i2)))) rfl rfl rfl (r_pick0 rfl g8 rfl) ?_
            exact S_mk (l := [(0, (Sl.v l1)), (1, (.int .i64 i2)), (6, (.int .i64 y4)), (35, (.bool ((decide (i2 < 0)) || (decide ((w64 (((l1.len : Int)) - 1)) ≤ i2)))))]) HJ ⟨rfl, rfl, rfl, (by rw [g8]; rfl), trivial⟩
    · rcases Bool.eq_false_or_eq_true (decide (y4 < 0)) with g5 | g5
      · refine s_sk (d := some 17) rfl rfl (wants_no rfl rfl rfl rfl g5) ?_
        refine s_sk (d := some 18) rfl rfl (wants_no rfl rfl rfl rfl g5) ?_
        refine s_sk (d := some 19) rfl rfl (wants_no rfl rfl rfl rfl g5) ?_
        refine s_sk (d := some 20) rfl rfl (wants_no rfl rfl rfl rfl g5) ?_
        refine s_sk (d := some 21) rfl rfl (wants_no rfl rfl rfl rfl g5) ?_
        refine s_sk (d := some 22) rfl rfl (wants_no rfl rfl rfl rfl g5) ?_
        refine s_sk (d := some 23) rfl rfl (wants_no rfl rfl rfl rfl g5) ?_
        refine s_sk (d := some 24) rfl rfl (wants_no rfl rfl rfl rfl g5) ?_
        refine s_sk (d := some 25) rfl rfl (wants_no rfl rfl rfl rfl g5) ?_
        refine s_pu (d := some 26) (v := (.bool true)) rfl rfl rfl (r_pick1 rfl g5 rfl) ?_
        exact S_mk (l := [(0, (Sl.v l1)), (1, (.int .i64 i2)), (6, (.int .i64 y4)), (26, (.bool ((decide (y4 < 0)) || (decide ((w64 (((l1.len : Int)) * (w64 (((l1.len : Int)) - 1)))) < (w64 (2 * y4)))))))]) HJ ⟨rfl, rfl, rfl, (by rw [g5]; rfl), trivial⟩
      · refine s_pu (d := some 17) (v := (.int .i64 y4)) rfl rfl (wants_yes rfl rfl rfl rfl g5) (r_move rfl) ?_
        refine s_pu (d := some 18) (v := (.int .i64 (w64 (2 * y4)))) rfl rfl (wants_yes rfl rfl rfl rfl g5) (r_mul rfl rfl) ?_
        refine s_pu (d := some 19) (v := (Sl.v l1)) rfl rfl (wants_yes rfl rfl rfl rfl g5) (r_move rfl) ?_
        refine s_pu (d := some 20) (v := (.int .i64 ((l1.len : Int)))) rfl rfl (wants_yes rfl rfl rfl rfl g5) (r_len Try.underlying22 rfl) ?_
        refine s_pu (d := some 21) (v := (Sl.v l1)) rfl rfl (wants_yes rfl rfl rfl rfl g5) (r_move rfl) ?_
        refine s_pu (d := some 22) (v := (.int .i64 ((l1.len : Int)))) rfl rfl (wants_yes rfl rfl rfl rfl g5) (r_len Try.underlying22 rfl) ?_
        refine s_pu (d := some 23) (v := (.int .i64 (w64 (((l1.len : Int)) - 1)))) rfl rfl (wants_yes rfl rfl rfl rfl g5) (r_sub rfl rfl) ?_
        refine s_pu (d := some 24) (v := (.int .i64 (w64 (((l1.len : Int)) * (w64 (((l1.len : Int)) - 1)))))) rfl rfl (wants_yes rfl rfl rfl rfl g5) (r_mul rfl rfl) ?_
        refine s_pu (d := some 25) (v := (.bool (decide ((w64 (((l1.len : Int)) * (w64 (((l1.len : Int)) - 1)))) < (w64 (2 * y4)))))) rfl rfl (wants_yes rfl rfl rfl rfl g5) (r_gtr rfl rfl) ?_
        refine s_pu (d := some 26) (v := (.bool (decide ((w64 (((l1.len : Int)) * (w64 (((l1.len : Int)) - 1)))) < (w64 (2 * y4)))))) rfl rfl rfl (r_pick0 rfl g5 rfl) ?_
        exact S_mk (l := [(0, (Sl.v l1)), (1, (.int .i64 i2)), (6, (.int .i64 y4)), (26, (.bool ((decide (y4 < 0)) || (decide ((w64 (((l1.len : Int)) * (w64 (((l1.len : Int)) - 1)))) < (w64 (2 * y4)))))))]) HJ ⟨rfl, rfl, rfl, (by rw [g5]; rfl), trivial⟩

/-! ### law5_InvSigns -/

def law5_InvSigns_F (r : World) (p1 : Sl) (q2 : Sl) (h : Heap) (R : Bool → Heap → Prop) : Prop :=
  law5_sorted r h fun y3 h1 =>
  Br (!y3) (
    R false h1) (
    inv_Sign r p1 h1 fun y4 y5 h2 =>
    inv_Sign r q2 h2 fun y6 y7 h3 =>
    (isIface y5 = true) ∧
    (isIface y7 = true) ∧
    Br (((!(isNil y5)) || (!(isNil y7))) || (!decide (((p1.len : Int)) = ((q2.len : Int))))) (
      R true h3) (
      ∀ X18 : Sl → Int → Heap → Prop, (∀ (vr16 : Sl) (i17 : Int) (h4 : Heap),
        (Br (decide (i17 < ((p1.len : Int)))) (
          Ix q2 i17 1 fun q23 =>
          LdI h4 q23 fun x25 =>
          Ix p1 x25 1 fun q31 =>
          LdI h4 q31 fun x33 =>
          New h4 (.cells #[(.int .i64 x33)] 3) fun p35 h5 =>
          App 3 1 8 (.int .i64 0) vr16 ((⟨some p35, 1, 1⟩ : Sl)) h5 fun s38 h6 =>
          X18 s38 (w64 (i17 + 1)) h6) (
          inv_Sign r vr16 h4 fun y39 y40 h7 =>
          ∀ J47 : Bool → Prop, (∀ (x46 : Bool),
            (R x46 h7) →
            J47 x46) →
          (isIface y40 = true) ∧
          Br (isNil y40) (
            Br (decide (y39 = (w64 (y4 * y6)))) (
              Br (decide (y4 = 1)) (
                J47 true) (
                J47 (decide (y4 = ((-1)))))) (
              J47 false)) (
            J47 false))) →
        X18 vr16 i17 h4) →
      X18 Sl.nil 0 h3))

set_option maxRecDepth 100000 in
theorem law5_InvSigns_of {r : World} {p1 : Sl} {q2 : Sl} {h : Heap} {R : Bool → Heap → Prop} (H : law5_InvSigns_F r p1 q2 h R) : law5_InvSigns r p1 q2 h R := by
  unfold law5_InvSigns_F at H
  refine calls_of 78 [.tmp 4] Try.func4 rfl rfl rfl rfl rfl ?_
  refine W_seq ?_
  refine W_region (.pu 0 .fin) rfl rfl ?_
  refine s_pu (d := some 4) (v := (.bool false)) rfl rfl rfl (r_assign rfl) ?_
  refine s_fin ?_
  show W _ _ _ _ _ _ _ _
  refine W_seq ?_
  refine W_region (.ef 0 [] (.pu 1 .fin) .no) rfl rfl ?_
  refine s_ef (d := some 14) rfl rfl rfl (fun dr => r_call Try.call8 rfl rfl H) ?_ trivial
  rintro _ h1 ⟨y3, rfl, H⟩
  refine ⟨trivial, ?_⟩
  refine s_pu (d := some 5) (v := (.bool y3)) rfl rfl rfl (r_assign rfl) ?_
  refine s_fin ?_
  show W _ _ _ _ _ _ _ _
  refine W_seq ?_
  refine W_seq ?_
  refine W_region (.pu 0 (.pu 1 .fin)) rfl rfl ?_
  refine s_pu (d := some 15) (v := (.bool y3)) rfl rfl rfl (r_move rfl) ?_
  refine s_pu (d := some 16) (v := (.bool (!y3))) rfl rfl rfl (r_not rfl) ?_
  refine s_fin ?_
  show W _ _ _ _ _ _ _ _
  refine W_if (!y3) rfl (fun g62 => ?_) (fun g62 => ?_)
  · have H := H.1 g62
    refine W_seq ?_
    refine W_region (.pu 0 .fin) rfl rfl ?_
    refine s_pu (d := some 4) (v := (.bool false)) rfl rfl rfl (r_assign rfl) ?_
    refine s_fin ?_
    show W _ _ _ _ _ _ _ _
    refine W_ret ?_
    exact ⟨[(.bool false)], ⟨_, _, rfl, rfl, rfl⟩, false, rfl, H⟩
  · have H := H.2 g62
    refine W_skip ?_
    show W _ _ _ _ _ _ _ _
    refine W_seq ?_
    refine W_region (.pu 0 (.ef 1 [] (.pu 2 (.pu 3 (.pu 4 (.pu 5 (.pu 6 .fin))))) .no)) rfl rfl ?_
    refine s_pu (d := some 18) (v := (Sl.v p1)) rfl rfl rfl (r_move rfl) ?_
    refine s_ef (d := some 19) rfl rfl rfl (fun dr => r_call Try.call11 rfl rfl H) ?_ trivial
    rintro _ h2 ⟨y4, y5, rfl, H⟩
    refine ⟨trivial, ?_⟩
    refine s_pu (d := some 17) (v := (.tuple #[(.int .i64 y4), y5])) rfl rfl rfl (r_move rfl) ?_
    refine s_pu (d := some 20) (v := (.int .i64 y4)) rfl rfl rfl (r_extract rfl rfl) ?_
    refine s_pu (d := some 21) (v := y5) rfl rfl rfl (r_extract rfl rfl) ?_
    refine s_pu (d := some 6) (v := (.int .i64 y4)) rfl rfl rfl (r_assign rfl) ?_
    refine s_pu (d := some 7) (v := y5) rfl rfl rfl (r_assign rfl) ?_
    refine s_fin ?_
    show W _ _ _ _ _ _ _ _
    refine W_seq ?_
    refine W_region (.pu 0 (.ef 1 [] (.pu 2 (.pu 3 (.pu 4 (.pu 5 (.pu 6 .fin))))) .no)) rfl rfl ?_
    refine s_pu (d := some 23) (v := (Sl.v q2)) rfl rfl rfl (r_move rfl) ?_
    refine s_ef (d := some 24) rfl rfl rfl (fun dr => r_call Try.call11 rfl rfl H) ?_ trivial
    rintro _ h3 ⟨y6, y7, rfl, H⟩
    refine ⟨trivial, ?_⟩
    refine s_pu (d := some 22) (v := (.tuple #[(.int .i64 y6), y7])) rfl rfl rfl (r_move rfl) ?_
    refine s_pu (d := some 25) (v := (.int .i64 y6)) rfl rfl rfl (r_extract rfl rfl) ?_
    refine s_pu (d := some 26) (v := y7) rfl rfl rfl (r_extract rfl rfl) ?_
    refine s_pu (d := some 8) (v := (.int .i64 y6)) rfl rfl rfl (r_assign rfl) ?_
    refine s_pu (d := some 9) (v := y7) rfl rfl rfl (r_assign rfl) ?_
    refine s_fin ?_
    show W _ _ _ _ _ _ _ _
    refine W_seq ?_
    refine W_seq ?_
    refine W_region (.pu 0 (.pu 1 (.pu 2 (.pu 3 (.pu 4 (.pu 5 (.pu 6 (.pu 7 (.pu 8 (.pu 9 (.pu 10 (.pu 11 (.pu 12 .fin))))))))))))) rfl rfl ?_
    refine s_pu (d := some 27) (v := y5) rfl rfl rfl (r_move rfl) ?_
    obtain ⟨e8, H⟩ := H
    refine s_pu (d := some 28) (v := (.bool (!(isNil y5)))) rfl rfl rfl (r_notNilI Try.underlying28 rfl e8 rfl) ?_
    refine s_pu (d := some 29) (v := (.bool (!(isNil y5)))) rfl rfl rfl (r_move rfl) ?_
    obtain ⟨e10, H⟩ := H
    refine S_meet (l := [(0, (Sl.v p1)), (1, (Sl.v q2)), (6, (.int .i64 y4)), (8, (.int .i64 y6)), (32, (.bool ((!(isNil y5)) || (!(isNil y7)))))]) (i := 3) ?_ (fun HJ => ?_)
    · intro b
      show S _ _ _ _ _ _
      refine s_pu (d := some 33) (v := (.bool ((!(isNil y5)) || (!(isNil y7))))) rfl rfl rfl (r_move rfl) ?_
      refine S_meet (l := [(0, (Sl.v p1)), (1, (Sl.v q2)), (6, (.int .i64 y4)), (8, (.int .i64 y6)), (39, (.bool (((!(isNil y5)) || (!(isNil y7))) || (!decide (((p1.len : Int)) = ((q2.len : Int)))))))]) (i := 6) ?_ (fun HJ => ?_)
      · intro b
        show S _ _ _ _ _ _
        refine s_fin ?_
        show W _ _ _ _ _ _ _ _
        refine W_if (((!(isNil y5)) || (!(isNil y7))) || (!decide (((p1.len : Int)) = ((q2.len : Int))))) rfl (fun g59 => ?_) (fun g59 => ?_)
        · have H := H.1 g59
          refine W_seq ?_
          refine W_region (.pu 0 .fin) rfl rfl ?_
          refine s_pu (d := some 4) (v := (.bool true)) rfl rfl rfl (r_assign rfl) ?_
          refine s_fin ?_
          show W _ _ _ _ _ _ _ _
          refine W_ret ?_
          exact ⟨[(.bool true)], ⟨_, _, rfl, rfl, rfl⟩, true, rfl, H⟩
        · have H := H.2 g59
          refine W_skip ?_
          show W _ _ _ _ _ _ _ _
          refine W_seq ?_
          refine W_region (.pu 0 .fin) rfl rfl ?_
          refine s_pu (d := some 10) (v := (Sl.v Sl.nil)) rfl rfl rfl (r_assign rfl) ?_
          refine s_fin ?_
          show W _ _ _ _ _ _ _ _
          refine W_seq ?_
          refine W_seq ?_
          refine W_region (.pu 0 .fin) rfl rfl ?_
          refine s_pu (d := some 11) (v := (.int .i64 0)) rfl rfl rfl (r_assign rfl) ?_
          refine s_fin ?_
          show W _ _ _ _ _ _ _ _
          refine W_block ?_
          refine W_loop (WL_mk (l := [(0, (Sl.v p1)), (1, (Sl.v q2)), (6, (.int .i64 y4)), (8, (.int .i64 y6)), (10, (Sl.v Sl.nil)), (11, (.int .i64 0))]) ?_ ⟨rfl, rfl, rfl, rfl, rfl, rfl, trivial⟩)
          refine H (fun (vr16 : Sl) (i17 : Int) (h4 : Heap) => ∀ b, WL _ _ _ _ _ _ (mkE [(0, (Sl.v p1)), (1, (Sl.v q2)), (6, (.int .i64 y4)), (8, (.int .i64 y6)), (10, (Sl.v vr16)), (11, (.int .i64 i17))] b) h4) ?_
          intro vr16 i17 h4 H b
          refine WL_round ?_
          refine W_seq ?_
          refine W_seq ?_
          refine W_region (.pu 0 (.pu 1 (.pu 2 (.pu 3 .fin)))) rfl rfl ?_
          refine s_pu (d := some 40) (v := (.int .i64 i17)) rfl rfl rfl (r_move rfl) ?_
          refine s_pu (d := some 41) (v := (Sl.v p1)) rfl rfl rfl (r_move rfl) ?_
          refine s_pu (d := some 42) (v := (.int .i64 ((p1.len : Int)))) rfl rfl rfl (r_len Try.underlying22 rfl) ?_
          refine s_pu (d := some 43) (v := (.bool (decide (i17 < ((p1.len : Int)))))) rfl rfl rfl (r_lss rfl rfl) ?_
          refine s_fin ?_
          show W _ _ _ _ _ _ _ _
          refine W_if (decide (i17 < ((p1.len : Int)))) rfl (fun g58 => ?_) (fun g58 => ?_)
          · have H := H.1 g58
            refine W_skip ?_
            show W _ _ _ _ _ _ _ _
            refine W_seq ?_
            refine W_block ?_
            refine W_region (.pu 0 (.pu 1 (.pu 2 (.pu 3 (.pu 4 (.rl 5 (.pu 6 (.rl 7 (.ef 8 [] (.ef 9 [] (.pu 10 .fin) .no) .no))))))))) rfl rfl ?_
            refine s_pu (d := some 46) (v := (Sl.v vr16)) rfl rfl rfl (r_move rfl) ?_
            refine s_pu (d := some 47) (v := (Sl.v p1)) rfl rfl rfl (r_move rfl) ?_
            refine s_pu (d := some 48) (v := (Sl.v q2)) rfl rfl rfl (r_move rfl) ?_
            refine s_pu (d := some 49) (v := (.int .i64 i17)) rfl rfl rfl (r_move rfl) ?_
            obtain ⟨p19, e20, e21, e22, H⟩ := H
            obtain ⟨q23, e24⟩ : ∃ q : Addr, q = Addr.add p19 (Int.toNat i17 * 1) := ⟨_, rfl⟩
            rw [← e24] at H
            refine s_pu (d := some 50) (v := (.pointer (some q23))) rfl rfl rfl (fun w => (r_indexAddr Try.underlying22 Try.sizeOf3 rfl rfl e20 e21 e22 w).trans (by rw [e24])) ?_
            obtain ⟨x25, e26, H⟩ := H
            refine s_rl (d := some 51) (v := (.int .i64 x25)) rfl rfl rfl (fun dr => r_load1 Try.isAgg3 rfl e26) ?_
            obtain ⟨p27, e28, e29, e30, H⟩ := H
            obtain ⟨q31, e32⟩ : ∃ q : Addr, q = Addr.add p27 (Int.toNat x25 * 1) := ⟨_, rfl⟩
            rw [← e32] at H
            refine s_pu (d := some 52) (v := (.pointer (some q31))) rfl rfl rfl (fun w => (r_indexAddr Try.underlying22 Try.sizeOf3 rfl rfl e28 e29 e30 w).trans (by rw [e32])) ?_
            obtain ⟨x33, e34, H⟩ := H
            refine s_rl (d := some 53) (v := (.int .i64 x33)) rfl rfl rfl (fun dr => r_load1 Try.isAgg3 rfl e34) ?_
            obtain ⟨p35, e36⟩ : ∃ p : Addr, p = ⟨h4.size, 0, none⟩ := ⟨_, rfl⟩
            obtain ⟨h5, e37⟩ : ∃ hh : Heap, hh = h4.push (.cells #[(.int .i64 x33)] 3) := ⟨_, rfl⟩
            have H := H p35 h5 e36 e37
            refine s_ef1 (d := some 54) (v := (Sl.v ((⟨some p35, 1, 1⟩ : Sl)))) (h' := h5) rfl rfl rfl (fun dr => (slFVLaw_22.build (cells := #[(.int .i64 x33)]) (by decide) rfl (by kernel_rfl)).trans (by rw [e36, e37]; rfl)) trivial ?_ trivial
            refine s_ef (d := some 55) rfl rfl rfl (fun dr => slFVLaw_22.append rfl rfl H) ?_ trivial
            rintro _ h6 ⟨s38, rfl, H⟩
            refine ⟨trivial, ?_⟩
            refine s_pu (d := some 10) (v := (Sl.v s38)) rfl rfl rfl (r_assign rfl) ?_
            refine s_fin ?_
            show W _ _ _ _ _ _ _ _
            refine W_region (.pu 0 (.pu 1 (.pu 2 .fin))) rfl rfl ?_
            refine s_pu (d := some 44) (v := (.int .i64 i17)) rfl rfl rfl (r_move rfl) ?_
            refine s_pu (d := some 45) (v := (.int .i64 (w64 (i17 + 1)))) rfl rfl rfl (r_add rfl rfl) ?_
            refine s_pu (d := some 11) (v := (.int .i64 (w64 (i17 + 1)))) rfl rfl rfl (r_assign rfl) ?_
            refine s_fin ?_
            exact WL_mk (l := [(0, (Sl.v p1)), (1, (Sl.v q2)), (6, (.int .i64 y4)), (8, (.int .i64 y6)), (10, (Sl.v s38)), (11, (.int .i64 (w64 (i17 + 1))))]) H ⟨rfl, rfl, rfl, rfl, rfl, rfl, trivial⟩
          · have H := H.2 g58
            refine W_exit (inX_here ?_)
            show W _ _ _ _ _ _ _ _
            refine W_seq ?_
            refine W_region (.pu 0 (.ef 1 [] (.pu 2 (.pu 3 (.pu 4 (.pu 5 (.pu 6 .fin))))) .no)) rfl rfl ?_
            refine s_pu (d := some 57) (v := (Sl.v vr16)) rfl rfl rfl (r_move rfl) ?_
            refine s_ef (d := some 58) rfl rfl rfl (fun dr => r_call Try.call11 rfl rfl H) ?_ trivial
            rintro _ h7 ⟨y39, y40, rfl, H⟩
            refine ⟨trivial, ?_⟩
            refine s_pu (d := some 56) (v := (.tuple #[(.int .i64 y39), y40])) rfl rfl rfl (r_move rfl) ?_
            refine s_pu (d := some 59) (v := (.int .i64 y39)) rfl rfl rfl (r_extract rfl rfl) ?_
            refine s_pu (d := some 60) (v := y40) rfl rfl rfl (r_extract rfl rfl) ?_
            refine s_pu (d := some 12) (v := (.int .i64 y39)) rfl rfl rfl (r_assign rfl) ?_
            refine s_pu (d := some 13) (v := y40) rfl rfl rfl (r_assign rfl) ?_
            refine s_fin ?_
            show W _ _ _ _ _ _ _ _
            refine W_seq ?_
            refine W_set ?_
            intro N48 eN48
            have H := H (fun (x46 : Bool) => ∀ b, N48 [] (mkE [(4, (.bool x46))] b) h7) (by
              intro x46 H b
              rw [eN48]
              show W _ _ _ _ _ _ _ _
              refine W_ret ?_
              exact ⟨[(.bool x46)], ⟨_, _, rfl, rfl, rfl⟩, x46, rfl, H⟩)
            clear eN48
            refine W_region (.pu 0 (.pu 1 (.pu 2 (.pu 3 (.pu 4 (.pu 5 (.pu 6 (.pu 7 (.pu 8 (.pu 9 (.pu 10 (.pu 11 (.pu 12 (.pu 13 (.pu 14 (.pu 15 (.pu 16 (.pu 17 .fin)))))))))))))))))) rfl rfl ?_
            refine s_pu (d := some 61) (v := y40) rfl rfl rfl (r_move rfl) ?_
            obtain ⟨e54, H⟩ := H
            refine s_pu (d := some 62) (v := (.bool (isNil y40))) rfl rfl rfl (r_nilI Try.underlying28 rfl e54 rfl) ?_
            refine s_pu (d := some 63) (v := (.bool (isNil y40))) rfl rfl rfl (r_move rfl) ?_
            rcases Bool.eq_false_or_eq_true (isNil y40) with g55 | g55
            · have H := H.1 g55
              refine s_pu (d := some 64) (v := (.int .i64 y39)) rfl rfl (wants_yes rfl rfl rfl rfl g55) (r_move rfl) ?_
              refine s_pu (d := some 65) (v := (.int .i64 y4)) rfl rfl (wants_yes rfl rfl rfl rfl g55) (r_move rfl) ?_
              refine s_pu (d := some 66) (v := (.int .i64 y6)) rfl rfl (wants_yes rfl rfl rfl rfl g55) (r_move rfl) ?_
              refine s_pu (d := some 67) (v := (.int .i64 (w64 (y4 * y6)))) rfl rfl (wants_yes rfl rfl rfl rfl g55) (r_mul rfl rfl) ?_
              refine s_pu (d := some 68) (v := (.bool (decide (y39 = (w64 (y4 * y6)))))) rfl rfl (wants_yes rfl rfl rfl rfl g55) (r_eql rfl rfl) ?_
              refine s_pu (d := some 69) (v := (.bool (decide (y39 = (w64 (y4 * y6)))))) rfl rfl rfl (r_pick1 rfl g55 rfl) ?_
              refine s_pu (d := some 70) (v := (.bool (decide (y39 = (w64 (y4 * y6)))))) rfl rfl rfl (r_move rfl) ?_
              rcases Bool.eq_false_or_eq_true (decide (y39 = (w64 (y4 * y6)))) with g56 | g56
              · have H := H.1 g56
                refine s_pu (d := some 71) (v := (.int .i64 y4)) rfl rfl (wants_yes rfl rfl rfl rfl g56) (r_move rfl) ?_
                refine s_pu (d := some 72) (v := (.bool (decide (y4 = 1)))) rfl rfl (wants_yes rfl rfl rfl rfl g56) (r_eql rfl rfl) ?_
                refine s_pu (d := some 73) (v := (.bool (decide (y4 = 1)))) rfl rfl (wants_yes rfl rfl rfl rfl g56) (r_move rfl) ?_
                rcases Bool.eq_false_or_eq_true (decide (y4 = 1)) with g57 | g57
                · have H := H.1 g57
                  refine s_sk (d := some 74) rfl rfl (wants_no rfl rfl rfl rfl g57) ?_
                  refine s_sk (d := some 75) rfl rfl (wants_no rfl rfl rfl rfl g57) ?_
                  refine s_pu (d := some 76) (v := (.bool true)) rfl rfl (wants_yes rfl rfl rfl rfl g56) (r_pick1 rfl g57 rfl) ?_
                  refine s_pu (d := some 77) (v := (.bool true)) rfl rfl rfl (r_pick1 rfl g56 rfl) ?_
                  refine s_pu (d := some 4) (v := (.bool true)) rfl rfl rfl (r_assign rfl) ?_
                  refine s_fin ?_
                  exact N_mk (l := [(4, (.bool true))]) H ⟨rfl, trivial⟩
                · have H := H.2 g57
                  refine s_pu (d := some 74) (v := (.int .i64 y4)) rfl rfl (wants_yes rfl rfl rfl rfl g57) (r_move rfl) ?_
                  refine s_pu (d := some 75) (v := (.bool (decide (y4 = ((-1)))))) rfl rfl (wants_yes rfl rfl rfl rfl g57) (r_eql rfl rfl) ?_
                  refine s_pu (d := some 76) (v := (.bool (decide (y4 = ((-1)))))) rfl rfl (wants_yes rfl rfl rfl rfl g56) (r_pick0 rfl g57 rfl) ?_
                  refine s_pu (d := some 77) (v := (.bool (decide (y4 = ((-1)))))) rfl rfl rfl (r_pick1 rfl g56 rfl) ?_
                  refine s_pu (d := some 4) (v := (.bool (decide (y4 = ((-1)))))) rfl rfl rfl (r_assign rfl) ?_
                  refine s_fin ?_
                  exact N_mk (l := [(4, (.bool (decide (y4 = ((-1))))))]) H ⟨rfl, trivial⟩
              · have H := H.2 g56
                refine s_sk (d := some 71) rfl rfl (wants_no rfl rfl rfl rfl g56) ?_
                refine s_sk (d := some 72) rfl rfl (wants_no rfl rfl rfl rfl g56) ?_
                refine s_sk (d := some 73) rfl rfl (wants_no rfl rfl rfl rfl g56) ?_
                refine s_sk (d := some 74) rfl rfl (wants_un rfl rfl rfl) ?_
                refine s_sk (d := some 75) rfl rfl (wants_un rfl rfl rfl) ?_
                refine s_sk (d := some 76) rfl rfl (wants_no rfl rfl rfl rfl g56) ?_
                refine s_pu (d := some 77) (v := (.bool false)) rfl rfl rfl (r_pick0 rfl g56 rfl) ?_
                refine s_pu (d := some 4) (v := (.bool false)) rfl rfl rfl (r_assign rfl) ?_
                refine s_fin ?_
                exact N_mk (l := [(4, (.bool false))]) H ⟨rfl, trivial⟩
            · have H := H.2 g55
              refine s_sk (d := some 64) rfl rfl (wants_no rfl rfl rfl rfl g55) ?_
              refine s_sk (d := some 65) rfl rfl (wants_no rfl rfl rfl rfl g55) ?_
              refine s_sk (d := some 66) rfl rfl (wants_no rfl rfl rfl rfl g55) ?_
              refine s_sk (d := some 67) rfl rfl (wants_no rfl rfl rfl rfl g55) ?_
              refine s_sk (d := some 68) rfl rfl (wants_no rfl rfl rfl rfl g55) ?_
              refine s_pu (d := some 69) (v := (.bool false)) rfl rfl rfl (r_pick0 rfl g55 rfl) ?_
              refine s_pu (d := some 70) (v := (.bool false)) rfl rfl rfl (r_move rfl) ?_
              refine s_sk (d := some 71) rfl rfl (wants_no rfl rfl rfl rfl rfl) ?_
              refine s_sk (d := some 72) rfl rfl (wants_no rfl rfl rfl rfl rfl) ?_
              refine s_sk (d := some 73) rfl rfl (wants_no rfl rfl rfl rfl rfl) ?_
              refine s_sk (d := some 74) rfl rfl (wants_un rfl rfl rfl) ?_
              refine s_sk (d := some 75) rfl rfl (wants_un rfl rfl rfl) ?_
              refine s_sk (d := some 76) rfl rfl (wants_no rfl rfl rfl rfl rfl) ?_
              refine s_pu (d := some 77) (v := (.bool false)) rfl rfl rfl (r_pick0 rfl rfl rfl) ?_
              refine s_pu (d := some 4) (v := (.bool false)) rfl rfl rfl (r_assign rfl) ?_
              refine s_fin ?_
              exact N_mk (l := [(4, (.bool false))]) H ⟨rfl, trivial⟩
      · rcases Bool.eq_false_or_eq_true ((!(isNil y5)) || (!(isNil y7))) with g13 | g13
        · refine s_sk (d := some 34) rfl rfl (wants_no rfl rfl rfl rfl g13) ?_
          refine s_sk (d := some 35) rfl rfl (wants_no rfl rfl rfl rfl g13) ?_
          refine s_sk (d := some 36) rfl rfl (wants_no rfl rfl rfl rfl g13) ?_
          refine s_sk (d := some 37) rfl rfl (wants_no rfl rfl rfl rfl g13) ?_
          refine s_sk (d := some 38) rfl rfl (wants_no rfl rfl rfl rfl g13) ?_
          refine s_pu (d := some 39) (v := (.bool true)) rfl rfl rfl (r_pick1 rfl g13 rfl) ?_
          exact S_mk (l := [(0, (Sl.v p1)), (1, (Sl.v q2)), (6, (.int .i64 y4)), (8, (.int .i64 y6)), (39, (.bool (((!(isNil y5)) || (!(isNil y7))) || (!decide (((p1.len : Int)) = ((q2.len : Int)))))))]) HJ ⟨rfl, rfl, rfl, rfl, (by rw [g13]; rfl), trivial⟩
        · refine s_pu (d := some 34) (v := (Sl.v p1)) rfl rfl (wants_yes rfl rfl rfl rfl g13) (r_move rfl) ?_
          refine s_pu (d := some 35) (v := (.int .i64 ((p1.len : Int)))) rfl rfl (wants_yes rfl rfl rfl rfl g13) (r_len Try.underlying22 rfl) ?_
          refine s_pu (d := some 36) (v := (Sl.v q2)) rfl rfl (wants_yes rfl rfl rfl rfl g13) (r_move rfl) ?_
          refine s_pu (d := some 37) (v := (.int .i64 ((q2.len : Int)))) rfl rfl (wants_yes rfl rfl rfl rfl g13) (r_len Try.underlying22 rfl) ?_
          refine s_pu (d := some 38) (v := (.bool (!decide (((p1.len : Int)) = ((q2.len : Int)))))) rfl rfl (wants_yes rfl rfl rfl rfl g13) (r_neq rfl rfl) ?_
          refine s_pu (d := some 39) (v := (.bool (!decide (((p1.len : Int)) = ((q2.len : Int)))))) rfl rfl rfl (r_pick0 rfl g13 rfl) ?_
          exact S_mk (l := [(0, (Sl.v p1)), (1, (Sl.v q2)), (6, (.int .i64 y4)), (8, (.int .i64 y6)), (39, (.bool (((!(isNil y5)) || (!(isNil y7))) || (!decide (((p1.len : Int)) = ((q2.len : Int)))))))]) HJ ⟨rfl, rfl, rfl, rfl, (by rw [g13]; rfl), trivial⟩
    · rcases Bool.eq_false_or_eq_true (!(isNil y5)) with g9 | g9
      · refine s_sk (d := some 30) rfl rfl (wants_no rfl rfl rfl rfl g9) ?_
        refine s_sk (d := some 31) rfl rfl (wants_no rfl rfl rfl rfl g9) ?_
        refine s_pu (d := some 32) (v := (.bool true)) rfl rfl rfl (r_pick1 rfl g9 rfl) ?_
        exact S_mk (l := [(0, (Sl.v p1)), (1, (Sl.v q2)), (6, (.int .i64 y4)), (8, (.int .i64 y6)), (32, (.bool ((!(isNil y5)) || (!(isNil y7)))))]) HJ ⟨rfl, rfl, rfl, rfl, (by rw [g9]; rfl), trivial⟩
      · refine s_pu (d := some 30) (v := y7) rfl rfl (wants_yes rfl rfl rfl rfl g9) (r_move rfl) ?_
        refine s_pu (d := some 31) (v := (.bool (!(isNil y7)))) rfl rfl (wants_yes rfl rfl rfl rfl g9) (r_notNilI Try.underlying28 rfl e10 rfl) ?_
        refine s_pu (d := some 32) (v := (.bool (!(isNil y7)))) rfl rfl rfl (r_pick0 rfl g9 rfl) ?_
        exact S_mk (l := [(0, (Sl.v p1)), (1, (Sl.v q2)), (6, (.int .i64 y4)), (8, (.int .i64 y6)), (32, (.bool ((!(isNil y5)) || (!(isNil y7)))))]) HJ ⟨rfl, rfl, rfl, rfl, (by rw [g9]; rfl), trivial⟩

/-! ### law5_InvRanks -/

def law5_InvRanks_F (r : World) (n1 : Int) (a2 : Int) (vb3 : Int) (h : Heap) (R : Bool → Heap → Prop) : Prop :=
  law5_sorted r h fun y4 h1 =>
  Br (!y4) (
    R false h1) (
    inv_Perm r n1 a2 h1 fun y5 y6 h2 =>
    inv_Perm r n1 vb3 h2 fun y7 y8 h3 =>
    (isIface y6 = true) ∧
    (isIface y8 = true) ∧
    Br (((!(isNil y6)) || (!(isNil y8))) || (!decide (((y5.len : Int)) = ((y7.len : Int))))) (
      (isIface y6 = true) ∧
      (isIface y8 = true) ∧
      R ((!(isNil y6)) || (!(isNil y8))) h3) (
      ∀ X24 : Int → Prop, (∀ (i23 : Int),
        (Br (decide (i23 < ((y5.len : Int)))) (
          Ix y5 i23 1 fun q29 =>
          LdI h3 q29 fun x31 =>
          Ix y7 i23 1 fun q37 =>
          LdI h3 q37 fun x39 =>
          Br (!decide (x31 = x39)) (
            Ix y5 i23 1 fun q45 =>
            LdI h3 q45 fun x47 =>
            Ix y7 i23 1 fun q53 =>
            LdI h3 q53 fun x55 =>
            R ((decide (x47 < x55)) == (decide (a2 < vb3))) h3) (
            X24 (w64 (i23 + 1)))) (
          R (decide (a2 = vb3)) h3)) →
        X24 i23) →
      X24 0))

set_option maxRecDepth 100000 in
theorem law5_InvRanks_of {r : World} {n1 : Int} {a2 : Int} {vb3 : Int} {h : Heap} {R : Bool → Heap → Prop} (H : law5_InvRanks_F r n1 a2 vb3 h R) : law5_InvRanks r n1 a2 vb3 h R := by
  unfold law5_InvRanks_F at H
  refine calls_of 78 [.tmp 6] Try.func5 rfl rfl rfl rfl rfl ?_
  refine W_seq ?_
  refine W_region (.pu 0 .fin) rfl rfl ?_
  refine s_pu (d := some 6) (v := (.bool false)) rfl rfl rfl (r_assign rfl) ?_
  refine s_fin ?_
  show W _ _ _ _ _ _ _ _
  refine W_seq ?_
  refine W_region (.ef 0 [] (.pu 1 .fin) .no) rfl rfl ?_
  refine s_ef (d := some 13) rfl rfl rfl (fun dr => r_call Try.call8 rfl rfl H) ?_ trivial
  rintro _ h1 ⟨y4, rfl, H⟩
  refine ⟨trivial, ?_⟩
  refine s_pu (d := some 7) (v := (.bool y4)) rfl rfl rfl (r_assign rfl) ?_
  refine s_fin ?_
  show W _ _ _ _ _ _ _ _
  refine W_seq ?_
  refine W_seq ?_
  refine W_region (.pu 0 (.pu 1 .fin)) rfl rfl ?_
  refine s_pu (d := some 14) (v := (.bool y4)) rfl rfl rfl (r_move rfl) ?_
  refine s_pu (d := some 15) (v := (.bool (!y4))) rfl rfl rfl (r_not rfl) ?_
  refine s_fin ?_
  show W _ _ _ _ _ _ _ _
  refine W_if (!y4) rfl (fun g62 => ?_) (fun g62 => ?_)
  · have H := H.1 g62
    refine W_seq ?_
    refine W_region (.pu 0 .fin) rfl rfl ?_
    refine s_pu (d := some 6) (v := (.bool false)) rfl rfl rfl (r_assign rfl) ?_
    refine s_fin ?_
    show W _ _ _ _ _ _ _ _
    refine W_ret ?_
    exact ⟨[(.bool false)], ⟨_, _, rfl, rfl, rfl⟩, false, rfl, H⟩
  · have H := H.2 g62
    refine W_skip ?_
    show W _ _ _ _ _ _ _ _
    refine W_seq ?_
    refine W_region (.pu 0 (.pu 1 (.ef 2 [] (.pu 3 (.pu 4 (.pu 5 (.pu 6 (.pu 7 .fin))))) .no))) rfl rfl ?_
    refine s_pu (d := some 17) (v := (.int .i64 n1)) rfl rfl rfl (r_move rfl) ?_
    refine s_pu (d := some 18) (v := (.int .i64 a2)) rfl rfl rfl (r_move rfl) ?_
    refine s_ef (d := some 19) rfl rfl rfl (fun dr => r_call Try.call12 rfl rfl H) ?_ trivial
    rintro _ h2 ⟨y5, y6, rfl, H⟩
    refine ⟨trivial, ?_⟩
    refine s_pu (d := some 16) (v := (.tuple #[(Sl.v y5), y6])) rfl rfl rfl (r_move rfl) ?_
    refine s_pu (d := some 20) (v := (Sl.v y5)) rfl rfl rfl (r_extract rfl rfl) ?_
    refine s_pu (d := some 21) (v := y6) rfl rfl rfl (r_extract rfl rfl) ?_
    refine s_pu (d := some 8) (v := (Sl.v y5)) rfl rfl rfl (r_assign rfl) ?_
    refine s_pu (d := some 9) (v := y6) rfl rfl rfl (r_assign rfl) ?_
    refine s_fin ?_
    show W _ _ _ _ _ _ _ _
    refine W_seq ?_
    refine W_region (.pu 0 (.pu 1 (.ef 2 [] (.pu 3 (.pu 4 (.pu 5 (.pu 6 (.pu 7 .fin))))) .no))) rfl rfl ?_
    refine s_pu (d := some 23) (v := (.int .i64 n1)) rfl rfl rfl (r_move rfl) ?_
    refine s_pu (d := some 24) (v := (.int .i64 vb3)) rfl rfl rfl (r_move rfl) ?_
    refine s_ef (d := some 25) rfl rfl rfl (fun dr => r_call Try.call12 rfl rfl H) ?_ trivial
    rintro _ h3 ⟨y7, y8, rfl, H⟩
    refine ⟨trivial, ?_⟩
    refine s_pu (d := some 22) (v := (.tuple #[(Sl.v y7), y8])) rfl rfl rfl (r_move rfl) ?_
    refine s_pu (d := some 26) (v := (Sl.v y7)) rfl rfl rfl (r_extract rfl rfl) ?_
    refine s_pu (d := some 27) (v := y8) rfl rfl rfl (r_extract rfl rfl) ?_
    refine s_pu (d := some 10) (v := (Sl.v y7)) rfl rfl rfl (r_assign rfl) ?_
    refine s_pu (d := some 11) (v := y8) rfl rfl rfl (r_assign rfl) ?_
    refine s_fin ?_
    show W _ _ _ _ _ _ _ _
    refine W_seq ?_
    refine W_seq ?_
    refine W_region (.pu 0 (.pu 1 (.pu 2 (.pu 3 (.pu 4 (.pu 5 (.pu 6 (.pu 7 (.pu 8 (.pu 9 (.pu 10 (.pu 11 (.pu 12 .fin))))))))))))) rfl rfl ?_
    refine s_pu (d := some 28) (v := y6) rfl rfl rfl (r_move rfl) ?_
    obtain ⟨e9, H⟩ := H
    refine s_pu (d := some 29) (v := (.bool (!(isNil y6)))) rfl rfl rfl (r_notNilI Try.underlying28 rfl e9 rfl) ?_
    refine s_pu (d := some 30) (v := (.bool (!(isNil y6)))) rfl rfl rfl (r_move rfl) ?_
    obtain ⟨e11, H⟩ := H
    refine S_meet (l := [(1, (.int .i64 a2)), (2, (.int .i64 vb3)), (8, (Sl.v y5)), (9, y6), (10, (Sl.v y7)), (11, y8), (33, (.bool ((!(isNil y6)) || (!(isNil y8)))))]) (i := 3) ?_ (fun HJ => ?_)
    · intro b
      show S _ _ _ _ _ _
      refine s_pu (d := some 34) (v := (.bool ((!(isNil y6)) || (!(isNil y8))))) rfl rfl rfl (r_move rfl) ?_
      refine S_meet (l := [(1, (.int .i64 a2)), (2, (.int .i64 vb3)), (8, (Sl.v y5)), (9, y6), (10, (Sl.v y7)), (11, y8), (40, (.bool (((!(isNil y6)) || (!(isNil y8))) || (!decide (((y5.len : Int)) = ((y7.len : Int)))))))]) (i := 6) ?_ (fun HJ => ?_)
      · intro b
        show S _ _ _ _ _ _
        refine s_fin ?_
        show W _ _ _ _ _ _ _ _
        refine W_if (((!(isNil y6)) || (!(isNil y8))) || (!decide (((y5.len : Int)) = ((y7.len : Int))))) rfl (fun g59 => ?_) (fun g59 => ?_)
        · have H := H.1 g59
          refine W_seq ?_
          refine W_region (.pu 0 (.pu 1 (.pu 2 (.pu 3 (.pu 4 (.pu 5 (.pu 6 .fin))))))) rfl rfl ?_
          refine s_pu (d := some 41) (v := y6) rfl rfl rfl (r_move rfl) ?_
          obtain ⟨e17, H⟩ := H
          refine s_pu (d := some 42) (v := (.bool (!(isNil y6)))) rfl rfl rfl (r_notNilI Try.underlying28 rfl e17 rfl) ?_
          refine s_pu (d := some 43) (v := (.bool (!(isNil y6)))) rfl rfl rfl (r_move rfl) ?_
          obtain ⟨e19, H⟩ := H
          refine S_meet (l := [(46, (.bool ((!(isNil y6)) || (!(isNil y8)))))]) (i := 3) ?_ (fun HJ => ?_)
          · intro b
            show S _ _ _ _ _ _
            refine s_pu (d := some 6) (v := (.bool ((!(isNil y6)) || (!(isNil y8))))) rfl rfl rfl (r_assign rfl) ?_
            refine s_fin ?_
            show W _ _ _ _ _ _ _ _
            refine W_ret ?_
            exact ⟨[(.bool ((!(isNil y6)) || (!(isNil y8))))], ⟨_, _, rfl, rfl, rfl⟩, ((!(isNil y6)) || (!(isNil y8))), rfl, H⟩
          · rcases Bool.eq_false_or_eq_true (!(isNil y6)) with g18 | g18
            · refine s_sk (d := some 44) rfl rfl (wants_no rfl rfl rfl rfl g18) ?_
              refine s_sk (d := some 45) rfl rfl (wants_no rfl rfl rfl rfl g18) ?_
              refine s_pu (d := some 46) (v := (.bool true)) rfl rfl rfl (r_pick1 rfl g18 rfl) ?_
              exact S_mk (l := [(46, (.bool ((!(isNil y6)) || (!(isNil y8)))))]) HJ ⟨(by rw [g18]; rfl), trivial⟩
            · refine s_pu (d := some 44) (v := y8) rfl rfl (wants_yes rfl rfl rfl rfl g18) (r_move rfl) ?_
              refine s_pu (d := some 45) (v := (.bool (!(isNil y8)))) rfl rfl (wants_yes rfl rfl rfl rfl g18) (r_notNilI Try.underlying28 rfl e19 rfl) ?_
              refine s_pu (d := some 46) (v := (.bool (!(isNil y8)))) rfl rfl rfl (r_pick0 rfl g18 rfl) ?_
              exact S_mk (l := [(46, (.bool ((!(isNil y6)) || (!(isNil y8)))))]) HJ ⟨(by rw [g18]; rfl), trivial⟩
        · have H := H.2 g59
          refine W_skip ?_
          show W _ _ _ _ _ _ _ _
          refine W_seq ?_
          refine W_seq ?_
          refine W_region (.pu 0 .fin) rfl rfl ?_
          refine s_pu (d := some 12) (v := (.int .i64 0)) rfl rfl rfl (r_assign rfl) ?_
          refine s_fin ?_
          show W _ _ _ _ _ _ _ _
          refine W_block ?_
          refine W_loop (WL_mk (l := [(1, (.int .i64 a2)), (2, (.int .i64 vb3)), (8, (Sl.v y5)), (10, (Sl.v y7)), (12, (.int .i64 0))]) ?_ ⟨rfl, rfl, rfl, rfl, rfl, trivial⟩)
          refine H (fun (i23 : Int) => ∀ b, WL _ _ _ _ _ _ (mkE [(1, (.int .i64 a2)), (2, (.int .i64 vb3)), (8, (Sl.v y5)), (10, (Sl.v y7)), (12, (.int .i64 i23))] b) h3) ?_
          intro i23 H b
          refine WL_round ?_
          refine W_seq ?_
          refine W_seq ?_
          refine W_region (.pu 0 (.pu 1 (.pu 2 (.pu 3 .fin)))) rfl rfl ?_
          refine s_pu (d := some 47) (v := (.int .i64 i23)) rfl rfl rfl (r_move rfl) ?_
          refine s_pu (d := some 48) (v := (Sl.v y5)) rfl rfl rfl (r_move rfl) ?_
          refine s_pu (d := some 49) (v := (.int .i64 ((y5.len : Int)))) rfl rfl rfl (r_len Try.underlying22 rfl) ?_
          refine s_pu (d := some 50) (v := (.bool (decide (i23 < ((y5.len : Int)))))) rfl rfl rfl (r_lss rfl rfl) ?_
          refine s_fin ?_
          show W _ _ _ _ _ _ _ _
          refine W_if (decide (i23 < ((y5.len : Int)))) rfl (fun g58 => ?_) (fun g58 => ?_)
          · have H := H.1 g58
            refine W_skip ?_
            show W _ _ _ _ _ _ _ _
            refine W_seq ?_
            refine W_block ?_
            refine W_seq ?_
            refine W_draw [0, 0, 3, 7, 0, 0, 48, 112, 255] (.pu 0 (.pu 1 (.pu 2 (.rd 3 (.pu 4 (.pu 5 (.pu 6 (.rd 7 (.pu 8 .fin))))))))) (by kernel_rfl) (by kernel_rfl) ?_
            refine s_pu (d := some 53) (v := (Sl.v y5)) rfl rfl rfl (r_move rfl) ?_
            refine s_pu (d := some 54) (v := (.int .i64 i23)) rfl rfl rfl (r_move rfl) ?_
            obtain ⟨p25, e26, e27, e28, H⟩ := H
            obtain ⟨q29, e30⟩ : ∃ q : Addr, q = Addr.add p25 (Int.toNat i23 * 1) := ⟨_, rfl⟩
            rw [← e30] at H
            refine s_pu (d := some 55) (v := (.pointer (some q29))) rfl rfl rfl (fun w => (r_indexAddr Try.underlying22 Try.sizeOf3 rfl rfl e26 e27 e28 w).trans (by rw [e30])) ?_
            obtain ⟨x31, e32, H⟩ := H
            refine s_rd (d := some 56) (v := (.int .i64 x31)) rfl rfl rfl (fun dr => r_load1 Try.isAgg3 rfl e32) ?_
            refine s_pu (d := some 57) (v := (Sl.v y7)) rfl rfl rfl (r_move rfl) ?_
            refine s_pu (d := some 58) (v := (.int .i64 i23)) rfl rfl rfl (r_move rfl) ?_
            obtain ⟨p33, e34, e35, e36, H⟩ := H
            obtain ⟨q37, e38⟩ : ∃ q : Addr, q = Addr.add p33 (Int.toNat i23 * 1) := ⟨_, rfl⟩
            rw [← e38] at H
            refine s_pu (d := some 59) (v := (.pointer (some q37))) rfl rfl rfl (fun w => (r_indexAddr Try.underlying22 Try.sizeOf3 rfl rfl e34 e35 e36 w).trans (by rw [e38])) ?_
            obtain ⟨x39, e40, H⟩ := H
            refine s_rd (d := some 60) (v := (.int .i64 x39)) rfl rfl rfl (fun dr => r_load1 Try.isAgg3 rfl e40) ?_
            refine s_pu (d := some 61) (v := (.bool (!decide (x31 = x39)))) rfl rfl rfl (r_neq rfl rfl) ?_
            refine s_fin ?_
            show W _ _ _ _ _ _ _ _
            refine W_if (!decide (x31 = x39)) rfl (fun g57 => ?_) (fun g57 => ?_)
            · have H := H.1 g57
              refine W_seq ?_
              refine W_draw [0, 0, 3, 7, 0, 0, 48, 112, 255, 0, 0, 1536, 4095, 8191] (.pu 0 (.pu 1 (.pu 2 (.rd 3 (.pu 4 (.pu 5 (.pu 6 (.rd 7 (.pu 8 (.pu 9 (.pu 10 (.pu 11 (.pu 12 (.pu 13 .fin)))))))))))))) (by kernel_rfl) (by kernel_rfl) ?_
              refine s_pu (d := some 62) (v := (Sl.v y5)) rfl rfl rfl (r_move rfl) ?_
              refine s_pu (d := some 63) (v := (.int .i64 i23)) rfl rfl rfl (r_move rfl) ?_
              obtain ⟨p41, e42, e43, e44, H⟩ := H
              obtain ⟨q45, e46⟩ : ∃ q : Addr, q = Addr.add p41 (Int.toNat i23 * 1) := ⟨_, rfl⟩
              rw [← e46] at H
              refine s_pu (d := some 64) (v := (.pointer (some q45))) rfl rfl rfl (fun w => (r_indexAddr Try.underlying22 Try.sizeOf3 rfl rfl e42 e43 e44 w).trans (by rw [e46])) ?_
              obtain ⟨x47, e48, H⟩ := H
              refine s_rd (d := some 65) (v := (.int .i64 x47)) rfl rfl rfl (fun dr => r_load1 Try.isAgg3 rfl e48) ?_
              refine s_pu (d := some 66) (v := (Sl.v y7)) rfl rfl rfl (r_move rfl) ?_
              refine s_pu (d := some 67) (v := (.int .i64 i23)) rfl rfl rfl (r_move rfl) ?_
              obtain ⟨p49, e50, e51, e52, H⟩ := H
              obtain ⟨q53, e54⟩ : ∃ q : Addr, q = Addr.add p49 (Int.toNat i23 * 1) := ⟨_, rfl⟩
              rw [← e54] at H
              refine s_pu (d := some 68) (v := (.pointer (some q53))) rfl rfl rfl (fun w => (r_indexAddr Try.underlying22 Try.sizeOf3 rfl rfl e50 e51 e52 w).trans (by rw [e54])) ?_
              obtain ⟨x55, e56, H⟩ := H
              refine s_rd (d := some 69) (v := (.int .i64 x55)) rfl rfl rfl (fun dr => r_load1 Try.isAgg3 rfl e56) ?_
              refine s_pu (d := some 70) (v := (.bool (decide (x47 < x55)))) rfl rfl rfl (r_lss rfl rfl) ?_
              refine s_pu (d := some 71) (v := (.int .i64 a2)) rfl rfl rfl (r_move rfl) ?_
              refine s_pu (d := some 72) (v := (.int .i64 vb3)) rfl rfl rfl (r_move rfl) ?_
              refine s_pu (d := some 73) (v := (.bool (decide (a2 < vb3)))) rfl rfl rfl (r_lss rfl rfl) ?_
              refine s_pu (d := some 74) (v := (.bool ((decide (x47 < x55)) == (decide (a2 < vb3))))) rfl rfl rfl (r_eqlB Try.underlying4 rfl rfl) ?_
              refine s_pu (d := some 6) (v := (.bool ((decide (x47 < x55)) == (decide (a2 < vb3))))) rfl rfl rfl (r_assign rfl) ?_
              refine s_fin ?_
              show W _ _ _ _ _ _ _ _
              refine W_ret ?_
              exact ⟨[(.bool ((decide (x47 < x55)) == (decide (a2 < vb3))))], ⟨_, _, rfl, rfl, rfl⟩, ((decide (x47 < x55)) == (decide (a2 < vb3))), rfl, H⟩
            · have H := H.2 g57
              refine W_skip ?_
              show W _ _ _ _ _ _ _ _
              refine W_region (.pu 0 (.pu 1 (.pu 2 .fin))) rfl rfl ?_
              refine s_pu (d := some 51) (v := (.int .i64 i23)) rfl rfl rfl (r_move rfl) ?_
              refine s_pu (d := some 52) (v := (.int .i64 (w64 (i23 + 1)))) rfl rfl rfl (r_add rfl rfl) ?_
              refine s_pu (d := some 12) (v := (.int .i64 (w64 (i23 + 1)))) rfl rfl rfl (r_assign rfl) ?_
              refine s_fin ?_
              exact WL_mk (l := [(1, (.int .i64 a2)), (2, (.int .i64 vb3)), (8, (Sl.v y5)), (10, (Sl.v y7)), (12, (.int .i64 (w64 (i23 + 1))))]) H ⟨rfl, rfl, rfl, rfl, rfl, trivial⟩
          · have H := H.2 g58
            refine W_exit (inX_here ?_)
            show W _ _ _ _ _ _ _ _
            refine W_seq ?_
            refine W_region (.pu 0 (.pu 1 (.pu 2 (.pu 3 .fin)))) rfl rfl ?_
            refine s_pu (d := some 75) (v := (.int .i64 a2)) rfl rfl rfl (r_move rfl) ?_
            refine s_pu (d := some 76) (v := (.int .i64 vb3)) rfl rfl rfl (r_move rfl) ?_
            refine s_pu (d := some 77) (v := (.bool (decide (a2 = vb3)))) rfl rfl rfl (r_eql rfl rfl) ?_
            refine s_pu (d := some 6) (v := (.bool (decide (a2 = vb3)))) rfl rfl rfl (r_assign rfl) ?_
            refine s_fin ?_
            show W _ _ _ _ _ _ _ _
            refine W_ret ?_
            exact ⟨[(.bool (decide (a2 = vb3)))], ⟨_, _, rfl, rfl, rfl⟩, (decide (a2 = vb3)), rfl, H⟩
      · rcases Bool.eq_false_or_eq_true ((!(isNil y6)) || (!(isNil y8))) with g14 | g14
        · refine s_sk (d := some 35) rfl rfl (wants_no rfl rfl rfl rfl g14) ?_
          refine s_sk (d := some 36) rfl rfl (wants_no rfl rfl rfl rfl g14) ?_
          refine s_sk (d := some 37) rfl rfl (wants_no rfl rfl rfl rfl g14) ?_
          refine s_sk (d := some 38) rfl rfl (wants_no rfl rfl rfl rfl g14) ?_
          refine s_sk (d := some 39) rfl rfl (wants_no rfl rfl rfl rfl g14) ?_
          refine s_pu (d := some 40) (v := (.bool true)) rfl rfl rfl (r_pick1 rfl g14 rfl) ?_
          exact S_mk (l := [(1, (.int .i64 a2)), (2, (.int .i64 vb3)), (8, (Sl.v y5)), (9, y6), (10, (Sl.v y7)), (11, y8), (40, (.bool (((!(isNil y6)) || (!(isNil y8))) || (!decide (((y5.len : Int)) = ((y7.len : Int)))))))]) HJ ⟨rfl, rfl, rfl, rfl, rfl, rfl, (by rw [g14]; rfl), trivial⟩
        · refine s_pu (d := some 35) (v := (Sl.v y5)) rfl rfl (wants_yes rfl rfl rfl rfl g14) (r_move rfl) ?_
          refine s_pu (d := some 36) (v := (.int .i64 ((y5.len : Int)))) rfl rfl (wants_yes rfl rfl rfl rfl g14) (r_len Try.underlying22 rfl) ?_
          refine s_pu (d := some 37) (v := (Sl.v y7)) rfl rfl (wants_yes rfl rfl rfl rfl g14) (r_move rfl) ?_
          refine s_pu (d := some 38) (v := (.int .i64 ((y7.len : Int)))) rfl rfl (wants_yes rfl rfl rfl rfl g14) (r_len Try.underlying22 rfl) ?_
          refine s_pu (d := some 39) (v := (.bool (!decide (((y5.len : Int)) = ((y7.len : Int)))))) rfl rfl (wants_yes rfl rfl rfl rfl g14) (r_neq rfl rfl) ?_
          refine s_pu (d := some 40) (v := (.bool (!decide (((y5.len : Int)) = ((y7.len : Int)))))) rfl rfl rfl (r_pick0 rfl g14 rfl) ?_
          exact S_mk (l := [(1, (.int .i64 a2)), (2, (.int .i64 vb3)), (8, (Sl.v y5)), (9, y6), (10, (Sl.v y7)), (11, y8), (40, (.bool (((!(isNil y6)) || (!(isNil y8))) || (!decide (((y5.len : Int)) = ((y7.len : Int)))))))]) HJ ⟨rfl, rfl, rfl, rfl, rfl, rfl, (by rw [g14]; rfl), trivial⟩
    · rcases Bool.eq_false_or_eq_true (!(isNil y6)) with g10 | g10
      · refine s_sk (d := some 31) rfl rfl (wants_no rfl rfl rfl rfl g10) ?_
        refine s_sk (d := some 32) rfl rfl (wants_no rfl rfl rfl rfl g10) ?_
        refine s_pu (d := some 33) (v := (.bool true)) rfl rfl rfl (r_pick1 rfl g10 rfl) ?_
        exact S_mk (l := [(1, (.int .i64 a2)), (2, (.int .i64 vb3)), (8, (Sl.v y5)), (9, y6), (10, (Sl.v y7)), (11, y8), (33, (.bool ((!(isNil y6)) || (!(isNil y8)))))]) HJ ⟨rfl, rfl, rfl, rfl, rfl, rfl, (by rw [g10]; rfl), trivial⟩
      · refine s_pu (d := some 31) (v := y8) rfl rfl (wants_yes rfl rfl rfl rfl g10) (r_move rfl) ?_
        refine s_pu (d := some 32) (v := (.bool (!(isNil y8)))) rfl rfl (wants_yes rfl rfl rfl rfl g10) (r_notNilI Try.underlying28 rfl e11 rfl) ?_
        refine s_pu (d := some 33) (v := (.bool (!(isNil y8)))) rfl rfl rfl (r_pick0 rfl g10 rfl) ?_
        exact S_mk (l := [(1, (.int .i64 a2)), (2, (.int .i64 vb3)), (8, (Sl.v y5)), (9, y6), (10, (Sl.v y7)), (11, y8), (33, (.bool ((!(isNil y6)) || (!(isNil y8)))))]) HJ ⟨rfl, rfl, rfl, rfl, rfl, rfl, (by rw [g10]; rfl), trivial⟩

/-! ### law5_InvBack -/

def law5_InvBack_F (r : World) (p1 : Sl) (h : Heap) (R : Bool → Heap → Prop) : Prop :=
  law5_sorted r h fun y2 h1 =>
  Br (!y2) (
    R false h1) (
    inv_Lehmer r p1 h1 fun y3 y4 h2 =>
    (isIface y4 = true) ∧
    Br (!(isNil y4)) (
      inv_Check r p1 h2 fun y6 h3 =>
      (isIface y6 = true) ∧
      R (!(isNil y6)) h3) (
      inv_Order r y3 h2 fun y8 y9 h4 =>
      inv_Rank r p1 h4 fun y10 y11 h5 =>
      inv_Perm r ((p1.len : Int)) y10 h5 fun y12 y13 h6 =>
      same_Ints r y8 p1 h6 fun y14 h7 =>
      same_Ints r y12 p1 h7 fun y15 h8 =>
      ∀ J17 : Bool → Heap → Prop, (∀ (x16 : Bool) (h9 : Heap),
        (R x16 h9) →
        J17 x16 h9) →
      (isIface y9 = true) ∧
      Br (isNil y9) (
        (isIface y11 = true) ∧
        Br (isNil y11) (
          (isIface y13 = true) ∧
          Br (isNil y13) (
            Br y14 (
              Br y15 (
                ref1_SumOf r y3 h8 fun y27 h10 =>
                inv_Count r p1 h10 fun y28 h11 =>
                J17 (decide (y27 = y28)) h11) (
                J17 false h8)) (
              J17 false h8)) (
            J17 false h8)) (
          J17 false h8)) (
        J17 false h8)))

set_option maxRecDepth 100000 in
theorem law5_InvBack_of {r : World} {p1 : Sl} {h : Heap} {R : Bool → Heap → Prop} (H : law5_InvBack_F r p1 h R) : law5_InvBack r p1 h R := by
  unfold law5_InvBack_F at H
  refine calls_of 73 [.tmp 2] Try.func6 rfl rfl rfl rfl rfl ?_
  refine W_seq ?_
  refine W_region (.pu 0 .fin) rfl rfl ?_
  refine s_pu (d := some 2) (v := (.bool false)) rfl rfl rfl (r_assign rfl) ?_
  refine s_fin ?_
  show W _ _ _ _ _ _ _ _
  refine W_seq ?_
  refine W_region (.ef 0 [] (.pu 1 .fin) .no) rfl rfl ?_
  refine s_ef (d := some 14) rfl rfl rfl (fun dr => r_call Try.call8 rfl rfl H) ?_ trivial
  rintro _ h1 ⟨y2, rfl, H⟩
  refine ⟨trivial, ?_⟩
  refine s_pu (d := some 3) (v := (.bool y2)) rfl rfl rfl (r_assign rfl) ?_
  refine s_fin ?_
  show W _ _ _ _ _ _ _ _
  refine W_seq ?_
  refine W_seq ?_
  refine W_region (.pu 0 (.pu 1 .fin)) rfl rfl ?_
  refine s_pu (d := some 15) (v := (.bool y2)) rfl rfl rfl (r_move rfl) ?_
  refine s_pu (d := some 16) (v := (.bool (!y2))) rfl rfl rfl (r_not rfl) ?_
  refine s_fin ?_
  show W _ _ _ _ _ _ _ _
  refine W_if (!y2) rfl (fun g30 => ?_) (fun g30 => ?_)
  · have H := H.1 g30
    refine W_seq ?_
    refine W_region (.pu 0 .fin) rfl rfl ?_
    refine s_pu (d := some 2) (v := (.bool false)) rfl rfl rfl (r_assign rfl) ?_
    refine s_fin ?_
    show W _ _ _ _ _ _ _ _
    refine W_ret ?_
    exact ⟨[(.bool false)], ⟨_, _, rfl, rfl, rfl⟩, false, rfl, H⟩
  · have H := H.2 g30
    refine W_skip ?_
    show W _ _ _ _ _ _ _ _
    refine W_seq ?_
    refine W_region (.pu 0 (.ef 1 [] (.pu 2 (.pu 3 (.pu 4 (.pu 5 (.pu 6 .fin))))) .no)) rfl rfl ?_
    refine s_pu (d := some 18) (v := (Sl.v p1)) rfl rfl rfl (r_move rfl) ?_
    refine s_ef (d := some 19) rfl rfl rfl (fun dr => r_call Try.call13 rfl rfl H) ?_ trivial
    rintro _ h2 ⟨y3, y4, rfl, H⟩
    refine ⟨trivial, ?_⟩
    refine s_pu (d := some 17) (v := (.tuple #[(Sl.v y3), y4])) rfl rfl rfl (r_move rfl) ?_
    refine s_pu (d := some 20) (v := (Sl.v y3)) rfl rfl rfl (r_extract rfl rfl) ?_
    refine s_pu (d := some 21) (v := y4) rfl rfl rfl (r_extract rfl rfl) ?_
    refine s_pu (d := some 4) (v := (Sl.v y3)) rfl rfl rfl (r_assign rfl) ?_
    refine s_pu (d := some 5) (v := y4) rfl rfl rfl (r_assign rfl) ?_
    refine s_fin ?_
    show W _ _ _ _ _ _ _ _
    refine W_seq ?_
    refine W_seq ?_
    refine W_region (.pu 0 (.pu 1 .fin)) rfl rfl ?_
    refine s_pu (d := some 22) (v := y4) rfl rfl rfl (r_move rfl) ?_
    obtain ⟨e5, H⟩ := H
    refine s_pu (d := some 23) (v := (.bool (!(isNil y4)))) rfl rfl rfl (r_notNilI Try.underlying28 rfl e5 rfl) ?_
    refine s_fin ?_
    show W _ _ _ _ _ _ _ _
    refine W_if (!(isNil y4)) rfl (fun g29 => ?_) (fun g29 => ?_)
    · have H := H.1 g29
      refine W_seq ?_
      refine W_region (.pu 0 (.ef 1 [] (.pu 2 (.pu 3 .fin)) .no)) rfl rfl ?_
      refine s_pu (d := some 24) (v := (Sl.v p1)) rfl rfl rfl (r_move rfl) ?_
      refine s_ef (d := some 25) rfl rfl rfl (fun dr => r_call Try.call14 rfl rfl H) ?_ trivial
      rintro y6 h3 H
      refine ⟨trivial, ?_⟩
      obtain ⟨e7, H⟩ := H
      refine s_pu (d := some 26) (v := (.bool (!(isNil y6)))) rfl rfl rfl (r_notNilI Try.underlying28 rfl e7 rfl) ?_
      refine s_pu (d := some 2) (v := (.bool (!(isNil y6)))) rfl rfl rfl (r_assign rfl) ?_
      refine s_fin ?_
      show W _ _ _ _ _ _ _ _
      refine W_ret ?_
      exact ⟨[(.bool (!(isNil y6)))], ⟨_, _, rfl, rfl, rfl⟩, (!(isNil y6)), rfl, H⟩
    · have H := H.2 g29
      refine W_skip ?_
      show W _ _ _ _ _ _ _ _
      refine W_seq ?_
      refine W_region (.pu 0 (.ef 1 [] (.pu 2 (.pu 3 (.pu 4 (.pu 5 (.pu 6 .fin))))) .no)) rfl rfl ?_
      refine s_pu (d := some 28) (v := (Sl.v y3)) rfl rfl rfl (r_move rfl) ?_
      refine s_ef (d := some 29) rfl rfl rfl (fun dr => r_call Try.call15 rfl rfl H) ?_ trivial
      rintro _ h4 ⟨y8, y9, rfl, H⟩
      refine ⟨trivial, ?_⟩
      refine s_pu (d := some 27) (v := (.tuple #[(Sl.v y8), y9])) rfl rfl rfl (r_move rfl) ?_
      refine s_pu (d := some 30) (v := (Sl.v y8)) rfl rfl rfl (r_extract rfl rfl) ?_
      refine s_pu (d := some 31) (v := y9) rfl rfl rfl (r_extract rfl rfl) ?_
      refine s_pu (d := some 6) (v := (Sl.v y8)) rfl rfl rfl (r_assign rfl) ?_
      refine s_pu (d := some 7) (v := y9) rfl rfl rfl (r_assign rfl) ?_
      refine s_fin ?_
      show W _ _ _ _ _ _ _ _
      refine W_seq ?_
      refine W_region (.pu 0 (.ef 1 [] (.pu 2 (.pu 3 (.pu 4 (.pu 5 (.pu 6 .fin))))) .no)) rfl rfl ?_
      refine s_pu (d := some 33) (v := (Sl.v p1)) rfl rfl rfl (r_move rfl) ?_
      refine s_ef (d := some 34) rfl rfl rfl (fun dr => r_call Try.call16 rfl rfl H) ?_ trivial
      rintro _ h5 ⟨y10, y11, rfl, H⟩
      refine ⟨trivial, ?_⟩
      refine s_pu (d := some 32) (v := (.tuple #[(.int .i64 y10), y11])) rfl rfl rfl (r_move rfl) ?_
      refine s_pu (d := some 35) (v := (.int .i64 y10)) rfl rfl rfl (r_extract rfl rfl) ?_
      refine s_pu (d := some 36) (v := y11) rfl rfl rfl (r_extract rfl rfl) ?_
      refine s_pu (d := some 8) (v := (.int .i64 y10)) rfl rfl rfl (r_assign rfl) ?_
      refine s_pu (d := some 9) (v := y11) rfl rfl rfl (r_assign rfl) ?_
      refine s_fin ?_
      show W _ _ _ _ _ _ _ _
      refine W_seq ?_
      refine W_region (.pu 0 (.pu 1 (.pu 2 (.ef 3 [] (.pu 4 (.pu 5 (.pu 6 (.pu 7 (.pu 8 .fin))))) .no)))) rfl rfl ?_
      refine s_pu (d := some 38) (v := (Sl.v p1)) rfl rfl rfl (r_move rfl) ?_
      refine s_pu (d := some 39) (v := (.int .i64 ((p1.len : Int)))) rfl rfl rfl (r_len Try.underlying22 rfl) ?_
      refine s_pu (d := some 40) (v := (.int .i64 y10)) rfl rfl rfl (r_move rfl) ?_
      refine s_ef (d := some 41) rfl rfl rfl (fun dr => r_call Try.call12 rfl rfl H) ?_ trivial
      rintro _ h6 ⟨y12, y13, rfl, H⟩
      refine ⟨trivial, ?_⟩
      refine s_pu (d := some 37) (v := (.tuple #[(Sl.v y12), y13])) rfl rfl rfl (r_move rfl) ?_
      refine s_pu (d := some 42) (v := (Sl.v y12)) rfl rfl rfl (r_extract rfl rfl) ?_
      refine s_pu (d := some 43) (v := y13) rfl rfl rfl (r_extract rfl rfl) ?_
      refine s_pu (d := some 10) (v := (Sl.v y12)) rfl rfl rfl (r_assign rfl) ?_
      refine s_pu (d := some 11) (v := y13) rfl rfl rfl (r_assign rfl) ?_
      refine s_fin ?_
      show W _ _ _ _ _ _ _ _
      refine W_seq ?_
      refine W_region (.pu 0 (.pu 1 (.ef 2 [] (.pu 3 .fin) .no))) rfl rfl ?_
      refine s_pu (d := some 44) (v := (Sl.v y8)) rfl rfl rfl (r_move rfl) ?_
      refine s_pu (d := some 45) (v := (Sl.v p1)) rfl rfl rfl (r_move rfl) ?_
      refine s_ef (d := some 46) rfl rfl rfl (fun dr => r_call Try.call17 rfl rfl H) ?_ trivial
      rintro _ h7 ⟨y14, rfl, H⟩
      refine ⟨trivial, ?_⟩
      refine s_pu (d := some 12) (v := (.bool y14)) rfl rfl rfl (r_assign rfl) ?_
      refine s_fin ?_
      show W _ _ _ _ _ _ _ _
      refine W_seq ?_
      refine W_region (.pu 0 (.pu 1 (.ef 2 [] (.pu 3 .fin) .no))) rfl rfl ?_
      refine s_pu (d := some 47) (v := (Sl.v y12)) rfl rfl rfl (r_move rfl) ?_
      refine s_pu (d := some 48) (v := (Sl.v p1)) rfl rfl rfl (r_move rfl) ?_
      refine s_ef (d := some 49) rfl rfl rfl (fun dr => r_call Try.call17 rfl rfl H) ?_ trivial
      rintro _ h8 ⟨y15, rfl, H⟩
      refine ⟨trivial, ?_⟩
      refine s_pu (d := some 13) (v := (.bool y15)) rfl rfl rfl (r_assign rfl) ?_
      refine s_fin ?_
      show W _ _ _ _ _ _ _ _
      refine W_seq ?_
      refine W_set ?_
      intro N18 eN18
      have H := H (fun (x16 : Bool) (h9 : Heap) => ∀ b, N18 [] (mkE [(2, (.bool x16))] b) h9) (by
        intro x16 h9 H b
        rw [eN18]
        show W _ _ _ _ _ _ _ _
        refine W_ret ?_
        exact ⟨[(.bool x16)], ⟨_, _, rfl, rfl, rfl⟩, x16, rfl, H⟩)
      clear eN18
      refine W_region (.pu 0 (.pu 1 (.pu 2 (.pu 3 (.pu 4 (.pu 5 (.pu 6 (.pu 7 (.pu 8 (.pu 9 (.pu 10 (.pu 11 (.pu 12 (.pu 13 (.pu 14 (.pu 15 (.pu 16 (.pu 17 (.ef 18 [] (.pu 19 (.ef 20 [] (.pu 21 (.pu 22 (.pu 23 .fin))) .no)) .no))))))))))))))))))) rfl rfl ?_
      refine s_pu (d := some 50) (v := y9) rfl rfl rfl (r_move rfl) ?_
      obtain ⟨e19, H⟩ := H
      refine s_pu (d := some 51) (v := (.bool (isNil y9))) rfl rfl rfl (r_nilI Try.underlying28 rfl e19 rfl) ?_
      refine s_pu (d := some 52) (v := (.bool (isNil y9))) rfl rfl rfl (r_move rfl) ?_
      rcases Bool.eq_false_or_eq_true (isNil y9) with g20 | g20
      · have H := H.1 g20
        refine s_pu (d := some 53) (v := y11) rfl rfl (wants_yes rfl rfl rfl rfl g20) (r_move rfl) ?_
        obtain ⟨e21, H⟩ := H
        refine s_pu (d := some 54) (v := (.bool (isNil y11))) rfl rfl (wants_yes rfl rfl rfl rfl g20) (r_nilI Try.underlying28 rfl e21 rfl) ?_
        refine s_pu (d := some 55) (v := (.bool (isNil y11))) rfl rfl rfl (r_pick1 rfl g20 rfl) ?_
        refine s_pu (d := some 56) (v := (.bool (isNil y11))) rfl rfl rfl (r_move rfl) ?_
        rcases Bool.eq_false_or_eq_true (isNil y11) with g22 | g22
        · have H := H.1 g22
          refine s_pu (d := some 57) (v := y13) rfl rfl (wants_yes rfl rfl rfl rfl g22) (r_move rfl) ?_
          obtain ⟨e23, H⟩ := H
          refine s_pu (d := some 58) (v := (.bool (isNil y13))) rfl rfl (wants_yes rfl rfl rfl rfl g22) (r_nilI Try.underlying28 rfl e23 rfl) ?_
          refine s_pu (d := some 59) (v := (.bool (isNil y13))) rfl rfl rfl (r_pick1 rfl g22 rfl) ?_
          refine s_pu (d := some 60) (v := (.bool (isNil y13))) rfl rfl rfl (r_move rfl) ?_
          rcases Bool.eq_false_or_eq_true (isNil y13) with g24 | g24
          · have H := H.1 g24
            refine s_pu (d := some 61) (v := (.bool y14)) rfl rfl (wants_yes rfl rfl rfl rfl g24) (r_move rfl) ?_
            refine s_pu (d := some 62) (v := (.bool y14)) rfl rfl rfl (r_pick1 rfl g24 rfl) ?_
            refine s_pu (d := some 63) (v := (.bool y14)) rfl rfl rfl (r_move rfl) ?_
            rcases Bool.eq_false_or_eq_true y14 with g25 | g25
            · have H := H.1 g25
              refine s_pu (d := some 64) (v := (.bool y15)) rfl rfl (wants_yes rfl rfl rfl rfl g25) (r_move rfl) ?_
              refine s_pu (d := some 65) (v := (.bool y15)) rfl rfl rfl (r_pick1 rfl g25 rfl) ?_
              refine s_pu (d := some 66) (v := (.bool y15)) rfl rfl rfl (r_move rfl) ?_
              rcases Bool.eq_false_or_eq_true y15 with g26 | g26
              · have H := H.1 g26
                refine s_pu (d := some 67) (v := (Sl.v y3)) rfl rfl (wants_yes rfl rfl rfl rfl g26) (r_move rfl) ?_
                refine s_ef (d := some 68) rfl rfl (wants_yes rfl rfl rfl rfl g26) (fun dr => r_call Try.call18 rfl rfl H) ?_ trivial
                rintro _ h10 ⟨y27, rfl, H⟩
                refine ⟨trivial, ?_⟩
                refine s_pu (d := some 69) (v := (Sl.v p1)) rfl rfl (wants_yes rfl rfl rfl rfl g26) (r_move rfl) ?_
                refine s_ef (d := some 70) rfl rfl (wants_yes rfl rfl rfl rfl g26) (fun dr => r_call Try.call9 rfl rfl H) ?_ trivial
                rintro _ h11 ⟨y28, rfl, H⟩
                refine ⟨trivial, ?_⟩
                refine s_pu (d := some 71) (v := (.bool (decide (y27 = y28)))) rfl rfl (wants_yes rfl rfl rfl rfl g26) (r_eql rfl rfl) ?_
                refine s_pu (d := some 72) (v := (.bool (decide (y27 = y28)))) rfl rfl rfl (r_pick1 rfl g26 rfl) ?_
                refine s_pu (d := some 2) (v := (.bool (decide (y27 = y28)))) rfl rfl rfl (r_assign rfl) ?_
                refine s_fin ?_
                exact N_mk (l := [(2, (.bool (decide (y27 = y28))))]) H ⟨rfl, trivial⟩
              · have H := H.2 g26
                refine s_sk (d := some 67) rfl rfl (wants_no rfl rfl rfl rfl g26) ?_
                refine s_skf (d := some 68) rfl rfl (wants_no rfl rfl rfl rfl g26) trivial ?_ trivial
                refine s_sk (d := some 69) rfl rfl (wants_no rfl rfl rfl rfl g26) ?_
                refine s_skf (d := some 70) rfl rfl (wants_no rfl rfl rfl rfl g26) trivial ?_ trivial
                refine s_sk (d := some 71) rfl rfl (wants_no rfl rfl rfl rfl g26) ?_
                refine s_pu (d := some 72) (v := (.bool false)) rfl rfl rfl (r_pick0 rfl g26 rfl) ?_
                refine s_pu (d := some 2) (v := (.bool false)) rfl rfl rfl (r_assign rfl) ?_
                refine s_fin ?_
                exact N_mk (l := [(2, (.bool false))]) H ⟨rfl, trivial⟩
            · have H := H.2 g25
              refine s_sk (d := some 64) rfl rfl (wants_no rfl rfl rfl rfl g25) ?_
              refine s_pu (d := some 65) (v := (.bool false)) rfl rfl rfl (r_pick0 rfl g25 rfl) ?_
              refine s_pu (d := some 66) (v := (.bool false)) rfl rfl rfl (r_move rfl) ?_
              refine s_sk (d := some 67) rfl rfl (wants_no rfl rfl rfl rfl rfl) ?_
              refine s_skf (d := some 68) rfl rfl (wants_no rfl rfl rfl rfl rfl) trivial ?_ trivial
              refine s_sk (d := some 69) rfl rfl (wants_no rfl rfl rfl rfl rfl) ?_
              refine s_skf (d := some 70) rfl rfl (wants_no rfl rfl rfl rfl rfl) trivial ?_ trivial
              refine s_sk (d := some 71) rfl rfl (wants_no rfl rfl rfl rfl rfl) ?_
              refine s_pu (d := some 72) (v := (.bool false)) rfl rfl rfl (r_pick0 rfl rfl rfl) ?_
              refine s_pu (d := some 2) (v := (.bool false)) rfl rfl rfl (r_assign rfl) ?_
              refine s_fin ?_
              exact N_mk (l := [(2, (.bool false))]) H ⟨rfl, trivial⟩
          · have H := H.2 g24
            refine s_sk (d := some 61) rfl rfl (wants_no rfl rfl rfl rfl g24) ?_
            refine s_pu (d := some 62) (v := (.bool false)) rfl rfl rfl (r_pick0 rfl g24 rfl) ?_
            refine s_pu (d := some 63) (v := (.bool false)) rfl rfl rfl (r_move rfl) ?_
            refine s_sk (d := some 64) rfl rfl (wants_no rfl rfl rfl rfl rfl) ?_
            refine s_pu (d := some 65) (v := (.bool false)) rfl rfl rfl (r_pick0 rfl rfl rfl) ?_
            refine s_pu (d := some 66) (v := (.bool false)) rfl rfl rfl (r_move rfl) ?_
            refine s_sk (d := some 67) rfl rfl (wants_no rfl rfl rfl rfl rfl) ?_
            refine s_skf (d := some 68) rfl rfl (wants_no rfl rfl rfl rfl rfl) trivial ?_ trivial
            refine s_sk (d := some 69) rfl rfl (wants_no rfl rfl rfl rfl rfl) ?_
            refine s_skf (d := some 70) rfl rfl (wants_no rfl rfl rfl rfl rfl) trivial ?_ trivial
            refine s_sk (d := some 71) rfl rfl (wants_no rfl rfl rfl rfl rfl) ?_
            refine s_pu (d := some 72) (v := (.bool false)) rfl rfl rfl (r_pick0 rfl rfl rfl) ?_
            refine s_pu (d := some 2) (v := (.bool false)) rfl rfl rfl (r_assign rfl) ?_
            refine s_fin ?_
            exact N_mk (l := [(2, (.bool false))]) H ⟨rfl, trivial⟩
        · have H := H.2 g22
          refine s_sk (d := some 57) rfl rfl (wants_no rfl rfl rfl rfl g22) ?_
          refine s_sk (d := some 58) rfl rfl (wants_no rfl rfl rfl rfl g22) ?_
          refine s_pu (d := some 59) (v := (.bool false)) rfl rfl rfl (r_pick0 rfl g22 rfl) ?_
          refine s_pu (d := some 60) (v := (.bool false)) rfl rfl rfl (r_move rfl) ?_
          refine s_sk (d := some 61) rfl rfl (wants_no rfl rfl rfl rfl rfl) ?_
          refine s_pu (d := some 62) (v := (.bool false)) rfl rfl rfl (r_pick0 rfl rfl rfl) ?_
          refine s_pu (d := some 63) (v := (.bool false)) rfl rfl rfl (r_move rfl) ?_
          refine s_sk (d := some 64) rfl rfl (wants_no rfl rfl rfl rfl rfl) ?_
          refine s_pu (d := some 65) (v := (.bool false)) rfl rfl rfl (r_pick0 rfl rfl rfl) ?_
          refine s_pu (d := some 66) (v := (.bool false)) rfl rfl rfl (r_move rfl) ?_
          refine s_sk (d := some 67) rfl rfl (wants_no rfl rfl rfl rfl rfl) ?_
          refine s_skf (d := some 68) rfl rfl (wants_no rfl rfl rfl rfl rfl) trivial ?_ trivial
          refine s_sk (d := some 69) rfl rfl (wants_no rfl rfl rfl rfl rfl) ?_
          refine s_skf (d := some 70) rfl rfl (wants_no rfl rfl rfl rfl rfl) trivial ?_ trivial
          refine s_sk (d := some 71) rfl rfl (wants_no rfl rfl rfl rfl rfl) ?_
          refine s_pu (d := some 72) (v := (.bool false)) rfl rfl rfl (r_pick0 rfl rfl rfl) ?_
          refine s_pu (d := some 2) (v := (.bool false)) rfl rfl rfl (r_assign rfl) ?_
          refine s_fin ?_
          exact N_mk (l := [(2, (.bool false))]) H ⟨rfl, trivial⟩
      · have H := H.2 g20
        refine s_sk (d := some 53) rfl rfl (wants_no rfl rfl rfl rfl g20) ?_
        refine s_sk (d := some 54) rfl rfl (wants_no rfl rfl rfl rfl g20) ?_
        refine s_pu (d := some 55) (v := (.bool false)) rfl rfl rfl (r_pick0 rfl g20 rfl) ?_
        refine s_pu (d := some 56) (v := (.bool false)) rfl rfl rfl (r_move rfl) ?_
        refine s_sk (d := some 57) rfl rfl (wants_no rfl rfl rfl rfl rfl) ?_
        refine s_sk (d := some 58) rfl rfl (wants_no rfl rfl rfl rfl rfl) ?_
        refine s_pu (d := some 59) (v := (.bool false)) rfl rfl rfl (r_pick0 rfl rfl rfl) ?_
        refine s_pu (d := some 60) (v := (.bool false)) rfl rfl rfl (r_move rfl) ?_
        refine s_sk (d := some 61) rfl rfl (wants_no rfl rfl rfl rfl rfl) ?_
        refine s_pu (d := some 62) (v := (.bool false)) rfl rfl rfl (r_pick0 rfl rfl rfl) ?_
        refine s_pu (d := some 63) (v := (.bool false)) rfl rfl rfl (r_move rfl) ?_
        refine s_sk (d := some 64) rfl rfl (wants_no rfl rfl rfl rfl rfl) ?_
        refine s_pu (d := some 65) (v := (.bool false)) rfl rfl rfl (r_pick0 rfl rfl rfl) ?_
        refine s_pu (d := some 66) (v := (.bool false)) rfl rfl rfl (r_move rfl) ?_
        refine s_sk (d := some 67) rfl rfl (wants_no rfl rfl rfl rfl rfl) ?_
        refine s_skf (d := some 68) rfl rfl (wants_no rfl rfl rfl rfl rfl) trivial ?_ trivial
        refine s_sk (d := some 69) rfl rfl (wants_no rfl rfl rfl rfl rfl) ?_
        refine s_skf (d := some 70) rfl rfl (wants_no rfl rfl rfl rfl rfl) trivial ?_ trivial
        refine s_sk (d := some 71) rfl rfl (wants_no rfl rfl rfl rfl rfl) ?_
        refine s_pu (d := some 72) (v := (.bool false)) rfl rfl rfl (r_pick0 rfl rfl rfl) ?_
        refine s_pu (d := some 2) (v := (.bool false)) rfl rfl rfl (r_assign rfl) ?_
        refine s_fin ?_
        exact N_mk (l := [(2, (.bool false))]) H ⟨rfl, trivial⟩

/-! ### top_TopRanks -/

def top_TopRanks_F (r : World) (l1 : Sl) (h : Heap) (R : Bool → Heap → Prop) : Prop :=
  New h (.cells #[(.pointer none)] 42) fun p2 h1 =>
  New h1 (.cells #[(.int .i64 3), (.int .i64 1), (.int .i64 2)] 3) fun p5 h2 =>
  inv_Count r ((⟨some p5, 3, 3⟩ : Sl)) h2 fun y8 h3 =>
  ∀ X11 : Int → Int → Heap → Prop, (∀ (n9 : Int) (i10 : Int) (h4 : Heap),
    (Br (decide (i10 < ((l1.len : Int)))) (
      LdP h4 (Addr.add p2 0) fun x12 =>
      Ix l1 i10 1 fun q18 =>
      LdI h4 q18 fun x20 =>
      ord_Order_Between r x12 ((-9223372036854775808)) x20 h4 fun y22 h5 =>
      LdP h5 (Addr.add p2 0) fun x23 =>
      Ix l1 i10 1 fun q29 =>
      LdI h5 q29 fun x31 =>
      ord_Order_Insert r x23 x31 h5 fun y33 h6 =>
      St h6 p2 1 [(.pointer y33)] fun h7 =>
      X11 (w64 (n9 + (w64 (i10 - ((y22.len : Int)))))) (w64 (i10 + 1)) h7) (
      ∀ J37 : Bool → Heap → Prop, (∀ (x36 : Bool) (h8 : Heap),
        (R x36 h8) →
        J37 x36 h8) →
      Br (decide (y8 = 2)) (
        inv_Count r l1 h4 fun y40 h9 =>
        Br (decide (n9 = y40)) (
          LdP h9 (Addr.add p2 0) fun x42 =>
          ord_Order_Ints r x42 h9 fun y44 h10 =>
          J37 (decide (((y44.len : Int)) = ((l1.len : Int)))) h10) (
          J37 false h9)) (
        J37 false h4))) →
    X11 n9 i10 h4) →
  X11 0 0 h3

set_option maxRecDepth 100000 in
theorem top_TopRanks_of {r : World} {l1 : Sl} {h : Heap} {R : Bool → Heap → Prop} (H : top_TopRanks_F r l1 h R) : top_TopRanks r l1 h R := by
  unfold top_TopRanks_F at H
  refine calls_of 48 [.tmp 2] Try.func7 rfl rfl rfl rfl rfl ?_
  refine W_seq ?_
  refine W_region (.pu 0 .fin) rfl rfl ?_
  refine s_pu (d := some 2) (v := (.bool false)) rfl rfl rfl (r_assign rfl) ?_
  refine s_fin ?_
  show W _ _ _ _ _ _ _ _
  refine W_seq ?_
  refine W_region (.ef 0 [] .fin .no) rfl rfl ?_
  obtain ⟨p2, e3⟩ : ∃ p : Addr, p = ⟨h.size, 0, none⟩ := ⟨_, rfl⟩
  obtain ⟨h1, e4⟩ : ∃ hh : Heap, hh = h.push (.cells #[(.pointer none)] 42) := ⟨_, rfl⟩
  have H := H p2 h1 e3 e4
  refine s_ef1 (d := some 3) (v := (.pointer (some p2))) (h' := h1) rfl rfl rfl (fun dr => (r_alloc Try.zeroValue42).trans (by rw [e3, e4]; rfl)) trivial ?_ trivial
  refine s_fin ?_
  show W _ _ _ _ _ _ _ _
  refine W_seq ?_
  refine W_region (.pu 0 .fin) rfl rfl ?_
  refine s_pu (d := some 4) (v := (.int .i64 0)) rfl rfl rfl (r_assign rfl) ?_
  refine s_fin ?_
  show W _ _ _ _ _ _ _ _
  refine W_seq ?_
  refine W_region (.ef 0 [] (.ef 1 [] (.pu 2 .fin) .no) .no) rfl rfl ?_
  obtain ⟨p5, e6⟩ : ∃ p : Addr, p = ⟨h1.size, 0, none⟩ := ⟨_, rfl⟩
  obtain ⟨h2, e7⟩ : ∃ hh : Heap, hh = h1.push (.cells #[(.int .i64 3), (.int .i64 1), (.int .i64 2)] 3) := ⟨_, rfl⟩
  have H := H p5 h2 e6 e7
  refine s_ef1 (d := some 7) (v := (Sl.v ((⟨some p5, 3, 3⟩ : Sl)))) (h' := h2) rfl rfl rfl (fun dr => (slFVLaw_22.build (cells := #[(.int .i64 3), (.int .i64 1), (.int .i64 2)]) (by decide) rfl (by kernel_rfl)).trans (by rw [e6, e7]; rfl)) trivial ?_ trivial
  refine s_ef (d := some 8) rfl rfl rfl (fun dr => r_call Try.call9 rfl rfl H) ?_ trivial
  rintro _ h3 ⟨y8, rfl, H⟩
  refine ⟨trivial, ?_⟩
  refine s_pu (d := some 5) (v := (.int .i64 y8)) rfl rfl rfl (r_assign rfl) ?_
  refine s_fin ?_
  show W _ _ _ _ _ _ _ _
  refine W_seq ?_
  refine W_seq ?_
  refine W_region (.pu 0 .fin) rfl rfl ?_
  refine s_pu (d := some 6) (v := (.int .i64 0)) rfl rfl rfl (r_assign rfl) ?_
  refine s_fin ?_
  show W _ _ _ _ _ _ _ _
  refine W_block ?_
  refine W_loop (WL_mk (l := [(0, (Sl.v l1)), (3, (.pointer (some p2))), (4, (.int .i64 0)), (5, (.int .i64 y8)), (6, (.int .i64 0))]) ?_ ⟨rfl, rfl, rfl, rfl, rfl, trivial⟩)
  refine H (fun (n9 : Int) (i10 : Int) (h4 : Heap) => ∀ b, WL _ _ _ _ _ _ (mkE [(0, (Sl.v l1)), (3, (.pointer (some p2))), (4, (.int .i64 n9)), (5, (.int .i64 y8)), (6, (.int .i64 i10))] b) h4) ?_
  intro n9 i10 h4 H b
  refine WL_round ?_
  refine W_seq ?_
  refine W_seq ?_
  refine W_region (.pu 0 (.pu 1 (.pu 2 (.pu 3 .fin)))) rfl rfl ?_
  refine s_pu (d := some 9) (v := (.int .i64 i10)) rfl rfl rfl (r_move rfl) ?_
  refine s_pu (d := some 10) (v := (Sl.v l1)) rfl rfl rfl (r_move rfl) ?_
  refine s_pu (d := some 11) (v := (.int .i64 ((l1.len : Int)))) rfl rfl rfl (r_len Try.underlying22 rfl) ?_
  refine s_pu (d := some 12) (v := (.bool (decide (i10 < ((l1.len : Int)))))) rfl rfl rfl (r_lss rfl rfl) ?_
  refine s_fin ?_
  show W _ _ _ _ _ _ _ _
  refine W_if (decide (i10 < ((l1.len : Int)))) rfl (fun g45 => ?_) (fun g45 => ?_)
  · have H := H.1 g45
    refine W_skip ?_
    show W _ _ _ _ _ _ _ _
    refine W_seq ?_
    refine W_block ?_
    refine W_seq ?_
    refine W_draw [0, 0, 0, 0, 0, 24, 56, 124, 252, 510, 1023, 2047] (.pu 0 (.pu 1 (.rd 2 (.pu 3 (.pu 4 (.pu 5 (.rd 6 (.ef 7 [2, 6] (.pu 8 (.pu 9 (.pu 10 (.pu 11 .fin)))) .no)))))))) (by kernel_rfl) (by kernel_rfl) ?_
    refine s_pu (d := some 15) (v := (.int .i64 n9)) rfl rfl rfl (r_move rfl) ?_
    refine s_pu (d := some 16) (v := (.int .i64 i10)) rfl rfl rfl (r_move rfl) ?_
    obtain ⟨x12, e13, H⟩ := H
    refine s_rd (d := some 17) (v := (.agg #[(.pointer x12)])) rfl rfl rfl (fun dr => r_loadN Try.isAgg42 Try.sizeOf42 (vs := [(.pointer x12)]) rfl rfl ⟨e13, trivial⟩) ?_
    refine s_pu (d := some 18) (v := (Sl.v l1)) rfl rfl rfl (r_move rfl) ?_
    refine s_pu (d := some 19) (v := (.int .i64 i10)) rfl rfl rfl (r_move rfl) ?_
    obtain ⟨p14, e15, e16, e17, H⟩ := H
    obtain ⟨q18, e19⟩ : ∃ q : Addr, q = Addr.add p14 (Int.toNat i10 * 1) := ⟨_, rfl⟩
    rw [← e19] at H
    refine s_pu (d := some 20) (v := (.pointer (some q18))) rfl rfl rfl (fun w => (r_indexAddr Try.underlying22 Try.sizeOf3 rfl rfl e15 e16 e17 w).trans (by rw [e19])) ?_
    obtain ⟨x20, e21, H⟩ := H
    refine s_rd (d := some 21) (v := (.int .i64 x20)) rfl rfl rfl (fun dr => r_load1 Try.isAgg3 rfl e21) ?_
    refine s_ef (d := some 22) rfl rfl rfl (fun dr => r_call Try.call19 rfl rfl H) ?_ trivial
    rintro _ h5 ⟨y22, rfl, H⟩
    refine ⟨⟨trivial, trivial, trivial⟩, ?_⟩
    refine s_pu (d := some 23) (v := (.int .i64 ((y22.len : Int)))) rfl rfl rfl (r_len Try.underlying22 rfl) ?_
    refine s_pu (d := some 24) (v := (.int .i64 (w64 (i10 - ((y22.len : Int)))))) rfl rfl rfl (r_sub rfl rfl) ?_
    refine s_pu (d := some 25) (v := (.int .i64 (w64 (n9 + (w64 (i10 - ((y22.len : Int)))))))) rfl rfl rfl (r_add rfl rfl) ?_
    refine s_pu (d := some 4) (v := (.int .i64 (w64 (n9 + (w64 (i10 - ((y22.len : Int)))))))) rfl rfl rfl (r_assign rfl) ?_
    refine s_fin ?_
    show W _ _ _ _ _ _ _ _
    refine W_draw [0, 0, 0, 6, 14, 31, 63] (.rd 0 (.pu 1 (.pu 2 (.pu 3 (.rd 4 (.ef 5 [0, 4] (.ef 6 [0, 4] .fin .no) .no)))))) (by kernel_rfl) (by kernel_rfl) ?_
    obtain ⟨x23, e24, H⟩ := H
    refine s_rd (d := some 26) (v := (.agg #[(.pointer x23)])) rfl rfl rfl (fun dr => r_loadN Try.isAgg42 Try.sizeOf42 (vs := [(.pointer x23)]) rfl rfl ⟨e24, trivial⟩) ?_
    refine s_pu (d := some 27) (v := (Sl.v l1)) rfl rfl rfl (r_move rfl) ?_
    refine s_pu (d := some 28) (v := (.int .i64 i10)) rfl rfl rfl (r_move rfl) ?_
    obtain ⟨p25, e26, e27, e28, H⟩ := H
    obtain ⟨q29, e30⟩ : ∃ q : Addr, q = Addr.add p25 (Int.toNat i10 * 1) := ⟨_, rfl⟩
    rw [← e30] at H
    refine s_pu (d := some 29) (v := (.pointer (some q29))) rfl rfl rfl (fun w => (r_indexAddr Try.underlying22 Try.sizeOf3 rfl rfl e26 e27 e28 w).trans (by rw [e30])) ?_
    obtain ⟨x31, e32, H⟩ := H
    refine s_rd (d := some 30) (v := (.int .i64 x31)) rfl rfl rfl (fun dr => r_load1 Try.isAgg3 rfl e32) ?_
    refine s_ef (d := some 31) rfl rfl rfl (fun dr => r_call Try.call20 rfl rfl H) ?_ trivial
    rintro _ h6 ⟨y33, rfl, H⟩
    refine ⟨⟨trivial, trivial, trivial⟩, ?_⟩
    obtain ⟨e35, H⟩ := H
    obtain ⟨h7, e34⟩ : ∃ hh : Heap, hh = hsets h6 p2 0 [(.pointer y33)] := ⟨_, rfl⟩
    have H := H h7 e34
    refine s_st (d := none) (h' := h7) rfl rfl rfl (fun dr => (r_store (v := (.agg #[(.pointer y33)])) Try.sizeOf42 rfl rfl rfl (one_all rfl) e35).trans (by rw [e34]; rfl)) ⟨trivial, trivial, trivial⟩ ?_ trivial
    refine s_fin ?_
    show W _ _ _ _ _ _ _ _
    refine W_region (.pu 0 (.pu 1 (.pu 2 .fin))) rfl rfl ?_
    refine s_pu (d := some 13) (v := (.int .i64 i10)) rfl rfl rfl (r_move rfl) ?_
    refine s_pu (d := some 14) (v := (.int .i64 (w64 (i10 + 1)))) rfl rfl rfl (r_add rfl rfl) ?_
    refine s_pu (d := some 6) (v := (.int .i64 (w64 (i10 + 1)))) rfl rfl rfl (r_assign rfl) ?_
    refine s_fin ?_
    exact WL_mk (l := [(0, (Sl.v l1)), (3, (.pointer (some p2))), (4, (.int .i64 (w64 (n9 + (w64 (i10 - ((y22.len : Int)))))))), (5, (.int .i64 y8)), (6, (.int .i64 (w64 (i10 + 1))))]) H ⟨rfl, rfl, rfl, rfl, rfl, trivial⟩
  · have H := H.2 g45
    refine W_exit (inX_here ?_)
    show W _ _ _ _ _ _ _ _
    refine W_seq ?_
    refine W_set ?_
    intro N38 eN38
    have H := H (fun (x36 : Bool) (h8 : Heap) => ∀ b, N38 [] (mkE [(2, (.bool x36))] b) h8) (by
      intro x36 h8 H b
      rw [eN38]
      show W _ _ _ _ _ _ _ _
      refine W_ret ?_
      exact ⟨[(.bool x36)], ⟨_, _, rfl, rfl, rfl⟩, x36, rfl, H⟩)
    clear eN38
    refine W_region (.pu 0 (.pu 1 (.pu 2 (.pu 3 (.pu 4 (.ef 5 [] (.pu 6 (.pu 7 (.pu 8 (.rl 9 (.ef 10 [] (.pu 11 (.pu 12 (.pu 13 (.pu 14 (.pu 15 (.pu 16 .fin)))))) .no))))) .no)))))) rfl rfl ?_
    refine s_pu (d := some 32) (v := (.int .i64 y8)) rfl rfl rfl (r_move rfl) ?_
    refine s_pu (d := some 33) (v := (.bool (decide (y8 = 2)))) rfl rfl rfl (r_eql rfl rfl) ?_
    refine s_pu (d := some 34) (v := (.bool (decide (y8 = 2)))) rfl rfl rfl (r_move rfl) ?_
    rcases Bool.eq_false_or_eq_true (decide (y8 = 2)) with g39 | g39
    · have H := H.1 g39
      refine s_pu (d := some 35) (v := (.int .i64 n9)) rfl rfl (wants_yes rfl rfl rfl rfl g39) (r_move rfl) ?_
      refine s_pu (d := some 36) (v := (Sl.v l1)) rfl rfl (wants_yes rfl rfl rfl rfl g39) (r_move rfl) ?_
      refine s_ef (d := some 37) rfl rfl (wants_yes rfl rfl rfl rfl g39) (fun dr => r_call Try.call9 rfl rfl H) ?_ trivial
      rintro _ h9 ⟨y40, rfl, H⟩
      refine ⟨trivial, ?_⟩
      refine s_pu (d := some 38) (v := (.bool (decide (n9 = y40)))) rfl rfl (wants_yes rfl rfl rfl rfl g39) (r_eql rfl rfl) ?_
      refine s_pu (d := some 39) (v := (.bool (decide (n9 = y40)))) rfl rfl rfl (r_pick1 rfl g39 rfl) ?_
      refine s_pu (d := some 40) (v := (.bool (decide (n9 = y40)))) rfl rfl rfl (r_move rfl) ?_
      rcases Bool.eq_false_or_eq_true (decide (n9 = y40)) with g41 | g41
      · have H := H.1 g41
        obtain ⟨x42, e43, H⟩ := H
        refine s_rl (d := some 41) (v := (.agg #[(.pointer x42)])) rfl rfl (wants_yes rfl rfl rfl rfl g41) (fun dr => r_loadN Try.isAgg42 Try.sizeOf42 (vs := [(.pointer x42)]) rfl rfl ⟨e43, trivial⟩) ?_
        refine s_ef (d := some 42) rfl rfl (wants_yes rfl rfl rfl rfl g41) (fun dr => r_call Try.call21 rfl rfl H) ?_ trivial
        rintro _ h10 ⟨y44, rfl, H⟩
        refine ⟨trivial, ?_⟩
        refine s_pu (d := some 43) (v := (.int .i64 ((y44.len : Int)))) rfl rfl (wants_yes rfl rfl rfl rfl g41) (r_len Try.underlying22 rfl) ?_
        refine s_pu (d := some 44) (v := (Sl.v l1)) rfl rfl (wants_yes rfl rfl rfl rfl g41) (r_move rfl) ?_
        refine s_pu (d := some 45) (v := (.int .i64 ((l1.len : Int)))) rfl rfl (wants_yes rfl rfl rfl rfl g41) (r_len Try.underlying22 rfl) ?_
        refine s_pu (d := some 46) (v := (.bool (decide (((y44.len : Int)) = ((l1.len : Int)))))) rfl rfl (wants_yes rfl rfl rfl rfl g41) (r_eql rfl rfl) ?_
        refine s_pu (d := some 47) (v := (.bool (decide (((y44.len : Int)) = ((l1.len : Int)))))) rfl rfl rfl (r_pick1 rfl g41 rfl) ?_
        refine s_pu (d := some 2) (v := (.bool (decide (((y44.len : Int)) = ((l1.len : Int)))))) rfl rfl rfl (r_assign rfl) ?_
        refine s_fin ?_
        exact N_mk (l := [(2, (.bool (decide (((y44.len : Int)) = ((l1.len : Int))))))]) H ⟨rfl, trivial⟩
      · have H := H.2 g41
        refine s_skl (d := some 41) rfl rfl (wants_no rfl rfl rfl rfl g41) ?_
        refine s_skf (d := some 42) rfl rfl (wants_no rfl rfl rfl rfl g41) trivial ?_ trivial
        refine s_sk (d := some 43) rfl rfl (wants_no rfl rfl rfl rfl g41) ?_
        refine s_sk (d := some 44) rfl rfl (wants_no rfl rfl rfl rfl g41) ?_
        refine s_sk (d := some 45) rfl rfl (wants_no rfl rfl rfl rfl g41) ?_
        refine s_sk (d := some 46) rfl rfl (wants_no rfl rfl rfl rfl g41) ?_
        refine s_pu (d := some 47) (v := (.bool false)) rfl rfl rfl (r_pick0 rfl g41 rfl) ?_
        refine s_pu (d := some 2) (v := (.bool false)) rfl rfl rfl (r_assign rfl) ?_
        refine s_fin ?_
        exact N_mk (l := [(2, (.bool false))]) H ⟨rfl, trivial⟩
    · have H := H.2 g39
      refine s_sk (d := some 35) rfl rfl (wants_no rfl rfl rfl rfl g39) ?_
      refine s_sk (d := some 36) rfl rfl (wants_no rfl rfl rfl rfl g39) ?_
      refine s_skf (d := some 37) rfl rfl (wants_no rfl rfl rfl rfl g39) trivial ?_ trivial
      refine s_sk (d := some 38) rfl rfl (wants_no rfl rfl rfl rfl g39) ?_
      refine s_pu (d := some 39) (v := (.bool false)) rfl rfl rfl (r_pick0 rfl g39 rfl) ?_
      refine s_pu (d := some 40) (v := (.bool false)) rfl rfl rfl (r_move rfl) ?_
      refine s_skl (d := some 41) rfl rfl (wants_no rfl rfl rfl rfl rfl) ?_
      refine s_skf (d := some 42) rfl rfl (wants_no rfl rfl rfl rfl rfl) trivial ?_ trivial
      refine s_sk (d := some 43) rfl rfl (wants_no rfl rfl rfl rfl rfl) ?_
      refine s_sk (d := some 44) rfl rfl (wants_no rfl rfl rfl rfl rfl) ?_
      refine s_sk (d := some 45) rfl rfl (wants_no rfl rfl rfl rfl rfl) ?_
      refine s_sk (d := some 46) rfl rfl (wants_no rfl rfl rfl rfl rfl) ?_
      refine s_pu (d := some 47) (v := (.bool false)) rfl rfl rfl (r_pick0 rfl rfl rfl) ?_
      refine s_pu (d := some 2) (v := (.bool false)) rfl rfl rfl (r_assign rfl) ?_
      refine s_fin ?_
      exact N_mk (l := [(2, (.bool false))]) H ⟨rfl, trivial⟩

end Go.Proofs.Ytcafckgflpmfgaa
