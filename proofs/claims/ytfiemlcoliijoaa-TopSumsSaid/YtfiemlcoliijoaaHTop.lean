/- Typed words of functions, and that they hold: printed by gen.py (an own tool of this claim) off the model's own form of each function. -/
import Derived.Test.YtfiemlcoliijoaaProg
import Derived.Test.YtfiemlcoliijoaaHTab
import Derived.Test.YtfiemlcoliijoaaHSeg
import Derived.Test.YtfiemlcoliijoaaHFen
import Derived.Test.YtfiemlcoliijoaaHScan
import Derived.Test.YtfiemlcoliijoaaHTree
import Derived.Test.YtfiemlcoliijoaaEqM
namespace Go.Proofs.Ytfiemlcoliijoaa
open Go Go.RowKit Go.Tw
set_option linter.unusedVariables false

theorem slFHTop_22 : SlF Try.prog 22 3 1 8 (.int .i64 0) := ⟨Try.underlying22, ⟨Try.t3, by kernel_rfl, rfl, rfl, rfl⟩, rfl, Try.sizeOf3, Try.zeroValue3⟩

/-! ### the calls -/

abbrev top_TopSums (r : World) (l1 : Sl) (i2 : Int) (j3 : Int) (h : Heap) (R : Bool → Heap → Prop) : Prop :=
  CallsH Try.prog r 3 [(Sl.v l1), (.int .i64 i2), (.int .i64 j3)] h fun v h' => ∃ (y4 : Bool), v = (.bool y4) ∧ R y4 h'

theorem top_TopSums.mono {r : World} {l1 : Sl} {i2 : Int} {j3 : Int} {h : Heap} {R R' : Bool → Heap → Prop} (H : top_TopSums r l1 i2 j3 h R) (hr : ∀ y4 h, R y4 h → R' y4 h) : top_TopSums r l1 i2 j3 h R' :=
  CallsH.mono H fun _ _ hx => by
    obtain ⟨y4, hv, hR⟩ := hx
    exact ⟨y4, hv, hr _ _ hR⟩

/-! ### top_TopSums -/

def top_TopSums_F (r : World) (l1 : Sl) (i2 : Int) (j3 : Int) (h : Heap) (R : Bool → Heap → Prop) : Prop :=
  seg_New r l1 h fun y4 y5 h1 =>
  fen_New r ((l1.len : Int)) h1 fun y6 y7 h2 =>
  table_New r l1 h2 fun y8 y9 h3 =>
  New h3 (.cells #[(.int .i64 5), (.int .i64 3)] 3) fun p10 h4 =>
  scan_Fold r 1 ((⟨some p10, 2, 2⟩ : Sl)) h4 fun y13 y14 h5 =>
  (isIface y14 = true) ∧
  Br ((!(isNil y14)) || (!decide (y13 = 8))) (
    R false h5) (
    (isIface y5 = true) ∧
    (isIface y7 = true) ∧
    (isIface y9 = true) ∧
    Br ((((((((((!(isNil y5)) || (!(isNil y7))) || (!(isNil y9))) || (Option.isNone y4)) || (Option.isNone y6)) || (Option.isNone y8)) || (decide (200 < ((l1.len : Int))))) || (decide (i2 < 0))) || (decide (j3 ≤ i2))) || (decide (((l1.len : Int)) < j3))) (
      ∀ J51 : Bool → Prop, (∀ (x50 : Bool),
        (R x50 h5) →
        J51 x50) →
      Br (decide (5000 < ((l1.len : Int)))) (
        J51 true) (
        Br (!(Option.isNone y4)) (
          Br (!(Option.isNone y6)) (
            J51 (!(Option.isNone y8))) (
            J51 false)) (
          J51 false))) (
      ∀ X58 : Int → Heap → Prop, (∀ (k57 : Int) (h6 : Heap),
        (Br (decide (k57 < ((l1.len : Int)))) (
          ∀ J60 : Bool → Prop, (∀ (x59 : Bool),
            (Br x59 (
              R true h6) (
              Ix l1 k57 1 fun q66 =>
              LdI h6 q66 fun x68 =>
              fen_Fen_Add r y6 k57 x68 h6 fun y70 h7 =>
              (isIface y70 = true) ∧
              Br (!(isNil y70)) (
                R false h7) (
                X58 (w64 (k57 + 1)) h7))) →
            J60 x59) →
          Ix l1 k57 1 fun q78 =>
          LdI h6 q78 fun x80 =>
          Br (decide (x80 < 0)) (
            J60 true) (
            Ix l1 k57 1 fun q87 =>
            LdI h6 q87 fun x89 =>
            J60 (decide (1073741824 < x89)))) (
          seg_Seg_Sum r y4 i2 j3 h6 fun y91 y92 h8 =>
          fen_Fen_Sum r y6 j3 h8 fun y93 y94 h9 =>
          fen_Fen_Sum r y6 i2 h9 fun y95 y96 h10 =>
          Sub l1 i2 j3 ((l1.cap : Int)) 1 fun s97 =>
          scan_Fold r 1 s97 h10 fun y103 y104 h11 =>
          seq_Of r l1 h11 fun y105 h12 =>
          seq_Seq_Measure r y105 i2 j3 h12 fun y106 y107 y108 y109 y110 y111 h13 =>
          New h13 (.cells #[(.int .i64 0), (.int .i64 0), (.int .i64 0), (.int .i64 0), (.int .i64 0)] 40) fun p112 h14 =>
          St h14 p112 5 [(.int .i64 y106), (.int .i64 y107), (.int .i64 y108), (.int .i64 y109), (.int .i64 y110)] fun h15 =>
          table_Table_Least r y8 i2 j3 h15 fun y117 y118 h16 =>
          seg_Seg_Least r y4 i2 j3 h16 fun y119 y120 h17 =>
          (isIface y92 = true) ∧
          (isIface y94 = true) ∧
          (isIface y96 = true) ∧
          (isIface y104 = true) ∧
          (isIface y118 = true) ∧
          (isIface y120 = true) ∧
          Br (((((((((!(isNil y92)) || (!(isNil y94))) || (!(isNil y96))) || (!(isNil y104))) || (!(isNil y118))) || (!(isNil y120))) || (!y111)) || (decide (y117 < i2))) || (decide (j3 ≤ y117))) (
            R false h17) (
            ∀ J152 : Bool → Heap → Prop, (∀ (x151 : Bool) (h18 : Heap),
              (R x151 h18) →
              J152 x151 h18) →
            Br (decide (y91 = (w64 (y93 - y95)))) (
              Br (decide (y91 = y103)) (
                LdI h17 (Addr.add p112 1) fun x156 =>
                Br (decide (y91 = x156)) (
                  LdI h17 (Addr.add p112 2) fun x159 =>
                  Br (decide (x159 = y119)) (
                    Ix l1 y117 1 fun q166 =>
                    LdI h17 q166 fun x168 =>
                    Br (decide (x168 = y119)) (
                      LdI h17 (Addr.add p112 0) fun x171 =>
                      LdI h17 (Addr.add p112 1) fun x173 =>
                      LdI h17 (Addr.add p112 2) fun x175 =>
                      LdI h17 (Addr.add p112 3) fun x177 =>
                      LdI h17 (Addr.add p112 4) fun x179 =>
                      Sub l1 i2 j3 ((l1.cap : Int)) 1 fun s181 =>
                      mono_Of r s181 h17 fun y187 y188 y189 y190 y191 h19 =>
                      (hcell h19 (Addr.add p112 0) = some (.int .i64 x171)) ∧
                      (hcell h19 (Addr.add p112 1) = some (.int .i64 x173)) ∧
                      (hcell h19 (Addr.add p112 2) = some (.int .i64 x175)) ∧
                      (hcell h19 (Addr.add p112 3) = some (.int .i64 x177)) ∧
                      (hcell h19 (Addr.add p112 4) = some (.int .i64 x179)) ∧
                      ∀ x197 : Bool, x197 = (decide (x171 = y187 ∧ x173 = y188 ∧ x175 = y189 ∧ x177 = y190 ∧ x179 = y191)) →
                      J152 x197 h19) (
                      J152 false h17)) (
                    J152 false h17)) (
                  J152 false h17)) (
                J152 false h17)) (
              J152 false h17)))) →
        X58 k57 h6) →
      X58 0 h5))

set_option maxRecDepth 100000 in
theorem top_TopSums_of {r : World} {l1 : Sl} {i2 : Int} {j3 : Int} {h : Heap} {R : Bool → Heap → Prop} (H : top_TopSums_F r l1 i2 j3 h R) : top_TopSums r l1 i2 j3 h R := by
  unfold top_TopSums_F at H
  refine calls_of 264 [.tmp 6] Try.func3 rfl rfl rfl rfl rfl ?_
  refine W_seq ?_
  refine W_region (.pu 0 .fin) rfl rfl ?_
  refine s_pu (d := some 6) (v := (.bool false)) rfl rfl rfl (r_assign rfl) ?_
  refine s_fin ?_
  show W _ _ _ _ _ _ _ _
  refine W_seq ?_
  refine W_region (.pu 0 (.ef 1 [] (.pu 2 (.pu 3 (.pu 4 (.pu 5 (.pu 6 .fin))))) .no)) rfl rfl ?_
  refine s_pu (d := some 31) (v := (Sl.v l1)) rfl rfl rfl (r_move rfl) ?_
  refine s_ef (d := some 32) rfl rfl rfl (fun dr => r_call Try.call4 rfl rfl H) ?_ trivial
  rintro _ h1 ⟨y4, y5, rfl, H⟩
  refine ⟨trivial, ?_⟩
  refine s_pu (d := some 30) (v := (.tuple #[(.pointer y4), y5])) rfl rfl rfl (r_move rfl) ?_
  refine s_pu (d := some 33) (v := (.pointer y4)) rfl rfl rfl (r_extract rfl rfl) ?_
  refine s_pu (d := some 34) (v := y5) rfl rfl rfl (r_extract rfl rfl) ?_
  refine s_pu (d := some 7) (v := (.pointer y4)) rfl rfl rfl (r_assign rfl) ?_
  refine s_pu (d := some 8) (v := y5) rfl rfl rfl (r_assign rfl) ?_
  refine s_fin ?_
  show W _ _ _ _ _ _ _ _
  refine W_seq ?_
  refine W_region (.pu 0 (.pu 1 (.ef 2 [] (.pu 3 (.pu 4 (.pu 5 (.pu 6 (.pu 7 .fin))))) .no))) rfl rfl ?_
  refine s_pu (d := some 36) (v := (Sl.v l1)) rfl rfl rfl (r_move rfl) ?_
  refine s_pu (d := some 37) (v := (.int .i64 ((l1.len : Int)))) rfl rfl rfl (r_len Try.underlying22 rfl) ?_
  refine s_ef (d := some 38) rfl rfl rfl (fun dr => r_call Try.call5 rfl rfl H) ?_ trivial
  rintro _ h2 ⟨y6, y7, rfl, H⟩
  refine ⟨trivial, ?_⟩
  refine s_pu (d := some 35) (v := (.tuple #[(.pointer y6), y7])) rfl rfl rfl (r_move rfl) ?_
  refine s_pu (d := some 39) (v := (.pointer y6)) rfl rfl rfl (r_extract rfl rfl) ?_
  refine s_pu (d := some 40) (v := y7) rfl rfl rfl (r_extract rfl rfl) ?_
  refine s_pu (d := some 9) (v := (.pointer y6)) rfl rfl rfl (r_assign rfl) ?_
  refine s_pu (d := some 10) (v := y7) rfl rfl rfl (r_assign rfl) ?_
  refine s_fin ?_
  show W _ _ _ _ _ _ _ _
  refine W_seq ?_
  refine W_region (.pu 0 (.ef 1 [] (.pu 2 (.pu 3 (.pu 4 (.pu 5 (.pu 6 .fin))))) .no)) rfl rfl ?_
  refine s_pu (d := some 42) (v := (Sl.v l1)) rfl rfl rfl (r_move rfl) ?_
  refine s_ef (d := some 43) rfl rfl rfl (fun dr => r_call Try.call6 rfl rfl H) ?_ trivial
  rintro _ h3 ⟨y8, y9, rfl, H⟩
  refine ⟨trivial, ?_⟩
  refine s_pu (d := some 41) (v := (.tuple #[(.pointer y8), y9])) rfl rfl rfl (r_move rfl) ?_
  refine s_pu (d := some 44) (v := (.pointer y8)) rfl rfl rfl (r_extract rfl rfl) ?_
  refine s_pu (d := some 45) (v := y9) rfl rfl rfl (r_extract rfl rfl) ?_
  refine s_pu (d := some 11) (v := (.pointer y8)) rfl rfl rfl (r_assign rfl) ?_
  refine s_pu (d := some 12) (v := y9) rfl rfl rfl (r_assign rfl) ?_
  refine s_fin ?_
  show W _ _ _ _ _ _ _ _
  refine W_seq ?_
  refine W_region (.ef 0 [] (.ef 1 [] (.pu 2 (.pu 3 (.pu 4 (.pu 5 (.pu 6 .fin))))) .no) .no) rfl rfl ?_
  obtain ⟨p10, e11⟩ : ∃ p : Addr, p = ⟨h3.size, 0, none⟩ := ⟨_, rfl⟩
  obtain ⟨h4, e12⟩ : ∃ hh : Heap, hh = h3.push (.cells #[(.int .i64 5), (.int .i64 3)] 3) := ⟨_, rfl⟩
  have H := H p10 h4 e11 e12
  refine s_ef1 (d := some 47) (v := (Sl.v ((⟨some p10, 2, 2⟩ : Sl)))) (h' := h4) rfl rfl rfl (fun dr => (slFHTop_22.build (cells := #[(.int .i64 5), (.int .i64 3)]) (by decide) rfl (by kernel_rfl)).trans (by rw [e11, e12]; rfl)) trivial ?_ trivial
  refine s_ef (d := some 48) rfl rfl rfl (fun dr => r_call Try.call7 rfl rfl H) ?_ trivial
  rintro _ h5 ⟨y13, y14, rfl, H⟩
  refine ⟨trivial, ?_⟩
  refine s_pu (d := some 46) (v := (.tuple #[(.int .i64 y13), y14])) rfl rfl rfl (r_move rfl) ?_
  refine s_pu (d := some 49) (v := (.int .i64 y13)) rfl rfl rfl (r_extract rfl rfl) ?_
  refine s_pu (d := some 50) (v := y14) rfl rfl rfl (r_extract rfl rfl) ?_
  refine s_pu (d := some 13) (v := (.int .i64 y13)) rfl rfl rfl (r_assign rfl) ?_
  refine s_pu (d := some 14) (v := y14) rfl rfl rfl (r_assign rfl) ?_
  refine s_fin ?_
  show W _ _ _ _ _ _ _ _
  refine W_seq ?_
  refine W_seq ?_
  refine W_region (.pu 0 (.pu 1 (.pu 2 (.pu 3 (.pu 4 (.pu 5 .fin)))))) rfl rfl ?_
  refine s_pu (d := some 51) (v := y14) rfl rfl rfl (r_move rfl) ?_
  obtain ⟨e15, H⟩ := H
  refine s_pu (d := some 52) (v := (.bool (!(isNil y14)))) rfl rfl rfl (r_notNilI Try.underlying25 rfl e15 rfl) ?_
  refine s_pu (d := some 53) (v := (.bool (!(isNil y14)))) rfl rfl rfl (r_move rfl) ?_
  refine S_meet (l := [(0, (Sl.v l1)), (1, (.int .i64 i2)), (2, (.int .i64 j3)), (7, (.pointer y4)), (8, y5), (9, (.pointer y6)), (10, y7), (11, (.pointer y8)), (12, y9), (56, (.bool ((!(isNil y14)) || (!decide (y13 = 8)))))]) (i := 3) ?_ (fun HJ => ?_)
  · intro b
    show S _ _ _ _ _ _
    refine s_fin ?_
    show W _ _ _ _ _ _ _ _
    refine W_if ((!(isNil y14)) || (!decide (y13 = 8))) rfl (fun g219 => ?_) (fun g219 => ?_)
    · have H := H.1 g219
      refine W_seq ?_
      refine W_region (.pu 0 .fin) rfl rfl ?_
      refine s_pu (d := some 6) (v := (.bool false)) rfl rfl rfl (r_assign rfl) ?_
      refine s_fin ?_
      show W _ _ _ _ _ _ _ _
      refine W_ret ?_
      exact ⟨[(.bool false)], ⟨_, _, rfl, rfl, rfl⟩, false, rfl, H⟩
    · have H := H.2 g219
      refine W_skip ?_
      show W _ _ _ _ _ _ _ _
      refine W_seq ?_
      refine W_seq ?_
      refine W_region (.pu 0 (.pu 1 (.pu 2 (.pu 3 (.pu 4 (.pu 5 (.pu 6 (.pu 7 (.pu 8 (.pu 9 (.pu 10 (.pu 11 (.pu 12 (.pu 13 (.pu 14 (.pu 15 (.pu 16 (.pu 17 (.pu 18 (.pu 19 (.pu 20 (.pu 21 (.pu 22 (.pu 23 (.pu 24 (.pu 25 (.pu 26 (.pu 27 (.pu 28 (.pu 29 (.pu 30 (.pu 31 (.pu 32 (.pu 33 (.pu 34 (.pu 35 (.pu 36 (.pu 37 (.pu 38 (.pu 39 (.pu 40 (.pu 41 .fin)))))))))))))))))))))))))))))))))))))))))) rfl rfl ?_
      refine s_pu (d := some 57) (v := y5) rfl rfl rfl (r_move rfl) ?_
      obtain ⟨e19, H⟩ := H
      refine s_pu (d := some 58) (v := (.bool (!(isNil y5)))) rfl rfl rfl (r_notNilI Try.underlying25 rfl e19 rfl) ?_
      refine s_pu (d := some 59) (v := (.bool (!(isNil y5)))) rfl rfl rfl (r_move rfl) ?_
      obtain ⟨e21, H⟩ := H
      refine S_meet (l := [(0, (Sl.v l1)), (1, (.int .i64 i2)), (2, (.int .i64 j3)), (7, (.pointer y4)), (9, (.pointer y6)), (11, (.pointer y8)), (12, y9), (62, (.bool ((!(isNil y5)) || (!(isNil y7)))))]) (i := 3) ?_ (fun HJ => ?_)
      · intro b
        show S _ _ _ _ _ _
        refine s_pu (d := some 63) (v := (.bool ((!(isNil y5)) || (!(isNil y7))))) rfl rfl rfl (r_move rfl) ?_
        obtain ⟨e25, H⟩ := H
        refine S_meet (l := [(0, (Sl.v l1)), (1, (.int .i64 i2)), (2, (.int .i64 j3)), (7, (.pointer y4)), (9, (.pointer y6)), (11, (.pointer y8)), (66, (.bool (((!(isNil y5)) || (!(isNil y7))) || (!(isNil y9)))))]) (i := 3) ?_ (fun HJ => ?_)
        · intro b
          show S _ _ _ _ _ _
          refine s_pu (d := some 67) (v := (.bool (((!(isNil y5)) || (!(isNil y7))) || (!(isNil y9))))) rfl rfl rfl (r_move rfl) ?_
          refine S_meet (l := [(0, (Sl.v l1)), (1, (.int .i64 i2)), (2, (.int .i64 j3)), (7, (.pointer y4)), (9, (.pointer y6)), (11, (.pointer y8)), (70, (.bool ((((!(isNil y5)) || (!(isNil y7))) || (!(isNil y9))) || (Option.isNone y4))))]) (i := 3) ?_ (fun HJ => ?_)
          · intro b
            show S _ _ _ _ _ _
            refine s_pu (d := some 71) (v := (.bool ((((!(isNil y5)) || (!(isNil y7))) || (!(isNil y9))) || (Option.isNone y4)))) rfl rfl rfl (r_move rfl) ?_
            refine S_meet (l := [(0, (Sl.v l1)), (1, (.int .i64 i2)), (2, (.int .i64 j3)), (7, (.pointer y4)), (9, (.pointer y6)), (11, (.pointer y8)), (74, (.bool (((((!(isNil y5)) || (!(isNil y7))) || (!(isNil y9))) || (Option.isNone y4)) || (Option.isNone y6))))]) (i := 3) ?_ (fun HJ => ?_)
            · intro b
              show S _ _ _ _ _ _
              refine s_pu (d := some 75) (v := (.bool (((((!(isNil y5)) || (!(isNil y7))) || (!(isNil y9))) || (Option.isNone y4)) || (Option.isNone y6)))) rfl rfl rfl (r_move rfl) ?_
              refine S_meet (l := [(0, (Sl.v l1)), (1, (.int .i64 i2)), (2, (.int .i64 j3)), (7, (.pointer y4)), (9, (.pointer y6)), (11, (.pointer y8)), (78, (.bool ((((((!(isNil y5)) || (!(isNil y7))) || (!(isNil y9))) || (Option.isNone y4)) || (Option.isNone y6)) || (Option.isNone y8))))]) (i := 3) ?_ (fun HJ => ?_)
              · intro b
                show S _ _ _ _ _ _
                refine s_pu (d := some 79) (v := (.bool ((((((!(isNil y5)) || (!(isNil y7))) || (!(isNil y9))) || (Option.isNone y4)) || (Option.isNone y6)) || (Option.isNone y8)))) rfl rfl rfl (r_move rfl) ?_
                refine S_meet (l := [(0, (Sl.v l1)), (1, (.int .i64 i2)), (2, (.int .i64 j3)), (7, (.pointer y4)), (9, (.pointer y6)), (11, (.pointer y8)), (83, (.bool (((((((!(isNil y5)) || (!(isNil y7))) || (!(isNil y9))) || (Option.isNone y4)) || (Option.isNone y6)) || (Option.isNone y8)) || (decide (200 < ((l1.len : Int)))))))]) (i := 4) ?_ (fun HJ => ?_)
                · intro b
                  show S _ _ _ _ _ _
                  refine s_pu (d := some 84) (v := (.bool (((((((!(isNil y5)) || (!(isNil y7))) || (!(isNil y9))) || (Option.isNone y4)) || (Option.isNone y6)) || (Option.isNone y8)) || (decide (200 < ((l1.len : Int))))))) rfl rfl rfl (r_move rfl) ?_
                  refine S_meet (l := [(0, (Sl.v l1)), (1, (.int .i64 i2)), (2, (.int .i64 j3)), (7, (.pointer y4)), (9, (.pointer y6)), (11, (.pointer y8)), (87, (.bool ((((((((!(isNil y5)) || (!(isNil y7))) || (!(isNil y9))) || (Option.isNone y4)) || (Option.isNone y6)) || (Option.isNone y8)) || (decide (200 < ((l1.len : Int))))) || (decide (i2 < 0)))))]) (i := 3) ?_ (fun HJ => ?_)
                  · intro b
                    show S _ _ _ _ _ _
                    refine s_pu (d := some 88) (v := (.bool ((((((((!(isNil y5)) || (!(isNil y7))) || (!(isNil y9))) || (Option.isNone y4)) || (Option.isNone y6)) || (Option.isNone y8)) || (decide (200 < ((l1.len : Int))))) || (decide (i2 < 0))))) rfl rfl rfl (r_move rfl) ?_
                    refine S_meet (l := [(0, (Sl.v l1)), (1, (.int .i64 i2)), (2, (.int .i64 j3)), (7, (.pointer y4)), (9, (.pointer y6)), (11, (.pointer y8)), (92, (.bool (((((((((!(isNil y5)) || (!(isNil y7))) || (!(isNil y9))) || (Option.isNone y4)) || (Option.isNone y6)) || (Option.isNone y8)) || (decide (200 < ((l1.len : Int))))) || (decide (i2 < 0))) || (decide (j3 ≤ i2)))))]) (i := 4) ?_ (fun HJ => ?_)
                    · intro b
                      show S _ _ _ _ _ _
                      refine s_pu (d := some 93) (v := (.bool (((((((((!(isNil y5)) || (!(isNil y7))) || (!(isNil y9))) || (Option.isNone y4)) || (Option.isNone y6)) || (Option.isNone y8)) || (decide (200 < ((l1.len : Int))))) || (decide (i2 < 0))) || (decide (j3 ≤ i2))))) rfl rfl rfl (r_move rfl) ?_
                      refine S_meet (l := [(0, (Sl.v l1)), (1, (.int .i64 i2)), (2, (.int .i64 j3)), (7, (.pointer y4)), (9, (.pointer y6)), (11, (.pointer y8)), (98, (.bool ((((((((((!(isNil y5)) || (!(isNil y7))) || (!(isNil y9))) || (Option.isNone y4)) || (Option.isNone y6)) || (Option.isNone y8)) || (decide (200 < ((l1.len : Int))))) || (decide (i2 < 0))) || (decide (j3 ≤ i2))) || (decide (((l1.len : Int)) < j3)))))]) (i := 5) ?_ (fun HJ => ?_)
                      · intro b
                        show S _ _ _ _ _ _
                        refine s_fin ?_
                        show W _ _ _ _ _ _ _ _
                        refine W_if ((((((((((!(isNil y5)) || (!(isNil y7))) || (!(isNil y9))) || (Option.isNone y4)) || (Option.isNone y6)) || (Option.isNone y8)) || (decide (200 < ((l1.len : Int))))) || (decide (i2 < 0))) || (decide (j3 ≤ i2))) || (decide (((l1.len : Int)) < j3))) rfl (fun g209 => ?_) (fun g209 => ?_)
                        · have H := H.1 g209
                          refine W_seq ?_
                          refine W_set ?_
                          intro N52 eN52
                          have H := H (fun (x50 : Bool) => ∀ b, N52 [] (mkE [(6, (.bool x50))] b) h5) (by
                            intro x50 H b
                            rw [eN52]
                            show W _ _ _ _ _ _ _ _
                            refine W_ret ?_
                            exact ⟨[(.bool x50)], ⟨_, _, rfl, rfl, rfl⟩, x50, rfl, H⟩)
                          clear eN52
                          refine W_region (.pu 0 (.pu 1 (.pu 2 (.pu 3 (.pu 4 (.pu 5 (.pu 6 (.pu 7 (.pu 8 (.pu 9 (.pu 10 (.pu 11 (.pu 12 (.pu 13 (.pu 14 (.pu 15 .fin)))))))))))))))) rfl rfl ?_
                          refine s_pu (d := some 99) (v := (Sl.v l1)) rfl rfl rfl (r_move rfl) ?_
                          refine s_pu (d := some 100) (v := (.int .i64 ((l1.len : Int)))) rfl rfl rfl (r_len Try.underlying22 rfl) ?_
                          refine s_pu (d := some 101) (v := (.bool (decide (5000 < ((l1.len : Int)))))) rfl rfl rfl (r_gtr rfl rfl) ?_
                          refine s_pu (d := some 102) (v := (.bool (decide (5000 < ((l1.len : Int)))))) rfl rfl rfl (r_move rfl) ?_
                          rcases Bool.eq_false_or_eq_true (decide (5000 < ((l1.len : Int)))) with g54 | g54
                          · have H := H.1 g54
                            refine s_sk (d := some 103) rfl rfl (wants_no rfl rfl rfl rfl g54) ?_
                            refine s_sk (d := some 104) rfl rfl (wants_no rfl rfl rfl rfl g54) ?_
                            refine s_sk (d := some 105) rfl rfl (wants_no rfl rfl rfl rfl g54) ?_
                            refine s_sk (d := some 106) rfl rfl (wants_un rfl rfl rfl) ?_
                            refine s_sk (d := some 107) rfl rfl (wants_un rfl rfl rfl) ?_
                            refine s_sk (d := some 108) rfl rfl (wants_no rfl rfl rfl rfl g54) ?_
                            refine s_sk (d := some 109) rfl rfl (wants_no rfl rfl rfl rfl g54) ?_
                            refine s_sk (d := some 110) rfl rfl (wants_un rfl rfl rfl) ?_
                            refine s_sk (d := some 111) rfl rfl (wants_un rfl rfl rfl) ?_
                            refine s_sk (d := some 112) rfl rfl (wants_no rfl rfl rfl rfl g54) ?_
                            refine s_pu (d := some 113) (v := (.bool true)) rfl rfl rfl (r_pick1 rfl g54 rfl) ?_
                            refine s_pu (d := some 6) (v := (.bool true)) rfl rfl rfl (r_assign rfl) ?_
                            refine s_fin ?_
                            exact N_mk (l := [(6, (.bool true))]) H ⟨rfl, trivial⟩
                          · have H := H.2 g54
                            refine s_pu (d := some 103) (v := (.pointer y4)) rfl rfl (wants_yes rfl rfl rfl rfl g54) (r_move rfl) ?_
                            refine s_pu (d := some 104) (v := (.bool (!(Option.isNone y4)))) rfl rfl (wants_yes rfl rfl rfl rfl g54) (r_notNilP Try.underlying23 rfl rfl) ?_
                            refine s_pu (d := some 105) (v := (.bool (!(Option.isNone y4)))) rfl rfl (wants_yes rfl rfl rfl rfl g54) (r_move rfl) ?_
                            rcases Bool.eq_false_or_eq_true (!(Option.isNone y4)) with g55 | g55
                            · have H := H.1 g55
                              refine s_pu (d := some 106) (v := (.pointer y6)) rfl rfl (wants_yes rfl rfl rfl rfl g55) (r_move rfl) ?_
                              refine s_pu (d := some 107) (v := (.bool (!(Option.isNone y6)))) rfl rfl (wants_yes rfl rfl rfl rfl g55) (r_notNilP Try.underlying28 rfl rfl) ?_
                              refine s_pu (d := some 108) (v := (.bool (!(Option.isNone y6)))) rfl rfl (wants_yes rfl rfl rfl rfl g54) (r_pick1 rfl g55 rfl) ?_
                              refine s_pu (d := some 109) (v := (.bool (!(Option.isNone y6)))) rfl rfl (wants_yes rfl rfl rfl rfl g54) (r_move rfl) ?_
                              rcases Bool.eq_false_or_eq_true (!(Option.isNone y6)) with g56 | g56
                              · have H := H.1 g56
                                refine s_pu (d := some 110) (v := (.pointer y8)) rfl rfl (wants_yes rfl rfl rfl rfl g56) (r_move rfl) ?_
                                refine s_pu (d := some 111) (v := (.bool (!(Option.isNone y8)))) rfl rfl (wants_yes rfl rfl rfl rfl g56) (r_notNilP Try.underlying31 rfl rfl) ?_
                                refine s_pu (d := some 112) (v := (.bool (!(Option.isNone y8)))) rfl rfl (wants_yes rfl rfl rfl rfl g54) (r_pick1 rfl g56 rfl) ?_
                                refine s_pu (d := some 113) (v := (.bool (!(Option.isNone y8)))) rfl rfl rfl (r_pick0 rfl g54 rfl) ?_
                                refine s_pu (d := some 6) (v := (.bool (!(Option.isNone y8)))) rfl rfl rfl (r_assign rfl) ?_
                                refine s_fin ?_
                                exact N_mk (l := [(6, (.bool (!(Option.isNone y8))))]) H ⟨rfl, trivial⟩
                              · have H := H.2 g56
                                refine s_sk (d := some 110) rfl rfl (wants_no rfl rfl rfl rfl g56) ?_
                                refine s_sk (d := some 111) rfl rfl (wants_no rfl rfl rfl rfl g56) ?_
                                refine s_pu (d := some 112) (v := (.bool false)) rfl rfl (wants_yes rfl rfl rfl rfl g54) (r_pick0 rfl g56 rfl) ?_
                                refine s_pu (d := some 113) (v := (.bool false)) rfl rfl rfl (r_pick0 rfl g54 rfl) ?_
                                refine s_pu (d := some 6) (v := (.bool false)) rfl rfl rfl (r_assign rfl) ?_
                                refine s_fin ?_
                                exact N_mk (l := [(6, (.bool false))]) H ⟨rfl, trivial⟩
                            · have H := H.2 g55
                              refine s_sk (d := some 106) rfl rfl (wants_no rfl rfl rfl rfl g55) ?_
                              refine s_sk (d := some 107) rfl rfl (wants_no rfl rfl rfl rfl g55) ?_
                              refine s_pu (d := some 108) (v := (.bool false)) rfl rfl (wants_yes rfl rfl rfl rfl g54) (r_pick0 rfl g55 rfl) ?_
                              refine s_pu (d := some 109) (v := (.bool false)) rfl rfl (wants_yes rfl rfl rfl rfl g54) (r_move rfl) ?_
                              refine s_sk (d := some 110) rfl rfl (wants_no rfl rfl rfl rfl rfl) ?_
                              refine s_sk (d := some 111) rfl rfl (wants_no rfl rfl rfl rfl rfl) ?_
                              refine s_pu (d := some 112) (v := (.bool false)) rfl rfl (wants_yes rfl rfl rfl rfl g54) (r_pick0 rfl rfl rfl) ?_
                              refine s_pu (d := some 113) (v := (.bool false)) rfl rfl rfl (r_pick0 rfl g54 rfl) ?_
                              refine s_pu (d := some 6) (v := (.bool false)) rfl rfl rfl (r_assign rfl) ?_
                              refine s_fin ?_
                              exact N_mk (l := [(6, (.bool false))]) H ⟨rfl, trivial⟩
                        · have H := H.2 g209
                          refine W_skip ?_
                          show W _ _ _ _ _ _ _ _
                          refine W_seq ?_
                          refine W_seq ?_
                          refine W_region (.pu 0 .fin) rfl rfl ?_
                          refine s_pu (d := some 15) (v := (.int .i64 0)) rfl rfl rfl (r_assign rfl) ?_
                          refine s_fin ?_
                          show W _ _ _ _ _ _ _ _
                          refine W_block ?_
                          refine W_loop (WL_mk (l := [(0, (Sl.v l1)), (1, (.int .i64 i2)), (2, (.int .i64 j3)), (7, (.pointer y4)), (9, (.pointer y6)), (11, (.pointer y8)), (15, (.int .i64 0))]) ?_ ⟨rfl, rfl, rfl, rfl, rfl, rfl, rfl, trivial⟩)
                          refine H (fun (k57 : Int) (h6 : Heap) => ∀ b, WL _ _ _ _ _ _ (mkE [(0, (Sl.v l1)), (1, (.int .i64 i2)), (2, (.int .i64 j3)), (7, (.pointer y4)), (9, (.pointer y6)), (11, (.pointer y8)), (15, (.int .i64 k57))] b) h6) ?_
                          intro k57 h6 H b
                          refine WL_round ?_
                          refine W_seq ?_
                          refine W_seq ?_
                          refine W_region (.pu 0 (.pu 1 (.pu 2 (.pu 3 .fin)))) rfl rfl ?_
                          refine s_pu (d := some 114) (v := (.int .i64 k57)) rfl rfl rfl (r_move rfl) ?_
                          refine s_pu (d := some 115) (v := (Sl.v l1)) rfl rfl rfl (r_move rfl) ?_
                          refine s_pu (d := some 116) (v := (.int .i64 ((l1.len : Int)))) rfl rfl rfl (r_len Try.underlying22 rfl) ?_
                          refine s_pu (d := some 117) (v := (.bool (decide (k57 < ((l1.len : Int)))))) rfl rfl rfl (r_lss rfl rfl) ?_
                          refine s_fin ?_
                          show W _ _ _ _ _ _ _ _
                          refine W_if (decide (k57 < ((l1.len : Int)))) rfl (fun g208 => ?_) (fun g208 => ?_)
                          · have H := H.1 g208
                            refine W_skip ?_
                            show W _ _ _ _ _ _ _ _
                            refine W_seq ?_
                            refine W_block ?_
                            refine W_seq ?_
                            refine W_seq ?_
                            refine W_set ?_
                            intro N61 eN61
                            have H := H (fun (x59 : Bool) => ∀ b, N61 [] (mkE [(0, (Sl.v l1)), (1, (.int .i64 i2)), (2, (.int .i64 j3)), (7, (.pointer y4)), (9, (.pointer y6)), (11, (.pointer y8)), (15, (.int .i64 k57)), (131, (.bool x59))] b) h6) (by
                              intro x59 H b
                              rw [eN61]
                              show W _ _ _ _ _ _ _ _
                              refine W_if x59 rfl (fun g73 => ?_) (fun g73 => ?_)
                              · have H := H.1 g73
                                refine W_seq ?_
                                refine W_region (.pu 0 .fin) rfl rfl ?_
                                refine s_pu (d := some 6) (v := (.bool true)) rfl rfl rfl (r_assign rfl) ?_
                                refine s_fin ?_
                                show W _ _ _ _ _ _ _ _
                                refine W_ret ?_
                                exact ⟨[(.bool true)], ⟨_, _, rfl, rfl, rfl⟩, true, rfl, H⟩
                              · have H := H.2 g73
                                refine W_skip ?_
                                show W _ _ _ _ _ _ _ _
                                refine W_seq ?_
                                refine W_region (.pu 0 (.pu 1 (.pu 2 (.pu 3 (.pu 4 (.rl 5 (.ef 6 [] (.pu 7 .fin) .no))))))) rfl rfl ?_
                                refine s_pu (d := some 132) (v := (.pointer y6)) rfl rfl rfl (r_move rfl) ?_
                                refine s_pu (d := some 133) (v := (.int .i64 k57)) rfl rfl rfl (r_move rfl) ?_
                                refine s_pu (d := some 134) (v := (Sl.v l1)) rfl rfl rfl (r_move rfl) ?_
                                refine s_pu (d := some 135) (v := (.int .i64 k57)) rfl rfl rfl (r_move rfl) ?_
                                obtain ⟨p62, e63, e64, e65, H⟩ := H
                                obtain ⟨q66, e67⟩ : ∃ q : Addr, q = Addr.add p62 (Int.toNat k57 * 1) := ⟨_, rfl⟩
                                rw [← e67] at H
                                refine s_pu (d := some 136) (v := (.pointer (some q66))) rfl rfl rfl (fun w => (r_indexAddr Try.underlying22 Try.sizeOf3 rfl rfl e63 e64 e65 w).trans (by rw [e67])) ?_
                                obtain ⟨x68, e69, H⟩ := H
                                refine s_rl (d := some 137) (v := (.int .i64 x68)) rfl rfl rfl (fun dr => r_load1 Try.isAgg3 rfl e69) ?_
                                refine s_ef (d := some 138) rfl rfl rfl (fun dr => r_call Try.call8 rfl rfl H) ?_ trivial
                                rintro y70 h7 H
                                refine ⟨trivial, ?_⟩
                                obtain ⟨e71, H⟩ := H
                                refine s_pu (d := some 139) (v := (.bool (!(isNil y70)))) rfl rfl rfl (r_notNilI Try.underlying25 rfl e71 rfl) ?_
                                refine s_fin ?_
                                show W _ _ _ _ _ _ _ _
                                refine W_if (!(isNil y70)) rfl (fun g72 => ?_) (fun g72 => ?_)
                                · have H := H.1 g72
                                  refine W_seq ?_
                                  refine W_region (.pu 0 .fin) rfl rfl ?_
                                  refine s_pu (d := some 6) (v := (.bool false)) rfl rfl rfl (r_assign rfl) ?_
                                  refine s_fin ?_
                                  show W _ _ _ _ _ _ _ _
                                  refine W_ret ?_
                                  exact ⟨[(.bool false)], ⟨_, _, rfl, rfl, rfl⟩, false, rfl, H⟩
                                · have H := H.2 g72
                                  refine W_skip ?_
                                  show W _ _ _ _ _ _ _ _
                                  refine W_region (.pu 0 (.pu 1 (.pu 2 .fin))) rfl rfl ?_
                                  refine s_pu (d := some 118) (v := (.int .i64 k57)) rfl rfl rfl (r_move rfl) ?_
                                  refine s_pu (d := some 119) (v := (.int .i64 (w64 (k57 + 1)))) rfl rfl rfl (r_add rfl rfl) ?_
                                  refine s_pu (d := some 15) (v := (.int .i64 (w64 (k57 + 1)))) rfl rfl rfl (r_assign rfl) ?_
                                  refine s_fin ?_
                                  exact WL_mk (l := [(0, (Sl.v l1)), (1, (.int .i64 i2)), (2, (.int .i64 j3)), (7, (.pointer y4)), (9, (.pointer y6)), (11, (.pointer y8)), (15, (.int .i64 (w64 (k57 + 1))))]) H ⟨rfl, rfl, rfl, rfl, rfl, rfl, rfl, trivial⟩)
                            clear eN61
                            refine W_region (.pu 0 (.pu 1 (.pu 2 (.rl 3 (.pu 4 (.pu 5 (.pu 6 (.pu 7 (.pu 8 (.rl 9 (.pu 10 (.pu 11 .fin)))))))))))) rfl rfl ?_
                            refine s_pu (d := some 120) (v := (Sl.v l1)) rfl rfl rfl (r_move rfl) ?_
                            refine s_pu (d := some 121) (v := (.int .i64 k57)) rfl rfl rfl (r_move rfl) ?_
                            obtain ⟨p74, e75, e76, e77, H⟩ := H
                            obtain ⟨q78, e79⟩ : ∃ q : Addr, q = Addr.add p74 (Int.toNat k57 * 1) := ⟨_, rfl⟩
                            rw [← e79] at H
                            refine s_pu (d := some 122) (v := (.pointer (some q78))) rfl rfl rfl (fun w => (r_indexAddr Try.underlying22 Try.sizeOf3 rfl rfl e75 e76 e77 w).trans (by rw [e79])) ?_
                            obtain ⟨x80, e81, H⟩ := H
                            refine s_rl (d := some 123) (v := (.int .i64 x80)) rfl rfl rfl (fun dr => r_load1 Try.isAgg3 rfl e81) ?_
                            refine s_pu (d := some 124) (v := (.bool (decide (x80 < 0)))) rfl rfl rfl (r_lss rfl rfl) ?_
                            refine s_pu (d := some 125) (v := (.bool (decide (x80 < 0)))) rfl rfl rfl (r_move rfl) ?_
                            rcases Bool.eq_false_or_eq_true (decide (x80 < 0)) with g82 | g82
                            · have H := H.1 g82
                              refine s_sk (d := some 126) rfl rfl (wants_no rfl rfl rfl rfl g82) ?_
                              refine s_sk (d := some 127) rfl rfl (wants_no rfl rfl rfl rfl g82) ?_
                              refine s_sk (d := some 128) rfl rfl (wants_no rfl rfl rfl rfl g82) ?_
                              refine s_skl (d := some 129) rfl rfl (wants_no rfl rfl rfl rfl g82) ?_
                              refine s_sk (d := some 130) rfl rfl (wants_no rfl rfl rfl rfl g82) ?_
                              refine s_pu (d := some 131) (v := (.bool true)) rfl rfl rfl (r_pick1 rfl g82 rfl) ?_
                              refine s_fin ?_
                              exact N_mk (l := [(0, (Sl.v l1)), (1, (.int .i64 i2)), (2, (.int .i64 j3)), (7, (.pointer y4)), (9, (.pointer y6)), (11, (.pointer y8)), (15, (.int .i64 k57)), (131, (.bool true))]) H ⟨rfl, rfl, rfl, rfl, rfl, rfl, rfl, rfl, trivial⟩
                            · have H := H.2 g82
                              refine s_pu (d := some 126) (v := (Sl.v l1)) rfl rfl (wants_yes rfl rfl rfl rfl g82) (r_move rfl) ?_
                              refine s_pu (d := some 127) (v := (.int .i64 k57)) rfl rfl (wants_yes rfl rfl rfl rfl g82) (r_move rfl) ?_
                              obtain ⟨p83, e84, e85, e86, H⟩ := H
                              obtain ⟨q87, e88⟩ : ∃ q : Addr, q = Addr.add p83 (Int.toNat k57 * 1) := ⟨_, rfl⟩
                              rw [← e88] at H
                              refine s_pu (d := some 128) (v := (.pointer (some q87))) rfl rfl (wants_yes rfl rfl rfl rfl g82) (fun w => (r_indexAddr Try.underlying22 Try.sizeOf3 rfl rfl e84 e85 e86 w).trans (by rw [e88])) ?_
                              obtain ⟨x89, e90, H⟩ := H
                              refine s_rl (d := some 129) (v := (.int .i64 x89)) rfl rfl (wants_yes rfl rfl rfl rfl g82) (fun dr => r_load1 Try.isAgg3 rfl e90) ?_
                              refine s_pu (d := some 130) (v := (.bool (decide (1073741824 < x89)))) rfl rfl (wants_yes rfl rfl rfl rfl g82) (r_gtr rfl rfl) ?_
                              refine s_pu (d := some 131) (v := (.bool (decide (1073741824 < x89)))) rfl rfl rfl (r_pick0 rfl g82 rfl) ?_
                              refine s_fin ?_
                              exact N_mk (l := [(0, (Sl.v l1)), (1, (.int .i64 i2)), (2, (.int .i64 j3)), (7, (.pointer y4)), (9, (.pointer y6)), (11, (.pointer y8)), (15, (.int .i64 k57)), (131, (.bool (decide (1073741824 < x89))))]) H ⟨rfl, rfl, rfl, rfl, rfl, rfl, rfl, rfl, trivial⟩
                          · have H := H.2 g208
                            refine W_exit (inX_here ?_)
                            show W _ _ _ _ _ _ _ _
                            refine W_seq ?_
                            refine W_region (.pu 0 (.pu 1 (.pu 2 (.ef 3 [] (.pu 4 (.pu 5 (.pu 6 (.pu 7 (.pu 8 .fin))))) .no)))) rfl rfl ?_
                            refine s_pu (d := some 141) (v := (.pointer y4)) rfl rfl rfl (r_move rfl) ?_
                            refine s_pu (d := some 142) (v := (.int .i64 i2)) rfl rfl rfl (r_move rfl) ?_
                            refine s_pu (d := some 143) (v := (.int .i64 j3)) rfl rfl rfl (r_move rfl) ?_
                            refine s_ef (d := some 144) rfl rfl rfl (fun dr => r_call Try.call9 rfl rfl H) ?_ trivial
                            rintro _ h8 ⟨y91, y92, rfl, H⟩
                            refine ⟨trivial, ?_⟩
                            refine s_pu (d := some 140) (v := (.tuple #[(.int .i64 y91), y92])) rfl rfl rfl (r_move rfl) ?_
                            refine s_pu (d := some 145) (v := (.int .i64 y91)) rfl rfl rfl (r_extract rfl rfl) ?_
                            refine s_pu (d := some 146) (v := y92) rfl rfl rfl (r_extract rfl rfl) ?_
                            refine s_pu (d := some 16) (v := (.int .i64 y91)) rfl rfl rfl (r_assign rfl) ?_
                            refine s_pu (d := some 17) (v := y92) rfl rfl rfl (r_assign rfl) ?_
                            refine s_fin ?_
                            show W _ _ _ _ _ _ _ _
                            refine W_seq ?_
                            refine W_region (.pu 0 (.pu 1 (.ef 2 [] (.pu 3 (.pu 4 (.pu 5 (.pu 6 (.pu 7 .fin))))) .no))) rfl rfl ?_
                            refine s_pu (d := some 148) (v := (.pointer y6)) rfl rfl rfl (r_move rfl) ?_
                            refine s_pu (d := some 149) (v := (.int .i64 j3)) rfl rfl rfl (r_move rfl) ?_
                            refine s_ef (d := some 150) rfl rfl rfl (fun dr => r_call Try.call10 rfl rfl H) ?_ trivial
                            rintro _ h9 ⟨y93, y94, rfl, H⟩
                            refine ⟨trivial, ?_⟩
                            refine s_pu (d := some 147) (v := (.tuple #[(.int .i64 y93), y94])) rfl rfl rfl (r_move rfl) ?_
                            refine s_pu (d := some 151) (v := (.int .i64 y93)) rfl rfl rfl (r_extract rfl rfl) ?_
                            refine s_pu (d := some 152) (v := y94) rfl rfl rfl (r_extract rfl rfl) ?_
                            refine s_pu (d := some 18) (v := (.int .i64 y93)) rfl rfl rfl (r_assign rfl) ?_
                            refine s_pu (d := some 19) (v := y94) rfl rfl rfl (r_assign rfl) ?_
                            refine s_fin ?_
                            show W _ _ _ _ _ _ _ _
                            refine W_seq ?_
                            refine W_region (.pu 0 (.pu 1 (.ef 2 [] (.pu 3 (.pu 4 (.pu 5 (.pu 6 (.pu 7 .fin))))) .no))) rfl rfl ?_
                            refine s_pu (d := some 154) (v := (.pointer y6)) rfl rfl rfl (r_move rfl) ?_
                            refine s_pu (d := some 155) (v := (.int .i64 i2)) rfl rfl rfl (r_move rfl) ?_
                            refine s_ef (d := some 156) rfl rfl rfl (fun dr => r_call Try.call10 rfl rfl H) ?_ trivial
                            rintro _ h10 ⟨y95, y96, rfl, H⟩
                            refine ⟨trivial, ?_⟩
                            refine s_pu (d := some 153) (v := (.tuple #[(.int .i64 y95), y96])) rfl rfl rfl (r_move rfl) ?_
                            refine s_pu (d := some 157) (v := (.int .i64 y95)) rfl rfl rfl (r_extract rfl rfl) ?_
                            refine s_pu (d := some 158) (v := y96) rfl rfl rfl (r_extract rfl rfl) ?_
                            refine s_pu (d := some 20) (v := (.int .i64 y95)) rfl rfl rfl (r_assign rfl) ?_
                            refine s_pu (d := some 21) (v := y96) rfl rfl rfl (r_assign rfl) ?_
                            refine s_fin ?_
                            show W _ _ _ _ _ _ _ _
                            refine W_seq ?_
                            refine W_region (.pu 0 (.pu 1 (.pu 2 (.pu 3 (.ef 4 [] (.pu 5 (.pu 6 (.pu 7 (.pu 8 (.pu 9 .fin))))) .no))))) rfl rfl ?_
                            refine s_pu (d := some 160) (v := (Sl.v l1)) rfl rfl rfl (r_move rfl) ?_
                            refine s_pu (d := some 161) (v := (.int .i64 i2)) rfl rfl rfl (r_move rfl) ?_
                            refine s_pu (d := some 162) (v := (.int .i64 j3)) rfl rfl rfl (r_move rfl) ?_
                            obtain ⟨e98, e99, e100, e101, H⟩ := H
                            obtain ⟨s97, e102⟩ : ∃ t : Sl, t = ⟨sliceA l1.a (Int.toNat ((l1.cap : Int))) (Int.toNat i2) 1, Int.toNat j3 - Int.toNat i2, Int.toNat ((l1.cap : Int)) - Int.toNat i2⟩ := ⟨_, rfl⟩
                            have H := H s97 e102
                            refine s_pu (d := some 163) (v := (Sl.v s97)) rfl rfl rfl (fun w => (r_slice (lo := (.some (.tmp 161))) (hi := (.some (.tmp 162))) (mx := .none) Try.underlying22 Try.sizeOf3 rfl ((l1.cap : Int)) j3 i2 rfl ⟨_, rfl⟩ ⟨_, rfl⟩ e98 e99 (.inr e100) e101 w).trans (by rw [e102]; rfl)) ?_
                            refine s_ef (d := some 164) rfl rfl rfl (fun dr => r_call Try.call7 rfl rfl H) ?_ trivial
                            rintro _ h11 ⟨y103, y104, rfl, H⟩
                            refine ⟨trivial, ?_⟩
                            refine s_pu (d := some 159) (v := (.tuple #[(.int .i64 y103), y104])) rfl rfl rfl (r_move rfl) ?_
                            refine s_pu (d := some 165) (v := (.int .i64 y103)) rfl rfl rfl (r_extract rfl rfl) ?_
                            refine s_pu (d := some 166) (v := y104) rfl rfl rfl (r_extract rfl rfl) ?_
                            refine s_pu (d := some 22) (v := (.int .i64 y103)) rfl rfl rfl (r_assign rfl) ?_
                            refine s_pu (d := some 23) (v := y104) rfl rfl rfl (r_assign rfl) ?_
                            refine s_fin ?_
                            show W _ _ _ _ _ _ _ _
                            refine W_seq ?_
                            refine W_region (.pu 0 (.ef 1 [] (.pu 2 (.pu 3 (.ef 4 [] (.pu 5 (.pu 6 (.pu 7 (.ef 8 [] (.ef 9 [] (.pu 10 .fin) .no) .no)))) .no))) .no)) rfl rfl ?_
                            refine s_pu (d := some 168) (v := (Sl.v l1)) rfl rfl rfl (r_move rfl) ?_
                            refine s_ef (d := some 169) rfl rfl rfl (fun dr => r_call Try.call11 rfl rfl H) ?_ trivial
                            rintro _ h12 ⟨y105, rfl, H⟩
                            refine ⟨trivial, ?_⟩
                            refine s_pu (d := some 170) (v := (.int .i64 i2)) rfl rfl rfl (r_move rfl) ?_
                            refine s_pu (d := some 171) (v := (.int .i64 j3)) rfl rfl rfl (r_move rfl) ?_
                            refine s_ef (d := some 172) rfl rfl rfl (fun dr => r_call Try.call12 rfl rfl H) ?_ trivial
                            rintro _ h13 ⟨y106, y107, y108, y109, y110, y111, rfl, H⟩
                            refine ⟨trivial, ?_⟩
                            refine s_pu (d := some 167) (v := (.tuple #[(.agg #[(.int .i64 y106), (.int .i64 y107), (.int .i64 y108), (.int .i64 y109), (.int .i64 y110)]), (.bool y111)])) rfl rfl rfl (r_move rfl) ?_
                            refine s_pu (d := some 173) (v := (.agg #[(.int .i64 y106), (.int .i64 y107), (.int .i64 y108), (.int .i64 y109), (.int .i64 y110)])) rfl rfl rfl (r_extract rfl rfl) ?_
                            refine s_pu (d := some 174) (v := (.bool y111)) rfl rfl rfl (r_extract rfl rfl) ?_
                            obtain ⟨p112, e113⟩ : ∃ p : Addr, p = ⟨h13.size, 0, none⟩ := ⟨_, rfl⟩
                            obtain ⟨h14, e114⟩ : ∃ hh : Heap, hh = h13.push (.cells #[(.int .i64 0), (.int .i64 0), (.int .i64 0), (.int .i64 0), (.int .i64 0)] 40) := ⟨_, rfl⟩
                            have H := H p112 h14 e113 e114
                            refine s_ef1 (d := some 24) (v := (.pointer (some p112))) (h' := h14) rfl rfl rfl (fun dr => (r_alloc Try.zeroValue40).trans (by rw [e113, e114]; rfl)) trivial ?_ trivial
                            obtain ⟨e116, H⟩ := H
                            obtain ⟨h15, e115⟩ : ∃ hh : Heap, hh = hsets h14 p112 0 [(.int .i64 y106), (.int .i64 y107), (.int .i64 y108), (.int .i64 y109), (.int .i64 y110)] := ⟨_, rfl⟩
                            have H := H h15 e115
                            refine s_st (d := none) (h' := h15) rfl rfl rfl (fun dr => (r_store (v := (.agg #[(.int .i64 y106), (.int .i64 y107), (.int .i64 y108), (.int .i64 y109), (.int .i64 y110)])) Try.sizeOf40 rfl rfl rfl (one_all rfl) e116).trans (by rw [e115]; rfl)) trivial ?_ trivial
                            refine s_pu (d := some 25) (v := (.bool y111)) rfl rfl rfl (r_assign rfl) ?_
                            refine s_fin ?_
                            show W _ _ _ _ _ _ _ _
                            refine W_seq ?_
                            refine W_region (.pu 0 (.pu 1 (.pu 2 (.ef 3 [] (.pu 4 (.pu 5 (.pu 6 (.pu 7 (.pu 8 .fin))))) .no)))) rfl rfl ?_
                            refine s_pu (d := some 176) (v := (.pointer y8)) rfl rfl rfl (r_move rfl) ?_
                            refine s_pu (d := some 177) (v := (.int .i64 i2)) rfl rfl rfl (r_move rfl) ?_
                            refine s_pu (d := some 178) (v := (.int .i64 j3)) rfl rfl rfl (r_move rfl) ?_
                            refine s_ef (d := some 179) rfl rfl rfl (fun dr => r_call Try.call13 rfl rfl H) ?_ trivial
                            rintro _ h16 ⟨y117, y118, rfl, H⟩
                            refine ⟨trivial, ?_⟩
                            refine s_pu (d := some 175) (v := (.tuple #[(.int .i64 y117), y118])) rfl rfl rfl (r_move rfl) ?_
                            refine s_pu (d := some 180) (v := (.int .i64 y117)) rfl rfl rfl (r_extract rfl rfl) ?_
                            refine s_pu (d := some 181) (v := y118) rfl rfl rfl (r_extract rfl rfl) ?_
                            refine s_pu (d := some 26) (v := (.int .i64 y117)) rfl rfl rfl (r_assign rfl) ?_
                            refine s_pu (d := some 27) (v := y118) rfl rfl rfl (r_assign rfl) ?_
                            refine s_fin ?_
                            show W _ _ _ _ _ _ _ _
                            refine W_seq ?_
                            refine W_region (.pu 0 (.pu 1 (.pu 2 (.ef 3 [] (.pu 4 (.pu 5 (.pu 6 (.pu 7 (.pu 8 .fin))))) .no)))) rfl rfl ?_
                            refine s_pu (d := some 183) (v := (.pointer y4)) rfl rfl rfl (r_move rfl) ?_
                            refine s_pu (d := some 184) (v := (.int .i64 i2)) rfl rfl rfl (r_move rfl) ?_
                            refine s_pu (d := some 185) (v := (.int .i64 j3)) rfl rfl rfl (r_move rfl) ?_
                            refine s_ef (d := some 186) rfl rfl rfl (fun dr => r_call Try.call14 rfl rfl H) ?_ trivial
                            rintro _ h17 ⟨y119, y120, rfl, H⟩
                            refine ⟨trivial, ?_⟩
                            refine s_pu (d := some 182) (v := (.tuple #[(.int .i64 y119), y120])) rfl rfl rfl (r_move rfl) ?_
                            refine s_pu (d := some 187) (v := (.int .i64 y119)) rfl rfl rfl (r_extract rfl rfl) ?_
                            refine s_pu (d := some 188) (v := y120) rfl rfl rfl (r_extract rfl rfl) ?_
                            refine s_pu (d := some 28) (v := (.int .i64 y119)) rfl rfl rfl (r_assign rfl) ?_
                            refine s_pu (d := some 29) (v := y120) rfl rfl rfl (r_assign rfl) ?_
                            refine s_fin ?_
                            show W _ _ _ _ _ _ _ _
                            refine W_seq ?_
                            refine W_seq ?_
                            refine W_region (.pu 0 (.pu 1 (.pu 2 (.pu 3 (.pu 4 (.pu 5 (.pu 6 (.pu 7 (.pu 8 (.pu 9 (.pu 10 (.pu 11 (.pu 12 (.pu 13 (.pu 14 (.pu 15 (.pu 16 (.pu 17 (.pu 18 (.pu 19 (.pu 20 (.pu 21 (.pu 22 (.pu 23 (.pu 24 (.pu 25 (.pu 26 (.pu 27 (.pu 28 (.pu 29 (.pu 30 (.pu 31 (.pu 32 (.pu 33 (.pu 34 (.pu 35 .fin)))))))))))))))))))))))))))))))))))) rfl rfl ?_
                            refine s_pu (d := some 189) (v := y92) rfl rfl rfl (r_move rfl) ?_
                            obtain ⟨e121, H⟩ := H
                            refine s_pu (d := some 190) (v := (.bool (!(isNil y92)))) rfl rfl rfl (r_notNilI Try.underlying25 rfl e121 rfl) ?_
                            refine s_pu (d := some 191) (v := (.bool (!(isNil y92)))) rfl rfl rfl (r_move rfl) ?_
                            obtain ⟨e123, H⟩ := H
                            refine S_meet (l := [(0, (Sl.v l1)), (1, (.int .i64 i2)), (2, (.int .i64 j3)), (16, (.int .i64 y91)), (18, (.int .i64 y93)), (20, (.int .i64 y95)), (21, y96), (22, (.int .i64 y103)), (23, y104), (24, (.pointer (some p112))), (25, (.bool y111)), (26, (.int .i64 y117)), (27, y118), (28, (.int .i64 y119)), (29, y120), (194, (.bool ((!(isNil y92)) || (!(isNil y94)))))]) (i := 3) ?_ (fun HJ => ?_)
                            · intro b
                              show S _ _ _ _ _ _
                              refine s_pu (d := some 195) (v := (.bool ((!(isNil y92)) || (!(isNil y94))))) rfl rfl rfl (r_move rfl) ?_
                              obtain ⟨e127, H⟩ := H
                              refine S_meet (l := [(0, (Sl.v l1)), (1, (.int .i64 i2)), (2, (.int .i64 j3)), (16, (.int .i64 y91)), (18, (.int .i64 y93)), (20, (.int .i64 y95)), (22, (.int .i64 y103)), (23, y104), (24, (.pointer (some p112))), (25, (.bool y111)), (26, (.int .i64 y117)), (27, y118), (28, (.int .i64 y119)), (29, y120), (198, (.bool (((!(isNil y92)) || (!(isNil y94))) || (!(isNil y96)))))]) (i := 3) ?_ (fun HJ => ?_)
                              · intro b
                                show S _ _ _ _ _ _
                                refine s_pu (d := some 199) (v := (.bool (((!(isNil y92)) || (!(isNil y94))) || (!(isNil y96))))) rfl rfl rfl (r_move rfl) ?_
                                obtain ⟨e131, H⟩ := H
                                refine S_meet (l := [(0, (Sl.v l1)), (1, (.int .i64 i2)), (2, (.int .i64 j3)), (16, (.int .i64 y91)), (18, (.int .i64 y93)), (20, (.int .i64 y95)), (22, (.int .i64 y103)), (24, (.pointer (some p112))), (25, (.bool y111)), (26, (.int .i64 y117)), (27, y118), (28, (.int .i64 y119)), (29, y120), (202, (.bool ((((!(isNil y92)) || (!(isNil y94))) || (!(isNil y96))) || (!(isNil y104)))))]) (i := 3) ?_ (fun HJ => ?_)
                                · intro b
                                  show S _ _ _ _ _ _
                                  refine s_pu (d := some 203) (v := (.bool ((((!(isNil y92)) || (!(isNil y94))) || (!(isNil y96))) || (!(isNil y104))))) rfl rfl rfl (r_move rfl) ?_
                                  obtain ⟨e135, H⟩ := H
                                  refine S_meet (l := [(0, (Sl.v l1)), (1, (.int .i64 i2)), (2, (.int .i64 j3)), (16, (.int .i64 y91)), (18, (.int .i64 y93)), (20, (.int .i64 y95)), (22, (.int .i64 y103)), (24, (.pointer (some p112))), (25, (.bool y111)), (26, (.int .i64 y117)), (28, (.int .i64 y119)), (29, y120), (206, (.bool (((((!(isNil y92)) || (!(isNil y94))) || (!(isNil y96))) || (!(isNil y104))) || (!(isNil y118)))))]) (i := 3) ?_ (fun HJ => ?_)
                                  · intro b
                                    show S _ _ _ _ _ _
                                    refine s_pu (d := some 207) (v := (.bool (((((!(isNil y92)) || (!(isNil y94))) || (!(isNil y96))) || (!(isNil y104))) || (!(isNil y118))))) rfl rfl rfl (r_move rfl) ?_
                                    obtain ⟨e139, H⟩ := H
                                    refine S_meet (l := [(0, (Sl.v l1)), (1, (.int .i64 i2)), (2, (.int .i64 j3)), (16, (.int .i64 y91)), (18, (.int .i64 y93)), (20, (.int .i64 y95)), (22, (.int .i64 y103)), (24, (.pointer (some p112))), (25, (.bool y111)), (26, (.int .i64 y117)), (28, (.int .i64 y119)), (210, (.bool ((((((!(isNil y92)) || (!(isNil y94))) || (!(isNil y96))) || (!(isNil y104))) || (!(isNil y118))) || (!(isNil y120)))))]) (i := 3) ?_ (fun HJ => ?_)
                                    · intro b
                                      show S _ _ _ _ _ _
                                      refine s_pu (d := some 211) (v := (.bool ((((((!(isNil y92)) || (!(isNil y94))) || (!(isNil y96))) || (!(isNil y104))) || (!(isNil y118))) || (!(isNil y120))))) rfl rfl rfl (r_move rfl) ?_
                                      refine S_meet (l := [(0, (Sl.v l1)), (1, (.int .i64 i2)), (2, (.int .i64 j3)), (16, (.int .i64 y91)), (18, (.int .i64 y93)), (20, (.int .i64 y95)), (22, (.int .i64 y103)), (24, (.pointer (some p112))), (26, (.int .i64 y117)), (28, (.int .i64 y119)), (214, (.bool (((((((!(isNil y92)) || (!(isNil y94))) || (!(isNil y96))) || (!(isNil y104))) || (!(isNil y118))) || (!(isNil y120))) || (!y111))))]) (i := 3) ?_ (fun HJ => ?_)
                                      · intro b
                                        show S _ _ _ _ _ _
                                        refine s_pu (d := some 215) (v := (.bool (((((((!(isNil y92)) || (!(isNil y94))) || (!(isNil y96))) || (!(isNil y104))) || (!(isNil y118))) || (!(isNil y120))) || (!y111)))) rfl rfl rfl (r_move rfl) ?_
                                        refine S_meet (l := [(0, (Sl.v l1)), (1, (.int .i64 i2)), (2, (.int .i64 j3)), (16, (.int .i64 y91)), (18, (.int .i64 y93)), (20, (.int .i64 y95)), (22, (.int .i64 y103)), (24, (.pointer (some p112))), (26, (.int .i64 y117)), (28, (.int .i64 y119)), (219, (.bool ((((((((!(isNil y92)) || (!(isNil y94))) || (!(isNil y96))) || (!(isNil y104))) || (!(isNil y118))) || (!(isNil y120))) || (!y111)) || (decide (y117 < i2)))))]) (i := 4) ?_ (fun HJ => ?_)
                                        · intro b
                                          show S _ _ _ _ _ _
                                          refine s_pu (d := some 220) (v := (.bool ((((((((!(isNil y92)) || (!(isNil y94))) || (!(isNil y96))) || (!(isNil y104))) || (!(isNil y118))) || (!(isNil y120))) || (!y111)) || (decide (y117 < i2))))) rfl rfl rfl (r_move rfl) ?_
                                          refine S_meet (l := [(0, (Sl.v l1)), (1, (.int .i64 i2)), (2, (.int .i64 j3)), (16, (.int .i64 y91)), (18, (.int .i64 y93)), (20, (.int .i64 y95)), (22, (.int .i64 y103)), (24, (.pointer (some p112))), (26, (.int .i64 y117)), (28, (.int .i64 y119)), (224, (.bool (((((((((!(isNil y92)) || (!(isNil y94))) || (!(isNil y96))) || (!(isNil y104))) || (!(isNil y118))) || (!(isNil y120))) || (!y111)) || (decide (y117 < i2))) || (decide (j3 ≤ y117)))))]) (i := 4) ?_ (fun HJ => ?_)
                                          · intro b
                                            show S _ _ _ _ _ _
                                            refine s_fin ?_
                                            show W _ _ _ _ _ _ _ _
                                            refine W_if (((((((((!(isNil y92)) || (!(isNil y94))) || (!(isNil y96))) || (!(isNil y104))) || (!(isNil y118))) || (!(isNil y120))) || (!y111)) || (decide (y117 < i2))) || (decide (j3 ≤ y117))) rfl (fun g199 => ?_) (fun g199 => ?_)
                                            · have H := H.1 g199
                                              refine W_seq ?_
                                              refine W_region (.pu 0 .fin) rfl rfl ?_
                                              refine s_pu (d := some 6) (v := (.bool false)) rfl rfl rfl (r_assign rfl) ?_
                                              refine s_fin ?_
                                              show W _ _ _ _ _ _ _ _
                                              refine W_ret ?_
                                              exact ⟨[(.bool false)], ⟨_, _, rfl, rfl, rfl⟩, false, rfl, H⟩
                                            · have H := H.2 g199
                                              refine W_skip ?_
                                              show W _ _ _ _ _ _ _ _
                                              refine W_seq ?_
                                              refine W_set ?_
                                              intro N153 eN153
                                              have H := H (fun (x151 : Bool) (h18 : Heap) => ∀ b, N153 [] (mkE [(6, (.bool x151))] b) h18) (by
                                                intro x151 h18 H b
                                                rw [eN153]
                                                show W _ _ _ _ _ _ _ _
                                                refine W_ret ?_
                                                exact ⟨[(.bool x151)], ⟨_, _, rfl, rfl, rfl⟩, x151, rfl, H⟩)
                                              clear eN153
                                              refine W_draw [0, 0, 0, 6, 15, 31, 63, 63, 255, 511, 1023, 2047, 2047, 6143, 16383, 32767, 65535, 131071, 262143, 131071, 1048575, 2097151, 4194303, 8388607, 8388607, 33554431, 67108863, 8388607, 268435455, 536870911, 1073741823, 2147483647, 2147483647, 2147483647, 2147483647, 32212254719, 66571993087, 137438953471, 274877906943, 549755813887] (.pu 0 (.pu 1 (.pu 2 (.pu 3 (.pu 4 (.pu 5 (.pu 6 (.pu 7 (.pu 8 (.pu 9 (.pu 10 (.pu 11 (.pu 12 (.rd 13 (.pu 14 (.pu 15 (.pu 16 (.pu 17 (.rd 18 (.pu 19 (.pu 20 (.pu 21 (.pu 22 (.pu 23 (.pu 24 (.pu 25 (.rd 26 (.pu 27 (.pu 28 (.pu 29 (.pu 30 (.rd 31 (.pu 32 (.pu 33 (.pu 34 (.pu 35 (.ef 36 [13, 18, 26] (.pu 37 (.pu 38 (.pu 39 .fin))) .no))))))))))))))))))))))))))))))))))))) (by kernel_rfl) (by kernel_rfl) ?_
                                              refine s_pu (d := some 225) (v := (.int .i64 y91)) rfl rfl rfl (r_move rfl) ?_
                                              refine s_pu (d := some 226) (v := (.int .i64 y93)) rfl rfl rfl (r_move rfl) ?_
                                              refine s_pu (d := some 227) (v := (.int .i64 y95)) rfl rfl rfl (r_move rfl) ?_
                                              refine s_pu (d := some 228) (v := (.int .i64 (w64 (y93 - y95)))) rfl rfl rfl (r_sub rfl rfl) ?_
                                              refine s_pu (d := some 229) (v := (.bool (decide (y91 = (w64 (y93 - y95)))))) rfl rfl rfl (r_eql rfl rfl) ?_
                                              refine s_pu (d := some 230) (v := (.bool (decide (y91 = (w64 (y93 - y95)))))) rfl rfl rfl (r_move rfl) ?_
                                              rcases Bool.eq_false_or_eq_true (decide (y91 = (w64 (y93 - y95)))) with g154 | g154
                                              · have H := H.1 g154
                                                refine s_pu (d := some 231) (v := (.int .i64 y91)) rfl rfl (wants_yes rfl rfl rfl rfl g154) (r_move rfl) ?_
                                                refine s_pu (d := some 232) (v := (.int .i64 y103)) rfl rfl (wants_yes rfl rfl rfl rfl g154) (r_move rfl) ?_
                                                refine s_pu (d := some 233) (v := (.bool (decide (y91 = y103)))) rfl rfl (wants_yes rfl rfl rfl rfl g154) (r_eql rfl rfl) ?_
                                                refine s_pu (d := some 234) (v := (.bool (decide (y91 = y103)))) rfl rfl rfl (r_pick1 rfl g154 rfl) ?_
                                                refine s_pu (d := some 235) (v := (.bool (decide (y91 = y103)))) rfl rfl rfl (r_move rfl) ?_
                                                rcases Bool.eq_false_or_eq_true (decide (y91 = y103)) with g155 | g155
                                                · have H := H.1 g155
                                                  refine s_pu (d := some 236) (v := (.int .i64 y91)) rfl rfl (wants_yes rfl rfl rfl rfl g155) (r_move rfl) ?_
                                                  refine s_pu (d := some 237) (v := (.pointer (some (Addr.add p112 1)))) rfl rfl (wants_yes rfl rfl rfl rfl g155) (r_fieldAddr Try.underlying40 Try.sizeOf3 rfl rfl rfl) ?_
                                                  obtain ⟨x156, e157, H⟩ := H
                                                  refine s_rd (d := some 238) (v := (.int .i64 x156)) rfl rfl (wants_yes rfl rfl rfl rfl g155) (fun dr => r_load1 Try.isAgg3 rfl e157) ?_
                                                  refine s_pu (d := some 239) (v := (.bool (decide (y91 = x156)))) rfl rfl (wants_yes rfl rfl rfl rfl g155) (r_eql rfl rfl) ?_
                                                  refine s_pu (d := some 240) (v := (.bool (decide (y91 = x156)))) rfl rfl rfl (r_pick1 rfl g155 rfl) ?_
                                                  refine s_pu (d := some 241) (v := (.bool (decide (y91 = x156)))) rfl rfl rfl (r_move rfl) ?_
                                                  rcases Bool.eq_false_or_eq_true (decide (y91 = x156)) with g158 | g158
                                                  · have H := H.1 g158
                                                    refine s_pu (d := some 242) (v := (.pointer (some (Addr.add p112 2)))) rfl rfl (wants_yes rfl rfl rfl rfl g158) (r_fieldAddr Try.underlying40 Try.sizeOf3 rfl rfl rfl) ?_
                                                    obtain ⟨x159, e160, H⟩ := H
                                                    refine s_rd (d := some 243) (v := (.int .i64 x159)) rfl rfl (wants_yes rfl rfl rfl rfl g158) (fun dr => r_load1 Try.isAgg3 rfl e160) ?_
                                                    refine s_pu (d := some 244) (v := (.int .i64 y119)) rfl rfl (wants_yes rfl rfl rfl rfl g158) (r_move rfl) ?_
                                                    refine s_pu (d := some 245) (v := (.bool (decide (x159 = y119)))) rfl rfl (wants_yes rfl rfl rfl rfl g158) (r_eql rfl rfl) ?_
                                                    refine s_pu (d := some 246) (v := (.bool (decide (x159 = y119)))) rfl rfl rfl (r_pick1 rfl g158 rfl) ?_
                                                    refine s_pu (d := some 247) (v := (.bool (decide (x159 = y119)))) rfl rfl rfl (r_move rfl) ?_
                                                    rcases Bool.eq_false_or_eq_true (decide (x159 = y119)) with g161 | g161
                                                    · have H := H.1 g161
                                                      refine s_pu (d := some 248) (v := (Sl.v l1)) rfl rfl (wants_yes rfl rfl rfl rfl g161) (r_move rfl) ?_
                                                      refine s_pu (d := some 249) (v := (.int .i64 y117)) rfl rfl (wants_yes rfl rfl rfl rfl g161) (r_move rfl) ?_
                                                      obtain ⟨p162, e163, e164, e165, H⟩ := H
                                                      obtain ⟨q166, e167⟩ : ∃ q : Addr, q = Addr.add p162 (Int.toNat y117 * 1) := ⟨_, rfl⟩
                                                      rw [← e167] at H
                                                      refine s_pu (d := some 250) (v := (.pointer (some q166))) rfl rfl (wants_yes rfl rfl rfl rfl g161) (fun w => (r_indexAddr Try.underlying22 Try.sizeOf3 rfl rfl e163 e164 e165 w).trans (by rw [e167])) ?_
                                                      obtain ⟨x168, e169, H⟩ := H
                                                      refine s_rd (d := some 251) (v := (.int .i64 x168)) rfl rfl (wants_yes rfl rfl rfl rfl g161) (fun dr => r_load1 Try.isAgg3 rfl e169) ?_
                                                      refine s_pu (d := some 252) (v := (.int .i64 y119)) rfl rfl (wants_yes rfl rfl rfl rfl g161) (r_move rfl) ?_
                                                      refine s_pu (d := some 253) (v := (.bool (decide (x168 = y119)))) rfl rfl (wants_yes rfl rfl rfl rfl g161) (r_eql rfl rfl) ?_
                                                      refine s_pu (d := some 254) (v := (.bool (decide (x168 = y119)))) rfl rfl rfl (r_pick1 rfl g161 rfl) ?_
                                                      refine s_pu (d := some 255) (v := (.bool (decide (x168 = y119)))) rfl rfl rfl (r_move rfl) ?_
                                                      rcases Bool.eq_false_or_eq_true (decide (x168 = y119)) with g170 | g170
                                                      · have H := H.1 g170
                                                        obtain ⟨x171, e172, H⟩ := H
                                                        obtain ⟨x173, e174, H⟩ := H
                                                        obtain ⟨x175, e176, H⟩ := H
                                                        obtain ⟨x177, e178, H⟩ := H
                                                        obtain ⟨x179, e180, H⟩ := H
                                                        refine s_rd (d := some 256) (v := (.agg #[(.int .i64 x171), (.int .i64 x173), (.int .i64 x175), (.int .i64 x177), (.int .i64 x179)])) rfl rfl (wants_yes rfl rfl rfl rfl g170) (fun dr => r_loadN Try.isAgg40 Try.sizeOf40 (vs := [(.int .i64 x171), (.int .i64 x173), (.int .i64 x175), (.int .i64 x177), (.int .i64 x179)]) rfl rfl ⟨e172, e174, e176, e178, e180, trivial⟩) ?_
                                                        refine s_pu (d := some 257) (v := (Sl.v l1)) rfl rfl (wants_yes rfl rfl rfl rfl g170) (r_move rfl) ?_
                                                        refine s_pu (d := some 258) (v := (.int .i64 i2)) rfl rfl (wants_yes rfl rfl rfl rfl g170) (r_move rfl) ?_
                                                        refine s_pu (d := some 259) (v := (.int .i64 j3)) rfl rfl (wants_yes rfl rfl rfl rfl g170) (r_move rfl) ?_
                                                        obtain ⟨e182, e183, e184, e185, H⟩ := H
                                                        obtain ⟨s181, e186⟩ : ∃ t : Sl, t = ⟨sliceA l1.a (Int.toNat ((l1.cap : Int))) (Int.toNat i2) 1, Int.toNat j3 - Int.toNat i2, Int.toNat ((l1.cap : Int)) - Int.toNat i2⟩ := ⟨_, rfl⟩
                                                        have H := H s181 e186
                                                        refine s_pu (d := some 260) (v := (Sl.v s181)) rfl rfl (wants_yes rfl rfl rfl rfl g170) (fun w => (r_slice (lo := (.some (.tmp 258))) (hi := (.some (.tmp 259))) (mx := .none) Try.underlying22 Try.sizeOf3 rfl ((l1.cap : Int)) j3 i2 rfl ⟨_, rfl⟩ ⟨_, rfl⟩ e182 e183 (.inr e184) e185 w).trans (by rw [e186]; rfl)) ?_
                                                        refine s_ef (d := some 261) rfl rfl (wants_yes rfl rfl rfl rfl g170) (fun dr => r_call Try.call15 rfl rfl H) ?_ trivial
                                                        rintro _ h19 ⟨y187, y188, y189, y190, y191, rfl, H⟩
                                                        obtain ⟨e192, H⟩ := H
                                                        obtain ⟨e193, H⟩ := H
                                                        obtain ⟨e194, H⟩ := H
                                                        obtain ⟨e195, H⟩ := H
                                                        obtain ⟨e196, H⟩ := H
                                                        refine ⟨⟨(.inl ⟨(wants_yes rfl rfl rfl rfl g170), fun dr => r_loadN Try.isAgg40 Try.sizeOf40 (vs := [(.int .i64 x171), (.int .i64 x173), (.int .i64 x175), (.int .i64 x177), (.int .i64 x179)]) rfl rfl ⟨e192, e193, e194, e195, e196, trivial⟩⟩), trivial, trivial, trivial, trivial⟩, ?_⟩
                                                        refine s_pu (d := some 262) (v := (.bool (decide (x171 = y187 ∧ x173 = y188 ∧ x175 = y189 ∧ x177 = y190 ∧ x179 = y191)))) rfl rfl (wants_yes rfl rfl rfl rfl g170) (r_eqlAgg_Try40 rfl rfl) ?_
                                                        refine s_pu (d := some 263) (v := (.bool (decide (x171 = y187 ∧ x173 = y188 ∧ x175 = y189 ∧ x177 = y190 ∧ x179 = y191)))) rfl rfl rfl (r_pick1 rfl g170 rfl) ?_
                                                        obtain ⟨x197, e198⟩ : ∃ x : Bool, x = (decide (x171 = y187 ∧ x173 = y188 ∧ x175 = y189 ∧ x177 = y190 ∧ x179 = y191)) := ⟨_, rfl⟩
                                                        have H := H x197 e198
                                                        refine s_pu (d := some 6) (v := (.bool x197)) rfl rfl rfl (r_assign (congrArg Value.bool e198.symm)) ?_
                                                        refine s_fin ?_
                                                        exact N_mk (l := [(6, (.bool x197))]) H ⟨rfl, trivial⟩
                                                      · have H := H.2 g170
                                                        refine s_skd (d := some 256) rfl rfl (wants_no rfl rfl rfl rfl g170) ?_
                                                        refine s_sk (d := some 257) rfl rfl (wants_no rfl rfl rfl rfl g170) ?_
                                                        refine s_sk (d := some 258) rfl rfl (wants_no rfl rfl rfl rfl g170) ?_
                                                        refine s_sk (d := some 259) rfl rfl (wants_no rfl rfl rfl rfl g170) ?_
                                                        refine s_sk (d := some 260) rfl rfl (wants_no rfl rfl rfl rfl g170) ?_
                                                        refine s_skf (d := some 261) rfl rfl (wants_no rfl rfl rfl rfl g170) ⟨(.inr ⟨wants_no rfl rfl rfl rfl g170, rfl⟩), trivial, trivial, trivial, trivial⟩ ?_ trivial
                                                        refine s_sk (d := some 262) rfl rfl (wants_no rfl rfl rfl rfl g170) ?_
                                                        refine s_pu (d := some 263) (v := (.bool false)) rfl rfl rfl (r_pick0 rfl g170 rfl) ?_
                                                        refine s_pu (d := some 6) (v := (.bool false)) rfl rfl rfl (r_assign rfl) ?_
                                                        refine s_fin ?_
                                                        exact N_mk (l := [(6, (.bool false))]) H ⟨rfl, trivial⟩
                                                    · have H := H.2 g161
                                                      refine s_sk (d := some 248) rfl rfl (wants_no rfl rfl rfl rfl g161) ?_
                                                      refine s_sk (d := some 249) rfl rfl (wants_no rfl rfl rfl rfl g161) ?_
                                                      refine s_sk (d := some 250) rfl rfl (wants_no rfl rfl rfl rfl g161) ?_
                                                      refine s_skd (d := some 251) rfl rfl (wants_no rfl rfl rfl rfl g161) ?_
                                                      refine s_sk (d := some 252) rfl rfl (wants_no rfl rfl rfl rfl g161) ?_
                                                      refine s_sk (d := some 253) rfl rfl (wants_no rfl rfl rfl rfl g161) ?_
                                                      refine s_pu (d := some 254) (v := (.bool false)) rfl rfl rfl (r_pick0 rfl g161 rfl) ?_
                                                      refine s_pu (d := some 255) (v := (.bool false)) rfl rfl rfl (r_move rfl) ?_
                                                      refine s_skd (d := some 256) rfl rfl (wants_no rfl rfl rfl rfl rfl) ?_
                                                      refine s_sk (d := some 257) rfl rfl (wants_no rfl rfl rfl rfl rfl) ?_
                                                      refine s_sk (d := some 258) rfl rfl (wants_no rfl rfl rfl rfl rfl) ?_
                                                      refine s_sk (d := some 259) rfl rfl (wants_no rfl rfl rfl rfl rfl) ?_
                                                      refine s_sk (d := some 260) rfl rfl (wants_no rfl rfl rfl rfl rfl) ?_
                                                      refine s_skf (d := some 261) rfl rfl (wants_no rfl rfl rfl rfl rfl) ⟨(.inr ⟨wants_no rfl rfl rfl rfl rfl, rfl⟩), trivial, trivial, trivial, trivial⟩ ?_ trivial
                                                      refine s_sk (d := some 262) rfl rfl (wants_no rfl rfl rfl rfl rfl) ?_
                                                      refine s_pu (d := some 263) (v := (.bool false)) rfl rfl rfl (r_pick0 rfl rfl rfl) ?_
                                                      refine s_pu (d := some 6) (v := (.bool false)) rfl rfl rfl (r_assign rfl) ?_
                                                      refine s_fin ?_
                                                      exact N_mk (l := [(6, (.bool false))]) H ⟨rfl, trivial⟩
                                                  · have H := H.2 g158
                                                    refine s_sk (d := some 242) rfl rfl (wants_no rfl rfl rfl rfl g158) ?_
                                                    refine s_skd (d := some 243) rfl rfl (wants_no rfl rfl rfl rfl g158) ?_
                                                    refine s_sk (d := some 244) rfl rfl (wants_no rfl rfl rfl rfl g158) ?_
                                                    refine s_sk (d := some 245) rfl rfl (wants_no rfl rfl rfl rfl g158) ?_
                                                    refine s_pu (d := some 246) (v := (.bool false)) rfl rfl rfl (r_pick0 rfl g158 rfl) ?_
                                                    refine s_pu (d := some 247) (v := (.bool false)) rfl rfl rfl (r_move rfl) ?_
                                                    refine s_sk (d := some 248) rfl rfl (wants_no rfl rfl rfl rfl rfl) ?_
                                                    refine s_sk (d := some 249) rfl rfl (wants_no rfl rfl rfl rfl rfl) ?_
                                                    refine s_sk (d := some 250) rfl rfl (wants_no rfl rfl rfl rfl rfl) ?_
                                                    refine s_skd (d := some 251) rfl rfl (wants_no rfl rfl rfl rfl rfl) ?_
                                                    refine s_sk (d := some 252) rfl rfl (wants_no rfl rfl rfl rfl rfl) ?_
                                                    refine s_sk (d := some 253) rfl rfl (wants_no rfl rfl rfl rfl rfl) ?_
                                                    refine s_pu (d := some 254) (v := (.bool false)) rfl rfl rfl (r_pick0 rfl rfl rfl) ?_
                                                    refine s_pu (d := some 255) (v := (.bool false)) rfl rfl rfl (r_move rfl) ?_
                                                    refine s_skd (d := some 256) rfl rfl (wants_no rfl rfl rfl rfl rfl) ?_
                                                    refine s_sk (d := some 257) rfl rfl (wants_no rfl rfl rfl rfl rfl) ?_
                                                    refine s_sk (d := some 258) rfl rfl (wants_no rfl rfl rfl rfl rfl) ?_
                                                    refine s_sk (d := some 259) rfl rfl (wants_no rfl rfl rfl rfl rfl) ?_
                                                    refine s_sk (d := some 260) rfl rfl (wants_no rfl rfl rfl rfl rfl) ?_
                                                    refine s_skf (d := some 261) rfl rfl (wants_no rfl rfl rfl rfl rfl) ⟨(.inr ⟨wants_no rfl rfl rfl rfl rfl, rfl⟩), trivial, trivial, trivial, trivial⟩ ?_ trivial
                                                    refine s_sk (d := some 262) rfl rfl (wants_no rfl rfl rfl rfl rfl) ?_
                                                    refine s_pu (d := some 263) (v := (.bool false)) rfl rfl rfl (r_pick0 rfl rfl rfl) ?_
                                                    refine s_pu (d := some 6) (v := (.bool false)) rfl rfl rfl (r_assign rfl) ?_
                                                    refine s_fin ?_
                                                    exact N_mk (l := [(6, (.bool false))]) H ⟨rfl, trivial⟩
                                                · have H := H.2 g155
                                                  refine s_sk (d := some 236) rfl rfl (wants_no rfl rfl rfl rfl g155) ?_
                                                  refine s_sk (d := some 237) rfl rfl (wants_no rfl rfl rfl rfl g155) ?_
                                                  refine s_skd (d := some 238) rfl rfl (wants_no rfl rfl rfl rfl g155) ?_
                                                  refine s_sk (d := some 239) rfl rfl (wants_no rfl rfl rfl rfl g155) ?_
                                                  refine s_pu (d := some 240) (v := (.bool false)) rfl rfl rfl (r_pick0 rfl g155 rfl) ?_
                                                  refine s_pu (d := some 241) (v := (.bool false)) rfl rfl rfl (r_move rfl) ?_
                                                  refine s_sk (d := some 242) rfl rfl (wants_no rfl rfl rfl rfl rfl) ?_
                                                  refine s_skd (d := some 243) rfl rfl (wants_no rfl rfl rfl rfl rfl) ?_
                                                  refine s_sk (d := some 244) rfl rfl (wants_no rfl rfl rfl rfl rfl) ?_
                                                  refine s_sk (d := some 245) rfl rfl (wants_no rfl rfl rfl rfl rfl) ?_
                                                  refine s_pu (d := some 246) (v := (.bool false)) rfl rfl rfl (r_pick0 rfl rfl rfl) ?_
                                                  refine s_pu (d := some 247) (v := (.bool false)) rfl rfl rfl (r_move rfl) ?_
                                                  refine s_sk (d := some 248) rfl rfl (wants_no rfl rfl rfl rfl rfl) ?_
                                                  refine s_sk (d := some 249) rfl rfl (wants_no rfl rfl rfl rfl rfl) ?_
                                                  refine s_sk (d := some 250) rfl rfl (wants_no rfl rfl rfl rfl rfl) ?_
                                                  refine s_skd (d := some 251) rfl rfl (wants_no rfl rfl rfl rfl rfl) ?_
                                                  refine s_sk (d := some 252) rfl rfl (wants_no rfl rfl rfl rfl rfl) ?_
                                                  refine s_sk (d := some 253) rfl rfl (wants_no rfl rfl rfl rfl rfl) ?_
                                                  refine s_pu (d := some 254) (v := (.bool false)) rfl rfl rfl (r_pick0 rfl rfl rfl) ?_
                                                  refine s_pu (d := some 255) (v := (.bool false)) rfl rfl rfl (r_move rfl) ?_
                                                  refine s_skd (d := some 256) rfl rfl (wants_no rfl rfl rfl rfl rfl) ?_
                                                  refine s_sk (d := some 257) rfl rfl (wants_no rfl rfl rfl rfl rfl) ?_
                                                  refine s_sk (d := some 258) rfl rfl (wants_no rfl rfl rfl rfl rfl) ?_
                                                  refine s_sk (d := some 259) rfl rfl (wants_no rfl rfl rfl rfl rfl) ?_
                                                  refine s_sk (d := some 260) rfl rfl (wants_no rfl rfl rfl rfl rfl) ?_
                                                  refine s_skf (d := some 261) rfl rfl (wants_no rfl rfl rfl rfl rfl) ⟨(.inr ⟨wants_no rfl rfl rfl rfl rfl, rfl⟩), trivial, trivial, trivial, trivial⟩ ?_ trivial
                                                  refine s_sk (d := some 262) rfl rfl (wants_no rfl rfl rfl rfl rfl) ?_
                                                  refine s_pu (d := some 263) (v := (.bool false)) rfl rfl rfl (r_pick0 rfl rfl rfl) ?_
                                                  refine s_pu (d := some 6) (v := (.bool false)) rfl rfl rfl (r_assign rfl) ?_
                                                  refine s_fin ?_
                                                  exact N_mk (l := [(6, (.bool false))]) H ⟨rfl, trivial⟩
                                              · have H := H.2 g154
                                                refine s_sk (d := some 231) rfl rfl (wants_no rfl rfl rfl rfl g154) ?_
                                                refine s_sk (d := some 232) rfl rfl (wants_no rfl rfl rfl rfl g154) ?_
                                                refine s_sk (d := some 233) rfl rfl (wants_no rfl rfl rfl rfl g154) ?_
                                                refine s_pu (d := some 234) (v := (.bool false)) rfl rfl rfl (r_pick0 rfl g154 rfl) ?_
                                                refine s_pu (d := some 235) (v := (.bool false)) rfl rfl rfl (r_move rfl) ?_
                                                refine s_sk (d := some 236) rfl rfl (wants_no rfl rfl rfl rfl rfl) ?_
                                                refine s_sk (d := some 237) rfl rfl (wants_no rfl rfl rfl rfl rfl) ?_
                                                refine s_skd (d := some 238) rfl rfl (wants_no rfl rfl rfl rfl rfl) ?_
                                                refine s_sk (d := some 239) rfl rfl (wants_no rfl rfl rfl rfl rfl) ?_
                                                refine s_pu (d := some 240) (v := (.bool false)) rfl rfl rfl (r_pick0 rfl rfl rfl) ?_
                                                refine s_pu (d := some 241) (v := (.bool false)) rfl rfl rfl (r_move rfl) ?_
                                                refine s_sk (d := some 242) rfl rfl (wants_no rfl rfl rfl rfl rfl) ?_
                                                refine s_skd (d := some 243) rfl rfl (wants_no rfl rfl rfl rfl rfl) ?_
                                                refine s_sk (d := some 244) rfl rfl (wants_no rfl rfl rfl rfl rfl) ?_
                                                refine s_sk (d := some 245) rfl rfl (wants_no rfl rfl rfl rfl rfl) ?_
                                                refine s_pu (d := some 246) (v := (.bool false)) rfl rfl rfl (r_pick0 rfl rfl rfl) ?_
                                                refine s_pu (d := some 247) (v := (.bool false)) rfl rfl rfl (r_move rfl) ?_
                                                refine s_sk (d := some 248) rfl rfl (wants_no rfl rfl rfl rfl rfl) ?_
                                                refine s_sk (d := some 249) rfl rfl (wants_no rfl rfl rfl rfl rfl) ?_
                                                refine s_sk (d := some 250) rfl rfl (wants_no rfl rfl rfl rfl rfl) ?_
                                                refine s_skd (d := some 251) rfl rfl (wants_no rfl rfl rfl rfl rfl) ?_
                                                refine s_sk (d := some 252) rfl rfl (wants_no rfl rfl rfl rfl rfl) ?_
                                                refine s_sk (d := some 253) rfl rfl (wants_no rfl rfl rfl rfl rfl) ?_
                                                refine s_pu (d := some 254) (v := (.bool false)) rfl rfl rfl (r_pick0 rfl rfl rfl) ?_
                                                refine s_pu (d := some 255) (v := (.bool false)) rfl rfl rfl (r_move rfl) ?_
                                                refine s_skd (d := some 256) rfl rfl (wants_no rfl rfl rfl rfl rfl) ?_
                                                refine s_sk (d := some 257) rfl rfl (wants_no rfl rfl rfl rfl rfl) ?_
                                                refine s_sk (d := some 258) rfl rfl (wants_no rfl rfl rfl rfl rfl) ?_
                                                refine s_sk (d := some 259) rfl rfl (wants_no rfl rfl rfl rfl rfl) ?_
                                                refine s_sk (d := some 260) rfl rfl (wants_no rfl rfl rfl rfl rfl) ?_
                                                refine s_skf (d := some 261) rfl rfl (wants_no rfl rfl rfl rfl rfl) ⟨(.inr ⟨wants_no rfl rfl rfl rfl rfl, rfl⟩), trivial, trivial, trivial, trivial⟩ ?_ trivial
                                                refine s_sk (d := some 262) rfl rfl (wants_no rfl rfl rfl rfl rfl) ?_
                                                refine s_pu (d := some 263) (v := (.bool false)) rfl rfl rfl (r_pick0 rfl rfl rfl) ?_
                                                refine s_pu (d := some 6) (v := (.bool false)) rfl rfl rfl (r_assign rfl) ?_
                                                refine s_fin ?_
                                                exact N_mk (l := [(6, (.bool false))]) H ⟨rfl, trivial⟩
                                          · rcases Bool.eq_false_or_eq_true ((((((((!(isNil y92)) || (!(isNil y94))) || (!(isNil y96))) || (!(isNil y104))) || (!(isNil y118))) || (!(isNil y120))) || (!y111)) || (decide (y117 < i2))) with g148 | g148
                                            · refine s_sk (d := some 221) rfl rfl (wants_no rfl rfl rfl rfl g148) ?_
                                              refine s_sk (d := some 222) rfl rfl (wants_no rfl rfl rfl rfl g148) ?_
                                              refine s_sk (d := some 223) rfl rfl (wants_no rfl rfl rfl rfl g148) ?_
                                              refine s_pu (d := some 224) (v := (.bool true)) rfl rfl rfl (r_pick1 rfl g148 rfl) ?_
                                              exact S_mk (l := [(0, (Sl.v l1)), (1, (.int .i64 i2)), (2, (.int .i64 j3)), (16, (.int .i64 y91)), (18, (.int .i64 y93)), (20, (.int .i64 y95)), (22, (.int .i64 y103)), (24, (.pointer (some p112))), (26, (.int .i64 y117)), (28, (.int .i64 y119)), (224, (.bool (((((((((!(isNil y92)) || (!(isNil y94))) || (!(isNil y96))) || (!(isNil y104))) || (!(isNil y118))) || (!(isNil y120))) || (!y111)) || (decide (y117 < i2))) || (decide (j3 ≤ y117)))))]) HJ ⟨rfl, rfl, rfl, rfl, rfl, rfl, rfl, rfl, rfl, rfl, (by rw [g148]; rfl), trivial⟩
                                            · refine s_pu (d := some 221) (v := (.int .i64 y117)) rfl rfl (wants_yes rfl rfl rfl rfl g148) (r_move rfl) ?_
                                              refine s_pu (d := some 222) (v := (.int .i64 j3)) rfl rfl (wants_yes rfl rfl rfl rfl g148) (r_move rfl) ?_
                                              refine s_pu (d := some 223) (v := (.bool (decide (j3 ≤ y117)))) rfl rfl (wants_yes rfl rfl rfl rfl g148) (r_geq rfl rfl) ?_
                                              refine s_pu (d := some 224) (v := (.bool (decide (j3 ≤ y117)))) rfl rfl rfl (r_pick0 rfl g148 rfl) ?_
                                              exact S_mk (l := [(0, (Sl.v l1)), (1, (.int .i64 i2)), (2, (.int .i64 j3)), (16, (.int .i64 y91)), (18, (.int .i64 y93)), (20, (.int .i64 y95)), (22, (.int .i64 y103)), (24, (.pointer (some p112))), (26, (.int .i64 y117)), (28, (.int .i64 y119)), (224, (.bool (((((((((!(isNil y92)) || (!(isNil y94))) || (!(isNil y96))) || (!(isNil y104))) || (!(isNil y118))) || (!(isNil y120))) || (!y111)) || (decide (y117 < i2))) || (decide (j3 ≤ y117)))))]) HJ ⟨rfl, rfl, rfl, rfl, rfl, rfl, rfl, rfl, rfl, rfl, (by rw [g148]; rfl), trivial⟩
                                        · rcases Bool.eq_false_or_eq_true (((((((!(isNil y92)) || (!(isNil y94))) || (!(isNil y96))) || (!(isNil y104))) || (!(isNil y118))) || (!(isNil y120))) || (!y111)) with g145 | g145
                                          · refine s_sk (d := some 216) rfl rfl (wants_no rfl rfl rfl rfl g145) ?_
                                            refine s_sk (d := some 217) rfl rfl (wants_no rfl rfl rfl rfl g145) ?_
                                            refine s_sk (d := some 218) rfl rfl (wants_no rfl rfl rfl rfl g145) ?_
                                            refine s_pu (d := some 219) (v := (.bool true)) rfl rfl rfl (r_pick1 rfl g145 rfl) ?_
                                            exact S_mk (l := [(0, (Sl.v l1)), (1, (.int .i64 i2)), (2, (.int .i64 j3)), (16, (.int .i64 y91)), (18, (.int .i64 y93)), (20, (.int .i64 y95)), (22, (.int .i64 y103)), (24, (.pointer (some p112))), (26, (.int .i64 y117)), (28, (.int .i64 y119)), (219, (.bool ((((((((!(isNil y92)) || (!(isNil y94))) || (!(isNil y96))) || (!(isNil y104))) || (!(isNil y118))) || (!(isNil y120))) || (!y111)) || (decide (y117 < i2)))))]) HJ ⟨rfl, rfl, rfl, rfl, rfl, rfl, rfl, rfl, rfl, rfl, (by rw [g145]; rfl), trivial⟩
                                          · refine s_pu (d := some 216) (v := (.int .i64 y117)) rfl rfl (wants_yes rfl rfl rfl rfl g145) (r_move rfl) ?_
                                            refine s_pu (d := some 217) (v := (.int .i64 i2)) rfl rfl (wants_yes rfl rfl rfl rfl g145) (r_move rfl) ?_
                                            refine s_pu (d := some 218) (v := (.bool (decide (y117 < i2)))) rfl rfl (wants_yes rfl rfl rfl rfl g145) (r_lss rfl rfl) ?_
                                            refine s_pu (d := some 219) (v := (.bool (decide (y117 < i2)))) rfl rfl rfl (r_pick0 rfl g145 rfl) ?_
                                            exact S_mk (l := [(0, (Sl.v l1)), (1, (.int .i64 i2)), (2, (.int .i64 j3)), (16, (.int .i64 y91)), (18, (.int .i64 y93)), (20, (.int .i64 y95)), (22, (.int .i64 y103)), (24, (.pointer (some p112))), (26, (.int .i64 y117)), (28, (.int .i64 y119)), (219, (.bool ((((((((!(isNil y92)) || (!(isNil y94))) || (!(isNil y96))) || (!(isNil y104))) || (!(isNil y118))) || (!(isNil y120))) || (!y111)) || (decide (y117 < i2)))))]) HJ ⟨rfl, rfl, rfl, rfl, rfl, rfl, rfl, rfl, rfl, rfl, (by rw [g145]; rfl), trivial⟩
                                      · rcases Bool.eq_false_or_eq_true ((((((!(isNil y92)) || (!(isNil y94))) || (!(isNil y96))) || (!(isNil y104))) || (!(isNil y118))) || (!(isNil y120))) with g142 | g142
                                        · refine s_sk (d := some 212) rfl rfl (wants_no rfl rfl rfl rfl g142) ?_
                                          refine s_sk (d := some 213) rfl rfl (wants_no rfl rfl rfl rfl g142) ?_
                                          refine s_pu (d := some 214) (v := (.bool true)) rfl rfl rfl (r_pick1 rfl g142 rfl) ?_
                                          exact S_mk (l := [(0, (Sl.v l1)), (1, (.int .i64 i2)), (2, (.int .i64 j3)), (16, (.int .i64 y91)), (18, (.int .i64 y93)), (20, (.int .i64 y95)), (22, (.int .i64 y103)), (24, (.pointer (some p112))), (26, (.int .i64 y117)), (28, (.int .i64 y119)), (214, (.bool (((((((!(isNil y92)) || (!(isNil y94))) || (!(isNil y96))) || (!(isNil y104))) || (!(isNil y118))) || (!(isNil y120))) || (!y111))))]) HJ ⟨rfl, rfl, rfl, rfl, rfl, rfl, rfl, rfl, rfl, rfl, (by rw [g142]; rfl), trivial⟩
                                        · refine s_pu (d := some 212) (v := (.bool y111)) rfl rfl (wants_yes rfl rfl rfl rfl g142) (r_move rfl) ?_
                                          refine s_pu (d := some 213) (v := (.bool (!y111))) rfl rfl (wants_yes rfl rfl rfl rfl g142) (r_not rfl) ?_
                                          refine s_pu (d := some 214) (v := (.bool (!y111))) rfl rfl rfl (r_pick0 rfl g142 rfl) ?_
                                          exact S_mk (l := [(0, (Sl.v l1)), (1, (.int .i64 i2)), (2, (.int .i64 j3)), (16, (.int .i64 y91)), (18, (.int .i64 y93)), (20, (.int .i64 y95)), (22, (.int .i64 y103)), (24, (.pointer (some p112))), (26, (.int .i64 y117)), (28, (.int .i64 y119)), (214, (.bool (((((((!(isNil y92)) || (!(isNil y94))) || (!(isNil y96))) || (!(isNil y104))) || (!(isNil y118))) || (!(isNil y120))) || (!y111))))]) HJ ⟨rfl, rfl, rfl, rfl, rfl, rfl, rfl, rfl, rfl, rfl, (by rw [g142]; rfl), trivial⟩
                                    · rcases Bool.eq_false_or_eq_true (((((!(isNil y92)) || (!(isNil y94))) || (!(isNil y96))) || (!(isNil y104))) || (!(isNil y118))) with g138 | g138
                                      · refine s_sk (d := some 208) rfl rfl (wants_no rfl rfl rfl rfl g138) ?_
                                        refine s_sk (d := some 209) rfl rfl (wants_no rfl rfl rfl rfl g138) ?_
                                        refine s_pu (d := some 210) (v := (.bool true)) rfl rfl rfl (r_pick1 rfl g138 rfl) ?_
                                        exact S_mk (l := [(0, (Sl.v l1)), (1, (.int .i64 i2)), (2, (.int .i64 j3)), (16, (.int .i64 y91)), (18, (.int .i64 y93)), (20, (.int .i64 y95)), (22, (.int .i64 y103)), (24, (.pointer (some p112))), (25, (.bool y111)), (26, (.int .i64 y117)), (28, (.int .i64 y119)), (210, (.bool ((((((!(isNil y92)) || (!(isNil y94))) || (!(isNil y96))) || (!(isNil y104))) || (!(isNil y118))) || (!(isNil y120)))))]) HJ ⟨rfl, rfl, rfl, rfl, rfl, rfl, rfl, rfl, rfl, rfl, rfl, (by rw [g138]; rfl), trivial⟩
                                      · refine s_pu (d := some 208) (v := y120) rfl rfl (wants_yes rfl rfl rfl rfl g138) (r_move rfl) ?_
                                        refine s_pu (d := some 209) (v := (.bool (!(isNil y120)))) rfl rfl (wants_yes rfl rfl rfl rfl g138) (r_notNilI Try.underlying25 rfl e139 rfl) ?_
                                        refine s_pu (d := some 210) (v := (.bool (!(isNil y120)))) rfl rfl rfl (r_pick0 rfl g138 rfl) ?_
                                        exact S_mk (l := [(0, (Sl.v l1)), (1, (.int .i64 i2)), (2, (.int .i64 j3)), (16, (.int .i64 y91)), (18, (.int .i64 y93)), (20, (.int .i64 y95)), (22, (.int .i64 y103)), (24, (.pointer (some p112))), (25, (.bool y111)), (26, (.int .i64 y117)), (28, (.int .i64 y119)), (210, (.bool ((((((!(isNil y92)) || (!(isNil y94))) || (!(isNil y96))) || (!(isNil y104))) || (!(isNil y118))) || (!(isNil y120)))))]) HJ ⟨rfl, rfl, rfl, rfl, rfl, rfl, rfl, rfl, rfl, rfl, rfl, (by rw [g138]; rfl), trivial⟩
                                  · rcases Bool.eq_false_or_eq_true ((((!(isNil y92)) || (!(isNil y94))) || (!(isNil y96))) || (!(isNil y104))) with g134 | g134
                                    · refine s_sk (d := some 204) rfl rfl (wants_no rfl rfl rfl rfl g134) ?_
                                      refine s_sk (d := some 205) rfl rfl (wants_no rfl rfl rfl rfl g134) ?_
                                      refine s_pu (d := some 206) (v := (.bool true)) rfl rfl rfl (r_pick1 rfl g134 rfl) ?_
                                      exact S_mk (l := [(0, (Sl.v l1)), (1, (.int .i64 i2)), (2, (.int .i64 j3)), (16, (.int .i64 y91)), (18, (.int .i64 y93)), (20, (.int .i64 y95)), (22, (.int .i64 y103)), (24, (.pointer (some p112))), (25, (.bool y111)), (26, (.int .i64 y117)), (28, (.int .i64 y119)), (29, y120), (206, (.bool (((((!(isNil y92)) || (!(isNil y94))) || (!(isNil y96))) || (!(isNil y104))) || (!(isNil y118)))))]) HJ ⟨rfl, rfl, rfl, rfl, rfl, rfl, rfl, rfl, rfl, rfl, rfl, rfl, (by rw [g134]; rfl), trivial⟩
                                    · refine s_pu (d := some 204) (v := y118) rfl rfl (wants_yes rfl rfl rfl rfl g134) (r_move rfl) ?_
                                      refine s_pu (d := some 205) (v := (.bool (!(isNil y118)))) rfl rfl (wants_yes rfl rfl rfl rfl g134) (r_notNilI Try.underlying25 rfl e135 rfl) ?_
                                      refine s_pu (d := some 206) (v := (.bool (!(isNil y118)))) rfl rfl rfl (r_pick0 rfl g134 rfl) ?_
                                      exact S_mk (l := [(0, (Sl.v l1)), (1, (.int .i64 i2)), (2, (.int .i64 j3)), (16, (.int .i64 y91)), (18, (.int .i64 y93)), (20, (.int .i64 y95)), (22, (.int .i64 y103)), (24, (.pointer (some p112))), (25, (.bool y111)), (26, (.int .i64 y117)), (28, (.int .i64 y119)), (29, y120), (206, (.bool (((((!(isNil y92)) || (!(isNil y94))) || (!(isNil y96))) || (!(isNil y104))) || (!(isNil y118)))))]) HJ ⟨rfl, rfl, rfl, rfl, rfl, rfl, rfl, rfl, rfl, rfl, rfl, rfl, (by rw [g134]; rfl), trivial⟩
                                · rcases Bool.eq_false_or_eq_true (((!(isNil y92)) || (!(isNil y94))) || (!(isNil y96))) with g130 | g130
                                  · refine s_sk (d := some 200) rfl rfl (wants_no rfl rfl rfl rfl g130) ?_
                                    refine s_sk (d := some 201) rfl rfl (wants_no rfl rfl rfl rfl g130) ?_
                                    refine s_pu (d := some 202) (v := (.bool true)) rfl rfl rfl (r_pick1 rfl g130 rfl) ?_
                                    exact S_mk (l := [(0, (Sl.v l1)), (1, (.int .i64 i2)), (2, (.int .i64 j3)), (16, (.int .i64 y91)), (18, (.int .i64 y93)), (20, (.int .i64 y95)), (22, (.int .i64 y103)), (24, (.pointer (some p112))), (25, (.bool y111)), (26, (.int .i64 y117)), (27, y118), (28, (.int .i64 y119)), (29, y120), (202, (.bool ((((!(isNil y92)) || (!(isNil y94))) || (!(isNil y96))) || (!(isNil y104)))))]) HJ ⟨rfl, rfl, rfl, rfl, rfl, rfl, rfl, rfl, rfl, rfl, rfl, rfl, rfl, (by rw [g130]; rfl), trivial⟩
                                  · refine s_pu (d := some 200) (v := y104) rfl rfl (wants_yes rfl rfl rfl rfl g130) (r_move rfl) ?_
                                    refine s_pu (d := some 201) (v := (.bool (!(isNil y104)))) rfl rfl (wants_yes rfl rfl rfl rfl g130) (r_notNilI Try.underlying25 rfl e131 rfl) ?_
                                    refine s_pu (d := some 202) (v := (.bool (!(isNil y104)))) rfl rfl rfl (r_pick0 rfl g130 rfl) ?_
                                    exact S_mk (l := [(0, (Sl.v l1)), (1, (.int .i64 i2)), (2, (.int .i64 j3)), (16, (.int .i64 y91)), (18, (.int .i64 y93)), (20, (.int .i64 y95)), (22, (.int .i64 y103)), (24, (.pointer (some p112))), (25, (.bool y111)), (26, (.int .i64 y117)), (27, y118), (28, (.int .i64 y119)), (29, y120), (202, (.bool ((((!(isNil y92)) || (!(isNil y94))) || (!(isNil y96))) || (!(isNil y104)))))]) HJ ⟨rfl, rfl, rfl, rfl, rfl, rfl, rfl, rfl, rfl, rfl, rfl, rfl, rfl, (by rw [g130]; rfl), trivial⟩
                              · rcases Bool.eq_false_or_eq_true ((!(isNil y92)) || (!(isNil y94))) with g126 | g126
                                · refine s_sk (d := some 196) rfl rfl (wants_no rfl rfl rfl rfl g126) ?_
                                  refine s_sk (d := some 197) rfl rfl (wants_no rfl rfl rfl rfl g126) ?_
                                  refine s_pu (d := some 198) (v := (.bool true)) rfl rfl rfl (r_pick1 rfl g126 rfl) ?_
                                  exact S_mk (l := [(0, (Sl.v l1)), (1, (.int .i64 i2)), (2, (.int .i64 j3)), (16, (.int .i64 y91)), (18, (.int .i64 y93)), (20, (.int .i64 y95)), (22, (.int .i64 y103)), (23, y104), (24, (.pointer (some p112))), (25, (.bool y111)), (26, (.int .i64 y117)), (27, y118), (28, (.int .i64 y119)), (29, y120), (198, (.bool (((!(isNil y92)) || (!(isNil y94))) || (!(isNil y96)))))]) HJ ⟨rfl, rfl, rfl, rfl, rfl, rfl, rfl, rfl, rfl, rfl, rfl, rfl, rfl, rfl, (by rw [g126]; rfl), trivial⟩
                                · refine s_pu (d := some 196) (v := y96) rfl rfl (wants_yes rfl rfl rfl rfl g126) (r_move rfl) ?_
                                  refine s_pu (d := some 197) (v := (.bool (!(isNil y96)))) rfl rfl (wants_yes rfl rfl rfl rfl g126) (r_notNilI Try.underlying25 rfl e127 rfl) ?_
                                  refine s_pu (d := some 198) (v := (.bool (!(isNil y96)))) rfl rfl rfl (r_pick0 rfl g126 rfl) ?_
                                  exact S_mk (l := [(0, (Sl.v l1)), (1, (.int .i64 i2)), (2, (.int .i64 j3)), (16, (.int .i64 y91)), (18, (.int .i64 y93)), (20, (.int .i64 y95)), (22, (.int .i64 y103)), (23, y104), (24, (.pointer (some p112))), (25, (.bool y111)), (26, (.int .i64 y117)), (27, y118), (28, (.int .i64 y119)), (29, y120), (198, (.bool (((!(isNil y92)) || (!(isNil y94))) || (!(isNil y96)))))]) HJ ⟨rfl, rfl, rfl, rfl, rfl, rfl, rfl, rfl, rfl, rfl, rfl, rfl, rfl, rfl, (by rw [g126]; rfl), trivial⟩
                            · rcases Bool.eq_false_or_eq_true (!(isNil y92)) with g122 | g122
                              · refine s_sk (d := some 192) rfl rfl (wants_no rfl rfl rfl rfl g122) ?_
                                refine s_sk (d := some 193) rfl rfl (wants_no rfl rfl rfl rfl g122) ?_
                                refine s_pu (d := some 194) (v := (.bool true)) rfl rfl rfl (r_pick1 rfl g122 rfl) ?_
                                exact S_mk (l := [(0, (Sl.v l1)), (1, (.int .i64 i2)), (2, (.int .i64 j3)), (16, (.int .i64 y91)), (18, (.int .i64 y93)), (20, (.int .i64 y95)), (21, y96), (22, (.int .i64 y103)), (23, y104), (24, (.pointer (some p112))), (25, (.bool y111)), (26, (.int .i64 y117)), (27, y118), (28, (.int .i64 y119)), (29, y120), (194, (.bool ((!(isNil y92)) || (!(isNil y94)))))]) HJ ⟨rfl, rfl, rfl, rfl, rfl, rfl, rfl, rfl, rfl, rfl, rfl, rfl, rfl, rfl, rfl, (by rw [g122]; rfl), trivial⟩
                              · refine s_pu (d := some 192) (v := y94) rfl rfl (wants_yes rfl rfl rfl rfl g122) (r_move rfl) ?_
                                refine s_pu (d := some 193) (v := (.bool (!(isNil y94)))) rfl rfl (wants_yes rfl rfl rfl rfl g122) (r_notNilI Try.underlying25 rfl e123 rfl) ?_
                                refine s_pu (d := some 194) (v := (.bool (!(isNil y94)))) rfl rfl rfl (r_pick0 rfl g122 rfl) ?_
                                exact S_mk (l := [(0, (Sl.v l1)), (1, (.int .i64 i2)), (2, (.int .i64 j3)), (16, (.int .i64 y91)), (18, (.int .i64 y93)), (20, (.int .i64 y95)), (21, y96), (22, (.int .i64 y103)), (23, y104), (24, (.pointer (some p112))), (25, (.bool y111)), (26, (.int .i64 y117)), (27, y118), (28, (.int .i64 y119)), (29, y120), (194, (.bool ((!(isNil y92)) || (!(isNil y94)))))]) HJ ⟨rfl, rfl, rfl, rfl, rfl, rfl, rfl, rfl, rfl, rfl, rfl, rfl, rfl, rfl, rfl, (by rw [g122]; rfl), trivial⟩
                      · rcases Bool.eq_false_or_eq_true (((((((((!(isNil y5)) || (!(isNil y7))) || (!(isNil y9))) || (Option.isNone y4)) || (Option.isNone y6)) || (Option.isNone y8)) || (decide (200 < ((l1.len : Int))))) || (decide (i2 < 0))) || (decide (j3 ≤ i2))) with g46 | g46
                        · refine s_sk (d := some 94) rfl rfl (wants_no rfl rfl rfl rfl g46) ?_
                          refine s_sk (d := some 95) rfl rfl (wants_no rfl rfl rfl rfl g46) ?_
                          refine s_sk (d := some 96) rfl rfl (wants_no rfl rfl rfl rfl g46) ?_
                          refine s_sk (d := some 97) rfl rfl (wants_no rfl rfl rfl rfl g46) ?_
                          refine s_pu (d := some 98) (v := (.bool true)) rfl rfl rfl (r_pick1 rfl g46 rfl) ?_
                          exact S_mk (l := [(0, (Sl.v l1)), (1, (.int .i64 i2)), (2, (.int .i64 j3)), (7, (.pointer y4)), (9, (.pointer y6)), (11, (.pointer y8)), (98, (.bool ((((((((((!(isNil y5)) || (!(isNil y7))) || (!(isNil y9))) || (Option.isNone y4)) || (Option.isNone y6)) || (Option.isNone y8)) || (decide (200 < ((l1.len : Int))))) || (decide (i2 < 0))) || (decide (j3 ≤ i2))) || (decide (((l1.len : Int)) < j3)))))]) HJ ⟨rfl, rfl, rfl, rfl, rfl, rfl, (by rw [g46]; rfl), trivial⟩
                        · refine s_pu (d := some 94) (v := (.int .i64 j3)) rfl rfl (wants_yes rfl rfl rfl rfl g46) (r_move rfl) ?_
                          refine s_pu (d := some 95) (v := (Sl.v l1)) rfl rfl (wants_yes rfl rfl rfl rfl g46) (r_move rfl) ?_
                          refine s_pu (d := some 96) (v := (.int .i64 ((l1.len : Int)))) rfl rfl (wants_yes rfl rfl rfl rfl g46) (r_len Try.underlying22 rfl) ?_
                          refine s_pu (d := some 97) (v := (.bool (decide (((l1.len : Int)) < j3)))) rfl rfl (wants_yes rfl rfl rfl rfl g46) (r_gtr rfl rfl) ?_
                          refine s_pu (d := some 98) (v := (.bool (decide (((l1.len : Int)) < j3)))) rfl rfl rfl (r_pick0 rfl g46 rfl) ?_
                          exact S_mk (l := [(0, (Sl.v l1)), (1, (.int .i64 i2)), (2, (.int .i64 j3)), (7, (.pointer y4)), (9, (.pointer y6)), (11, (.pointer y8)), (98, (.bool ((((((((((!(isNil y5)) || (!(isNil y7))) || (!(isNil y9))) || (Option.isNone y4)) || (Option.isNone y6)) || (Option.isNone y8)) || (decide (200 < ((l1.len : Int))))) || (decide (i2 < 0))) || (decide (j3 ≤ i2))) || (decide (((l1.len : Int)) < j3)))))]) HJ ⟨rfl, rfl, rfl, rfl, rfl, rfl, (by rw [g46]; rfl), trivial⟩
                    · rcases Bool.eq_false_or_eq_true ((((((((!(isNil y5)) || (!(isNil y7))) || (!(isNil y9))) || (Option.isNone y4)) || (Option.isNone y6)) || (Option.isNone y8)) || (decide (200 < ((l1.len : Int))))) || (decide (i2 < 0))) with g43 | g43
                      · refine s_sk (d := some 89) rfl rfl (wants_no rfl rfl rfl rfl g43) ?_
                        refine s_sk (d := some 90) rfl rfl (wants_no rfl rfl rfl rfl g43) ?_
                        refine s_sk (d := some 91) rfl rfl (wants_no rfl rfl rfl rfl g43) ?_
                        refine s_pu (d := some 92) (v := (.bool true)) rfl rfl rfl (r_pick1 rfl g43 rfl) ?_
                        exact S_mk (l := [(0, (Sl.v l1)), (1, (.int .i64 i2)), (2, (.int .i64 j3)), (7, (.pointer y4)), (9, (.pointer y6)), (11, (.pointer y8)), (92, (.bool (((((((((!(isNil y5)) || (!(isNil y7))) || (!(isNil y9))) || (Option.isNone y4)) || (Option.isNone y6)) || (Option.isNone y8)) || (decide (200 < ((l1.len : Int))))) || (decide (i2 < 0))) || (decide (j3 ≤ i2)))))]) HJ ⟨rfl, rfl, rfl, rfl, rfl, rfl, (by rw [g43]; rfl), trivial⟩
                      · refine s_pu (d := some 89) (v := (.int .i64 i2)) rfl rfl (wants_yes rfl rfl rfl rfl g43) (r_move rfl) ?_
                        refine s_pu (d := some 90) (v := (.int .i64 j3)) rfl rfl (wants_yes rfl rfl rfl rfl g43) (r_move rfl) ?_
                        refine s_pu (d := some 91) (v := (.bool (decide (j3 ≤ i2)))) rfl rfl (wants_yes rfl rfl rfl rfl g43) (r_geq rfl rfl) ?_
                        refine s_pu (d := some 92) (v := (.bool (decide (j3 ≤ i2)))) rfl rfl rfl (r_pick0 rfl g43 rfl) ?_
                        exact S_mk (l := [(0, (Sl.v l1)), (1, (.int .i64 i2)), (2, (.int .i64 j3)), (7, (.pointer y4)), (9, (.pointer y6)), (11, (.pointer y8)), (92, (.bool (((((((((!(isNil y5)) || (!(isNil y7))) || (!(isNil y9))) || (Option.isNone y4)) || (Option.isNone y6)) || (Option.isNone y8)) || (decide (200 < ((l1.len : Int))))) || (decide (i2 < 0))) || (decide (j3 ≤ i2)))))]) HJ ⟨rfl, rfl, rfl, rfl, rfl, rfl, (by rw [g43]; rfl), trivial⟩
                  · rcases Bool.eq_false_or_eq_true (((((((!(isNil y5)) || (!(isNil y7))) || (!(isNil y9))) || (Option.isNone y4)) || (Option.isNone y6)) || (Option.isNone y8)) || (decide (200 < ((l1.len : Int))))) with g40 | g40
                    · refine s_sk (d := some 85) rfl rfl (wants_no rfl rfl rfl rfl g40) ?_
                      refine s_sk (d := some 86) rfl rfl (wants_no rfl rfl rfl rfl g40) ?_
                      refine s_pu (d := some 87) (v := (.bool true)) rfl rfl rfl (r_pick1 rfl g40 rfl) ?_
                      exact S_mk (l := [(0, (Sl.v l1)), (1, (.int .i64 i2)), (2, (.int .i64 j3)), (7, (.pointer y4)), (9, (.pointer y6)), (11, (.pointer y8)), (87, (.bool ((((((((!(isNil y5)) || (!(isNil y7))) || (!(isNil y9))) || (Option.isNone y4)) || (Option.isNone y6)) || (Option.isNone y8)) || (decide (200 < ((l1.len : Int))))) || (decide (i2 < 0)))))]) HJ ⟨rfl, rfl, rfl, rfl, rfl, rfl, (by rw [g40]; rfl), trivial⟩
                    · refine s_pu (d := some 85) (v := (.int .i64 i2)) rfl rfl (wants_yes rfl rfl rfl rfl g40) (r_move rfl) ?_
                      refine s_pu (d := some 86) (v := (.bool (decide (i2 < 0)))) rfl rfl (wants_yes rfl rfl rfl rfl g40) (r_lss rfl rfl) ?_
                      refine s_pu (d := some 87) (v := (.bool (decide (i2 < 0)))) rfl rfl rfl (r_pick0 rfl g40 rfl) ?_
                      exact S_mk (l := [(0, (Sl.v l1)), (1, (.int .i64 i2)), (2, (.int .i64 j3)), (7, (.pointer y4)), (9, (.pointer y6)), (11, (.pointer y8)), (87, (.bool ((((((((!(isNil y5)) || (!(isNil y7))) || (!(isNil y9))) || (Option.isNone y4)) || (Option.isNone y6)) || (Option.isNone y8)) || (decide (200 < ((l1.len : Int))))) || (decide (i2 < 0)))))]) HJ ⟨rfl, rfl, rfl, rfl, rfl, rfl, (by rw [g40]; rfl), trivial⟩
                · rcases Bool.eq_false_or_eq_true ((((((!(isNil y5)) || (!(isNil y7))) || (!(isNil y9))) || (Option.isNone y4)) || (Option.isNone y6)) || (Option.isNone y8)) with g37 | g37
                  · refine s_sk (d := some 80) rfl rfl (wants_no rfl rfl rfl rfl g37) ?_
                    refine s_sk (d := some 81) rfl rfl (wants_no rfl rfl rfl rfl g37) ?_
                    refine s_sk (d := some 82) rfl rfl (wants_no rfl rfl rfl rfl g37) ?_
                    refine s_pu (d := some 83) (v := (.bool true)) rfl rfl rfl (r_pick1 rfl g37 rfl) ?_
                    exact S_mk (l := [(0, (Sl.v l1)), (1, (.int .i64 i2)), (2, (.int .i64 j3)), (7, (.pointer y4)), (9, (.pointer y6)), (11, (.pointer y8)), (83, (.bool (((((((!(isNil y5)) || (!(isNil y7))) || (!(isNil y9))) || (Option.isNone y4)) || (Option.isNone y6)) || (Option.isNone y8)) || (decide (200 < ((l1.len : Int)))))))]) HJ ⟨rfl, rfl, rfl, rfl, rfl, rfl, (by rw [g37]; rfl), trivial⟩
                  · refine s_pu (d := some 80) (v := (Sl.v l1)) rfl rfl (wants_yes rfl rfl rfl rfl g37) (r_move rfl) ?_
                    refine s_pu (d := some 81) (v := (.int .i64 ((l1.len : Int)))) rfl rfl (wants_yes rfl rfl rfl rfl g37) (r_len Try.underlying22 rfl) ?_
                    refine s_pu (d := some 82) (v := (.bool (decide (200 < ((l1.len : Int)))))) rfl rfl (wants_yes rfl rfl rfl rfl g37) (r_gtr rfl rfl) ?_
                    refine s_pu (d := some 83) (v := (.bool (decide (200 < ((l1.len : Int)))))) rfl rfl rfl (r_pick0 rfl g37 rfl) ?_
                    exact S_mk (l := [(0, (Sl.v l1)), (1, (.int .i64 i2)), (2, (.int .i64 j3)), (7, (.pointer y4)), (9, (.pointer y6)), (11, (.pointer y8)), (83, (.bool (((((((!(isNil y5)) || (!(isNil y7))) || (!(isNil y9))) || (Option.isNone y4)) || (Option.isNone y6)) || (Option.isNone y8)) || (decide (200 < ((l1.len : Int)))))))]) HJ ⟨rfl, rfl, rfl, rfl, rfl, rfl, (by rw [g37]; rfl), trivial⟩
              · rcases Bool.eq_false_or_eq_true (((((!(isNil y5)) || (!(isNil y7))) || (!(isNil y9))) || (Option.isNone y4)) || (Option.isNone y6)) with g34 | g34
                · refine s_sk (d := some 76) rfl rfl (wants_no rfl rfl rfl rfl g34) ?_
                  refine s_sk (d := some 77) rfl rfl (wants_no rfl rfl rfl rfl g34) ?_
                  refine s_pu (d := some 78) (v := (.bool true)) rfl rfl rfl (r_pick1 rfl g34 rfl) ?_
                  exact S_mk (l := [(0, (Sl.v l1)), (1, (.int .i64 i2)), (2, (.int .i64 j3)), (7, (.pointer y4)), (9, (.pointer y6)), (11, (.pointer y8)), (78, (.bool ((((((!(isNil y5)) || (!(isNil y7))) || (!(isNil y9))) || (Option.isNone y4)) || (Option.isNone y6)) || (Option.isNone y8))))]) HJ ⟨rfl, rfl, rfl, rfl, rfl, rfl, (by rw [g34]; rfl), trivial⟩
                · refine s_pu (d := some 76) (v := (.pointer y8)) rfl rfl (wants_yes rfl rfl rfl rfl g34) (r_move rfl) ?_
                  refine s_pu (d := some 77) (v := (.bool (Option.isNone y8))) rfl rfl (wants_yes rfl rfl rfl rfl g34) (r_nilP Try.underlying31 rfl rfl) ?_
                  refine s_pu (d := some 78) (v := (.bool (Option.isNone y8))) rfl rfl rfl (r_pick0 rfl g34 rfl) ?_
                  exact S_mk (l := [(0, (Sl.v l1)), (1, (.int .i64 i2)), (2, (.int .i64 j3)), (7, (.pointer y4)), (9, (.pointer y6)), (11, (.pointer y8)), (78, (.bool ((((((!(isNil y5)) || (!(isNil y7))) || (!(isNil y9))) || (Option.isNone y4)) || (Option.isNone y6)) || (Option.isNone y8))))]) HJ ⟨rfl, rfl, rfl, rfl, rfl, rfl, (by rw [g34]; rfl), trivial⟩
            · rcases Bool.eq_false_or_eq_true ((((!(isNil y5)) || (!(isNil y7))) || (!(isNil y9))) || (Option.isNone y4)) with g31 | g31
              · refine s_sk (d := some 72) rfl rfl (wants_no rfl rfl rfl rfl g31) ?_
                refine s_sk (d := some 73) rfl rfl (wants_no rfl rfl rfl rfl g31) ?_
                refine s_pu (d := some 74) (v := (.bool true)) rfl rfl rfl (r_pick1 rfl g31 rfl) ?_
                exact S_mk (l := [(0, (Sl.v l1)), (1, (.int .i64 i2)), (2, (.int .i64 j3)), (7, (.pointer y4)), (9, (.pointer y6)), (11, (.pointer y8)), (74, (.bool (((((!(isNil y5)) || (!(isNil y7))) || (!(isNil y9))) || (Option.isNone y4)) || (Option.isNone y6))))]) HJ ⟨rfl, rfl, rfl, rfl, rfl, rfl, (by rw [g31]; rfl), trivial⟩
              · refine s_pu (d := some 72) (v := (.pointer y6)) rfl rfl (wants_yes rfl rfl rfl rfl g31) (r_move rfl) ?_
                refine s_pu (d := some 73) (v := (.bool (Option.isNone y6))) rfl rfl (wants_yes rfl rfl rfl rfl g31) (r_nilP Try.underlying28 rfl rfl) ?_
                refine s_pu (d := some 74) (v := (.bool (Option.isNone y6))) rfl rfl rfl (r_pick0 rfl g31 rfl) ?_
                exact S_mk (l := [(0, (Sl.v l1)), (1, (.int .i64 i2)), (2, (.int .i64 j3)), (7, (.pointer y4)), (9, (.pointer y6)), (11, (.pointer y8)), (74, (.bool (((((!(isNil y5)) || (!(isNil y7))) || (!(isNil y9))) || (Option.isNone y4)) || (Option.isNone y6))))]) HJ ⟨rfl, rfl, rfl, rfl, rfl, rfl, (by rw [g31]; rfl), trivial⟩
          · rcases Bool.eq_false_or_eq_true (((!(isNil y5)) || (!(isNil y7))) || (!(isNil y9))) with g28 | g28
            · refine s_sk (d := some 68) rfl rfl (wants_no rfl rfl rfl rfl g28) ?_
              refine s_sk (d := some 69) rfl rfl (wants_no rfl rfl rfl rfl g28) ?_
              refine s_pu (d := some 70) (v := (.bool true)) rfl rfl rfl (r_pick1 rfl g28 rfl) ?_
              exact S_mk (l := [(0, (Sl.v l1)), (1, (.int .i64 i2)), (2, (.int .i64 j3)), (7, (.pointer y4)), (9, (.pointer y6)), (11, (.pointer y8)), (70, (.bool ((((!(isNil y5)) || (!(isNil y7))) || (!(isNil y9))) || (Option.isNone y4))))]) HJ ⟨rfl, rfl, rfl, rfl, rfl, rfl, (by rw [g28]; rfl), trivial⟩
            · refine s_pu (d := some 68) (v := (.pointer y4)) rfl rfl (wants_yes rfl rfl rfl rfl g28) (r_move rfl) ?_
              refine s_pu (d := some 69) (v := (.bool (Option.isNone y4))) rfl rfl (wants_yes rfl rfl rfl rfl g28) (r_nilP Try.underlying23 rfl rfl) ?_
              refine s_pu (d := some 70) (v := (.bool (Option.isNone y4))) rfl rfl rfl (r_pick0 rfl g28 rfl) ?_
              exact S_mk (l := [(0, (Sl.v l1)), (1, (.int .i64 i2)), (2, (.int .i64 j3)), (7, (.pointer y4)), (9, (.pointer y6)), (11, (.pointer y8)), (70, (.bool ((((!(isNil y5)) || (!(isNil y7))) || (!(isNil y9))) || (Option.isNone y4))))]) HJ ⟨rfl, rfl, rfl, rfl, rfl, rfl, (by rw [g28]; rfl), trivial⟩
        · rcases Bool.eq_false_or_eq_true ((!(isNil y5)) || (!(isNil y7))) with g24 | g24
          · refine s_sk (d := some 64) rfl rfl (wants_no rfl rfl rfl rfl g24) ?_
            refine s_sk (d := some 65) rfl rfl (wants_no rfl rfl rfl rfl g24) ?_
            refine s_pu (d := some 66) (v := (.bool true)) rfl rfl rfl (r_pick1 rfl g24 rfl) ?_
            exact S_mk (l := [(0, (Sl.v l1)), (1, (.int .i64 i2)), (2, (.int .i64 j3)), (7, (.pointer y4)), (9, (.pointer y6)), (11, (.pointer y8)), (66, (.bool (((!(isNil y5)) || (!(isNil y7))) || (!(isNil y9)))))]) HJ ⟨rfl, rfl, rfl, rfl, rfl, rfl, (by rw [g24]; rfl), trivial⟩
          · refine s_pu (d := some 64) (v := y9) rfl rfl (wants_yes rfl rfl rfl rfl g24) (r_move rfl) ?_
            refine s_pu (d := some 65) (v := (.bool (!(isNil y9)))) rfl rfl (wants_yes rfl rfl rfl rfl g24) (r_notNilI Try.underlying25 rfl e25 rfl) ?_
            refine s_pu (d := some 66) (v := (.bool (!(isNil y9)))) rfl rfl rfl (r_pick0 rfl g24 rfl) ?_
            exact S_mk (l := [(0, (Sl.v l1)), (1, (.int .i64 i2)), (2, (.int .i64 j3)), (7, (.pointer y4)), (9, (.pointer y6)), (11, (.pointer y8)), (66, (.bool (((!(isNil y5)) || (!(isNil y7))) || (!(isNil y9)))))]) HJ ⟨rfl, rfl, rfl, rfl, rfl, rfl, (by rw [g24]; rfl), trivial⟩
      · rcases Bool.eq_false_or_eq_true (!(isNil y5)) with g20 | g20
        · refine s_sk (d := some 60) rfl rfl (wants_no rfl rfl rfl rfl g20) ?_
          refine s_sk (d := some 61) rfl rfl (wants_no rfl rfl rfl rfl g20) ?_
          refine s_pu (d := some 62) (v := (.bool true)) rfl rfl rfl (r_pick1 rfl g20 rfl) ?_
          exact S_mk (l := [(0, (Sl.v l1)), (1, (.int .i64 i2)), (2, (.int .i64 j3)), (7, (.pointer y4)), (9, (.pointer y6)), (11, (.pointer y8)), (12, y9), (62, (.bool ((!(isNil y5)) || (!(isNil y7)))))]) HJ ⟨rfl, rfl, rfl, rfl, rfl, rfl, rfl, (by rw [g20]; rfl), trivial⟩
        · refine s_pu (d := some 60) (v := y7) rfl rfl (wants_yes rfl rfl rfl rfl g20) (r_move rfl) ?_
          refine s_pu (d := some 61) (v := (.bool (!(isNil y7)))) rfl rfl (wants_yes rfl rfl rfl rfl g20) (r_notNilI Try.underlying25 rfl e21 rfl) ?_
          refine s_pu (d := some 62) (v := (.bool (!(isNil y7)))) rfl rfl rfl (r_pick0 rfl g20 rfl) ?_
          exact S_mk (l := [(0, (Sl.v l1)), (1, (.int .i64 i2)), (2, (.int .i64 j3)), (7, (.pointer y4)), (9, (.pointer y6)), (11, (.pointer y8)), (12, y9), (62, (.bool ((!(isNil y5)) || (!(isNil y7)))))]) HJ ⟨rfl, rfl, rfl, rfl, rfl, rfl, rfl, (by rw [g20]; rfl), trivial⟩
  · rcases Bool.eq_false_or_eq_true (!(isNil y14)) with g16 | g16
    · refine s_sk (d := some 54) rfl rfl (wants_no rfl rfl rfl rfl g16) ?_
      refine s_sk (d := some 55) rfl rfl (wants_no rfl rfl rfl rfl g16) ?_
      refine s_pu (d := some 56) (v := (.bool true)) rfl rfl rfl (r_pick1 rfl g16 rfl) ?_
      exact S_mk (l := [(0, (Sl.v l1)), (1, (.int .i64 i2)), (2, (.int .i64 j3)), (7, (.pointer y4)), (8, y5), (9, (.pointer y6)), (10, y7), (11, (.pointer y8)), (12, y9), (56, (.bool ((!(isNil y14)) || (!decide (y13 = 8)))))]) HJ ⟨rfl, rfl, rfl, rfl, rfl, rfl, rfl, rfl, rfl, (by rw [g16]; rfl), trivial⟩
    · refine s_pu (d := some 54) (v := (.int .i64 y13)) rfl rfl (wants_yes rfl rfl rfl rfl g16) (r_move rfl) ?_
      refine s_pu (d := some 55) (v := (.bool (!decide (y13 = 8)))) rfl rfl (wants_yes rfl rfl rfl rfl g16) (r_neq rfl rfl) ?_
      refine s_pu (d := some 56) (v := (.bool (!decide (y13 = 8)))) rfl rfl rfl (r_pick0 rfl g16 rfl) ?_
      exact S_mk (l := [(0, (Sl.v l1)), (1, (.int .i64 i2)), (2, (.int .i64 j3)), (7, (.pointer y4)), (8, y5), (9, (.pointer y6)), (10, y7), (11, (.pointer y8)), (12, y9), (56, (.bool ((!(isNil y14)) || (!decide (y13 = 8)))))]) HJ ⟨rfl, rfl, rfl, rfl, rfl, rfl, rfl, rfl, rfl, (by rw [g16]; rfl), trivial⟩

end Go.Proofs.Ytfiemlcoliijoaa
