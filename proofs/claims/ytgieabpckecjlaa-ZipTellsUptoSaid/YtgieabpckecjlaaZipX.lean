/- Typed words of functions, and that they hold: printed by gen.py (an own tool of this claim) off the model's own form of each function. -/
import Derived.Test.YtgieabpckecjlaaProg
import Derived.Test.YtgieabpckecjlaaZip
namespace Go.Proofs.Ytgieabpckecjlaa
open Go Go.RowKit Go.Tw
set_option linter.unusedVariables false

theorem slFZipX_22 : SlF Try.prog 22 3 1 8 (.int .i64 0) := ⟨Try.underlying22, ⟨Try.t3, by kernel_rfl, rfl, rfl, rfl⟩, rfl, Try.sizeOf3, Try.zeroValue3⟩

/-! ### the calls -/

abbrev law3_ZipMoves (r : World) (l1 : Sl) (i2 : Int) (j3 : Int) (h : Heap) (R : Bool → Heap → Prop) : Prop :=
  CallsH Try.prog r 4 [(Sl.v l1), (.int .i64 i2), (.int .i64 j3)] h fun v h' => ∃ (y4 : Bool), v = (.bool y4) ∧ R y4 h'

theorem law3_ZipMoves.mono {r : World} {l1 : Sl} {i2 : Int} {j3 : Int} {h : Heap} {R R' : Bool → Heap → Prop} (H : law3_ZipMoves r l1 i2 j3 h R) (hr : ∀ y4 h, R y4 h → R' y4 h) : law3_ZipMoves r l1 i2 j3 h R' :=
  CallsH.mono H fun _ _ hx => by
    obtain ⟨y4, hv, hR⟩ := hx
    exact ⟨y4, hv, hr _ _ hR⟩

abbrev law3_ZipTells (r : World) (l1 : Sl) (acts2 : Sl) (xs3 : Sl) (h : Heap) (R : Bool → Heap → Prop) : Prop :=
  CallsH Try.prog r 6 [(Sl.v l1), (Sl.v acts2), (Sl.v xs3)] h fun v h' => ∃ (y4 : Bool), v = (.bool y4) ∧ R y4 h'

theorem law3_ZipTells.mono {r : World} {l1 : Sl} {acts2 : Sl} {xs3 : Sl} {h : Heap} {R R' : Bool → Heap → Prop} (H : law3_ZipTells r l1 acts2 xs3 h R) (hr : ∀ y4 h, R y4 h → R' y4 h) : law3_ZipTells r l1 acts2 xs3 h R' :=
  CallsH.mono H fun _ _ hx => by
    obtain ⟨y4, hv, hR⟩ := hx
    exact ⟨y4, hv, hr _ _ hR⟩

abbrev law3_ZipEdits (r : World) (l1 : Sl) (i2 : Int) (x3 : Int) (h : Heap) (R : Bool → Heap → Prop) : Prop :=
  CallsH Try.prog r 7 [(Sl.v l1), (.int .i64 i2), (.int .i64 x3)] h fun v h' => ∃ (y4 : Bool), v = (.bool y4) ∧ R y4 h'

theorem law3_ZipEdits.mono {r : World} {l1 : Sl} {i2 : Int} {x3 : Int} {h : Heap} {R R' : Bool → Heap → Prop} (H : law3_ZipEdits r l1 i2 x3 h R) (hr : ∀ y4 h, R y4 h → R' y4 h) : law3_ZipEdits r l1 i2 x3 h R' :=
  CallsH.mono H fun _ _ hx => by
    obtain ⟨y4, hv, hR⟩ := hx
    exact ⟨y4, hv, hr _ _ hR⟩

/-! ### law3_ZipMoves -/

def law3_ZipMoves_F (r : World) (l1 : Sl) (i2 : Int) (j3 : Int) (h : Heap) (R : Bool → Heap → Prop) : Prop :=
  law3_zipped r h fun y4 h1 =>
  Br (!y4) (
    R false h1) (
    zip_Of r l1 h1 fun y5 y6 y7 y8 h2 =>
    zip_Zip_Go r y5 y6 y7 y8 i2 h2 fun y9 y10 y11 y12 y13 h3 =>
    New h3 (.cells #[(.pointer none), (.int .i64 0), (.pointer none), (.int .i64 0)] 36) fun p14 h4 =>
    St h4 p14 4 [(.pointer y9), (.int .i64 y10), (.pointer y11), (.int .i64 y12)] fun h5 =>
    LdP h5 (Addr.add p14 0) fun x19 =>
    LdI h5 (Addr.add p14 1) fun x21 =>
    LdP h5 (Addr.add p14 2) fun x23 =>
    LdI h5 (Addr.add p14 3) fun x25 =>
    zip_Zip_Ints r x19 x21 x23 x25 h5 fun y27 h6 =>
    same_Ints r y27 l1 h6 fun y28 h7 =>
    Br ((y13 != ((decide (0 ≤ i2)) && (decide (i2 ≤ ((l1.len : Int)))))) || (!y28)) (
      R false h7) (
      LdP h7 (Addr.add p14 0) fun x35 =>
      LdI h7 (Addr.add p14 1) fun x37 =>
      LdP h7 (Addr.add p14 2) fun x39 =>
      LdI h7 (Addr.add p14 3) fun x41 =>
      zip_Zip_Right r x35 x37 x39 x41 h7 fun y43 y44 y45 y46 y47 h8 =>
      New h8 (.cells #[(.pointer none), (.int .i64 0), (.pointer none), (.int .i64 0)] 36) fun p48 h9 =>
      St h9 p48 4 [(.pointer y43), (.int .i64 y44), (.pointer y45), (.int .i64 y46)] fun h10 =>
      LdP h10 (Addr.add p48 0) fun x53 =>
      LdI h10 (Addr.add p48 1) fun x55 =>
      LdP h10 (Addr.add p48 2) fun x57 =>
      LdI h10 (Addr.add p48 3) fun x59 =>
      zip_Zip_Left r x53 x55 x57 x59 h10 fun y61 y62 y63 y64 y65 h11 =>
      New h11 (.cells #[(.pointer none), (.int .i64 0), (.pointer none), (.int .i64 0)] 36) fun p66 h12 =>
      St h12 p66 4 [(.pointer y61), (.int .i64 y62), (.pointer y63), (.int .i64 y64)] fun h13 =>
      LdP h13 (Addr.add p14 0) fun x71 =>
      LdI h13 (Addr.add p14 1) fun x73 =>
      LdP h13 (Addr.add p14 2) fun x75 =>
      LdI h13 (Addr.add p14 3) fun x77 =>
      zip_Zip_Go r x71 x73 x75 x77 j3 h13 fun y79 y80 y81 y82 y83 h14 =>
      New h14 (.cells #[(.pointer none), (.int .i64 0), (.pointer none), (.int .i64 0)] 36) fun p84 h15 =>
      St h15 p84 4 [(.pointer y79), (.int .i64 y80), (.pointer y81), (.int .i64 y82)] fun h16 =>
      ∀ J91 : Addr → Bool → Heap → Prop, (∀ (p89 : Addr) (ve90 : Bool) (h17 : Heap),
        (∀ J94 : Bool → Heap → Prop, (∀ (x93 : Bool) (h18 : Heap),
          (Br x93 (
            R false h18) (
            ∀ J97 : Bool → Heap → Prop, (∀ (x96 : Bool) (h19 : Heap),
              (R x96 h19) →
              J97 x96 h19) →
            Br ve90 (
              LdP h18 (Addr.add p89 0) fun x100 =>
              LdI h18 (Addr.add p89 1) fun x102 =>
              LdP h18 (Addr.add p89 2) fun x104 =>
              LdI h18 (Addr.add p89 3) fun x106 =>
              LdP h18 (Addr.add p14 0) fun x108 =>
              LdI h18 (Addr.add p14 1) fun x110 =>
              LdP h18 (Addr.add p14 2) fun x112 =>
              LdI h18 (Addr.add p14 3) fun x114 =>
              zip_Zip_Place r x100 x102 x104 x106 h18 fun y116 h20 =>
              (hcell h20 (Addr.add p14 0) = some (.pointer x108)) ∧
              (hcell h20 (Addr.add p14 1) = some (.int .i64 x110)) ∧
              (hcell h20 (Addr.add p14 2) = some (.pointer x112)) ∧
              (hcell h20 (Addr.add p14 3) = some (.int .i64 x114)) ∧
              zip_Zip_Place r x108 x110 x112 x114 h20 fun y121 h21 =>
              J97 (decide (y116 = y121)) h21) (
              J97 false h18))) →
          J94 x93 h18) →
        Br y47 (
          Br (!y65) (
            J94 true h17) (
            LdP h17 (Addr.add p66 0) fun x125 =>
            LdI h17 (Addr.add p66 1) fun x127 =>
            LdP h17 (Addr.add p66 2) fun x129 =>
            LdI h17 (Addr.add p66 3) fun x131 =>
            LdP h17 (Addr.add p14 0) fun x133 =>
            LdI h17 (Addr.add p14 1) fun x135 =>
            LdP h17 (Addr.add p14 2) fun x137 =>
            LdI h17 (Addr.add p14 3) fun x139 =>
            zip_Zip_Place r x125 x127 x129 x131 h17 fun y141 h22 =>
            (hcell h22 (Addr.add p14 0) = some (.pointer x133)) ∧
            (hcell h22 (Addr.add p14 1) = some (.int .i64 x135)) ∧
            (hcell h22 (Addr.add p14 2) = some (.pointer x137)) ∧
            (hcell h22 (Addr.add p14 3) = some (.int .i64 x139)) ∧
            zip_Zip_Place r x133 x135 x137 x139 h22 fun y146 h23 =>
            Br (!decide (y141 = y146)) (
              J94 true h23) (
              Br (decide (0 ≤ j3)) (
                J94 (y83 != (decide (j3 ≤ ((l1.len : Int))))) h23) (
                J94 (y83 != false) h23)))) (
          Br (decide (0 ≤ j3)) (
            J94 (y83 != (decide (j3 ≤ ((l1.len : Int))))) h17) (
            J94 (y83 != false) h17))) →
        J91 p89 ve90 h17) →
      LdP h16 (Addr.add p84 0) fun x150 =>
      LdI h16 (Addr.add p84 1) fun x152 =>
      LdP h16 (Addr.add p84 2) fun x154 =>
      LdI h16 (Addr.add p84 3) fun x156 =>
      LdP h16 (Addr.add p14 0) fun x158 =>
      LdI h16 (Addr.add p14 1) fun x160 =>
      LdP h16 (Addr.add p14 2) fun x162 =>
      LdI h16 (Addr.add p14 3) fun x164 =>
      (zip_Zip_Place r x158 x160 x162 x164 h16 fun y166 h24 =>
      (hcell h24 (Addr.add p84 0) = some (.pointer x150)) ∧
      (hcell h24 (Addr.add p84 1) = some (.int .i64 x152)) ∧
      (hcell h24 (Addr.add p84 2) = some (.pointer x154)) ∧
      (hcell h24 (Addr.add p84 3) = some (.int .i64 x156)) ∧
      (zip_Zip_Go r x150 x152 x154 x156 y166 h24 fun y171 y172 y173 y174 y175 h25 =>
      New h25 (.cells #[(.pointer none), (.int .i64 0), (.pointer none), (.int .i64 0)] 36) fun p176 h26 =>
      (hcell h26 (Addr.add p14 0) = some (.pointer x158)) ∧
      (hcell h26 (Addr.add p14 1) = some (.int .i64 x160)) ∧
      (hcell h26 (Addr.add p14 2) = some (.pointer x162)) ∧
      (hcell h26 (Addr.add p14 3) = some (.int .i64 x164)) ∧
      (hcell h26 (Addr.add p84 0) = some (.pointer x150)) ∧
      (hcell h26 (Addr.add p84 1) = some (.int .i64 x152)) ∧
      (hcell h26 (Addr.add p84 2) = some (.pointer x154)) ∧
      (hcell h26 (Addr.add p84 3) = some (.int .i64 x156)) ∧
      St h26 p176 4 [(.pointer y171), (.int .i64 y172), (.pointer y173), (.int .i64 y174)] fun h27 =>
      J91 p176 y175 h27) ∧
      (New h24 (.cells #[(.pointer none), (.int .i64 0), (.pointer none), (.int .i64 0)] 36) fun p189 h28 =>
      (hcell h28 (Addr.add p14 0) = some (.pointer x158)) ∧
      (hcell h28 (Addr.add p14 1) = some (.int .i64 x160)) ∧
      (hcell h28 (Addr.add p14 2) = some (.pointer x162)) ∧
      (hcell h28 (Addr.add p14 3) = some (.int .i64 x164)) ∧
      (hcell h28 (Addr.add p84 0) = some (.pointer x150)) ∧
      (hcell h28 (Addr.add p84 1) = some (.int .i64 x152)) ∧
      (hcell h28 (Addr.add p84 2) = some (.pointer x154)) ∧
      (hcell h28 (Addr.add p84 3) = some (.int .i64 x156)) ∧
      zip_Zip_Go r x150 x152 x154 x156 y166 h28 fun y200 y201 y202 y203 y204 h29 =>
      St h29 p189 4 [(.pointer y200), (.int .i64 y201), (.pointer y202), (.int .i64 y203)] fun h30 =>
      J91 p189 y204 h30)) ∧
      (New h16 (.cells #[(.pointer none), (.int .i64 0), (.pointer none), (.int .i64 0)] 36) fun p207 h31 =>
      (hcell h31 (Addr.add p14 0) = some (.pointer x158)) ∧
      (hcell h31 (Addr.add p14 1) = some (.int .i64 x160)) ∧
      (hcell h31 (Addr.add p14 2) = some (.pointer x162)) ∧
      (hcell h31 (Addr.add p14 3) = some (.int .i64 x164)) ∧
      (hcell h31 (Addr.add p84 0) = some (.pointer x150)) ∧
      (hcell h31 (Addr.add p84 1) = some (.int .i64 x152)) ∧
      (hcell h31 (Addr.add p84 2) = some (.pointer x154)) ∧
      (hcell h31 (Addr.add p84 3) = some (.int .i64 x156)) ∧
      zip_Zip_Place r x158 x160 x162 x164 h31 fun y218 h32 =>
      (hcell h32 (Addr.add p84 0) = some (.pointer x150)) ∧
      (hcell h32 (Addr.add p84 1) = some (.int .i64 x152)) ∧
      (hcell h32 (Addr.add p84 2) = some (.pointer x154)) ∧
      (hcell h32 (Addr.add p84 3) = some (.int .i64 x156)) ∧
      zip_Zip_Go r x150 x152 x154 x156 y218 h32 fun y223 y224 y225 y226 y227 h33 =>
      St h33 p207 4 [(.pointer y223), (.int .i64 y224), (.pointer y225), (.int .i64 y226)] fun h34 =>
      J91 p207 y227 h34)))

set_option maxRecDepth 100000 in
theorem law3_ZipMoves_of {r : World} {l1 : Sl} {i2 : Int} {j3 : Int} {h : Heap} {R : Bool → Heap → Prop} (H : law3_ZipMoves_F r l1 i2 j3 h R) : law3_ZipMoves r l1 i2 j3 h R := by
  unfold law3_ZipMoves_F at H
  refine calls_of 102 [.tmp 6] Try.func4 rfl rfl rfl rfl rfl ?_
  refine W_seq ?_
  refine W_region (.pu 0 .fin) rfl rfl ?_
  refine s_pu (d := some 6) (v := (.bool false)) rfl rfl rfl (r_assign rfl) ?_
  refine s_fin ?_
  show W _ _ _ _ _ _ _ _
  refine W_seq ?_
  refine W_region (.ef 0 [] (.pu 1 .fin) .no) rfl rfl ?_
  refine s_ef (d := some 19) rfl rfl rfl (fun dr => r_call Try.call13 rfl rfl H) ?_ trivial
  rintro _ h1 ⟨y4, rfl, H⟩
  refine ⟨trivial, ?_⟩
  refine s_pu (d := some 7) (v := (.bool y4)) rfl rfl rfl (r_assign rfl) ?_
  refine s_fin ?_
  show W _ _ _ _ _ _ _ _
  refine W_seq ?_
  refine W_seq ?_
  refine W_region (.pu 0 (.pu 1 .fin)) rfl rfl ?_
  refine s_pu (d := some 20) (v := (.bool y4)) rfl rfl rfl (r_move rfl) ?_
  refine s_pu (d := some 21) (v := (.bool (!y4))) rfl rfl rfl (r_not rfl) ?_
  refine s_fin ?_
  show W _ _ _ _ _ _ _ _
  refine W_if (!y4) rfl (fun g233 => ?_) (fun g233 => ?_)
  · have H := H.1 g233
    refine W_seq ?_
    refine W_region (.pu 0 .fin) rfl rfl ?_
    refine s_pu (d := some 6) (v := (.bool false)) rfl rfl rfl (r_assign rfl) ?_
    refine s_fin ?_
    show W _ _ _ _ _ _ _ _
    refine W_ret ?_
    exact ⟨[(.bool false)], ⟨_, _, rfl, rfl, rfl⟩, false, rfl, H⟩
  · have H := H.2 g233
    refine W_skip ?_
    show W _ _ _ _ _ _ _ _
    refine W_seq ?_
    refine W_region (.pu 0 (.ef 1 [] (.pu 2 (.ef 3 [] (.pu 4 (.pu 5 (.pu 6 (.ef 7 [] (.ef 8 [] (.pu 9 .fin) .no) .no)))) .no)) .no)) rfl rfl ?_
    refine s_pu (d := some 23) (v := (Sl.v l1)) rfl rfl rfl (r_move rfl) ?_
    refine s_ef (d := some 24) rfl rfl rfl (fun dr => r_call Try.call14 rfl rfl H) ?_ trivial
    rintro _ h2 ⟨y5, y6, y7, y8, rfl, H⟩
    refine ⟨trivial, ?_⟩
    refine s_pu (d := some 25) (v := (.int .i64 i2)) rfl rfl rfl (r_move rfl) ?_
    refine s_ef (d := some 26) rfl rfl rfl (fun dr => r_call Try.call15 rfl rfl H) ?_ trivial
    rintro _ h3 ⟨y9, y10, y11, y12, y13, rfl, H⟩
    refine ⟨trivial, ?_⟩
    refine s_pu (d := some 22) (v := (.tuple #[(.agg #[(.pointer y9), (.int .i64 y10), (.pointer y11), (.int .i64 y12)]), (.bool y13)])) rfl rfl rfl (r_move rfl) ?_
    refine s_pu (d := some 27) (v := (.agg #[(.pointer y9), (.int .i64 y10), (.pointer y11), (.int .i64 y12)])) rfl rfl rfl (r_extract rfl rfl) ?_
    refine s_pu (d := some 28) (v := (.bool y13)) rfl rfl rfl (r_extract rfl rfl) ?_
    obtain ⟨p14, e15⟩ : ∃ p : Addr, p = ⟨h3.size, 0, none⟩ := ⟨_, rfl⟩
    obtain ⟨h4, e16⟩ : ∃ hh : Heap, hh = h3.push (.cells #[(.pointer none), (.int .i64 0), (.pointer none), (.int .i64 0)] 36) := ⟨_, rfl⟩
    have H := H p14 h4 e15 e16
    refine s_ef1 (d := some 8) (v := (.pointer (some p14))) (h' := h4) rfl rfl rfl (fun dr => (r_alloc Try.zeroValue36).trans (by rw [e15, e16]; rfl)) trivial ?_ trivial
    obtain ⟨e18, H⟩ := H
    obtain ⟨h5, e17⟩ : ∃ hh : Heap, hh = hsets h4 p14 0 [(.pointer y9), (.int .i64 y10), (.pointer y11), (.int .i64 y12)] := ⟨_, rfl⟩
    have H := H h5 e17
    refine s_st (d := none) (h' := h5) rfl rfl rfl (fun dr => (r_store (v := (.agg #[(.pointer y9), (.int .i64 y10), (.pointer y11), (.int .i64 y12)])) Try.sizeOf36 rfl rfl rfl (one_all rfl) e18).trans (by rw [e17]; rfl)) trivial ?_ trivial
    refine s_pu (d := some 9) (v := (.bool y13)) rfl rfl rfl (r_assign rfl) ?_
    refine s_fin ?_
    show W _ _ _ _ _ _ _ _
    refine W_seq ?_
    refine W_region (.rl 0 (.ef 1 [] (.pu 2 (.ef 3 [] (.pu 4 .fin) .no)) .no)) rfl rfl ?_
    obtain ⟨x19, e20, H⟩ := H
    obtain ⟨x21, e22, H⟩ := H
    obtain ⟨x23, e24, H⟩ := H
    obtain ⟨x25, e26, H⟩ := H
    refine s_rl (d := some 29) (v := (.agg #[(.pointer x19), (.int .i64 x21), (.pointer x23), (.int .i64 x25)])) rfl rfl rfl (fun dr => r_loadN Try.isAgg36 Try.sizeOf36 (vs := [(.pointer x19), (.int .i64 x21), (.pointer x23), (.int .i64 x25)]) rfl rfl ⟨e20, e22, e24, e26, trivial⟩) ?_
    refine s_ef (d := some 30) rfl rfl rfl (fun dr => r_call Try.call17 rfl rfl H) ?_ trivial
    rintro _ h6 ⟨y27, rfl, H⟩
    refine ⟨trivial, ?_⟩
    refine s_pu (d := some 31) (v := (Sl.v l1)) rfl rfl rfl (r_move rfl) ?_
    refine s_ef (d := some 32) rfl rfl rfl (fun dr => r_call Try.call16 rfl rfl H) ?_ trivial
    rintro _ h7 ⟨y28, rfl, H⟩
    refine ⟨trivial, ?_⟩
    refine s_pu (d := some 10) (v := (.bool y28)) rfl rfl rfl (r_assign rfl) ?_
    refine s_fin ?_
    show W _ _ _ _ _ _ _ _
    refine W_seq ?_
    refine W_seq ?_
    refine W_region (.pu 0 (.pu 1 (.pu 2 (.pu 3 (.pu 4 (.pu 5 (.pu 6 (.pu 7 (.pu 8 (.pu 9 (.pu 10 (.pu 11 (.pu 12 (.pu 13 .fin)))))))))))))) rfl rfl ?_
    refine s_pu (d := some 33) (v := (.bool y13)) rfl rfl rfl (r_move rfl) ?_
    refine s_pu (d := some 34) (v := (.int .i64 i2)) rfl rfl rfl (r_move rfl) ?_
    refine s_pu (d := some 35) (v := (.bool (decide (0 ≤ i2)))) rfl rfl rfl (r_geq rfl rfl) ?_
    refine s_pu (d := some 36) (v := (.bool (decide (0 ≤ i2)))) rfl rfl rfl (r_move rfl) ?_
    refine S_meet (l := [(0, (Sl.v l1)), (2, (.int .i64 j3)), (8, (.pointer (some p14))), (10, (.bool y28)), (33, (.bool y13)), (41, (.bool ((decide (0 ≤ i2)) && (decide (i2 ≤ ((l1.len : Int)))))))]) (i := 5) ?_ (fun HJ => ?_)
    · intro b
      show S _ _ _ _ _ _
      refine s_pu (d := some 42) (v := (.bool (y13 != ((decide (0 ≤ i2)) && (decide (i2 ≤ ((l1.len : Int)))))))) rfl rfl rfl (r_neqB Try.underlying4 rfl rfl) ?_
      refine s_pu (d := some 43) (v := (.bool (y13 != ((decide (0 ≤ i2)) && (decide (i2 ≤ ((l1.len : Int)))))))) rfl rfl rfl (r_move rfl) ?_
      refine S_meet (l := [(0, (Sl.v l1)), (2, (.int .i64 j3)), (8, (.pointer (some p14))), (46, (.bool ((y13 != ((decide (0 ≤ i2)) && (decide (i2 ≤ ((l1.len : Int)))))) || (!y28))))]) (i := 3) ?_ (fun HJ => ?_)
      · intro b
        show S _ _ _ _ _ _
        refine s_fin ?_
        show W _ _ _ _ _ _ _ _
        refine W_if ((y13 != ((decide (0 ≤ i2)) && (decide (i2 ≤ ((l1.len : Int)))))) || (!y28)) rfl (fun g230 => ?_) (fun g230 => ?_)
        · have H := H.1 g230
          refine W_seq ?_
          refine W_region (.pu 0 .fin) rfl rfl ?_
          refine s_pu (d := some 6) (v := (.bool false)) rfl rfl rfl (r_assign rfl) ?_
          refine s_fin ?_
          show W _ _ _ _ _ _ _ _
          refine W_ret ?_
          exact ⟨[(.bool false)], ⟨_, _, rfl, rfl, rfl⟩, false, rfl, H⟩
        · have H := H.2 g230
          refine W_skip ?_
          show W _ _ _ _ _ _ _ _
          refine W_seq ?_
          refine W_region (.rl 0 (.ef 1 [] (.pu 2 (.pu 3 (.pu 4 (.ef 5 [] (.ef 6 [] (.pu 7 .fin) .no) .no)))) .no)) rfl rfl ?_
          obtain ⟨x35, e36, H⟩ := H
          obtain ⟨x37, e38, H⟩ := H
          obtain ⟨x39, e40, H⟩ := H
          obtain ⟨x41, e42, H⟩ := H
          refine s_rl (d := some 48) (v := (.agg #[(.pointer x35), (.int .i64 x37), (.pointer x39), (.int .i64 x41)])) rfl rfl rfl (fun dr => r_loadN Try.isAgg36 Try.sizeOf36 (vs := [(.pointer x35), (.int .i64 x37), (.pointer x39), (.int .i64 x41)]) rfl rfl ⟨e36, e38, e40, e42, trivial⟩) ?_
          refine s_ef (d := some 49) rfl rfl rfl (fun dr => r_call Try.call18 rfl rfl H) ?_ trivial
          rintro _ h8 ⟨y43, y44, y45, y46, y47, rfl, H⟩
          refine ⟨trivial, ?_⟩
          refine s_pu (d := some 47) (v := (.tuple #[(.agg #[(.pointer y43), (.int .i64 y44), (.pointer y45), (.int .i64 y46)]), (.bool y47)])) rfl rfl rfl (r_move rfl) ?_
          refine s_pu (d := some 50) (v := (.agg #[(.pointer y43), (.int .i64 y44), (.pointer y45), (.int .i64 y46)])) rfl rfl rfl (r_extract rfl rfl) ?_
          refine s_pu (d := some 51) (v := (.bool y47)) rfl rfl rfl (r_extract rfl rfl) ?_
          obtain ⟨p48, e49⟩ : ∃ p : Addr, p = ⟨h8.size, 0, none⟩ := ⟨_, rfl⟩
          obtain ⟨h9, e50⟩ : ∃ hh : Heap, hh = h8.push (.cells #[(.pointer none), (.int .i64 0), (.pointer none), (.int .i64 0)] 36) := ⟨_, rfl⟩
          have H := H p48 h9 e49 e50
          refine s_ef1 (d := some 11) (v := (.pointer (some p48))) (h' := h9) rfl rfl rfl (fun dr => (r_alloc Try.zeroValue36).trans (by rw [e49, e50]; rfl)) trivial ?_ trivial
          obtain ⟨e52, H⟩ := H
          obtain ⟨h10, e51⟩ : ∃ hh : Heap, hh = hsets h9 p48 0 [(.pointer y43), (.int .i64 y44), (.pointer y45), (.int .i64 y46)] := ⟨_, rfl⟩
          have H := H h10 e51
          refine s_st (d := none) (h' := h10) rfl rfl rfl (fun dr => (r_store (v := (.agg #[(.pointer y43), (.int .i64 y44), (.pointer y45), (.int .i64 y46)])) Try.sizeOf36 rfl rfl rfl (one_all rfl) e52).trans (by rw [e51]; rfl)) trivial ?_ trivial
          refine s_pu (d := some 12) (v := (.bool y47)) rfl rfl rfl (r_assign rfl) ?_
          refine s_fin ?_
          show W _ _ _ _ _ _ _ _
          refine W_seq ?_
          refine W_region (.rl 0 (.ef 1 [] (.pu 2 (.pu 3 (.pu 4 (.ef 5 [] (.ef 6 [] (.pu 7 .fin) .no) .no)))) .no)) rfl rfl ?_
          obtain ⟨x53, e54, H⟩ := H
          obtain ⟨x55, e56, H⟩ := H
          obtain ⟨x57, e58, H⟩ := H
          obtain ⟨x59, e60, H⟩ := H
          refine s_rl (d := some 53) (v := (.agg #[(.pointer x53), (.int .i64 x55), (.pointer x57), (.int .i64 x59)])) rfl rfl rfl (fun dr => r_loadN Try.isAgg36 Try.sizeOf36 (vs := [(.pointer x53), (.int .i64 x55), (.pointer x57), (.int .i64 x59)]) rfl rfl ⟨e54, e56, e58, e60, trivial⟩) ?_
          refine s_ef (d := some 54) rfl rfl rfl (fun dr => r_call Try.call19 rfl rfl H) ?_ trivial
          rintro _ h11 ⟨y61, y62, y63, y64, y65, rfl, H⟩
          refine ⟨trivial, ?_⟩
          refine s_pu (d := some 52) (v := (.tuple #[(.agg #[(.pointer y61), (.int .i64 y62), (.pointer y63), (.int .i64 y64)]), (.bool y65)])) rfl rfl rfl (r_move rfl) ?_
          refine s_pu (d := some 55) (v := (.agg #[(.pointer y61), (.int .i64 y62), (.pointer y63), (.int .i64 y64)])) rfl rfl rfl (r_extract rfl rfl) ?_
          refine s_pu (d := some 56) (v := (.bool y65)) rfl rfl rfl (r_extract rfl rfl) ?_
          obtain ⟨p66, e67⟩ : ∃ p : Addr, p = ⟨h11.size, 0, none⟩ := ⟨_, rfl⟩
          obtain ⟨h12, e68⟩ : ∃ hh : Heap, hh = h11.push (.cells #[(.pointer none), (.int .i64 0), (.pointer none), (.int .i64 0)] 36) := ⟨_, rfl⟩
          have H := H p66 h12 e67 e68
          refine s_ef1 (d := some 13) (v := (.pointer (some p66))) (h' := h12) rfl rfl rfl (fun dr => (r_alloc Try.zeroValue36).trans (by rw [e67, e68]; rfl)) trivial ?_ trivial
          obtain ⟨e70, H⟩ := H
          obtain ⟨h13, e69⟩ : ∃ hh : Heap, hh = hsets h12 p66 0 [(.pointer y61), (.int .i64 y62), (.pointer y63), (.int .i64 y64)] := ⟨_, rfl⟩
          have H := H h13 e69
          refine s_st (d := none) (h' := h13) rfl rfl rfl (fun dr => (r_store (v := (.agg #[(.pointer y61), (.int .i64 y62), (.pointer y63), (.int .i64 y64)])) Try.sizeOf36 rfl rfl rfl (one_all rfl) e70).trans (by rw [e69]; rfl)) trivial ?_ trivial
          refine s_pu (d := some 14) (v := (.bool y65)) rfl rfl rfl (r_assign rfl) ?_
          refine s_fin ?_
          show W _ _ _ _ _ _ _ _
          refine W_seq ?_
          refine W_region (.rl 0 (.pu 1 (.ef 2 [] (.pu 3 (.pu 4 (.pu 5 (.ef 6 [] (.ef 7 [] (.pu 8 .fin) .no) .no)))) .no))) rfl rfl ?_
          obtain ⟨x71, e72, H⟩ := H
          obtain ⟨x73, e74, H⟩ := H
          obtain ⟨x75, e76, H⟩ := H
          obtain ⟨x77, e78, H⟩ := H
          refine s_rl (d := some 58) (v := (.agg #[(.pointer x71), (.int .i64 x73), (.pointer x75), (.int .i64 x77)])) rfl rfl rfl (fun dr => r_loadN Try.isAgg36 Try.sizeOf36 (vs := [(.pointer x71), (.int .i64 x73), (.pointer x75), (.int .i64 x77)]) rfl rfl ⟨e72, e74, e76, e78, trivial⟩) ?_
          refine s_pu (d := some 59) (v := (.int .i64 j3)) rfl rfl rfl (r_move rfl) ?_
          refine s_ef (d := some 60) rfl rfl rfl (fun dr => r_call Try.call15 rfl rfl H) ?_ trivial
          rintro _ h14 ⟨y79, y80, y81, y82, y83, rfl, H⟩
          refine ⟨trivial, ?_⟩
          refine s_pu (d := some 57) (v := (.tuple #[(.agg #[(.pointer y79), (.int .i64 y80), (.pointer y81), (.int .i64 y82)]), (.bool y83)])) rfl rfl rfl (r_move rfl) ?_
          refine s_pu (d := some 61) (v := (.agg #[(.pointer y79), (.int .i64 y80), (.pointer y81), (.int .i64 y82)])) rfl rfl rfl (r_extract rfl rfl) ?_
          refine s_pu (d := some 62) (v := (.bool y83)) rfl rfl rfl (r_extract rfl rfl) ?_
          obtain ⟨p84, e85⟩ : ∃ p : Addr, p = ⟨h14.size, 0, none⟩ := ⟨_, rfl⟩
          obtain ⟨h15, e86⟩ : ∃ hh : Heap, hh = h14.push (.cells #[(.pointer none), (.int .i64 0), (.pointer none), (.int .i64 0)] 36) := ⟨_, rfl⟩
          have H := H p84 h15 e85 e86
          refine s_ef1 (d := some 15) (v := (.pointer (some p84))) (h' := h15) rfl rfl rfl (fun dr => (r_alloc Try.zeroValue36).trans (by rw [e85, e86]; rfl)) trivial ?_ trivial
          obtain ⟨e88, H⟩ := H
          obtain ⟨h16, e87⟩ : ∃ hh : Heap, hh = hsets h15 p84 0 [(.pointer y79), (.int .i64 y80), (.pointer y81), (.int .i64 y82)] := ⟨_, rfl⟩
          have H := H h16 e87
          refine s_st (d := none) (h' := h16) rfl rfl rfl (fun dr => (r_store (v := (.agg #[(.pointer y79), (.int .i64 y80), (.pointer y81), (.int .i64 y82)])) Try.sizeOf36 rfl rfl rfl (one_all rfl) e88).trans (by rw [e87]; rfl)) trivial ?_ trivial
          refine s_pu (d := some 16) (v := (.bool y83)) rfl rfl rfl (r_assign rfl) ?_
          refine s_fin ?_
          show W _ _ _ _ _ _ _ _
          refine W_seq ?_
          refine W_set ?_
          intro N92 eN92
          have H := H (fun (p89 : Addr) (ve90 : Bool) (h17 : Heap) => ∀ b, N92 [] (mkE [(0, (Sl.v l1)), (2, (.int .i64 j3)), (8, (.pointer (some p14))), (12, (.bool y47)), (13, (.pointer (some p66))), (14, (.bool y65)), (16, (.bool y83)), (17, (.pointer (some p89))), (18, (.bool ve90))] b) h17) (by
            intro p89 ve90 h17 H b
            rw [eN92]
            show W _ _ _ _ _ _ _ _
            refine W_seq ?_
            refine W_seq ?_
            refine W_set ?_
            intro N95 eN95
            have H := H (fun (x93 : Bool) (h18 : Heap) => ∀ b, N95 [] (mkE [(8, (.pointer (some p14))), (17, (.pointer (some p89))), (18, (.bool ve90)), (93, (.bool x93))] b) h18) (by
              intro x93 h18 H b
              rw [eN95]
              show W _ _ _ _ _ _ _ _
              refine W_if x93 rfl (fun g122 => ?_) (fun g122 => ?_)
              · have H := H.1 g122
                refine W_seq ?_
                refine W_region (.pu 0 .fin) rfl rfl ?_
                refine s_pu (d := some 6) (v := (.bool false)) rfl rfl rfl (r_assign rfl) ?_
                refine s_fin ?_
                show W _ _ _ _ _ _ _ _
                refine W_ret ?_
                exact ⟨[(.bool false)], ⟨_, _, rfl, rfl, rfl⟩, false, rfl, H⟩
              · have H := H.2 g122
                refine W_skip ?_
                show W _ _ _ _ _ _ _ _
                refine W_seq ?_
                refine W_set ?_
                intro N98 eN98
                have H := H (fun (x96 : Bool) (h19 : Heap) => ∀ b, N98 [] (mkE [(6, (.bool x96))] b) h19) (by
                  intro x96 h19 H b
                  rw [eN98]
                  show W _ _ _ _ _ _ _ _
                  refine W_ret ?_
                  exact ⟨[(.bool x96)], ⟨_, _, rfl, rfl, rfl⟩, x96, rfl, H⟩)
                clear eN98
                refine W_draw [0, 1, 3, 7, 3, 31, 63, 127, 255] (.pu 0 (.pu 1 (.rd 2 (.rd 4 (.ef 3 [2] (.ef 5 [2, 4] (.pu 6 (.pu 7 (.pu 8 .fin))) .no) .no))))) (by kernel_rfl) (by kernel_rfl) ?_
                refine s_pu (d := some 94) (v := (.bool ve90)) rfl rfl rfl (r_move rfl) ?_
                refine s_pu (d := some 95) (v := (.bool ve90)) rfl rfl rfl (r_move rfl) ?_
                rcases Bool.eq_false_or_eq_true ve90 with g99 | g99
                · have H := H.1 g99
                  obtain ⟨x100, e101, H⟩ := H
                  obtain ⟨x102, e103, H⟩ := H
                  obtain ⟨x104, e105, H⟩ := H
                  obtain ⟨x106, e107, H⟩ := H
                  refine s_rd (d := some 96) (v := (.agg #[(.pointer x100), (.int .i64 x102), (.pointer x104), (.int .i64 x106)])) rfl rfl (wants_yes rfl rfl rfl rfl g99) (fun dr => r_loadN Try.isAgg36 Try.sizeOf36 (vs := [(.pointer x100), (.int .i64 x102), (.pointer x104), (.int .i64 x106)]) rfl rfl ⟨e101, e103, e105, e107, trivial⟩) ?_
                  obtain ⟨x108, e109, H⟩ := H
                  obtain ⟨x110, e111, H⟩ := H
                  obtain ⟨x112, e113, H⟩ := H
                  obtain ⟨x114, e115, H⟩ := H
                  refine s_rd (d := some 98) (v := (.agg #[(.pointer x108), (.int .i64 x110), (.pointer x112), (.int .i64 x114)])) rfl rfl (wants_yes rfl rfl rfl rfl g99) (fun dr => r_loadN Try.isAgg36 Try.sizeOf36 (vs := [(.pointer x108), (.int .i64 x110), (.pointer x112), (.int .i64 x114)]) rfl rfl ⟨e109, e111, e113, e115, trivial⟩) ?_
                  refine s_ef (d := some 97) rfl rfl (wants_yes rfl rfl rfl rfl g99) (fun dr => r_call Try.call20 rfl rfl H) ?_ trivial
                  rintro _ h20 ⟨y116, rfl, H⟩
                  obtain ⟨e117, H⟩ := H
                  obtain ⟨e118, H⟩ := H
                  obtain ⟨e119, H⟩ := H
                  obtain ⟨e120, H⟩ := H
                  refine ⟨⟨(.inl ⟨(wants_yes rfl rfl rfl rfl g99), fun dr => r_loadN Try.isAgg36 Try.sizeOf36 (vs := [(.pointer x108), (.int .i64 x110), (.pointer x112), (.int .i64 x114)]) rfl rfl ⟨e117, e118, e119, e120, trivial⟩⟩), trivial, trivial⟩, ?_⟩
                  refine s_ef (d := some 99) rfl rfl (wants_yes rfl rfl rfl rfl g99) (fun dr => r_call Try.call20 rfl rfl H) ?_ trivial
                  rintro _ h21 ⟨y121, rfl, H⟩
                  refine ⟨⟨trivial, trivial, trivial⟩, ?_⟩
                  refine s_pu (d := some 100) (v := (.bool (decide (y116 = y121)))) rfl rfl (wants_yes rfl rfl rfl rfl g99) (r_eql rfl rfl) ?_
                  refine s_pu (d := some 101) (v := (.bool (decide (y116 = y121)))) rfl rfl rfl (r_pick1 rfl g99 rfl) ?_
                  refine s_pu (d := some 6) (v := (.bool (decide (y116 = y121)))) rfl rfl rfl (r_assign rfl) ?_
                  refine s_fin ?_
                  exact N_mk (l := [(6, (.bool (decide (y116 = y121))))]) H ⟨rfl, trivial⟩
                · have H := H.2 g99
                  refine s_skd (d := some 96) rfl rfl (wants_no rfl rfl rfl rfl g99) ?_
                  refine s_skd (d := some 98) rfl rfl (wants_no rfl rfl rfl rfl g99) ?_
                  refine s_skf (d := some 97) rfl rfl (wants_no rfl rfl rfl rfl g99) ⟨(.inr ⟨wants_no rfl rfl rfl rfl g99, rfl⟩), trivial, trivial⟩ ?_ trivial
                  refine s_skf (d := some 99) rfl rfl (wants_no rfl rfl rfl rfl g99) ⟨trivial, trivial, trivial⟩ ?_ trivial
                  refine s_sk (d := some 100) rfl rfl (wants_no rfl rfl rfl rfl g99) ?_
                  refine s_pu (d := some 101) (v := (.bool false)) rfl rfl rfl (r_pick0 rfl g99 rfl) ?_
                  refine s_pu (d := some 6) (v := (.bool false)) rfl rfl rfl (r_assign rfl) ?_
                  refine s_fin ?_
                  exact N_mk (l := [(6, (.bool false))]) H ⟨rfl, trivial⟩)
            clear eN95
            refine W_draw [0, 1, 3, 7, 15, 31, 63, 31, 255, 511, 1023, 2047, 4095, 8191, 8191, 24575, 57343, 122879, 122879, 385023, 1040383, 2088959, 4194303, 8388607] (.pu 0 (.pu 1 (.pu 2 (.pu 3 (.pu 4 (.rd 5 (.rd 7 (.ef 6 [5] (.ef 8 [5, 7] (.pu 9 (.pu 10 (.pu 11 (.pu 12 (.pu 13 (.pu 14 (.pu 15 (.pu 16 (.pu 17 (.pu 18 (.pu 19 (.pu 20 (.pu 21 (.pu 22 (.pu 23 .fin))))))))))))))) .no) .no)))))))) (by kernel_rfl) (by kernel_rfl) ?_
            refine s_pu (d := some 70) (v := (.bool y47)) rfl rfl rfl (r_move rfl) ?_
            refine s_pu (d := some 71) (v := (.bool y47)) rfl rfl rfl (r_move rfl) ?_
            rcases Bool.eq_false_or_eq_true y47 with g123 | g123
            · have H := H.1 g123
              refine s_pu (d := some 72) (v := (.bool y65)) rfl rfl (wants_yes rfl rfl rfl rfl g123) (r_move rfl) ?_
              refine s_pu (d := some 73) (v := (.bool (!y65))) rfl rfl (wants_yes rfl rfl rfl rfl g123) (r_not rfl) ?_
              refine s_pu (d := some 74) (v := (.bool (!y65))) rfl rfl (wants_yes rfl rfl rfl rfl g123) (r_move rfl) ?_
              rcases Bool.eq_false_or_eq_true (!y65) with g124 | g124
              · have H := H.1 g124
                refine s_skd (d := some 75) rfl rfl (wants_no rfl rfl rfl rfl g124) ?_
                refine s_skd (d := some 77) rfl rfl (wants_no rfl rfl rfl rfl g124) ?_
                refine s_skf (d := some 76) rfl rfl (wants_no rfl rfl rfl rfl g124) ⟨(.inr ⟨wants_no rfl rfl rfl rfl g124, rfl⟩), trivial, trivial⟩ ?_ trivial
                refine s_skf (d := some 78) rfl rfl (wants_no rfl rfl rfl rfl g124) ⟨trivial, trivial, trivial⟩ ?_ trivial
                refine s_sk (d := some 79) rfl rfl (wants_no rfl rfl rfl rfl g124) ?_
                refine s_pu (d := some 80) (v := (.bool true)) rfl rfl (wants_yes rfl rfl rfl rfl g123) (r_pick1 rfl g124 rfl) ?_
                refine s_pu (d := some 81) (v := (.bool true)) rfl rfl rfl (r_pick1 rfl g123 rfl) ?_
                refine s_pu (d := some 82) (v := (.bool true)) rfl rfl rfl (r_move rfl) ?_
                refine s_sk (d := some 83) rfl rfl (wants_no rfl rfl rfl rfl rfl) ?_
                refine s_sk (d := some 84) rfl rfl (wants_no rfl rfl rfl rfl rfl) ?_
                refine s_sk (d := some 85) rfl rfl (wants_no rfl rfl rfl rfl rfl) ?_
                refine s_sk (d := some 86) rfl rfl (wants_no rfl rfl rfl rfl rfl) ?_
                refine s_sk (d := some 87) rfl rfl (wants_un rfl rfl rfl) ?_
                refine s_sk (d := some 88) rfl rfl (wants_un rfl rfl rfl) ?_
                refine s_sk (d := some 89) rfl rfl (wants_un rfl rfl rfl) ?_
                refine s_sk (d := some 90) rfl rfl (wants_un rfl rfl rfl) ?_
                refine s_sk (d := some 91) rfl rfl (wants_no rfl rfl rfl rfl rfl) ?_
                refine s_sk (d := some 92) rfl rfl (wants_no rfl rfl rfl rfl rfl) ?_
                refine s_pu (d := some 93) (v := (.bool true)) rfl rfl rfl (r_pick1 rfl rfl rfl) ?_
                refine s_fin ?_
                exact N_mk (l := [(8, (.pointer (some p14))), (17, (.pointer (some p89))), (18, (.bool ve90)), (93, (.bool true))]) H ⟨rfl, rfl, rfl, rfl, trivial⟩
              · have H := H.2 g124
                obtain ⟨x125, e126, H⟩ := H
                obtain ⟨x127, e128, H⟩ := H
                obtain ⟨x129, e130, H⟩ := H
                obtain ⟨x131, e132, H⟩ := H
                refine s_rd (d := some 75) (v := (.agg #[(.pointer x125), (.int .i64 x127), (.pointer x129), (.int .i64 x131)])) rfl rfl (wants_yes rfl rfl rfl rfl g124) (fun dr => r_loadN Try.isAgg36 Try.sizeOf36 (vs := [(.pointer x125), (.int .i64 x127), (.pointer x129), (.int .i64 x131)]) rfl rfl ⟨e126, e128, e130, e132, trivial⟩) ?_
                obtain ⟨x133, e134, H⟩ := H
                obtain ⟨x135, e136, H⟩ := H
                obtain ⟨x137, e138, H⟩ := H
                obtain ⟨x139, e140, H⟩ := H
                refine s_rd (d := some 77) (v := (.agg #[(.pointer x133), (.int .i64 x135), (.pointer x137), (.int .i64 x139)])) rfl rfl (wants_yes rfl rfl rfl rfl g124) (fun dr => r_loadN Try.isAgg36 Try.sizeOf36 (vs := [(.pointer x133), (.int .i64 x135), (.pointer x137), (.int .i64 x139)]) rfl rfl ⟨e134, e136, e138, e140, trivial⟩) ?_
                refine s_ef (d := some 76) rfl rfl (wants_yes rfl rfl rfl rfl g124) (fun dr => r_call Try.call20 rfl rfl H) ?_ trivial
                rintro _ h22 ⟨y141, rfl, H⟩
                obtain ⟨e142, H⟩ := H
                obtain ⟨e143, H⟩ := H
                obtain ⟨e144, H⟩ := H
                obtain ⟨e145, H⟩ := H
                refine ⟨⟨(.inl ⟨(wants_yes rfl rfl rfl rfl g124), fun dr => r_loadN Try.isAgg36 Try.sizeOf36 (vs := [(.pointer x133), (.int .i64 x135), (.pointer x137), (.int .i64 x139)]) rfl rfl ⟨e142, e143, e144, e145, trivial⟩⟩), trivial, trivial⟩, ?_⟩
                refine s_ef (d := some 78) rfl rfl (wants_yes rfl rfl rfl rfl g124) (fun dr => r_call Try.call20 rfl rfl H) ?_ trivial
                rintro _ h23 ⟨y146, rfl, H⟩
                refine ⟨⟨trivial, trivial, trivial⟩, ?_⟩
                refine s_pu (d := some 79) (v := (.bool (!decide (y141 = y146)))) rfl rfl (wants_yes rfl rfl rfl rfl g124) (r_neq rfl rfl) ?_
                refine s_pu (d := some 80) (v := (.bool (!decide (y141 = y146)))) rfl rfl (wants_yes rfl rfl rfl rfl g123) (r_pick0 rfl g124 rfl) ?_
                refine s_pu (d := some 81) (v := (.bool (!decide (y141 = y146)))) rfl rfl rfl (r_pick1 rfl g123 rfl) ?_
                refine s_pu (d := some 82) (v := (.bool (!decide (y141 = y146)))) rfl rfl rfl (r_move rfl) ?_
                rcases Bool.eq_false_or_eq_true (!decide (y141 = y146)) with g147 | g147
                · have H := H.1 g147
                  refine s_sk (d := some 83) rfl rfl (wants_no rfl rfl rfl rfl g147) ?_
                  refine s_sk (d := some 84) rfl rfl (wants_no rfl rfl rfl rfl g147) ?_
                  refine s_sk (d := some 85) rfl rfl (wants_no rfl rfl rfl rfl g147) ?_
                  refine s_sk (d := some 86) rfl rfl (wants_no rfl rfl rfl rfl g147) ?_
                  refine s_sk (d := some 87) rfl rfl (wants_un rfl rfl rfl) ?_
                  refine s_sk (d := some 88) rfl rfl (wants_un rfl rfl rfl) ?_
                  refine s_sk (d := some 89) rfl rfl (wants_un rfl rfl rfl) ?_
                  refine s_sk (d := some 90) rfl rfl (wants_un rfl rfl rfl) ?_
                  refine s_sk (d := some 91) rfl rfl (wants_no rfl rfl rfl rfl g147) ?_
                  refine s_sk (d := some 92) rfl rfl (wants_no rfl rfl rfl rfl g147) ?_
                  refine s_pu (d := some 93) (v := (.bool true)) rfl rfl rfl (r_pick1 rfl g147 rfl) ?_
                  refine s_fin ?_
                  exact N_mk (l := [(8, (.pointer (some p14))), (17, (.pointer (some p89))), (18, (.bool ve90)), (93, (.bool true))]) H ⟨rfl, rfl, rfl, rfl, trivial⟩
                · have H := H.2 g147
                  refine s_pu (d := some 83) (v := (.bool y83)) rfl rfl (wants_yes rfl rfl rfl rfl g147) (r_move rfl) ?_
                  refine s_pu (d := some 84) (v := (.int .i64 j3)) rfl rfl (wants_yes rfl rfl rfl rfl g147) (r_move rfl) ?_
                  refine s_pu (d := some 85) (v := (.bool (decide (0 ≤ j3)))) rfl rfl (wants_yes rfl rfl rfl rfl g147) (r_geq rfl rfl) ?_
                  refine s_pu (d := some 86) (v := (.bool (decide (0 ≤ j3)))) rfl rfl (wants_yes rfl rfl rfl rfl g147) (r_move rfl) ?_
                  rcases Bool.eq_false_or_eq_true (decide (0 ≤ j3)) with g148 | g148
                  · have H := H.1 g148
                    refine s_pu (d := some 87) (v := (.int .i64 j3)) rfl rfl (wants_yes rfl rfl rfl rfl g148) (r_move rfl) ?_
                    refine s_pu (d := some 88) (v := (Sl.v l1)) rfl rfl (wants_yes rfl rfl rfl rfl g148) (r_move rfl) ?_
                    refine s_pu (d := some 89) (v := (.int .i64 ((l1.len : Int)))) rfl rfl (wants_yes rfl rfl rfl rfl g148) (r_len Try.underlying22 rfl) ?_
                    refine s_pu (d := some 90) (v := (.bool (decide (j3 ≤ ((l1.len : Int)))))) rfl rfl (wants_yes rfl rfl rfl rfl g148) (r_leq rfl rfl) ?_
                    refine s_pu (d := some 91) (v := (.bool (decide (j3 ≤ ((l1.len : Int)))))) rfl rfl (wants_yes rfl rfl rfl rfl g147) (r_pick1 rfl g148 rfl) ?_
                    refine s_pu (d := some 92) (v := (.bool (y83 != (decide (j3 ≤ ((l1.len : Int))))))) rfl rfl (wants_yes rfl rfl rfl rfl g147) (r_neqB Try.underlying4 rfl rfl) ?_
                    refine s_pu (d := some 93) (v := (.bool (y83 != (decide (j3 ≤ ((l1.len : Int))))))) rfl rfl rfl (r_pick0 rfl g147 rfl) ?_
                    refine s_fin ?_
                    exact N_mk (l := [(8, (.pointer (some p14))), (17, (.pointer (some p89))), (18, (.bool ve90)), (93, (.bool (y83 != (decide (j3 ≤ ((l1.len : Int)))))))]) H ⟨rfl, rfl, rfl, rfl, trivial⟩
                  · have H := H.2 g148
                    refine s_sk (d := some 87) rfl rfl (wants_no rfl rfl rfl rfl g148) ?_
                    refine s_sk (d := some 88) rfl rfl (wants_no rfl rfl rfl rfl g148) ?_
                    refine s_sk (d := some 89) rfl rfl (wants_no rfl rfl rfl rfl g148) ?_
                    refine s_sk (d := some 90) rfl rfl (wants_no rfl rfl rfl rfl g148) ?_
                    refine s_pu (d := some 91) (v := (.bool false)) rfl rfl (wants_yes rfl rfl rfl rfl g147) (r_pick0 rfl g148 rfl) ?_
                    refine s_pu (d := some 92) (v := (.bool (y83 != false))) rfl rfl (wants_yes rfl rfl rfl rfl g147) (r_neqB Try.underlying4 rfl rfl) ?_
                    refine s_pu (d := some 93) (v := (.bool (y83 != false))) rfl rfl rfl (r_pick0 rfl g147 rfl) ?_
                    refine s_fin ?_
                    exact N_mk (l := [(8, (.pointer (some p14))), (17, (.pointer (some p89))), (18, (.bool ve90)), (93, (.bool (y83 != false)))]) H ⟨rfl, rfl, rfl, rfl, trivial⟩
            · have H := H.2 g123
              refine s_sk (d := some 72) rfl rfl (wants_no rfl rfl rfl rfl g123) ?_
              refine s_sk (d := some 73) rfl rfl (wants_no rfl rfl rfl rfl g123) ?_
              refine s_sk (d := some 74) rfl rfl (wants_no rfl rfl rfl rfl g123) ?_
              refine s_skd (d := some 75) rfl rfl (wants_un rfl rfl rfl) ?_
              refine s_skd (d := some 77) rfl rfl (wants_un rfl rfl rfl) ?_
              refine s_skf (d := some 76) rfl rfl (wants_un rfl rfl rfl) ⟨(.inr ⟨wants_un rfl rfl rfl, rfl⟩), trivial, trivial⟩ ?_ trivial
              refine s_skf (d := some 78) rfl rfl (wants_un rfl rfl rfl) ⟨trivial, trivial, trivial⟩ ?_ trivial
              refine s_sk (d := some 79) rfl rfl (wants_un rfl rfl rfl) ?_
              refine s_sk (d := some 80) rfl rfl (wants_no rfl rfl rfl rfl g123) ?_
              refine s_pu (d := some 81) (v := (.bool false)) rfl rfl rfl (r_pick0 rfl g123 rfl) ?_
              refine s_pu (d := some 82) (v := (.bool false)) rfl rfl rfl (r_move rfl) ?_
              refine s_pu (d := some 83) (v := (.bool y83)) rfl rfl (wants_yes rfl rfl rfl rfl rfl) (r_move rfl) ?_
              refine s_pu (d := some 84) (v := (.int .i64 j3)) rfl rfl (wants_yes rfl rfl rfl rfl rfl) (r_move rfl) ?_
              refine s_pu (d := some 85) (v := (.bool (decide (0 ≤ j3)))) rfl rfl (wants_yes rfl rfl rfl rfl rfl) (r_geq rfl rfl) ?_
              refine s_pu (d := some 86) (v := (.bool (decide (0 ≤ j3)))) rfl rfl (wants_yes rfl rfl rfl rfl rfl) (r_move rfl) ?_
              rcases Bool.eq_false_or_eq_true (decide (0 ≤ j3)) with g149 | g149
              · have H := H.1 g149
                refine s_pu (d := some 87) (v := (.int .i64 j3)) rfl rfl (wants_yes rfl rfl rfl rfl g149) (r_move rfl) ?_
                refine s_pu (d := some 88) (v := (Sl.v l1)) rfl rfl (wants_yes rfl rfl rfl rfl g149) (r_move rfl) ?_
                refine s_pu (d := some 89) (v := (.int .i64 ((l1.len : Int)))) rfl rfl (wants_yes rfl rfl rfl rfl g149) (r_len Try.underlying22 rfl) ?_
                refine s_pu (d := some 90) (v := (.bool (decide (j3 ≤ ((l1.len : Int)))))) rfl rfl (wants_yes rfl rfl rfl rfl g149) (r_leq rfl rfl) ?_
                refine s_pu (d := some 91) (v := (.bool (decide (j3 ≤ ((l1.len : Int)))))) rfl rfl (wants_yes rfl rfl rfl rfl rfl) (r_pick1 rfl g149 rfl) ?_
                refine s_pu (d := some 92) (v := (.bool (y83 != (decide (j3 ≤ ((l1.len : Int))))))) rfl rfl (wants_yes rfl rfl rfl rfl rfl) (r_neqB Try.underlying4 rfl rfl) ?_
                refine s_pu (d := some 93) (v := (.bool (y83 != (decide (j3 ≤ ((l1.len : Int))))))) rfl rfl rfl (r_pick0 rfl rfl rfl) ?_
                refine s_fin ?_
                exact N_mk (l := [(8, (.pointer (some p14))), (17, (.pointer (some p89))), (18, (.bool ve90)), (93, (.bool (y83 != (decide (j3 ≤ ((l1.len : Int)))))))]) H ⟨rfl, rfl, rfl, rfl, trivial⟩
              · have H := H.2 g149
                refine s_sk (d := some 87) rfl rfl (wants_no rfl rfl rfl rfl g149) ?_
                refine s_sk (d := some 88) rfl rfl (wants_no rfl rfl rfl rfl g149) ?_
                refine s_sk (d := some 89) rfl rfl (wants_no rfl rfl rfl rfl g149) ?_
                refine s_sk (d := some 90) rfl rfl (wants_no rfl rfl rfl rfl g149) ?_
                refine s_pu (d := some 91) (v := (.bool false)) rfl rfl (wants_yes rfl rfl rfl rfl rfl) (r_pick0 rfl g149 rfl) ?_
                refine s_pu (d := some 92) (v := (.bool (y83 != false))) rfl rfl (wants_yes rfl rfl rfl rfl rfl) (r_neqB Try.underlying4 rfl rfl) ?_
                refine s_pu (d := some 93) (v := (.bool (y83 != false))) rfl rfl rfl (r_pick0 rfl rfl rfl) ?_
                refine s_fin ?_
                exact N_mk (l := [(8, (.pointer (some p14))), (17, (.pointer (some p89))), (18, (.bool ve90)), (93, (.bool (y83 != false)))]) H ⟨rfl, rfl, rfl, rfl, trivial⟩)
          clear eN92
          refine W_draw [0, 0, 2, 7, 15, 31, 31, 0, 191, 511] (.rd 0 (.rd 1 (.ef 2 [1] (.ef 3 [0, 1] (.pu 4 (.pu 5 (.pu 6 (.ef 7 [] (.ef 8 [0, 1] (.pu 9 .fin) .no) .no)))) (.ef 7 [] (.ef 3 [0, 1] (.pu 4 (.pu 5 (.pu 6 (.ef 8 [0, 1] (.pu 9 .fin) .no)))) .no) .no)) (.ef 7 [] (.ef 2 [1] (.ef 3 [0, 1] (.pu 4 (.pu 5 (.pu 6 (.ef 8 [0, 1] (.pu 9 .fin) .no)))) .no) .no) .no)))) (by kernel_rfl) (by kernel_rfl) ?_
          obtain ⟨x150, e151, H⟩ := H
          obtain ⟨x152, e153, H⟩ := H
          obtain ⟨x154, e155, H⟩ := H
          obtain ⟨x156, e157, H⟩ := H
          refine s_rd (d := some 64) (v := (.agg #[(.pointer x150), (.int .i64 x152), (.pointer x154), (.int .i64 x156)])) rfl rfl rfl (fun dr => r_loadN Try.isAgg36 Try.sizeOf36 (vs := [(.pointer x150), (.int .i64 x152), (.pointer x154), (.int .i64 x156)]) rfl rfl ⟨e151, e153, e155, e157, trivial⟩) ?_
          obtain ⟨x158, e159, H⟩ := H
          obtain ⟨x160, e161, H⟩ := H
          obtain ⟨x162, e163, H⟩ := H
          obtain ⟨x164, e165, H⟩ := H
          refine s_rd (d := some 65) (v := (.agg #[(.pointer x158), (.int .i64 x160), (.pointer x162), (.int .i64 x164)])) rfl rfl rfl (fun dr => r_loadN Try.isAgg36 Try.sizeOf36 (vs := [(.pointer x158), (.int .i64 x160), (.pointer x162), (.int .i64 x164)]) rfl rfl ⟨e159, e161, e163, e165, trivial⟩) ?_
          refine s_or ?_ ?_
          · have H := H.1
            refine s_ef (d := some 66) rfl rfl rfl (fun dr => r_call Try.call20 rfl rfl H) ?_ trivial
            rintro _ h24 ⟨y166, rfl, H⟩
            obtain ⟨e167, H⟩ := H
            obtain ⟨e168, H⟩ := H
            obtain ⟨e169, H⟩ := H
            obtain ⟨e170, H⟩ := H
            refine ⟨⟨trivial, (.inl ⟨rfl, fun dr => r_loadN Try.isAgg36 Try.sizeOf36 (vs := [(.pointer x150), (.int .i64 x152), (.pointer x154), (.int .i64 x156)]) rfl rfl ⟨e167, e168, e169, e170, trivial⟩⟩), trivial⟩, ?_⟩
            refine s_or ?_ ?_
            · have H := H.1
              refine s_ef (d := some 67) rfl rfl rfl (fun dr => r_call Try.call15 rfl rfl H) ?_ trivial
              rintro _ h25 ⟨y171, y172, y173, y174, y175, rfl, H⟩
              refine ⟨⟨trivial, trivial, trivial⟩, ?_⟩
              refine s_pu (d := some 63) (v := (.tuple #[(.agg #[(.pointer y171), (.int .i64 y172), (.pointer y173), (.int .i64 y174)]), (.bool y175)])) rfl rfl rfl (r_move rfl) ?_
              refine s_pu (d := some 68) (v := (.agg #[(.pointer y171), (.int .i64 y172), (.pointer y173), (.int .i64 y174)])) rfl rfl rfl (r_extract rfl rfl) ?_
              refine s_pu (d := some 69) (v := (.bool y175)) rfl rfl rfl (r_extract rfl rfl) ?_
              obtain ⟨p176, e177⟩ : ∃ p : Addr, p = ⟨h25.size, 0, none⟩ := ⟨_, rfl⟩
              obtain ⟨h26, e178⟩ : ∃ hh : Heap, hh = h25.push (.cells #[(.pointer none), (.int .i64 0), (.pointer none), (.int .i64 0)] 36) := ⟨_, rfl⟩
              have H := H p176 h26 e177 e178
              obtain ⟨e179, H⟩ := H
              obtain ⟨e180, H⟩ := H
              obtain ⟨e181, H⟩ := H
              obtain ⟨e182, H⟩ := H
              obtain ⟨e183, H⟩ := H
              obtain ⟨e184, H⟩ := H
              obtain ⟨e185, H⟩ := H
              obtain ⟨e186, H⟩ := H
              refine s_ef1 (d := some 17) (v := (.pointer (some p176))) (h' := h26) rfl rfl rfl (fun dr => (r_alloc Try.zeroValue36).trans (by rw [e177, e178]; rfl)) ⟨(.inl ⟨rfl, fun dr => r_loadN Try.isAgg36 Try.sizeOf36 (vs := [(.pointer x158), (.int .i64 x160), (.pointer x162), (.int .i64 x164)]) rfl rfl ⟨e179, e180, e181, e182, trivial⟩⟩), (.inl ⟨rfl, fun dr => r_loadN Try.isAgg36 Try.sizeOf36 (vs := [(.pointer x150), (.int .i64 x152), (.pointer x154), (.int .i64 x156)]) rfl rfl ⟨e183, e184, e185, e186, trivial⟩⟩), trivial⟩ ?_ trivial
              obtain ⟨e188, H⟩ := H
              obtain ⟨h27, e187⟩ : ∃ hh : Heap, hh = hsets h26 p176 0 [(.pointer y171), (.int .i64 y172), (.pointer y173), (.int .i64 y174)] := ⟨_, rfl⟩
              have H := H h27 e187
              refine s_st (d := none) (h' := h27) rfl rfl rfl (fun dr => (r_store (v := (.agg #[(.pointer y171), (.int .i64 y172), (.pointer y173), (.int .i64 y174)])) Try.sizeOf36 rfl rfl rfl (one_all rfl) e188).trans (by rw [e187]; rfl)) ⟨trivial, trivial, trivial⟩ ?_ trivial
              refine s_pu (d := some 18) (v := (.bool y175)) rfl rfl rfl (r_assign rfl) ?_
              refine s_fin ?_
              exact N_mk (l := [(0, (Sl.v l1)), (2, (.int .i64 j3)), (8, (.pointer (some p14))), (12, (.bool y47)), (13, (.pointer (some p66))), (14, (.bool y65)), (16, (.bool y83)), (17, (.pointer (some p176))), (18, (.bool y175))]) H ⟨rfl, rfl, rfl, rfl, rfl, rfl, rfl, rfl, rfl, trivial⟩
            · have H := H.2
              obtain ⟨p189, e190⟩ : ∃ p : Addr, p = ⟨h24.size, 0, none⟩ := ⟨_, rfl⟩
              obtain ⟨h28, e191⟩ : ∃ hh : Heap, hh = h24.push (.cells #[(.pointer none), (.int .i64 0), (.pointer none), (.int .i64 0)] 36) := ⟨_, rfl⟩
              have H := H p189 h28 e190 e191
              obtain ⟨e192, H⟩ := H
              obtain ⟨e193, H⟩ := H
              obtain ⟨e194, H⟩ := H
              obtain ⟨e195, H⟩ := H
              obtain ⟨e196, H⟩ := H
              obtain ⟨e197, H⟩ := H
              obtain ⟨e198, H⟩ := H
              obtain ⟨e199, H⟩ := H
              refine s_ef1 (d := some 17) (v := (.pointer (some p189))) (h' := h28) rfl rfl rfl (fun dr => (r_alloc Try.zeroValue36).trans (by rw [e190, e191]; rfl)) ⟨(.inl ⟨rfl, fun dr => r_loadN Try.isAgg36 Try.sizeOf36 (vs := [(.pointer x158), (.int .i64 x160), (.pointer x162), (.int .i64 x164)]) rfl rfl ⟨e192, e193, e194, e195, trivial⟩⟩), (.inl ⟨rfl, fun dr => r_loadN Try.isAgg36 Try.sizeOf36 (vs := [(.pointer x150), (.int .i64 x152), (.pointer x154), (.int .i64 x156)]) rfl rfl ⟨e196, e197, e198, e199, trivial⟩⟩), trivial⟩ ?_ trivial
              refine s_ef (d := some 67) rfl rfl rfl (fun dr => r_call Try.call15 rfl rfl H) ?_ trivial
              rintro _ h29 ⟨y200, y201, y202, y203, y204, rfl, H⟩
              refine ⟨⟨trivial, trivial, trivial⟩, ?_⟩
              refine s_pu (d := some 63) (v := (.tuple #[(.agg #[(.pointer y200), (.int .i64 y201), (.pointer y202), (.int .i64 y203)]), (.bool y204)])) rfl rfl rfl (r_move rfl) ?_
              refine s_pu (d := some 68) (v := (.agg #[(.pointer y200), (.int .i64 y201), (.pointer y202), (.int .i64 y203)])) rfl rfl rfl (r_extract rfl rfl) ?_
              refine s_pu (d := some 69) (v := (.bool y204)) rfl rfl rfl (r_extract rfl rfl) ?_
              obtain ⟨e206, H⟩ := H
              obtain ⟨h30, e205⟩ : ∃ hh : Heap, hh = hsets h29 p189 0 [(.pointer y200), (.int .i64 y201), (.pointer y202), (.int .i64 y203)] := ⟨_, rfl⟩
              have H := H h30 e205
              refine s_st (d := none) (h' := h30) rfl rfl rfl (fun dr => (r_store (v := (.agg #[(.pointer y200), (.int .i64 y201), (.pointer y202), (.int .i64 y203)])) Try.sizeOf36 rfl rfl rfl (one_all rfl) e206).trans (by rw [e205]; rfl)) ⟨trivial, trivial, trivial⟩ ?_ trivial
              refine s_pu (d := some 18) (v := (.bool y204)) rfl rfl rfl (r_assign rfl) ?_
              refine s_fin ?_
              exact N_mk (l := [(0, (Sl.v l1)), (2, (.int .i64 j3)), (8, (.pointer (some p14))), (12, (.bool y47)), (13, (.pointer (some p66))), (14, (.bool y65)), (16, (.bool y83)), (17, (.pointer (some p189))), (18, (.bool y204))]) H ⟨rfl, rfl, rfl, rfl, rfl, rfl, rfl, rfl, rfl, trivial⟩
          · have H := H.2
            obtain ⟨p207, e208⟩ : ∃ p : Addr, p = ⟨h16.size, 0, none⟩ := ⟨_, rfl⟩
            obtain ⟨h31, e209⟩ : ∃ hh : Heap, hh = h16.push (.cells #[(.pointer none), (.int .i64 0), (.pointer none), (.int .i64 0)] 36) := ⟨_, rfl⟩
            have H := H p207 h31 e208 e209
            obtain ⟨e210, H⟩ := H
            obtain ⟨e211, H⟩ := H
            obtain ⟨e212, H⟩ := H
            obtain ⟨e213, H⟩ := H
            obtain ⟨e214, H⟩ := H
            obtain ⟨e215, H⟩ := H
            obtain ⟨e216, H⟩ := H
            obtain ⟨e217, H⟩ := H
            refine s_ef1 (d := some 17) (v := (.pointer (some p207))) (h' := h31) rfl rfl rfl (fun dr => (r_alloc Try.zeroValue36).trans (by rw [e208, e209]; rfl)) ⟨(.inl ⟨rfl, fun dr => r_loadN Try.isAgg36 Try.sizeOf36 (vs := [(.pointer x158), (.int .i64 x160), (.pointer x162), (.int .i64 x164)]) rfl rfl ⟨e210, e211, e212, e213, trivial⟩⟩), (.inl ⟨rfl, fun dr => r_loadN Try.isAgg36 Try.sizeOf36 (vs := [(.pointer x150), (.int .i64 x152), (.pointer x154), (.int .i64 x156)]) rfl rfl ⟨e214, e215, e216, e217, trivial⟩⟩), trivial⟩ ?_ trivial
            refine s_ef (d := some 66) rfl rfl rfl (fun dr => r_call Try.call20 rfl rfl H) ?_ trivial
            rintro _ h32 ⟨y218, rfl, H⟩
            obtain ⟨e219, H⟩ := H
            obtain ⟨e220, H⟩ := H
            obtain ⟨e221, H⟩ := H
            obtain ⟨e222, H⟩ := H
            refine ⟨⟨trivial, (.inl ⟨rfl, fun dr => r_loadN Try.isAgg36 Try.sizeOf36 (vs := [(.pointer x150), (.int .i64 x152), (.pointer x154), (.int .i64 x156)]) rfl rfl ⟨e219, e220, e221, e222, trivial⟩⟩), trivial⟩, ?_⟩
            refine s_ef (d := some 67) rfl rfl rfl (fun dr => r_call Try.call15 rfl rfl H) ?_ trivial
            rintro _ h33 ⟨y223, y224, y225, y226, y227, rfl, H⟩
            refine ⟨⟨trivial, trivial, trivial⟩, ?_⟩
            refine s_pu (d := some 63) (v := (.tuple #[(.agg #[(.pointer y223), (.int .i64 y224), (.pointer y225), (.int .i64 y226)]), (.bool y227)])) rfl rfl rfl (r_move rfl) ?_
            refine s_pu (d := some 68) (v := (.agg #[(.pointer y223), (.int .i64 y224), (.pointer y225), (.int .i64 y226)])) rfl rfl rfl (r_extract rfl rfl) ?_
            refine s_pu (d := some 69) (v := (.bool y227)) rfl rfl rfl (r_extract rfl rfl) ?_
            obtain ⟨e229, H⟩ := H
            obtain ⟨h34, e228⟩ : ∃ hh : Heap, hh = hsets h33 p207 0 [(.pointer y223), (.int .i64 y224), (.pointer y225), (.int .i64 y226)] := ⟨_, rfl⟩
            have H := H h34 e228
            refine s_st (d := none) (h' := h34) rfl rfl rfl (fun dr => (r_store (v := (.agg #[(.pointer y223), (.int .i64 y224), (.pointer y225), (.int .i64 y226)])) Try.sizeOf36 rfl rfl rfl (one_all rfl) e229).trans (by rw [e228]; rfl)) ⟨trivial, trivial, trivial⟩ ?_ trivial
            refine s_pu (d := some 18) (v := (.bool y227)) rfl rfl rfl (r_assign rfl) ?_
            refine s_fin ?_
            exact N_mk (l := [(0, (Sl.v l1)), (2, (.int .i64 j3)), (8, (.pointer (some p14))), (12, (.bool y47)), (13, (.pointer (some p66))), (14, (.bool y65)), (16, (.bool y83)), (17, (.pointer (some p207))), (18, (.bool y227))]) H ⟨rfl, rfl, rfl, rfl, rfl, rfl, rfl, rfl, rfl, trivial⟩
      · rcases Bool.eq_false_or_eq_true (y13 != ((decide (0 ≤ i2)) && (decide (i2 ≤ ((l1.len : Int)))))) with g32 | g32
        · refine s_sk (d := some 44) rfl rfl (wants_no rfl rfl rfl rfl g32) ?_
          refine s_sk (d := some 45) rfl rfl (wants_no rfl rfl rfl rfl g32) ?_
          refine s_pu (d := some 46) (v := (.bool true)) rfl rfl rfl (r_pick1 rfl g32 rfl) ?_
          exact S_mk (l := [(0, (Sl.v l1)), (2, (.int .i64 j3)), (8, (.pointer (some p14))), (46, (.bool ((y13 != ((decide (0 ≤ i2)) && (decide (i2 ≤ ((l1.len : Int)))))) || (!y28))))]) HJ ⟨rfl, rfl, rfl, (by rw [g32]; rfl), trivial⟩
        · refine s_pu (d := some 44) (v := (.bool y28)) rfl rfl (wants_yes rfl rfl rfl rfl g32) (r_move rfl) ?_
          refine s_pu (d := some 45) (v := (.bool (!y28))) rfl rfl (wants_yes rfl rfl rfl rfl g32) (r_not rfl) ?_
          refine s_pu (d := some 46) (v := (.bool (!y28))) rfl rfl rfl (r_pick0 rfl g32 rfl) ?_
          exact S_mk (l := [(0, (Sl.v l1)), (2, (.int .i64 j3)), (8, (.pointer (some p14))), (46, (.bool ((y13 != ((decide (0 ≤ i2)) && (decide (i2 ≤ ((l1.len : Int)))))) || (!y28))))]) HJ ⟨rfl, rfl, rfl, (by rw [g32]; rfl), trivial⟩
    · rcases Bool.eq_false_or_eq_true (decide (0 ≤ i2)) with g29 | g29
      · refine s_pu (d := some 37) (v := (.int .i64 i2)) rfl rfl (wants_yes rfl rfl rfl rfl g29) (r_move rfl) ?_
        refine s_pu (d := some 38) (v := (Sl.v l1)) rfl rfl (wants_yes rfl rfl rfl rfl g29) (r_move rfl) ?_
        refine s_pu (d := some 39) (v := (.int .i64 ((l1.len : Int)))) rfl rfl (wants_yes rfl rfl rfl rfl g29) (r_len Try.underlying22 rfl) ?_
        refine s_pu (d := some 40) (v := (.bool (decide (i2 ≤ ((l1.len : Int)))))) rfl rfl (wants_yes rfl rfl rfl rfl g29) (r_leq rfl rfl) ?_
        refine s_pu (d := some 41) (v := (.bool (decide (i2 ≤ ((l1.len : Int)))))) rfl rfl rfl (r_pick1 rfl g29 rfl) ?_
        exact S_mk (l := [(0, (Sl.v l1)), (2, (.int .i64 j3)), (8, (.pointer (some p14))), (10, (.bool y28)), (33, (.bool y13)), (41, (.bool ((decide (0 ≤ i2)) && (decide (i2 ≤ ((l1.len : Int)))))))]) HJ ⟨rfl, rfl, rfl, rfl, rfl, (by rw [g29]; rfl), trivial⟩
      · refine s_sk (d := some 37) rfl rfl (wants_no rfl rfl rfl rfl g29) ?_
        refine s_sk (d := some 38) rfl rfl (wants_no rfl rfl rfl rfl g29) ?_
        refine s_sk (d := some 39) rfl rfl (wants_no rfl rfl rfl rfl g29) ?_
        refine s_sk (d := some 40) rfl rfl (wants_no rfl rfl rfl rfl g29) ?_
        refine s_pu (d := some 41) (v := (.bool false)) rfl rfl rfl (r_pick0 rfl g29 rfl) ?_
        exact S_mk (l := [(0, (Sl.v l1)), (2, (.int .i64 j3)), (8, (.pointer (some p14))), (10, (.bool y28)), (33, (.bool y13)), (41, (.bool ((decide (0 ≤ i2)) && (decide (i2 ≤ ((l1.len : Int)))))))]) HJ ⟨rfl, rfl, rfl, rfl, rfl, (by rw [g29]; rfl), trivial⟩

/-! ### law3_ZipTells -/

def law3_ZipTells_F (r : World) (l1 : Sl) (acts2 : Sl) (xs3 : Sl) (h : Heap) (R : Bool → Heap → Prop) : Prop :=
  law3_zipped r h fun y4 h1 =>
  Br (!y4) (
    R false h1) (
    zip_Of r l1 h1 fun y5 y6 y7 y8 h2 =>
    New h2 (.cells #[(.pointer none), (.int .i64 0), (.pointer none), (.int .i64 0)] 36) fun p9 h3 =>
    St h3 p9 4 [(.pointer y5), (.int .i64 y6), (.pointer y7), (.int .i64 y8)] fun h4 =>
    ∀ X17 : Sl → Int → Int → Heap → Prop, (∀ (all14 : Sl) (va15 : Int) (i16 : Int) (h5 : Heap),
      (Br ((decide (i16 < ((acts2.len : Int)))) && (decide (i16 < ((xs3.len : Int))))) (
        LdP h5 (Addr.add p9 0) fun x21 =>
        LdI h5 (Addr.add p9 1) fun x23 =>
        LdP h5 (Addr.add p9 2) fun x25 =>
        LdI h5 (Addr.add p9 3) fun x27 =>
        New h5 (.cells #[(.pointer none), (.int .i64 0), (.pointer none), (.int .i64 0)] 36) fun p29 h6 =>
        St h6 p29 4 [(.pointer x21), (.int .i64 x23), (.pointer x25), (.int .i64 x27)] fun h7 =>
        Ix acts2 i16 1 fun q38 =>
        LdI h7 q38 fun x40 =>
        ∀ J46 : Sl → Int → Bool → Bool → Heap → Prop, (∀ (all42 : Sl) (va43 : Int) (is44 : Bool) (has45 : Bool) (h8 : Heap),
          (LdP h8 (Addr.add p29 0) fun x48 =>
          LdI h8 (Addr.add p29 1) fun x50 =>
          LdP h8 (Addr.add p29 2) fun x52 =>
          LdI h8 (Addr.add p29 3) fun x54 =>
          St h8 p9 4 [(.pointer x48), (.int .i64 x50), (.pointer x52), (.int .i64 x54)] fun h9 =>
          LdP h9 (Addr.add p9 0) fun x58 =>
          LdI h9 (Addr.add p9 1) fun x60 =>
          LdP h9 (Addr.add p9 2) fun x62 =>
          LdI h9 (Addr.add p9 3) fun x64 =>
          zip_Zip_Ints r x58 x60 x62 x64 h9 fun y66 h10 =>
          same_Ints r y66 all42 h10 fun y67 h11 =>
          LdP h11 (Addr.add p9 0) fun x68 =>
          LdI h11 (Addr.add p9 1) fun x70 =>
          LdP h11 (Addr.add p9 2) fun x72 =>
          LdI h11 (Addr.add p9 3) fun x74 =>
          zip_Zip_At r x68 x70 x72 x74 h11 fun y76 y77 h12 =>
          ∀ J79 : Bool → Heap → Prop, (∀ (x78 : Bool) (h13 : Heap),
            (Br x78 (
              R false h13) (
              X17 all42 va43 (w64 (i16 + 1)) h13)) →
            J79 x78 h13) →
          Br (is44 != has45) (
            J79 true h12) (
            Br (!y67) (
              J79 true h12) (
              LdP h12 (Addr.add p9 0) fun x84 =>
              LdI h12 (Addr.add p9 1) fun x86 =>
              LdP h12 (Addr.add p9 2) fun x88 =>
              LdI h12 (Addr.add p9 3) fun x90 =>
              zip_Zip_Place r x84 x86 x88 x90 h12 fun y92 h14 =>
              Br (!decide (y92 = va43)) (
                J79 true h14) (
                Br (y77 != (decide (va43 < ((all42.len : Int))))) (
                  J79 true h14) (
                  Br y77 (
                    Ix all42 va43 1 fun q100 =>
                    LdI h14 q100 fun x102 =>
                    Br (!decide (y76 = x102)) (
                      J79 true h14) (
                      Br (!y77) (
                        J79 (!decide (y76 = 0)) h14) (
                        J79 false h14))) (
                    Br (!y77) (
                      J79 (!decide (y76 = 0)) h14) (
                      J79 false h14))))))) →
          J46 all42 va43 is44 has45 h8) →
        Br (decide (x40 = 0)) (
          LdP h7 (Addr.add p9 0) fun x107 =>
          LdI h7 (Addr.add p9 1) fun x109 =>
          LdP h7 (Addr.add p9 2) fun x111 =>
          LdI h7 (Addr.add p9 3) fun x113 =>
          zip_Zip_Left r x107 x109 x111 x113 h7 fun y115 y116 y117 y118 y119 h15 =>
          St h15 p29 4 [(.pointer y115), (.int .i64 y116), (.pointer y117), (.int .i64 y118)] fun h16 =>
          Br (decide (0 < va15)) (
            J46 all14 (w64 (va15 - 1)) y119 (decide (0 < va15)) h16) (
            J46 all14 va15 y119 (decide (0 < va15)) h16)) (
          Ix acts2 i16 1 fun q127 =>
          LdI h7 q127 fun x129 =>
          Br (decide (x129 = 1)) (
            LdP h7 (Addr.add p9 0) fun x131 =>
            LdI h7 (Addr.add p9 1) fun x133 =>
            LdP h7 (Addr.add p9 2) fun x135 =>
            LdI h7 (Addr.add p9 3) fun x137 =>
            zip_Zip_Right r x131 x133 x135 x137 h7 fun y139 y140 y141 y142 y143 h17 =>
            St h17 p29 4 [(.pointer y139), (.int .i64 y140), (.pointer y141), (.int .i64 y142)] fun h18 =>
            Br (decide (va15 < ((all14.len : Int)))) (
              J46 all14 (w64 (va15 + 1)) y143 (decide (va15 < ((all14.len : Int)))) h18) (
              J46 all14 va15 y143 (decide (va15 < ((all14.len : Int)))) h18)) (
            Ix acts2 i16 1 fun q151 =>
            LdI h7 q151 fun x153 =>
            Br (decide (x153 = 2)) (
              LdP h7 (Addr.add p9 0) fun x155 =>
              LdI h7 (Addr.add p9 1) fun x157 =>
              LdP h7 (Addr.add p9 2) fun x159 =>
              LdI h7 (Addr.add p9 3) fun x161 =>
              Ix xs3 i16 1 fun q167 =>
              LdI h7 q167 fun x169 =>
              zip_Zip_Insert r x155 x157 x159 x161 x169 h7 fun y171 y172 y173 y174 h19 =>
              St h19 p29 4 [(.pointer y171), (.int .i64 y172), (.pointer y173), (.int .i64 y174)] fun h20 =>
              Ix xs3 i16 1 fun q181 =>
              LdI h20 q181 fun x183 =>
              ref1_With r all14 va15 x183 h20 fun y185 h21 =>
              J46 y185 (w64 (va15 + 1)) true true h21) (
              Ix acts2 i16 1 fun q190 =>
              LdI h7 q190 fun x192 =>
              Br (decide (x192 = 3)) (
                LdP h7 (Addr.add p9 0) fun x194 =>
                LdI h7 (Addr.add p9 1) fun x196 =>
                LdP h7 (Addr.add p9 2) fun x198 =>
                LdI h7 (Addr.add p9 3) fun x200 =>
                zip_Zip_Delete r x194 x196 x198 x200 h7 fun y202 y203 y204 y205 y206 h22 =>
                St h22 p29 4 [(.pointer y202), (.int .i64 y203), (.pointer y204), (.int .i64 y205)] fun h23 =>
                Br (decide (va15 < ((all14.len : Int)))) (
                  ref1_Without r all14 va15 h23 fun y209 h24 =>
                  J46 y209 va15 y206 (decide (va15 < ((all14.len : Int)))) h24) (
                  J46 all14 va15 y206 (decide (va15 < ((all14.len : Int)))) h23)) (
                Ix acts2 i16 1 fun q215 =>
                LdI h7 q215 fun x217 =>
                Br (decide (x217 = 4)) (
                  LdP h7 (Addr.add p9 0) fun x219 =>
                  LdI h7 (Addr.add p9 1) fun x221 =>
                  LdP h7 (Addr.add p9 2) fun x223 =>
                  LdI h7 (Addr.add p9 3) fun x225 =>
                  Ix xs3 i16 1 fun q231 =>
                  LdI h7 q231 fun x233 =>
                  zip_Zip_Set r x219 x221 x223 x225 x233 h7 fun y235 y236 y237 y238 y239 h25 =>
                  St h25 p29 4 [(.pointer y235), (.int .i64 y236), (.pointer y237), (.int .i64 y238)] fun h26 =>
                  Br (decide (va15 < ((all14.len : Int)))) (
                    Ix xs3 i16 1 fun q246 =>
                    LdI h26 q246 fun x248 =>
                    ref1_Put r all14 va15 x248 h26 fun y250 h27 =>
                    J46 y250 va15 y239 (decide (va15 < ((all14.len : Int)))) h27) (
                    J46 all14 va15 y239 (decide (va15 < ((all14.len : Int)))) h26)) (
                  LdP h7 (Addr.add p9 0) fun x252 =>
                  LdI h7 (Addr.add p9 1) fun x254 =>
                  LdP h7 (Addr.add p9 2) fun x256 =>
                  LdI h7 (Addr.add p9 3) fun x258 =>
                  Ix xs3 i16 1 fun q264 =>
                  LdI h7 q264 fun x266 =>
                  zip_Zip_Go r x252 x254 x256 x258 x266 h7 fun y268 y269 y270 y271 y272 h28 =>
                  St h28 p29 4 [(.pointer y268), (.int .i64 y269), (.pointer y270), (.int .i64 y271)] fun h29 =>
                  ∀ J276 : Bool → Prop, (∀ (has275 : Bool),
                    (Br has275 (
                      Ix xs3 i16 1 fun q282 =>
                      LdI h29 q282 fun x284 =>
                      J46 all14 x284 y272 has275 h29) (
                      J46 all14 va15 y272 has275 h29)) →
                    J276 has275) →
                  Ix xs3 i16 1 fun q291 =>
                  LdI h29 q291 fun x293 =>
                  Br (decide (0 ≤ x293)) (
                    Ix xs3 i16 1 fun q300 =>
                    LdI h29 q300 fun x302 =>
                    J276 (decide (x302 ≤ ((all14.len : Int))))) (
                    J276 false))))))) (
        R true h5)) →
      X17 all14 va15 i16 h5) →
    X17 l1 0 0 h4)

set_option maxRecDepth 100000 in
theorem law3_ZipTells_of {r : World} {l1 : Sl} {acts2 : Sl} {xs3 : Sl} {h : Heap} {R : Bool → Heap → Prop} (H : law3_ZipTells_F r l1 acts2 xs3 h R) : law3_ZipTells r l1 acts2 xs3 h R := by
  unfold law3_ZipTells_F at H
  refine calls_of 203 [.tmp 6] Try.func6 rfl rfl rfl rfl rfl ?_
  refine W_seq ?_
  refine W_region (.pu 0 .fin) rfl rfl ?_
  refine s_pu (d := some 6) (v := (.bool false)) rfl rfl rfl (r_assign rfl) ?_
  refine s_fin ?_
  show W _ _ _ _ _ _ _ _
  refine W_seq ?_
  refine W_region (.ef 0 [] (.pu 1 .fin) .no) rfl rfl ?_
  refine s_ef (d := some 18) rfl rfl rfl (fun dr => r_call Try.call13 rfl rfl H) ?_ trivial
  rintro _ h1 ⟨y4, rfl, H⟩
  refine ⟨trivial, ?_⟩
  refine s_pu (d := some 7) (v := (.bool y4)) rfl rfl rfl (r_assign rfl) ?_
  refine s_fin ?_
  show W _ _ _ _ _ _ _ _
  refine W_seq ?_
  refine W_seq ?_
  refine W_region (.pu 0 (.pu 1 .fin)) rfl rfl ?_
  refine s_pu (d := some 19) (v := (.bool y4)) rfl rfl rfl (r_move rfl) ?_
  refine s_pu (d := some 20) (v := (.bool (!y4))) rfl rfl rfl (r_not rfl) ?_
  refine s_fin ?_
  show W _ _ _ _ _ _ _ _
  refine W_if (!y4) rfl (fun g311 => ?_) (fun g311 => ?_)
  · have H := H.1 g311
    refine W_seq ?_
    refine W_region (.pu 0 .fin) rfl rfl ?_
    refine s_pu (d := some 6) (v := (.bool false)) rfl rfl rfl (r_assign rfl) ?_
    refine s_fin ?_
    show W _ _ _ _ _ _ _ _
    refine W_ret ?_
    exact ⟨[(.bool false)], ⟨_, _, rfl, rfl, rfl⟩, false, rfl, H⟩
  · have H := H.2 g311
    refine W_skip ?_
    show W _ _ _ _ _ _ _ _
    refine W_seq ?_
    refine W_region (.pu 0 (.ef 1 [] (.ef 2 [] (.ef 3 [] .fin .no) .no) .no)) rfl rfl ?_
    refine s_pu (d := some 21) (v := (Sl.v l1)) rfl rfl rfl (r_move rfl) ?_
    refine s_ef (d := some 22) rfl rfl rfl (fun dr => r_call Try.call14 rfl rfl H) ?_ trivial
    rintro _ h2 ⟨y5, y6, y7, y8, rfl, H⟩
    refine ⟨trivial, ?_⟩
    obtain ⟨p9, e10⟩ : ∃ p : Addr, p = ⟨h2.size, 0, none⟩ := ⟨_, rfl⟩
    obtain ⟨h3, e11⟩ : ∃ hh : Heap, hh = h2.push (.cells #[(.pointer none), (.int .i64 0), (.pointer none), (.int .i64 0)] 36) := ⟨_, rfl⟩
    have H := H p9 h3 e10 e11
    refine s_ef1 (d := some 8) (v := (.pointer (some p9))) (h' := h3) rfl rfl rfl (fun dr => (r_alloc Try.zeroValue36).trans (by rw [e10, e11]; rfl)) trivial ?_ trivial
    obtain ⟨e13, H⟩ := H
    obtain ⟨h4, e12⟩ : ∃ hh : Heap, hh = hsets h3 p9 0 [(.pointer y5), (.int .i64 y6), (.pointer y7), (.int .i64 y8)] := ⟨_, rfl⟩
    have H := H h4 e12
    refine s_st (d := none) (h' := h4) rfl rfl rfl (fun dr => (r_store (v := (.agg #[(.pointer y5), (.int .i64 y6), (.pointer y7), (.int .i64 y8)])) Try.sizeOf36 rfl rfl rfl (one_all rfl) e13).trans (by rw [e12]; rfl)) trivial ?_ trivial
    refine s_fin ?_
    show W _ _ _ _ _ _ _ _
    refine W_seq ?_
    refine W_region (.pu 0 (.pu 1 .fin)) rfl rfl ?_
    refine s_pu (d := some 23) (v := (Sl.v l1)) rfl rfl rfl (r_move rfl) ?_
    refine s_pu (d := some 9) (v := (Sl.v l1)) rfl rfl rfl (r_assign rfl) ?_
    refine s_fin ?_
    show W _ _ _ _ _ _ _ _
    refine W_seq ?_
    refine W_region (.pu 0 .fin) rfl rfl ?_
    refine s_pu (d := some 10) (v := (.int .i64 0)) rfl rfl rfl (r_assign rfl) ?_
    refine s_fin ?_
    show W _ _ _ _ _ _ _ _
    refine W_seq ?_
    refine W_seq ?_
    refine W_region (.pu 0 .fin) rfl rfl ?_
    refine s_pu (d := some 11) (v := (.int .i64 0)) rfl rfl rfl (r_assign rfl) ?_
    refine s_fin ?_
    show W _ _ _ _ _ _ _ _
    refine W_block ?_
    refine W_loop (WL_mk (l := [(1, (Sl.v acts2)), (2, (Sl.v xs3)), (8, (.pointer (some p9))), (9, (Sl.v l1)), (10, (.int .i64 0)), (11, (.int .i64 0))]) ?_ ⟨rfl, rfl, rfl, rfl, rfl, rfl, trivial⟩)
    refine H (fun (all14 : Sl) (va15 : Int) (i16 : Int) (h5 : Heap) => ∀ b, WL _ _ _ _ _ _ (mkE [(1, (Sl.v acts2)), (2, (Sl.v xs3)), (8, (.pointer (some p9))), (9, (Sl.v all14)), (10, (.int .i64 va15)), (11, (.int .i64 i16))] b) h5) ?_
    intro all14 va15 i16 h5 H b
    refine WL_round ?_
    refine W_seq ?_
    refine W_seq ?_
    refine W_region (.pu 0 (.pu 1 (.pu 2 (.pu 3 (.pu 4 (.pu 5 (.pu 6 (.pu 7 (.pu 8 (.pu 9 .fin)))))))))) rfl rfl ?_
    refine s_pu (d := some 24) (v := (.int .i64 i16)) rfl rfl rfl (r_move rfl) ?_
    refine s_pu (d := some 25) (v := (Sl.v acts2)) rfl rfl rfl (r_move rfl) ?_
    refine s_pu (d := some 26) (v := (.int .i64 ((acts2.len : Int)))) rfl rfl rfl (r_len Try.underlying22 rfl) ?_
    refine s_pu (d := some 27) (v := (.bool (decide (i16 < ((acts2.len : Int)))))) rfl rfl rfl (r_lss rfl rfl) ?_
    refine s_pu (d := some 28) (v := (.bool (decide (i16 < ((acts2.len : Int)))))) rfl rfl rfl (r_move rfl) ?_
    refine S_meet (l := [(1, (Sl.v acts2)), (2, (Sl.v xs3)), (8, (.pointer (some p9))), (9, (Sl.v all14)), (10, (.int .i64 va15)), (11, (.int .i64 i16)), (33, (.bool ((decide (i16 < ((acts2.len : Int)))) && (decide (i16 < ((xs3.len : Int)))))))]) (i := 5) ?_ (fun HJ => ?_)
    · intro b
      show S _ _ _ _ _ _
      refine s_fin ?_
      show W _ _ _ _ _ _ _ _
      refine W_if ((decide (i16 < ((acts2.len : Int)))) && (decide (i16 < ((xs3.len : Int))))) rfl (fun g309 => ?_) (fun g309 => ?_)
      · have H := H.1 g309
        refine W_skip ?_
        show W _ _ _ _ _ _ _ _
        refine W_seq ?_
        refine W_block ?_
        refine W_seq ?_
        refine W_region (.pu 0 .fin) rfl rfl ?_
        refine s_pu (d := some 12) (v := (.bool true)) rfl rfl rfl (r_assign rfl) ?_
        refine s_fin ?_
        show W _ _ _ _ _ _ _ _
        refine W_seq ?_
        refine W_region (.pu 0 (.pu 1 (.pu 2 (.pu 3 (.pu 4 .fin))))) rfl rfl ?_
        refine s_pu (d := some 36) (v := (.int .i64 va15)) rfl rfl rfl (r_move rfl) ?_
        refine s_pu (d := some 37) (v := (Sl.v all14)) rfl rfl rfl (r_move rfl) ?_
        refine s_pu (d := some 38) (v := (.int .i64 ((all14.len : Int)))) rfl rfl rfl (r_len Try.underlying22 rfl) ?_
        refine s_pu (d := some 39) (v := (.bool (decide (va15 < ((all14.len : Int)))))) rfl rfl rfl (r_lss rfl rfl) ?_
        refine s_pu (d := some 13) (v := (.bool (decide (va15 < ((all14.len : Int)))))) rfl rfl rfl (r_assign rfl) ?_
        refine s_fin ?_
        show W _ _ _ _ _ _ _ _
        refine W_seq ?_
        refine W_region (.rl 0 (.ef 1 [] (.ef 2 [] .fin .no) .no)) rfl rfl ?_
        obtain ⟨x21, e22, H⟩ := H
        obtain ⟨x23, e24, H⟩ := H
        obtain ⟨x25, e26, H⟩ := H
        obtain ⟨x27, e28, H⟩ := H
        refine s_rl (d := some 40) (v := (.agg #[(.pointer x21), (.int .i64 x23), (.pointer x25), (.int .i64 x27)])) rfl rfl rfl (fun dr => r_loadN Try.isAgg36 Try.sizeOf36 (vs := [(.pointer x21), (.int .i64 x23), (.pointer x25), (.int .i64 x27)]) rfl rfl ⟨e22, e24, e26, e28, trivial⟩) ?_
        obtain ⟨p29, e30⟩ : ∃ p : Addr, p = ⟨h5.size, 0, none⟩ := ⟨_, rfl⟩
        obtain ⟨h6, e31⟩ : ∃ hh : Heap, hh = h5.push (.cells #[(.pointer none), (.int .i64 0), (.pointer none), (.int .i64 0)] 36) := ⟨_, rfl⟩
        have H := H p29 h6 e30 e31
        refine s_ef1 (d := some 14) (v := (.pointer (some p29))) (h' := h6) rfl rfl rfl (fun dr => (r_alloc Try.zeroValue36).trans (by rw [e30, e31]; rfl)) trivial ?_ trivial
        obtain ⟨e33, H⟩ := H
        obtain ⟨h7, e32⟩ : ∃ hh : Heap, hh = hsets h6 p29 0 [(.pointer x21), (.int .i64 x23), (.pointer x25), (.int .i64 x27)] := ⟨_, rfl⟩
        have H := H h7 e32
        refine s_st (d := none) (h' := h7) rfl rfl rfl (fun dr => (r_store (v := (.agg #[(.pointer x21), (.int .i64 x23), (.pointer x25), (.int .i64 x27)])) Try.sizeOf36 rfl rfl rfl (one_all rfl) e33).trans (by rw [e32]; rfl)) trivial ?_ trivial
        refine s_fin ?_
        show W _ _ _ _ _ _ _ _
        refine W_seq ?_
        refine W_seq ?_
        refine W_region (.pu 0 (.pu 1 (.pu 2 (.rl 3 (.pu 4 .fin))))) rfl rfl ?_
        refine s_pu (d := some 41) (v := (Sl.v acts2)) rfl rfl rfl (r_move rfl) ?_
        refine s_pu (d := some 42) (v := (.int .i64 i16)) rfl rfl rfl (r_move rfl) ?_
        obtain ⟨p34, e35, e36, e37, H⟩ := H
        obtain ⟨q38, e39⟩ : ∃ q : Addr, q = Addr.add p34 (Int.toNat i16 * 1) := ⟨_, rfl⟩
        rw [← e39] at H
        refine s_pu (d := some 43) (v := (.pointer (some q38))) rfl rfl rfl (fun w => (r_indexAddr Try.underlying22 Try.sizeOf3 rfl rfl e35 e36 e37 w).trans (by rw [e39])) ?_
        obtain ⟨x40, e41, H⟩ := H
        refine s_rl (d := some 44) (v := (.int .i64 x40)) rfl rfl rfl (fun dr => r_load1 Try.isAgg3 rfl e41) ?_
        refine s_pu (d := some 45) (v := (.bool (decide (x40 = 0)))) rfl rfl rfl (r_eql rfl rfl) ?_
        refine s_fin ?_
        show W _ _ _ _ _ _ _ _
        refine W_set ?_
        intro N47 eN47
        have H := H (fun (all42 : Sl) (va43 : Int) (is44 : Bool) (has45 : Bool) (h8 : Heap) => ∀ b, N47 [] (mkE [(1, (Sl.v acts2)), (2, (Sl.v xs3)), (8, (.pointer (some p9))), (9, (Sl.v all42)), (10, (.int .i64 va43)), (11, (.int .i64 i16)), (12, (.bool is44)), (13, (.bool has45)), (14, (.pointer (some p29)))] b) h8) (by
          intro all42 va43 is44 has45 h8 H b
          rw [eN47]
          show W _ _ _ _ _ _ _ _
          refine W_seq ?_
          refine W_region (.rl 0 (.ef 1 [] .fin .no)) rfl rfl ?_
          obtain ⟨x48, e49, H⟩ := H
          obtain ⟨x50, e51, H⟩ := H
          obtain ⟨x52, e53, H⟩ := H
          obtain ⟨x54, e55, H⟩ := H
          refine s_rl (d := some 153) (v := (.agg #[(.pointer x48), (.int .i64 x50), (.pointer x52), (.int .i64 x54)])) rfl rfl rfl (fun dr => r_loadN Try.isAgg36 Try.sizeOf36 (vs := [(.pointer x48), (.int .i64 x50), (.pointer x52), (.int .i64 x54)]) rfl rfl ⟨e49, e51, e53, e55, trivial⟩) ?_
          obtain ⟨e57, H⟩ := H
          obtain ⟨h9, e56⟩ : ∃ hh : Heap, hh = hsets h8 p9 0 [(.pointer x48), (.int .i64 x50), (.pointer x52), (.int .i64 x54)] := ⟨_, rfl⟩
          have H := H h9 e56
          refine s_st (d := none) (h' := h9) rfl rfl rfl (fun dr => (r_store (v := (.agg #[(.pointer x48), (.int .i64 x50), (.pointer x52), (.int .i64 x54)])) Try.sizeOf36 rfl rfl rfl (one_all rfl) e57).trans (by rw [e56]; rfl)) trivial ?_ trivial
          refine s_fin ?_
          show W _ _ _ _ _ _ _ _
          refine W_seq ?_
          refine W_region (.rl 0 (.ef 1 [] (.pu 2 (.ef 3 [] (.pu 4 .fin) .no)) .no)) rfl rfl ?_
          obtain ⟨x58, e59, H⟩ := H
          obtain ⟨x60, e61, H⟩ := H
          obtain ⟨x62, e63, H⟩ := H
          obtain ⟨x64, e65, H⟩ := H
          refine s_rl (d := some 154) (v := (.agg #[(.pointer x58), (.int .i64 x60), (.pointer x62), (.int .i64 x64)])) rfl rfl rfl (fun dr => r_loadN Try.isAgg36 Try.sizeOf36 (vs := [(.pointer x58), (.int .i64 x60), (.pointer x62), (.int .i64 x64)]) rfl rfl ⟨e59, e61, e63, e65, trivial⟩) ?_
          refine s_ef (d := some 155) rfl rfl rfl (fun dr => r_call Try.call17 rfl rfl H) ?_ trivial
          rintro _ h10 ⟨y66, rfl, H⟩
          refine ⟨trivial, ?_⟩
          refine s_pu (d := some 156) (v := (Sl.v all42)) rfl rfl rfl (r_move rfl) ?_
          refine s_ef (d := some 157) rfl rfl rfl (fun dr => r_call Try.call16 rfl rfl H) ?_ trivial
          rintro _ h11 ⟨y67, rfl, H⟩
          refine ⟨trivial, ?_⟩
          refine s_pu (d := some 15) (v := (.bool y67)) rfl rfl rfl (r_assign rfl) ?_
          refine s_fin ?_
          show W _ _ _ _ _ _ _ _
          refine W_seq ?_
          refine W_region (.rl 0 (.ef 1 [] (.pu 2 (.pu 3 (.pu 4 (.pu 5 (.pu 6 .fin))))) .no)) rfl rfl ?_
          obtain ⟨x68, e69, H⟩ := H
          obtain ⟨x70, e71, H⟩ := H
          obtain ⟨x72, e73, H⟩ := H
          obtain ⟨x74, e75, H⟩ := H
          refine s_rl (d := some 159) (v := (.agg #[(.pointer x68), (.int .i64 x70), (.pointer x72), (.int .i64 x74)])) rfl rfl rfl (fun dr => r_loadN Try.isAgg36 Try.sizeOf36 (vs := [(.pointer x68), (.int .i64 x70), (.pointer x72), (.int .i64 x74)]) rfl rfl ⟨e69, e71, e73, e75, trivial⟩) ?_
          refine s_ef (d := some 160) rfl rfl rfl (fun dr => r_call Try.call34 rfl rfl H) ?_ trivial
          rintro _ h12 ⟨y76, y77, rfl, H⟩
          refine ⟨trivial, ?_⟩
          refine s_pu (d := some 158) (v := (.tuple #[(.int .i64 y76), (.bool y77)])) rfl rfl rfl (r_move rfl) ?_
          refine s_pu (d := some 161) (v := (.int .i64 y76)) rfl rfl rfl (r_extract rfl rfl) ?_
          refine s_pu (d := some 162) (v := (.bool y77)) rfl rfl rfl (r_extract rfl rfl) ?_
          refine s_pu (d := some 16) (v := (.int .i64 y76)) rfl rfl rfl (r_assign rfl) ?_
          refine s_pu (d := some 17) (v := (.bool y77)) rfl rfl rfl (r_assign rfl) ?_
          refine s_fin ?_
          show W _ _ _ _ _ _ _ _
          refine W_seq ?_
          refine W_set ?_
          intro N80 eN80
          have H := H (fun (x78 : Bool) (h13 : Heap) => ∀ b, N80 [] (mkE [(1, (Sl.v acts2)), (2, (Sl.v xs3)), (8, (.pointer (some p9))), (9, (Sl.v all42)), (10, (.int .i64 va43)), (11, (.int .i64 i16)), (202, (.bool x78))] b) h13) (by
            intro x78 h13 H b
            rw [eN80]
            show W _ _ _ _ _ _ _ _
            refine W_if x78 rfl (fun g81 => ?_) (fun g81 => ?_)
            · have H := H.1 g81
              refine W_seq ?_
              refine W_region (.pu 0 .fin) rfl rfl ?_
              refine s_pu (d := some 6) (v := (.bool false)) rfl rfl rfl (r_assign rfl) ?_
              refine s_fin ?_
              show W _ _ _ _ _ _ _ _
              refine W_ret ?_
              exact ⟨[(.bool false)], ⟨_, _, rfl, rfl, rfl⟩, false, rfl, H⟩
            · have H := H.2 g81
              refine W_skip ?_
              show W _ _ _ _ _ _ _ _
              refine W_region (.pu 0 (.pu 1 (.pu 2 .fin))) rfl rfl ?_
              refine s_pu (d := some 34) (v := (.int .i64 i16)) rfl rfl rfl (r_move rfl) ?_
              refine s_pu (d := some 35) (v := (.int .i64 (w64 (i16 + 1)))) rfl rfl rfl (r_add rfl rfl) ?_
              refine s_pu (d := some 11) (v := (.int .i64 (w64 (i16 + 1)))) rfl rfl rfl (r_assign rfl) ?_
              refine s_fin ?_
              exact WL_mk (l := [(1, (Sl.v acts2)), (2, (Sl.v xs3)), (8, (.pointer (some p9))), (9, (Sl.v all42)), (10, (.int .i64 va43)), (11, (.int .i64 (w64 (i16 + 1))))]) H ⟨rfl, rfl, rfl, rfl, rfl, rfl, trivial⟩)
          clear eN80
          refine W_region (.pu 0 (.pu 1 (.pu 2 (.pu 3 (.pu 4 (.pu 5 (.pu 6 (.pu 7 (.rl 8 (.ef 9 [] (.pu 10 (.pu 11 (.pu 12 (.pu 13 (.pu 14 (.pu 15 (.pu 16 (.pu 17 (.pu 18 (.pu 19 (.pu 20 (.pu 21 (.pu 22 (.pu 23 (.pu 24 (.pu 25 (.pu 26 (.pu 27 (.rl 28 (.pu 29 (.pu 30 (.pu 31 (.pu 32 (.pu 33 (.pu 34 (.pu 35 (.pu 36 (.pu 37 (.pu 38 (.pu 39 .fin)))))))))))))))))))))))))))))) .no)))))))))) rfl rfl ?_
          refine s_pu (d := some 163) (v := (.bool is44)) rfl rfl rfl (r_move rfl) ?_
          refine s_pu (d := some 164) (v := (.bool has45)) rfl rfl rfl (r_move rfl) ?_
          refine s_pu (d := some 165) (v := (.bool (is44 != has45))) rfl rfl rfl (r_neqB Try.underlying4 rfl rfl) ?_
          refine s_pu (d := some 166) (v := (.bool (is44 != has45))) rfl rfl rfl (r_move rfl) ?_
          rcases Bool.eq_false_or_eq_true (is44 != has45) with g82 | g82
          · have H := H.1 g82
            refine s_sk (d := some 167) rfl rfl (wants_no rfl rfl rfl rfl g82) ?_
            refine s_sk (d := some 168) rfl rfl (wants_no rfl rfl rfl rfl g82) ?_
            refine s_pu (d := some 169) (v := (.bool true)) rfl rfl rfl (r_pick1 rfl g82 rfl) ?_
            refine s_pu (d := some 170) (v := (.bool true)) rfl rfl rfl (r_move rfl) ?_
            refine s_skl (d := some 171) rfl rfl (wants_no rfl rfl rfl rfl rfl) ?_
            refine s_skf (d := some 172) rfl rfl (wants_no rfl rfl rfl rfl rfl) trivial ?_ trivial
            refine s_sk (d := some 173) rfl rfl (wants_no rfl rfl rfl rfl rfl) ?_
            refine s_sk (d := some 174) rfl rfl (wants_no rfl rfl rfl rfl rfl) ?_
            refine s_pu (d := some 175) (v := (.bool true)) rfl rfl rfl (r_pick1 rfl rfl rfl) ?_
            refine s_pu (d := some 176) (v := (.bool true)) rfl rfl rfl (r_move rfl) ?_
            refine s_sk (d := some 177) rfl rfl (wants_no rfl rfl rfl rfl rfl) ?_
            refine s_sk (d := some 178) rfl rfl (wants_no rfl rfl rfl rfl rfl) ?_
            refine s_sk (d := some 179) rfl rfl (wants_no rfl rfl rfl rfl rfl) ?_
            refine s_sk (d := some 180) rfl rfl (wants_no rfl rfl rfl rfl rfl) ?_
            refine s_sk (d := some 181) rfl rfl (wants_no rfl rfl rfl rfl rfl) ?_
            refine s_sk (d := some 182) rfl rfl (wants_no rfl rfl rfl rfl rfl) ?_
            refine s_pu (d := some 183) (v := (.bool true)) rfl rfl rfl (r_pick1 rfl rfl rfl) ?_
            refine s_pu (d := some 184) (v := (.bool true)) rfl rfl rfl (r_move rfl) ?_
            refine s_sk (d := some 185) rfl rfl (wants_no rfl rfl rfl rfl rfl) ?_
            refine s_sk (d := some 186) rfl rfl (wants_no rfl rfl rfl rfl rfl) ?_
            refine s_sk (d := some 187) rfl rfl (wants_un rfl rfl rfl) ?_
            refine s_sk (d := some 188) rfl rfl (wants_un rfl rfl rfl) ?_
            refine s_sk (d := some 189) rfl rfl (wants_un rfl rfl rfl) ?_
            refine s_sk (d := some 190) rfl rfl (wants_un rfl rfl rfl) ?_
            refine s_skl (d := some 191) rfl rfl (wants_un rfl rfl rfl) ?_
            refine s_sk (d := some 192) rfl rfl (wants_un rfl rfl rfl) ?_
            refine s_sk (d := some 193) rfl rfl (wants_no rfl rfl rfl rfl rfl) ?_
            refine s_pu (d := some 194) (v := (.bool true)) rfl rfl rfl (r_pick1 rfl rfl rfl) ?_
            refine s_pu (d := some 195) (v := (.bool true)) rfl rfl rfl (r_move rfl) ?_
            refine s_sk (d := some 196) rfl rfl (wants_no rfl rfl rfl rfl rfl) ?_
            refine s_sk (d := some 197) rfl rfl (wants_no rfl rfl rfl rfl rfl) ?_
            refine s_sk (d := some 198) rfl rfl (wants_no rfl rfl rfl rfl rfl) ?_
            refine s_sk (d := some 199) rfl rfl (wants_un rfl rfl rfl) ?_
            refine s_sk (d := some 200) rfl rfl (wants_un rfl rfl rfl) ?_
            refine s_sk (d := some 201) rfl rfl (wants_no rfl rfl rfl rfl rfl) ?_
            refine s_pu (d := some 202) (v := (.bool true)) rfl rfl rfl (r_pick1 rfl rfl rfl) ?_
            refine s_fin ?_
            exact N_mk (l := [(1, (Sl.v acts2)), (2, (Sl.v xs3)), (8, (.pointer (some p9))), (9, (Sl.v all42)), (10, (.int .i64 va43)), (11, (.int .i64 i16)), (202, (.bool true))]) H ⟨rfl, rfl, rfl, rfl, rfl, rfl, rfl, trivial⟩
          · have H := H.2 g82
            refine s_pu (d := some 167) (v := (.bool y67)) rfl rfl (wants_yes rfl rfl rfl rfl g82) (r_move rfl) ?_
            refine s_pu (d := some 168) (v := (.bool (!y67))) rfl rfl (wants_yes rfl rfl rfl rfl g82) (r_not rfl) ?_
            refine s_pu (d := some 169) (v := (.bool (!y67))) rfl rfl rfl (r_pick0 rfl g82 rfl) ?_
            refine s_pu (d := some 170) (v := (.bool (!y67))) rfl rfl rfl (r_move rfl) ?_
            rcases Bool.eq_false_or_eq_true (!y67) with g83 | g83
            · have H := H.1 g83
              refine s_skl (d := some 171) rfl rfl (wants_no rfl rfl rfl rfl g83) ?_
              refine s_skf (d := some 172) rfl rfl (wants_no rfl rfl rfl rfl g83) trivial ?_ trivial
              refine s_sk (d := some 173) rfl rfl (wants_no rfl rfl rfl rfl g83) ?_
              refine s_sk (d := some 174) rfl rfl (wants_no rfl rfl rfl rfl g83) ?_
              refine s_pu (d := some 175) (v := (.bool true)) rfl rfl rfl (r_pick1 rfl g83 rfl) ?_
              refine s_pu (d := some 176) (v := (.bool true)) rfl rfl rfl (r_move rfl) ?_
              refine s_sk (d := some 177) rfl rfl (wants_no rfl rfl rfl rfl rfl) ?_
              refine s_sk (d := some 178) rfl rfl (wants_no rfl rfl rfl rfl rfl) ?_
              refine s_sk (d := some 179) rfl rfl (wants_no rfl rfl rfl rfl rfl) ?_
              refine s_sk (d := some 180) rfl rfl (wants_no rfl rfl rfl rfl rfl) ?_
              refine s_sk (d := some 181) rfl rfl (wants_no rfl rfl rfl rfl rfl) ?_
              refine s_sk (d := some 182) rfl rfl (wants_no rfl rfl rfl rfl rfl) ?_
              refine s_pu (d := some 183) (v := (.bool true)) rfl rfl rfl (r_pick1 rfl rfl rfl) ?_
              refine s_pu (d := some 184) (v := (.bool true)) rfl rfl rfl (r_move rfl) ?_
              refine s_sk (d := some 185) rfl rfl (wants_no rfl rfl rfl rfl rfl) ?_
              refine s_sk (d := some 186) rfl rfl (wants_no rfl rfl rfl rfl rfl) ?_
              refine s_sk (d := some 187) rfl rfl (wants_un rfl rfl rfl) ?_
              refine s_sk (d := some 188) rfl rfl (wants_un rfl rfl rfl) ?_
              refine s_sk (d := some 189) rfl rfl (wants_un rfl rfl rfl) ?_
              refine s_sk (d := some 190) rfl rfl (wants_un rfl rfl rfl) ?_
              refine s_skl (d := some 191) rfl rfl (wants_un rfl rfl rfl) ?_
              refine s_sk (d := some 192) rfl rfl (wants_un rfl rfl rfl) ?_
              refine s_sk (d := some 193) rfl rfl (wants_no rfl rfl rfl rfl rfl) ?_
              refine s_pu (d := some 194) (v := (.bool true)) rfl rfl rfl (r_pick1 rfl rfl rfl) ?_
              refine s_pu (d := some 195) (v := (.bool true)) rfl rfl rfl (r_move rfl) ?_
              refine s_sk (d := some 196) rfl rfl (wants_no rfl rfl rfl rfl rfl) ?_
              refine s_sk (d := some 197) rfl rfl (wants_no rfl rfl rfl rfl rfl) ?_
              refine s_sk (d := some 198) rfl rfl (wants_no rfl rfl rfl rfl rfl) ?_
              refine s_sk (d := some 199) rfl rfl (wants_un rfl rfl rfl) ?_
              refine s_sk (d := some 200) rfl rfl (wants_un rfl rfl rfl) ?_
              refine s_sk (d := some 201) rfl rfl (wants_no rfl rfl rfl rfl rfl) ?_
              refine s_pu (d := some 202) (v := (.bool true)) rfl rfl rfl (r_pick1 rfl rfl rfl) ?_
              refine s_fin ?_
              exact N_mk (l := [(1, (Sl.v acts2)), (2, (Sl.v xs3)), (8, (.pointer (some p9))), (9, (Sl.v all42)), (10, (.int .i64 va43)), (11, (.int .i64 i16)), (202, (.bool true))]) H ⟨rfl, rfl, rfl, rfl, rfl, rfl, rfl, trivial⟩
            · have H := H.2 g83
              obtain ⟨x84, e85, H⟩ := H
              obtain ⟨x86, e87, H⟩ := H
              obtain ⟨x88, e89, H⟩ := H
              obtain ⟨x90, e91, H⟩ := H
              refine s_rl (d := some 171) (v := (.agg #[(.pointer x84), (.int .i64 x86), (.pointer x88), (.int .i64 x90)])) rfl rfl (wants_yes rfl rfl rfl rfl g83) (fun dr => r_loadN Try.isAgg36 Try.sizeOf36 (vs := [(.pointer x84), (.int .i64 x86), (.pointer x88), (.int .i64 x90)]) rfl rfl ⟨e85, e87, e89, e91, trivial⟩) ?_
              refine s_ef (d := some 172) rfl rfl (wants_yes rfl rfl rfl rfl g83) (fun dr => r_call Try.call20 rfl rfl H) ?_ trivial
              rintro _ h14 ⟨y92, rfl, H⟩
              refine ⟨trivial, ?_⟩
              refine s_pu (d := some 173) (v := (.int .i64 va43)) rfl rfl (wants_yes rfl rfl rfl rfl g83) (r_move rfl) ?_
              refine s_pu (d := some 174) (v := (.bool (!decide (y92 = va43)))) rfl rfl (wants_yes rfl rfl rfl rfl g83) (r_neq rfl rfl) ?_
              refine s_pu (d := some 175) (v := (.bool (!decide (y92 = va43)))) rfl rfl rfl (r_pick0 rfl g83 rfl) ?_
              refine s_pu (d := some 176) (v := (.bool (!decide (y92 = va43)))) rfl rfl rfl (r_move rfl) ?_
              rcases Bool.eq_false_or_eq_true (!decide (y92 = va43)) with g93 | g93
              · have H := H.1 g93
                refine s_sk (d := some 177) rfl rfl (wants_no rfl rfl rfl rfl g93) ?_
                refine s_sk (d := some 178) rfl rfl (wants_no rfl rfl rfl rfl g93) ?_
                refine s_sk (d := some 179) rfl rfl (wants_no rfl rfl rfl rfl g93) ?_
                refine s_sk (d := some 180) rfl rfl (wants_no rfl rfl rfl rfl g93) ?_
                refine s_sk (d := some 181) rfl rfl (wants_no rfl rfl rfl rfl g93) ?_
                refine s_sk (d := some 182) rfl rfl (wants_no rfl rfl rfl rfl g93) ?_
                refine s_pu (d := some 183) (v := (.bool true)) rfl rfl rfl (r_pick1 rfl g93 rfl) ?_
                refine s_pu (d := some 184) (v := (.bool true)) rfl rfl rfl (r_move rfl) ?_
                refine s_sk (d := some 185) rfl rfl (wants_no rfl rfl rfl rfl rfl) ?_
                refine s_sk (d := some 186) rfl rfl (wants_no rfl rfl rfl rfl rfl) ?_
                refine s_sk (d := some 187) rfl rfl (wants_un rfl rfl rfl) ?_
                refine s_sk (d := some 188) rfl rfl (wants_un rfl rfl rfl) ?_
                refine s_sk (d := some 189) rfl rfl (wants_un rfl rfl rfl) ?_
                refine s_sk (d := some 190) rfl rfl (wants_un rfl rfl rfl) ?_
                refine s_skl (d := some 191) rfl rfl (wants_un rfl rfl rfl) ?_
                refine s_sk (d := some 192) rfl rfl (wants_un rfl rfl rfl) ?_
                refine s_sk (d := some 193) rfl rfl (wants_no rfl rfl rfl rfl rfl) ?_
                refine s_pu (d := some 194) (v := (.bool true)) rfl rfl rfl (r_pick1 rfl rfl rfl) ?_
                refine s_pu (d := some 195) (v := (.bool true)) rfl rfl rfl (r_move rfl) ?_
                refine s_sk (d := some 196) rfl rfl (wants_no rfl rfl rfl rfl rfl) ?_
                refine s_sk (d := some 197) rfl rfl (wants_no rfl rfl rfl rfl rfl) ?_
                refine s_sk (d := some 198) rfl rfl (wants_no rfl rfl rfl rfl rfl) ?_
                refine s_sk (d := some 199) rfl rfl (wants_un rfl rfl rfl) ?_
                refine s_sk (d := some 200) rfl rfl (wants_un rfl rfl rfl) ?_
                refine s_sk (d := some 201) rfl rfl (wants_no rfl rfl rfl rfl rfl) ?_
                refine s_pu (d := some 202) (v := (.bool true)) rfl rfl rfl (r_pick1 rfl rfl rfl) ?_
                refine s_fin ?_
                exact N_mk (l := [(1, (Sl.v acts2)), (2, (Sl.v xs3)), (8, (.pointer (some p9))), (9, (Sl.v all42)), (10, (.int .i64 va43)), (11, (.int .i64 i16)), (202, (.bool true))]) H ⟨rfl, rfl, rfl, rfl, rfl, rfl, rfl, trivial⟩
              · have H := H.2 g93
                refine s_pu (d := some 177) (v := (.bool y77)) rfl rfl (wants_yes rfl rfl rfl rfl g93) (r_move rfl) ?_
                refine s_pu (d := some 178) (v := (.int .i64 va43)) rfl rfl (wants_yes rfl rfl rfl rfl g93) (r_move rfl) ?_
                refine s_pu (d := some 179) (v := (Sl.v all42)) rfl rfl (wants_yes rfl rfl rfl rfl g93) (r_move rfl) ?_
                refine s_pu (d := some 180) (v := (.int .i64 ((all42.len : Int)))) rfl rfl (wants_yes rfl rfl rfl rfl g93) (r_len Try.underlying22 rfl) ?_
                refine s_pu (d := some 181) (v := (.bool (decide (va43 < ((all42.len : Int)))))) rfl rfl (wants_yes rfl rfl rfl rfl g93) (r_lss rfl rfl) ?_
                refine s_pu (d := some 182) (v := (.bool (y77 != (decide (va43 < ((all42.len : Int))))))) rfl rfl (wants_yes rfl rfl rfl rfl g93) (r_neqB Try.underlying4 rfl rfl) ?_
                refine s_pu (d := some 183) (v := (.bool (y77 != (decide (va43 < ((all42.len : Int))))))) rfl rfl rfl (r_pick0 rfl g93 rfl) ?_
                refine s_pu (d := some 184) (v := (.bool (y77 != (decide (va43 < ((all42.len : Int))))))) rfl rfl rfl (r_move rfl) ?_
                rcases Bool.eq_false_or_eq_true (y77 != (decide (va43 < ((all42.len : Int))))) with g94 | g94
                · have H := H.1 g94
                  refine s_sk (d := some 185) rfl rfl (wants_no rfl rfl rfl rfl g94) ?_
                  refine s_sk (d := some 186) rfl rfl (wants_no rfl rfl rfl rfl g94) ?_
                  refine s_sk (d := some 187) rfl rfl (wants_un rfl rfl rfl) ?_
                  refine s_sk (d := some 188) rfl rfl (wants_un rfl rfl rfl) ?_
                  refine s_sk (d := some 189) rfl rfl (wants_un rfl rfl rfl) ?_
                  refine s_sk (d := some 190) rfl rfl (wants_un rfl rfl rfl) ?_
                  refine s_skl (d := some 191) rfl rfl (wants_un rfl rfl rfl) ?_
                  refine s_sk (d := some 192) rfl rfl (wants_un rfl rfl rfl) ?_
                  refine s_sk (d := some 193) rfl rfl (wants_no rfl rfl rfl rfl g94) ?_
                  refine s_pu (d := some 194) (v := (.bool true)) rfl rfl rfl (r_pick1 rfl g94 rfl) ?_
                  refine s_pu (d := some 195) (v := (.bool true)) rfl rfl rfl (r_move rfl) ?_
                  refine s_sk (d := some 196) rfl rfl (wants_no rfl rfl rfl rfl rfl) ?_
                  refine s_sk (d := some 197) rfl rfl (wants_no rfl rfl rfl rfl rfl) ?_
                  refine s_sk (d := some 198) rfl rfl (wants_no rfl rfl rfl rfl rfl) ?_
                  refine s_sk (d := some 199) rfl rfl (wants_un rfl rfl rfl) ?_
                  refine s_sk (d := some 200) rfl rfl (wants_un rfl rfl rfl) ?_
                  refine s_sk (d := some 201) rfl rfl (wants_no rfl rfl rfl rfl rfl) ?_
                  refine s_pu (d := some 202) (v := (.bool true)) rfl rfl rfl (r_pick1 rfl rfl rfl) ?_
                  refine s_fin ?_
                  exact N_mk (l := [(1, (Sl.v acts2)), (2, (Sl.v xs3)), (8, (.pointer (some p9))), (9, (Sl.v all42)), (10, (.int .i64 va43)), (11, (.int .i64 i16)), (202, (.bool true))]) H ⟨rfl, rfl, rfl, rfl, rfl, rfl, rfl, trivial⟩
                · have H := H.2 g94
                  refine s_pu (d := some 185) (v := (.bool y77)) rfl rfl (wants_yes rfl rfl rfl rfl g94) (r_move rfl) ?_
                  refine s_pu (d := some 186) (v := (.bool y77)) rfl rfl (wants_yes rfl rfl rfl rfl g94) (r_move rfl) ?_
                  rcases Bool.eq_false_or_eq_true y77 with g95 | g95
                  · have H := H.1 g95
                    refine s_pu (d := some 187) (v := (.int .i64 y76)) rfl rfl (wants_yes rfl rfl rfl rfl g95) (r_move rfl) ?_
                    refine s_pu (d := some 188) (v := (Sl.v all42)) rfl rfl (wants_yes rfl rfl rfl rfl g95) (r_move rfl) ?_
                    refine s_pu (d := some 189) (v := (.int .i64 va43)) rfl rfl (wants_yes rfl rfl rfl rfl g95) (r_move rfl) ?_
                    obtain ⟨p96, e97, e98, e99, H⟩ := H
                    obtain ⟨q100, e101⟩ : ∃ q : Addr, q = Addr.add p96 (Int.toNat va43 * 1) := ⟨_, rfl⟩
                    rw [← e101] at H
                    refine s_pu (d := some 190) (v := (.pointer (some q100))) rfl rfl (wants_yes rfl rfl rfl rfl g95) (fun w => (r_indexAddr Try.underlying22 Try.sizeOf3 rfl rfl e97 e98 e99 w).trans (by rw [e101])) ?_
                    obtain ⟨x102, e103, H⟩ := H
                    refine s_rl (d := some 191) (v := (.int .i64 x102)) rfl rfl (wants_yes rfl rfl rfl rfl g95) (fun dr => r_load1 Try.isAgg3 rfl e103) ?_
                    refine s_pu (d := some 192) (v := (.bool (!decide (y76 = x102)))) rfl rfl (wants_yes rfl rfl rfl rfl g95) (r_neq rfl rfl) ?_
                    refine s_pu (d := some 193) (v := (.bool (!decide (y76 = x102)))) rfl rfl (wants_yes rfl rfl rfl rfl g94) (r_pick1 rfl g95 rfl) ?_
                    refine s_pu (d := some 194) (v := (.bool (!decide (y76 = x102)))) rfl rfl rfl (r_pick0 rfl g94 rfl) ?_
                    refine s_pu (d := some 195) (v := (.bool (!decide (y76 = x102)))) rfl rfl rfl (r_move rfl) ?_
                    rcases Bool.eq_false_or_eq_true (!decide (y76 = x102)) with g104 | g104
                    · have H := H.1 g104
                      refine s_sk (d := some 196) rfl rfl (wants_no rfl rfl rfl rfl g104) ?_
                      refine s_sk (d := some 197) rfl rfl (wants_no rfl rfl rfl rfl g104) ?_
                      refine s_sk (d := some 198) rfl rfl (wants_no rfl rfl rfl rfl g104) ?_
                      refine s_sk (d := some 199) rfl rfl (wants_un rfl rfl rfl) ?_
                      refine s_sk (d := some 200) rfl rfl (wants_un rfl rfl rfl) ?_
                      refine s_sk (d := some 201) rfl rfl (wants_no rfl rfl rfl rfl g104) ?_
                      refine s_pu (d := some 202) (v := (.bool true)) rfl rfl rfl (r_pick1 rfl g104 rfl) ?_
                      refine s_fin ?_
                      exact N_mk (l := [(1, (Sl.v acts2)), (2, (Sl.v xs3)), (8, (.pointer (some p9))), (9, (Sl.v all42)), (10, (.int .i64 va43)), (11, (.int .i64 i16)), (202, (.bool true))]) H ⟨rfl, rfl, rfl, rfl, rfl, rfl, rfl, trivial⟩
                    · have H := H.2 g104
                      refine s_pu (d := some 196) (v := (.bool y77)) rfl rfl (wants_yes rfl rfl rfl rfl g104) (r_move rfl) ?_
                      refine s_pu (d := some 197) (v := (.bool (!y77))) rfl rfl (wants_yes rfl rfl rfl rfl g104) (r_not rfl) ?_
                      refine s_pu (d := some 198) (v := (.bool (!y77))) rfl rfl (wants_yes rfl rfl rfl rfl g104) (r_move rfl) ?_
                      rcases Bool.eq_false_or_eq_true (!y77) with g105 | g105
                      · have H := H.1 g105
                        refine s_pu (d := some 199) (v := (.int .i64 y76)) rfl rfl (wants_yes rfl rfl rfl rfl g105) (r_move rfl) ?_
                        refine s_pu (d := some 200) (v := (.bool (!decide (y76 = 0)))) rfl rfl (wants_yes rfl rfl rfl rfl g105) (r_neq rfl rfl) ?_
                        refine s_pu (d := some 201) (v := (.bool (!decide (y76 = 0)))) rfl rfl (wants_yes rfl rfl rfl rfl g104) (r_pick1 rfl g105 rfl) ?_
                        refine s_pu (d := some 202) (v := (.bool (!decide (y76 = 0)))) rfl rfl rfl (r_pick0 rfl g104 rfl) ?_
                        refine s_fin ?_
                        exact N_mk (l := [(1, (Sl.v acts2)), (2, (Sl.v xs3)), (8, (.pointer (some p9))), (9, (Sl.v all42)), (10, (.int .i64 va43)), (11, (.int .i64 i16)), (202, (.bool (!decide (y76 = 0))))]) H ⟨rfl, rfl, rfl, rfl, rfl, rfl, rfl, trivial⟩
                      · have H := H.2 g105
                        refine s_sk (d := some 199) rfl rfl (wants_no rfl rfl rfl rfl g105) ?_
                        refine s_sk (d := some 200) rfl rfl (wants_no rfl rfl rfl rfl g105) ?_
                        refine s_pu (d := some 201) (v := (.bool false)) rfl rfl (wants_yes rfl rfl rfl rfl g104) (r_pick0 rfl g105 rfl) ?_
                        refine s_pu (d := some 202) (v := (.bool false)) rfl rfl rfl (r_pick0 rfl g104 rfl) ?_
                        refine s_fin ?_
                        exact N_mk (l := [(1, (Sl.v acts2)), (2, (Sl.v xs3)), (8, (.pointer (some p9))), (9, (Sl.v all42)), (10, (.int .i64 va43)), (11, (.int .i64 i16)), (202, (.bool false))]) H ⟨rfl, rfl, rfl, rfl, rfl, rfl, rfl, trivial⟩
                  · have H := H.2 g95
                    refine s_sk (d := some 187) rfl rfl (wants_no rfl rfl rfl rfl g95) ?_
                    refine s_sk (d := some 188) rfl rfl (wants_no rfl rfl rfl rfl g95) ?_
                    refine s_sk (d := some 189) rfl rfl (wants_no rfl rfl rfl rfl g95) ?_
                    refine s_sk (d := some 190) rfl rfl (wants_no rfl rfl rfl rfl g95) ?_
                    refine s_skl (d := some 191) rfl rfl (wants_no rfl rfl rfl rfl g95) ?_
                    refine s_sk (d := some 192) rfl rfl (wants_no rfl rfl rfl rfl g95) ?_
                    refine s_pu (d := some 193) (v := (.bool false)) rfl rfl (wants_yes rfl rfl rfl rfl g94) (r_pick0 rfl g95 rfl) ?_
                    refine s_pu (d := some 194) (v := (.bool false)) rfl rfl rfl (r_pick0 rfl g94 rfl) ?_
                    refine s_pu (d := some 195) (v := (.bool false)) rfl rfl rfl (r_move rfl) ?_
                    refine s_pu (d := some 196) (v := (.bool y77)) rfl rfl (wants_yes rfl rfl rfl rfl rfl) (r_move rfl) ?_
                    refine s_pu (d := some 197) (v := (.bool (!y77))) rfl rfl (wants_yes rfl rfl rfl rfl rfl) (r_not rfl) ?_
                    refine s_pu (d := some 198) (v := (.bool (!y77))) rfl rfl (wants_yes rfl rfl rfl rfl rfl) (r_move rfl) ?_
                    rcases Bool.eq_false_or_eq_true (!y77) with g106 | g106
                    · have H := H.1 g106
                      refine s_pu (d := some 199) (v := (.int .i64 y76)) rfl rfl (wants_yes rfl rfl rfl rfl g106) (r_move rfl) ?_
                      refine s_pu (d := some 200) (v := (.bool (!decide (y76 = 0)))) rfl rfl (wants_yes rfl rfl rfl rfl g106) (r_neq rfl rfl) ?_
                      refine s_pu (d := some 201) (v := (.bool (!decide (y76 = 0)))) rfl rfl (wants_yes rfl rfl rfl rfl rfl) (r_pick1 rfl g106 rfl) ?_
                      refine s_pu (d := some 202) (v := (.bool (!decide (y76 = 0)))) rfl rfl rfl (r_pick0 rfl rfl rfl) ?_
                      refine s_fin ?_
                      exact N_mk (l := [(1, (Sl.v acts2)), (2, (Sl.v xs3)), (8, (.pointer (some p9))), (9, (Sl.v all42)), (10, (.int .i64 va43)), (11, (.int .i64 i16)), (202, (.bool (!decide (y76 = 0))))]) H ⟨rfl, rfl, rfl, rfl, rfl, rfl, rfl, trivial⟩
                    · have H := H.2 g106
                      refine s_sk (d := some 199) rfl rfl (wants_no rfl rfl rfl rfl g106) ?_
                      refine s_sk (d := some 200) rfl rfl (wants_no rfl rfl rfl rfl g106) ?_
                      refine s_pu (d := some 201) (v := (.bool false)) rfl rfl (wants_yes rfl rfl rfl rfl rfl) (r_pick0 rfl g106 rfl) ?_
                      refine s_pu (d := some 202) (v := (.bool false)) rfl rfl rfl (r_pick0 rfl rfl rfl) ?_
                      refine s_fin ?_
                      exact N_mk (l := [(1, (Sl.v acts2)), (2, (Sl.v xs3)), (8, (.pointer (some p9))), (9, (Sl.v all42)), (10, (.int .i64 va43)), (11, (.int .i64 i16)), (202, (.bool false))]) H ⟨rfl, rfl, rfl, rfl, rfl, rfl, rfl, trivial⟩)
        clear eN47
        refine W_if (decide (x40 = 0)) rfl (fun g308 => ?_) (fun g308 => ?_)
        · have H := H.1 g308
          refine W_seq ?_
          refine W_region (.rl 0 (.ef 1 [] (.pu 2 (.pu 3 (.pu 4 (.ef 5 [] (.pu 6 .fin) .no)))) .no)) rfl rfl ?_
          obtain ⟨x107, e108, H⟩ := H
          obtain ⟨x109, e110, H⟩ := H
          obtain ⟨x111, e112, H⟩ := H
          obtain ⟨x113, e114, H⟩ := H
          refine s_rl (d := some 47) (v := (.agg #[(.pointer x107), (.int .i64 x109), (.pointer x111), (.int .i64 x113)])) rfl rfl rfl (fun dr => r_loadN Try.isAgg36 Try.sizeOf36 (vs := [(.pointer x107), (.int .i64 x109), (.pointer x111), (.int .i64 x113)]) rfl rfl ⟨e108, e110, e112, e114, trivial⟩) ?_
          refine s_ef (d := some 48) rfl rfl rfl (fun dr => r_call Try.call19 rfl rfl H) ?_ trivial
          rintro _ h15 ⟨y115, y116, y117, y118, y119, rfl, H⟩
          refine ⟨trivial, ?_⟩
          refine s_pu (d := some 46) (v := (.tuple #[(.agg #[(.pointer y115), (.int .i64 y116), (.pointer y117), (.int .i64 y118)]), (.bool y119)])) rfl rfl rfl (r_move rfl) ?_
          refine s_pu (d := some 49) (v := (.agg #[(.pointer y115), (.int .i64 y116), (.pointer y117), (.int .i64 y118)])) rfl rfl rfl (r_extract rfl rfl) ?_
          refine s_pu (d := some 50) (v := (.bool y119)) rfl rfl rfl (r_extract rfl rfl) ?_
          obtain ⟨e121, H⟩ := H
          obtain ⟨h16, e120⟩ : ∃ hh : Heap, hh = hsets h15 p29 0 [(.pointer y115), (.int .i64 y116), (.pointer y117), (.int .i64 y118)] := ⟨_, rfl⟩
          have H := H h16 e120
          refine s_st (d := none) (h' := h16) rfl rfl rfl (fun dr => (r_store (v := (.agg #[(.pointer y115), (.int .i64 y116), (.pointer y117), (.int .i64 y118)])) Try.sizeOf36 rfl rfl rfl (one_all rfl) e121).trans (by rw [e120]; rfl)) trivial ?_ trivial
          refine s_pu (d := some 12) (v := (.bool y119)) rfl rfl rfl (r_assign rfl) ?_
          refine s_fin ?_
          show W _ _ _ _ _ _ _ _
          refine W_seq ?_
          refine W_region (.pu 0 (.pu 1 (.pu 2 .fin))) rfl rfl ?_
          refine s_pu (d := some 51) (v := (.int .i64 va15)) rfl rfl rfl (r_move rfl) ?_
          refine s_pu (d := some 52) (v := (.bool (decide (0 < va15)))) rfl rfl rfl (r_gtr rfl rfl) ?_
          refine s_pu (d := some 13) (v := (.bool (decide (0 < va15)))) rfl rfl rfl (r_assign rfl) ?_
          refine s_fin ?_
          show W _ _ _ _ _ _ _ _
          refine W_seq ?_
          refine W_region (.pu 0 .fin) rfl rfl ?_
          refine s_pu (d := some 53) (v := (.bool (decide (0 < va15)))) rfl rfl rfl (r_move rfl) ?_
          refine s_fin ?_
          show W _ _ _ _ _ _ _ _
          refine W_if (decide (0 < va15)) rfl (fun g122 => ?_) (fun g122 => ?_)
          · have H := H.1 g122
            refine W_region (.pu 0 (.pu 1 (.pu 2 .fin))) rfl rfl ?_
            refine s_pu (d := some 54) (v := (.int .i64 va15)) rfl rfl rfl (r_move rfl) ?_
            refine s_pu (d := some 55) (v := (.int .i64 (w64 (va15 - 1)))) rfl rfl rfl (r_sub rfl rfl) ?_
            refine s_pu (d := some 10) (v := (.int .i64 (w64 (va15 - 1)))) rfl rfl rfl (r_assign rfl) ?_
            refine s_fin ?_
            exact N_mk (l := [(1, (Sl.v acts2)), (2, (Sl.v xs3)), (8, (.pointer (some p9))), (9, (Sl.v all14)), (10, (.int .i64 (w64 (va15 - 1)))), (11, (.int .i64 i16)), (12, (.bool y119)), (13, (.bool (decide (0 < va15)))), (14, (.pointer (some p29)))]) H ⟨rfl, rfl, rfl, rfl, rfl, rfl, rfl, rfl, rfl, trivial⟩
          · have H := H.2 g122
            refine W_skip ?_
            exact N_mk (l := [(1, (Sl.v acts2)), (2, (Sl.v xs3)), (8, (.pointer (some p9))), (9, (Sl.v all14)), (10, (.int .i64 va15)), (11, (.int .i64 i16)), (12, (.bool y119)), (13, (.bool (decide (0 < va15)))), (14, (.pointer (some p29)))]) H ⟨rfl, rfl, rfl, rfl, rfl, rfl, rfl, rfl, rfl, trivial⟩
        · have H := H.2 g308
          refine W_seq ?_
          refine W_region (.pu 0 (.pu 1 (.pu 2 (.rl 3 (.pu 4 .fin))))) rfl rfl ?_
          refine s_pu (d := some 56) (v := (Sl.v acts2)) rfl rfl rfl (r_move rfl) ?_
          refine s_pu (d := some 57) (v := (.int .i64 i16)) rfl rfl rfl (r_move rfl) ?_
          obtain ⟨p123, e124, e125, e126, H⟩ := H
          obtain ⟨q127, e128⟩ : ∃ q : Addr, q = Addr.add p123 (Int.toNat i16 * 1) := ⟨_, rfl⟩
          rw [← e128] at H
          refine s_pu (d := some 58) (v := (.pointer (some q127))) rfl rfl rfl (fun w => (r_indexAddr Try.underlying22 Try.sizeOf3 rfl rfl e124 e125 e126 w).trans (by rw [e128])) ?_
          obtain ⟨x129, e130, H⟩ := H
          refine s_rl (d := some 59) (v := (.int .i64 x129)) rfl rfl rfl (fun dr => r_load1 Try.isAgg3 rfl e130) ?_
          refine s_pu (d := some 60) (v := (.bool (decide (x129 = 1)))) rfl rfl rfl (r_eql rfl rfl) ?_
          refine s_fin ?_
          show W _ _ _ _ _ _ _ _
          refine W_if (decide (x129 = 1)) rfl (fun g307 => ?_) (fun g307 => ?_)
          · have H := H.1 g307
            refine W_seq ?_
            refine W_region (.rl 0 (.ef 1 [] (.pu 2 (.pu 3 (.pu 4 (.ef 5 [] (.pu 6 .fin) .no)))) .no)) rfl rfl ?_
            obtain ⟨x131, e132, H⟩ := H
            obtain ⟨x133, e134, H⟩ := H
            obtain ⟨x135, e136, H⟩ := H
            obtain ⟨x137, e138, H⟩ := H
            refine s_rl (d := some 62) (v := (.agg #[(.pointer x131), (.int .i64 x133), (.pointer x135), (.int .i64 x137)])) rfl rfl rfl (fun dr => r_loadN Try.isAgg36 Try.sizeOf36 (vs := [(.pointer x131), (.int .i64 x133), (.pointer x135), (.int .i64 x137)]) rfl rfl ⟨e132, e134, e136, e138, trivial⟩) ?_
            refine s_ef (d := some 63) rfl rfl rfl (fun dr => r_call Try.call18 rfl rfl H) ?_ trivial
            rintro _ h17 ⟨y139, y140, y141, y142, y143, rfl, H⟩
            refine ⟨trivial, ?_⟩
            refine s_pu (d := some 61) (v := (.tuple #[(.agg #[(.pointer y139), (.int .i64 y140), (.pointer y141), (.int .i64 y142)]), (.bool y143)])) rfl rfl rfl (r_move rfl) ?_
            refine s_pu (d := some 64) (v := (.agg #[(.pointer y139), (.int .i64 y140), (.pointer y141), (.int .i64 y142)])) rfl rfl rfl (r_extract rfl rfl) ?_
            refine s_pu (d := some 65) (v := (.bool y143)) rfl rfl rfl (r_extract rfl rfl) ?_
            obtain ⟨e145, H⟩ := H
            obtain ⟨h18, e144⟩ : ∃ hh : Heap, hh = hsets h17 p29 0 [(.pointer y139), (.int .i64 y140), (.pointer y141), (.int .i64 y142)] := ⟨_, rfl⟩
            have H := H h18 e144
            refine s_st (d := none) (h' := h18) rfl rfl rfl (fun dr => (r_store (v := (.agg #[(.pointer y139), (.int .i64 y140), (.pointer y141), (.int .i64 y142)])) Try.sizeOf36 rfl rfl rfl (one_all rfl) e145).trans (by rw [e144]; rfl)) trivial ?_ trivial
            refine s_pu (d := some 12) (v := (.bool y143)) rfl rfl rfl (r_assign rfl) ?_
            refine s_fin ?_
            show W _ _ _ _ _ _ _ _
            refine W_seq ?_
            refine W_region (.pu 0 .fin) rfl rfl ?_
            refine s_pu (d := some 66) (v := (.bool (decide (va15 < ((all14.len : Int)))))) rfl rfl rfl (r_move rfl) ?_
            refine s_fin ?_
            show W _ _ _ _ _ _ _ _
            refine W_if (decide (va15 < ((all14.len : Int)))) rfl (fun g146 => ?_) (fun g146 => ?_)
            · have H := H.1 g146
              refine W_region (.pu 0 (.pu 1 (.pu 2 .fin))) rfl rfl ?_
              refine s_pu (d := some 67) (v := (.int .i64 va15)) rfl rfl rfl (r_move rfl) ?_
              refine s_pu (d := some 68) (v := (.int .i64 (w64 (va15 + 1)))) rfl rfl rfl (r_add rfl rfl) ?_
              refine s_pu (d := some 10) (v := (.int .i64 (w64 (va15 + 1)))) rfl rfl rfl (r_assign rfl) ?_
              refine s_fin ?_
              exact N_mk (l := [(1, (Sl.v acts2)), (2, (Sl.v xs3)), (8, (.pointer (some p9))), (9, (Sl.v all14)), (10, (.int .i64 (w64 (va15 + 1)))), (11, (.int .i64 i16)), (12, (.bool y143)), (13, (.bool (decide (va15 < ((all14.len : Int)))))), (14, (.pointer (some p29)))]) H ⟨rfl, rfl, rfl, rfl, rfl, rfl, rfl, rfl, rfl, trivial⟩
            · have H := H.2 g146
              refine W_skip ?_
              exact N_mk (l := [(1, (Sl.v acts2)), (2, (Sl.v xs3)), (8, (.pointer (some p9))), (9, (Sl.v all14)), (10, (.int .i64 va15)), (11, (.int .i64 i16)), (12, (.bool y143)), (13, (.bool (decide (va15 < ((all14.len : Int)))))), (14, (.pointer (some p29)))]) H ⟨rfl, rfl, rfl, rfl, rfl, rfl, rfl, rfl, rfl, trivial⟩
          · have H := H.2 g307
            refine W_seq ?_
            refine W_region (.pu 0 (.pu 1 (.pu 2 (.rl 3 (.pu 4 .fin))))) rfl rfl ?_
            refine s_pu (d := some 69) (v := (Sl.v acts2)) rfl rfl rfl (r_move rfl) ?_
            refine s_pu (d := some 70) (v := (.int .i64 i16)) rfl rfl rfl (r_move rfl) ?_
            obtain ⟨p147, e148, e149, e150, H⟩ := H
            obtain ⟨q151, e152⟩ : ∃ q : Addr, q = Addr.add p147 (Int.toNat i16 * 1) := ⟨_, rfl⟩
            rw [← e152] at H
            refine s_pu (d := some 71) (v := (.pointer (some q151))) rfl rfl rfl (fun w => (r_indexAddr Try.underlying22 Try.sizeOf3 rfl rfl e148 e149 e150 w).trans (by rw [e152])) ?_
            obtain ⟨x153, e154, H⟩ := H
            refine s_rl (d := some 72) (v := (.int .i64 x153)) rfl rfl rfl (fun dr => r_load1 Try.isAgg3 rfl e154) ?_
            refine s_pu (d := some 73) (v := (.bool (decide (x153 = 2)))) rfl rfl rfl (r_eql rfl rfl) ?_
            refine s_fin ?_
            show W _ _ _ _ _ _ _ _
            refine W_if (decide (x153 = 2)) rfl (fun g306 => ?_) (fun g306 => ?_)
            · have H := H.1 g306
              refine W_seq ?_
              refine W_draw [0, 0, 0, 6, 14, 31, 63] (.rd 0 (.pu 1 (.pu 2 (.pu 3 (.rd 4 (.ef 5 [0, 4] (.ef 6 [0, 4] .fin .no) .no)))))) (by kernel_rfl) (by kernel_rfl) ?_
              obtain ⟨x155, e156, H⟩ := H
              obtain ⟨x157, e158, H⟩ := H
              obtain ⟨x159, e160, H⟩ := H
              obtain ⟨x161, e162, H⟩ := H
              refine s_rd (d := some 74) (v := (.agg #[(.pointer x155), (.int .i64 x157), (.pointer x159), (.int .i64 x161)])) rfl rfl rfl (fun dr => r_loadN Try.isAgg36 Try.sizeOf36 (vs := [(.pointer x155), (.int .i64 x157), (.pointer x159), (.int .i64 x161)]) rfl rfl ⟨e156, e158, e160, e162, trivial⟩) ?_
              refine s_pu (d := some 75) (v := (Sl.v xs3)) rfl rfl rfl (r_move rfl) ?_
              refine s_pu (d := some 76) (v := (.int .i64 i16)) rfl rfl rfl (r_move rfl) ?_
              obtain ⟨p163, e164, e165, e166, H⟩ := H
              obtain ⟨q167, e168⟩ : ∃ q : Addr, q = Addr.add p163 (Int.toNat i16 * 1) := ⟨_, rfl⟩
              rw [← e168] at H
              refine s_pu (d := some 77) (v := (.pointer (some q167))) rfl rfl rfl (fun w => (r_indexAddr Try.underlying22 Try.sizeOf3 rfl rfl e164 e165 e166 w).trans (by rw [e168])) ?_
              obtain ⟨x169, e170, H⟩ := H
              refine s_rd (d := some 78) (v := (.int .i64 x169)) rfl rfl rfl (fun dr => r_load1 Try.isAgg3 rfl e170) ?_
              refine s_ef (d := some 79) rfl rfl rfl (fun dr => r_call Try.call28 rfl rfl H) ?_ trivial
              rintro _ h19 ⟨y171, y172, y173, y174, rfl, H⟩
              refine ⟨⟨trivial, trivial, trivial⟩, ?_⟩
              obtain ⟨e176, H⟩ := H
              obtain ⟨h20, e175⟩ : ∃ hh : Heap, hh = hsets h19 p29 0 [(.pointer y171), (.int .i64 y172), (.pointer y173), (.int .i64 y174)] := ⟨_, rfl⟩
              have H := H h20 e175
              refine s_st (d := none) (h' := h20) rfl rfl rfl (fun dr => (r_store (v := (.agg #[(.pointer y171), (.int .i64 y172), (.pointer y173), (.int .i64 y174)])) Try.sizeOf36 rfl rfl rfl (one_all rfl) e176).trans (by rw [e175]; rfl)) ⟨trivial, trivial, trivial⟩ ?_ trivial
              refine s_fin ?_
              show W _ _ _ _ _ _ _ _
              refine W_seq ?_
              refine W_region (.pu 0 .fin) rfl rfl ?_
              refine s_pu (d := some 13) (v := (.bool true)) rfl rfl rfl (r_assign rfl) ?_
              refine s_fin ?_
              show W _ _ _ _ _ _ _ _
              refine W_seq ?_
              refine W_region (.pu 0 (.pu 1 (.pu 2 (.pu 3 (.pu 4 (.rl 5 (.ef 6 [] (.pu 7 .fin) .no))))))) rfl rfl ?_
              refine s_pu (d := some 80) (v := (Sl.v all14)) rfl rfl rfl (r_move rfl) ?_
              refine s_pu (d := some 81) (v := (.int .i64 va15)) rfl rfl rfl (r_move rfl) ?_
              refine s_pu (d := some 82) (v := (Sl.v xs3)) rfl rfl rfl (r_move rfl) ?_
              refine s_pu (d := some 83) (v := (.int .i64 i16)) rfl rfl rfl (r_move rfl) ?_
              obtain ⟨p177, e178, e179, e180, H⟩ := H
              obtain ⟨q181, e182⟩ : ∃ q : Addr, q = Addr.add p177 (Int.toNat i16 * 1) := ⟨_, rfl⟩
              rw [← e182] at H
              refine s_pu (d := some 84) (v := (.pointer (some q181))) rfl rfl rfl (fun w => (r_indexAddr Try.underlying22 Try.sizeOf3 rfl rfl e178 e179 e180 w).trans (by rw [e182])) ?_
              obtain ⟨x183, e184, H⟩ := H
              refine s_rl (d := some 85) (v := (.int .i64 x183)) rfl rfl rfl (fun dr => r_load1 Try.isAgg3 rfl e184) ?_
              refine s_ef (d := some 86) rfl rfl rfl (fun dr => r_call Try.call29 rfl rfl H) ?_ trivial
              rintro _ h21 ⟨y185, rfl, H⟩
              refine ⟨trivial, ?_⟩
              refine s_pu (d := some 9) (v := (Sl.v y185)) rfl rfl rfl (r_assign rfl) ?_
              refine s_fin ?_
              show W _ _ _ _ _ _ _ _
              refine W_region (.pu 0 (.pu 1 (.pu 2 .fin))) rfl rfl ?_
              refine s_pu (d := some 87) (v := (.int .i64 va15)) rfl rfl rfl (r_move rfl) ?_
              refine s_pu (d := some 88) (v := (.int .i64 (w64 (va15 + 1)))) rfl rfl rfl (r_add rfl rfl) ?_
              refine s_pu (d := some 10) (v := (.int .i64 (w64 (va15 + 1)))) rfl rfl rfl (r_assign rfl) ?_
              refine s_fin ?_
              exact N_mk (l := [(1, (Sl.v acts2)), (2, (Sl.v xs3)), (8, (.pointer (some p9))), (9, (Sl.v y185)), (10, (.int .i64 (w64 (va15 + 1)))), (11, (.int .i64 i16)), (12, (.bool true)), (13, (.bool true)), (14, (.pointer (some p29)))]) H ⟨rfl, rfl, rfl, rfl, rfl, rfl, rfl, rfl, rfl, trivial⟩
            · have H := H.2 g306
              refine W_seq ?_
              refine W_region (.pu 0 (.pu 1 (.pu 2 (.rl 3 (.pu 4 .fin))))) rfl rfl ?_
              refine s_pu (d := some 89) (v := (Sl.v acts2)) rfl rfl rfl (r_move rfl) ?_
              refine s_pu (d := some 90) (v := (.int .i64 i16)) rfl rfl rfl (r_move rfl) ?_
              obtain ⟨p186, e187, e188, e189, H⟩ := H
              obtain ⟨q190, e191⟩ : ∃ q : Addr, q = Addr.add p186 (Int.toNat i16 * 1) := ⟨_, rfl⟩
              rw [← e191] at H
              refine s_pu (d := some 91) (v := (.pointer (some q190))) rfl rfl rfl (fun w => (r_indexAddr Try.underlying22 Try.sizeOf3 rfl rfl e187 e188 e189 w).trans (by rw [e191])) ?_
              obtain ⟨x192, e193, H⟩ := H
              refine s_rl (d := some 92) (v := (.int .i64 x192)) rfl rfl rfl (fun dr => r_load1 Try.isAgg3 rfl e193) ?_
              refine s_pu (d := some 93) (v := (.bool (decide (x192 = 3)))) rfl rfl rfl (r_eql rfl rfl) ?_
              refine s_fin ?_
              show W _ _ _ _ _ _ _ _
              refine W_if (decide (x192 = 3)) rfl (fun g305 => ?_) (fun g305 => ?_)
              · have H := H.1 g305
                refine W_seq ?_
                refine W_region (.rl 0 (.ef 1 [] (.pu 2 (.pu 3 (.pu 4 (.ef 5 [] (.pu 6 .fin) .no)))) .no)) rfl rfl ?_
                obtain ⟨x194, e195, H⟩ := H
                obtain ⟨x196, e197, H⟩ := H
                obtain ⟨x198, e199, H⟩ := H
                obtain ⟨x200, e201, H⟩ := H
                refine s_rl (d := some 95) (v := (.agg #[(.pointer x194), (.int .i64 x196), (.pointer x198), (.int .i64 x200)])) rfl rfl rfl (fun dr => r_loadN Try.isAgg36 Try.sizeOf36 (vs := [(.pointer x194), (.int .i64 x196), (.pointer x198), (.int .i64 x200)]) rfl rfl ⟨e195, e197, e199, e201, trivial⟩) ?_
                refine s_ef (d := some 96) rfl rfl rfl (fun dr => r_call Try.call30 rfl rfl H) ?_ trivial
                rintro _ h22 ⟨y202, y203, y204, y205, y206, rfl, H⟩
                refine ⟨trivial, ?_⟩
                refine s_pu (d := some 94) (v := (.tuple #[(.agg #[(.pointer y202), (.int .i64 y203), (.pointer y204), (.int .i64 y205)]), (.bool y206)])) rfl rfl rfl (r_move rfl) ?_
                refine s_pu (d := some 97) (v := (.agg #[(.pointer y202), (.int .i64 y203), (.pointer y204), (.int .i64 y205)])) rfl rfl rfl (r_extract rfl rfl) ?_
                refine s_pu (d := some 98) (v := (.bool y206)) rfl rfl rfl (r_extract rfl rfl) ?_
                obtain ⟨e208, H⟩ := H
                obtain ⟨h23, e207⟩ : ∃ hh : Heap, hh = hsets h22 p29 0 [(.pointer y202), (.int .i64 y203), (.pointer y204), (.int .i64 y205)] := ⟨_, rfl⟩
                have H := H h23 e207
                refine s_st (d := none) (h' := h23) rfl rfl rfl (fun dr => (r_store (v := (.agg #[(.pointer y202), (.int .i64 y203), (.pointer y204), (.int .i64 y205)])) Try.sizeOf36 rfl rfl rfl (one_all rfl) e208).trans (by rw [e207]; rfl)) trivial ?_ trivial
                refine s_pu (d := some 12) (v := (.bool y206)) rfl rfl rfl (r_assign rfl) ?_
                refine s_fin ?_
                show W _ _ _ _ _ _ _ _
                refine W_seq ?_
                refine W_region (.pu 0 .fin) rfl rfl ?_
                refine s_pu (d := some 99) (v := (.bool (decide (va15 < ((all14.len : Int)))))) rfl rfl rfl (r_move rfl) ?_
                refine s_fin ?_
                show W _ _ _ _ _ _ _ _
                refine W_if (decide (va15 < ((all14.len : Int)))) rfl (fun g210 => ?_) (fun g210 => ?_)
                · have H := H.1 g210
                  refine W_region (.pu 0 (.pu 1 (.ef 2 [] (.pu 3 .fin) .no))) rfl rfl ?_
                  refine s_pu (d := some 100) (v := (Sl.v all14)) rfl rfl rfl (r_move rfl) ?_
                  refine s_pu (d := some 101) (v := (.int .i64 va15)) rfl rfl rfl (r_move rfl) ?_
                  refine s_ef (d := some 102) rfl rfl rfl (fun dr => r_call Try.call31 rfl rfl H) ?_ trivial
                  rintro _ h24 ⟨y209, rfl, H⟩
                  refine ⟨trivial, ?_⟩
                  refine s_pu (d := some 9) (v := (Sl.v y209)) rfl rfl rfl (r_assign rfl) ?_
                  refine s_fin ?_
                  exact N_mk (l := [(1, (Sl.v acts2)), (2, (Sl.v xs3)), (8, (.pointer (some p9))), (9, (Sl.v y209)), (10, (.int .i64 va15)), (11, (.int .i64 i16)), (12, (.bool y206)), (13, (.bool (decide (va15 < ((all14.len : Int)))))), (14, (.pointer (some p29)))]) H ⟨rfl, rfl, rfl, rfl, rfl, rfl, rfl, rfl, rfl, trivial⟩
                · have H := H.2 g210
                  refine W_skip ?_
                  exact N_mk (l := [(1, (Sl.v acts2)), (2, (Sl.v xs3)), (8, (.pointer (some p9))), (9, (Sl.v all14)), (10, (.int .i64 va15)), (11, (.int .i64 i16)), (12, (.bool y206)), (13, (.bool (decide (va15 < ((all14.len : Int)))))), (14, (.pointer (some p29)))]) H ⟨rfl, rfl, rfl, rfl, rfl, rfl, rfl, rfl, rfl, trivial⟩
              · have H := H.2 g305
                refine W_seq ?_
                refine W_region (.pu 0 (.pu 1 (.pu 2 (.rl 3 (.pu 4 .fin))))) rfl rfl ?_
                refine s_pu (d := some 103) (v := (Sl.v acts2)) rfl rfl rfl (r_move rfl) ?_
                refine s_pu (d := some 104) (v := (.int .i64 i16)) rfl rfl rfl (r_move rfl) ?_
                obtain ⟨p211, e212, e213, e214, H⟩ := H
                obtain ⟨q215, e216⟩ : ∃ q : Addr, q = Addr.add p211 (Int.toNat i16 * 1) := ⟨_, rfl⟩
                rw [← e216] at H
                refine s_pu (d := some 105) (v := (.pointer (some q215))) rfl rfl rfl (fun w => (r_indexAddr Try.underlying22 Try.sizeOf3 rfl rfl e212 e213 e214 w).trans (by rw [e216])) ?_
                obtain ⟨x217, e218, H⟩ := H
                refine s_rl (d := some 106) (v := (.int .i64 x217)) rfl rfl rfl (fun dr => r_load1 Try.isAgg3 rfl e218) ?_
                refine s_pu (d := some 107) (v := (.bool (decide (x217 = 4)))) rfl rfl rfl (r_eql rfl rfl) ?_
                refine s_fin ?_
                show W _ _ _ _ _ _ _ _
                refine W_if (decide (x217 = 4)) rfl (fun g304 => ?_) (fun g304 => ?_)
                · have H := H.1 g304
                  refine W_seq ?_
                  refine W_draw [0, 0, 0, 6, 14, 31, 63, 127, 127, 255, 1023] (.rd 0 (.pu 1 (.pu 2 (.pu 3 (.rd 4 (.ef 5 [0, 4] (.pu 6 (.pu 7 (.pu 8 (.ef 9 [0, 4] (.pu 10 .fin) .no)))) .no)))))) (by kernel_rfl) (by kernel_rfl) ?_
                  obtain ⟨x219, e220, H⟩ := H
                  obtain ⟨x221, e222, H⟩ := H
                  obtain ⟨x223, e224, H⟩ := H
                  obtain ⟨x225, e226, H⟩ := H
                  refine s_rd (d := some 109) (v := (.agg #[(.pointer x219), (.int .i64 x221), (.pointer x223), (.int .i64 x225)])) rfl rfl rfl (fun dr => r_loadN Try.isAgg36 Try.sizeOf36 (vs := [(.pointer x219), (.int .i64 x221), (.pointer x223), (.int .i64 x225)]) rfl rfl ⟨e220, e222, e224, e226, trivial⟩) ?_
                  refine s_pu (d := some 110) (v := (Sl.v xs3)) rfl rfl rfl (r_move rfl) ?_
                  refine s_pu (d := some 111) (v := (.int .i64 i16)) rfl rfl rfl (r_move rfl) ?_
                  obtain ⟨p227, e228, e229, e230, H⟩ := H
                  obtain ⟨q231, e232⟩ : ∃ q : Addr, q = Addr.add p227 (Int.toNat i16 * 1) := ⟨_, rfl⟩
                  rw [← e232] at H
                  refine s_pu (d := some 112) (v := (.pointer (some q231))) rfl rfl rfl (fun w => (r_indexAddr Try.underlying22 Try.sizeOf3 rfl rfl e228 e229 e230 w).trans (by rw [e232])) ?_
                  obtain ⟨x233, e234, H⟩ := H
                  refine s_rd (d := some 113) (v := (.int .i64 x233)) rfl rfl rfl (fun dr => r_load1 Try.isAgg3 rfl e234) ?_
                  refine s_ef (d := some 114) rfl rfl rfl (fun dr => r_call Try.call32 rfl rfl H) ?_ trivial
                  rintro _ h25 ⟨y235, y236, y237, y238, y239, rfl, H⟩
                  refine ⟨⟨trivial, trivial, trivial⟩, ?_⟩
                  refine s_pu (d := some 108) (v := (.tuple #[(.agg #[(.pointer y235), (.int .i64 y236), (.pointer y237), (.int .i64 y238)]), (.bool y239)])) rfl rfl rfl (r_move rfl) ?_
                  refine s_pu (d := some 115) (v := (.agg #[(.pointer y235), (.int .i64 y236), (.pointer y237), (.int .i64 y238)])) rfl rfl rfl (r_extract rfl rfl) ?_
                  refine s_pu (d := some 116) (v := (.bool y239)) rfl rfl rfl (r_extract rfl rfl) ?_
                  obtain ⟨e241, H⟩ := H
                  obtain ⟨h26, e240⟩ : ∃ hh : Heap, hh = hsets h25 p29 0 [(.pointer y235), (.int .i64 y236), (.pointer y237), (.int .i64 y238)] := ⟨_, rfl⟩
                  have H := H h26 e240
                  refine s_st (d := none) (h' := h26) rfl rfl rfl (fun dr => (r_store (v := (.agg #[(.pointer y235), (.int .i64 y236), (.pointer y237), (.int .i64 y238)])) Try.sizeOf36 rfl rfl rfl (one_all rfl) e241).trans (by rw [e240]; rfl)) ⟨trivial, trivial, trivial⟩ ?_ trivial
                  refine s_pu (d := some 12) (v := (.bool y239)) rfl rfl rfl (r_assign rfl) ?_
                  refine s_fin ?_
                  show W _ _ _ _ _ _ _ _
                  refine W_seq ?_
                  refine W_region (.pu 0 .fin) rfl rfl ?_
                  refine s_pu (d := some 117) (v := (.bool (decide (va15 < ((all14.len : Int)))))) rfl rfl rfl (r_move rfl) ?_
                  refine s_fin ?_
                  show W _ _ _ _ _ _ _ _
                  refine W_if (decide (va15 < ((all14.len : Int)))) rfl (fun g251 => ?_) (fun g251 => ?_)
                  · have H := H.1 g251
                    refine W_region (.pu 0 (.pu 1 (.pu 2 (.pu 3 (.pu 4 (.rl 5 (.ef 6 [] (.pu 7 .fin) .no))))))) rfl rfl ?_
                    refine s_pu (d := some 118) (v := (Sl.v all14)) rfl rfl rfl (r_move rfl) ?_
                    refine s_pu (d := some 119) (v := (.int .i64 va15)) rfl rfl rfl (r_move rfl) ?_
                    refine s_pu (d := some 120) (v := (Sl.v xs3)) rfl rfl rfl (r_move rfl) ?_
                    refine s_pu (d := some 121) (v := (.int .i64 i16)) rfl rfl rfl (r_move rfl) ?_
                    obtain ⟨p242, e243, e244, e245, H⟩ := H
                    obtain ⟨q246, e247⟩ : ∃ q : Addr, q = Addr.add p242 (Int.toNat i16 * 1) := ⟨_, rfl⟩
                    rw [← e247] at H
                    refine s_pu (d := some 122) (v := (.pointer (some q246))) rfl rfl rfl (fun w => (r_indexAddr Try.underlying22 Try.sizeOf3 rfl rfl e243 e244 e245 w).trans (by rw [e247])) ?_
                    obtain ⟨x248, e249, H⟩ := H
                    refine s_rl (d := some 123) (v := (.int .i64 x248)) rfl rfl rfl (fun dr => r_load1 Try.isAgg3 rfl e249) ?_
                    refine s_ef (d := some 124) rfl rfl rfl (fun dr => r_call Try.call33 rfl rfl H) ?_ trivial
                    rintro _ h27 ⟨y250, rfl, H⟩
                    refine ⟨trivial, ?_⟩
                    refine s_pu (d := some 9) (v := (Sl.v y250)) rfl rfl rfl (r_assign rfl) ?_
                    refine s_fin ?_
                    exact N_mk (l := [(1, (Sl.v acts2)), (2, (Sl.v xs3)), (8, (.pointer (some p9))), (9, (Sl.v y250)), (10, (.int .i64 va15)), (11, (.int .i64 i16)), (12, (.bool y239)), (13, (.bool (decide (va15 < ((all14.len : Int)))))), (14, (.pointer (some p29)))]) H ⟨rfl, rfl, rfl, rfl, rfl, rfl, rfl, rfl, rfl, trivial⟩
                  · have H := H.2 g251
                    refine W_skip ?_
                    exact N_mk (l := [(1, (Sl.v acts2)), (2, (Sl.v xs3)), (8, (.pointer (some p9))), (9, (Sl.v all14)), (10, (.int .i64 va15)), (11, (.int .i64 i16)), (12, (.bool y239)), (13, (.bool (decide (va15 < ((all14.len : Int)))))), (14, (.pointer (some p29)))]) H ⟨rfl, rfl, rfl, rfl, rfl, rfl, rfl, rfl, rfl, trivial⟩
                · have H := H.2 g304
                  refine W_seq ?_
                  refine W_draw [0, 0, 0, 6, 14, 31, 63, 127, 127, 255, 1023] (.rd 0 (.pu 1 (.pu 2 (.pu 3 (.rd 4 (.ef 5 [0, 4] (.pu 6 (.pu 7 (.pu 8 (.ef 9 [0, 4] (.pu 10 .fin) .no)))) .no)))))) (by kernel_rfl) (by kernel_rfl) ?_
                  obtain ⟨x252, e253, H⟩ := H
                  obtain ⟨x254, e255, H⟩ := H
                  obtain ⟨x256, e257, H⟩ := H
                  obtain ⟨x258, e259, H⟩ := H
                  refine s_rd (d := some 126) (v := (.agg #[(.pointer x252), (.int .i64 x254), (.pointer x256), (.int .i64 x258)])) rfl rfl rfl (fun dr => r_loadN Try.isAgg36 Try.sizeOf36 (vs := [(.pointer x252), (.int .i64 x254), (.pointer x256), (.int .i64 x258)]) rfl rfl ⟨e253, e255, e257, e259, trivial⟩) ?_
                  refine s_pu (d := some 127) (v := (Sl.v xs3)) rfl rfl rfl (r_move rfl) ?_
                  refine s_pu (d := some 128) (v := (.int .i64 i16)) rfl rfl rfl (r_move rfl) ?_
                  obtain ⟨p260, e261, e262, e263, H⟩ := H
                  obtain ⟨q264, e265⟩ : ∃ q : Addr, q = Addr.add p260 (Int.toNat i16 * 1) := ⟨_, rfl⟩
                  rw [← e265] at H
                  refine s_pu (d := some 129) (v := (.pointer (some q264))) rfl rfl rfl (fun w => (r_indexAddr Try.underlying22 Try.sizeOf3 rfl rfl e261 e262 e263 w).trans (by rw [e265])) ?_
                  obtain ⟨x266, e267, H⟩ := H
                  refine s_rd (d := some 130) (v := (.int .i64 x266)) rfl rfl rfl (fun dr => r_load1 Try.isAgg3 rfl e267) ?_
                  refine s_ef (d := some 131) rfl rfl rfl (fun dr => r_call Try.call15 rfl rfl H) ?_ trivial
                  rintro _ h28 ⟨y268, y269, y270, y271, y272, rfl, H⟩
                  refine ⟨⟨trivial, trivial, trivial⟩, ?_⟩
                  refine s_pu (d := some 125) (v := (.tuple #[(.agg #[(.pointer y268), (.int .i64 y269), (.pointer y270), (.int .i64 y271)]), (.bool y272)])) rfl rfl rfl (r_move rfl) ?_
                  refine s_pu (d := some 132) (v := (.agg #[(.pointer y268), (.int .i64 y269), (.pointer y270), (.int .i64 y271)])) rfl rfl rfl (r_extract rfl rfl) ?_
                  refine s_pu (d := some 133) (v := (.bool y272)) rfl rfl rfl (r_extract rfl rfl) ?_
                  obtain ⟨e274, H⟩ := H
                  obtain ⟨h29, e273⟩ : ∃ hh : Heap, hh = hsets h28 p29 0 [(.pointer y268), (.int .i64 y269), (.pointer y270), (.int .i64 y271)] := ⟨_, rfl⟩
                  have H := H h29 e273
                  refine s_st (d := none) (h' := h29) rfl rfl rfl (fun dr => (r_store (v := (.agg #[(.pointer y268), (.int .i64 y269), (.pointer y270), (.int .i64 y271)])) Try.sizeOf36 rfl rfl rfl (one_all rfl) e274).trans (by rw [e273]; rfl)) ⟨trivial, trivial, trivial⟩ ?_ trivial
                  refine s_pu (d := some 12) (v := (.bool y272)) rfl rfl rfl (r_assign rfl) ?_
                  refine s_fin ?_
                  show W _ _ _ _ _ _ _ _
                  refine W_seq ?_
                  refine W_set ?_
                  intro N277 eN277
                  have H := H (fun (has275 : Bool) => ∀ b, N277 [] (mkE [(1, (Sl.v acts2)), (2, (Sl.v xs3)), (8, (.pointer (some p9))), (9, (Sl.v all14)), (10, (.int .i64 va15)), (11, (.int .i64 i16)), (12, (.bool y272)), (13, (.bool has275)), (14, (.pointer (some p29)))] b) h29) (by
                    intro has275 H b
                    rw [eN277]
                    show W _ _ _ _ _ _ _ _
                    refine W_seq ?_
                    refine W_region (.pu 0 .fin) rfl rfl ?_
                    refine s_pu (d := some 148) (v := (.bool has275)) rfl rfl rfl (r_move rfl) ?_
                    refine s_fin ?_
                    show W _ _ _ _ _ _ _ _
                    refine W_if has275 rfl (fun g286 => ?_) (fun g286 => ?_)
                    · have H := H.1 g286
                      refine W_region (.pu 0 (.pu 1 (.pu 2 (.rl 3 (.pu 4 .fin))))) rfl rfl ?_
                      refine s_pu (d := some 149) (v := (Sl.v xs3)) rfl rfl rfl (r_move rfl) ?_
                      refine s_pu (d := some 150) (v := (.int .i64 i16)) rfl rfl rfl (r_move rfl) ?_
                      obtain ⟨p278, e279, e280, e281, H⟩ := H
                      obtain ⟨q282, e283⟩ : ∃ q : Addr, q = Addr.add p278 (Int.toNat i16 * 1) := ⟨_, rfl⟩
                      rw [← e283] at H
                      refine s_pu (d := some 151) (v := (.pointer (some q282))) rfl rfl rfl (fun w => (r_indexAddr Try.underlying22 Try.sizeOf3 rfl rfl e279 e280 e281 w).trans (by rw [e283])) ?_
                      obtain ⟨x284, e285, H⟩ := H
                      refine s_rl (d := some 152) (v := (.int .i64 x284)) rfl rfl rfl (fun dr => r_load1 Try.isAgg3 rfl e285) ?_
                      refine s_pu (d := some 10) (v := (.int .i64 x284)) rfl rfl rfl (r_assign rfl) ?_
                      refine s_fin ?_
                      exact N_mk (l := [(1, (Sl.v acts2)), (2, (Sl.v xs3)), (8, (.pointer (some p9))), (9, (Sl.v all14)), (10, (.int .i64 x284)), (11, (.int .i64 i16)), (12, (.bool y272)), (13, (.bool has275)), (14, (.pointer (some p29)))]) H ⟨rfl, rfl, rfl, rfl, rfl, rfl, rfl, rfl, rfl, trivial⟩
                    · have H := H.2 g286
                      refine W_skip ?_
                      exact N_mk (l := [(1, (Sl.v acts2)), (2, (Sl.v xs3)), (8, (.pointer (some p9))), (9, (Sl.v all14)), (10, (.int .i64 va15)), (11, (.int .i64 i16)), (12, (.bool y272)), (13, (.bool has275)), (14, (.pointer (some p29)))]) H ⟨rfl, rfl, rfl, rfl, rfl, rfl, rfl, rfl, rfl, trivial⟩)
                  clear eN277
                  refine W_region (.pu 0 (.pu 1 (.pu 2 (.rl 3 (.pu 4 (.pu 5 (.pu 6 (.pu 7 (.pu 8 (.rl 9 (.pu 10 (.pu 11 (.pu 12 (.pu 13 (.pu 14 .fin))))))))))))))) rfl rfl ?_
                  refine s_pu (d := some 134) (v := (Sl.v xs3)) rfl rfl rfl (r_move rfl) ?_
                  refine s_pu (d := some 135) (v := (.int .i64 i16)) rfl rfl rfl (r_move rfl) ?_
                  obtain ⟨p287, e288, e289, e290, H⟩ := H
                  obtain ⟨q291, e292⟩ : ∃ q : Addr, q = Addr.add p287 (Int.toNat i16 * 1) := ⟨_, rfl⟩
                  rw [← e292] at H
                  refine s_pu (d := some 136) (v := (.pointer (some q291))) rfl rfl rfl (fun w => (r_indexAddr Try.underlying22 Try.sizeOf3 rfl rfl e288 e289 e290 w).trans (by rw [e292])) ?_
                  obtain ⟨x293, e294, H⟩ := H
                  refine s_rl (d := some 137) (v := (.int .i64 x293)) rfl rfl rfl (fun dr => r_load1 Try.isAgg3 rfl e294) ?_
                  refine s_pu (d := some 138) (v := (.bool (decide (0 ≤ x293)))) rfl rfl rfl (r_geq rfl rfl) ?_
                  refine s_pu (d := some 139) (v := (.bool (decide (0 ≤ x293)))) rfl rfl rfl (r_move rfl) ?_
                  rcases Bool.eq_false_or_eq_true (decide (0 ≤ x293)) with g295 | g295
                  · have H := H.1 g295
                    refine s_pu (d := some 140) (v := (Sl.v xs3)) rfl rfl (wants_yes rfl rfl rfl rfl g295) (r_move rfl) ?_
                    refine s_pu (d := some 141) (v := (.int .i64 i16)) rfl rfl (wants_yes rfl rfl rfl rfl g295) (r_move rfl) ?_
                    obtain ⟨p296, e297, e298, e299, H⟩ := H
                    obtain ⟨q300, e301⟩ : ∃ q : Addr, q = Addr.add p296 (Int.toNat i16 * 1) := ⟨_, rfl⟩
                    rw [← e301] at H
                    refine s_pu (d := some 142) (v := (.pointer (some q300))) rfl rfl (wants_yes rfl rfl rfl rfl g295) (fun w => (r_indexAddr Try.underlying22 Try.sizeOf3 rfl rfl e297 e298 e299 w).trans (by rw [e301])) ?_
                    obtain ⟨x302, e303, H⟩ := H
                    refine s_rl (d := some 143) (v := (.int .i64 x302)) rfl rfl (wants_yes rfl rfl rfl rfl g295) (fun dr => r_load1 Try.isAgg3 rfl e303) ?_
                    refine s_pu (d := some 144) (v := (Sl.v all14)) rfl rfl (wants_yes rfl rfl rfl rfl g295) (r_move rfl) ?_
                    refine s_pu (d := some 145) (v := (.int .i64 ((all14.len : Int)))) rfl rfl (wants_yes rfl rfl rfl rfl g295) (r_len Try.underlying22 rfl) ?_
                    refine s_pu (d := some 146) (v := (.bool (decide (x302 ≤ ((all14.len : Int)))))) rfl rfl (wants_yes rfl rfl rfl rfl g295) (r_leq rfl rfl) ?_
                    refine s_pu (d := some 147) (v := (.bool (decide (x302 ≤ ((all14.len : Int)))))) rfl rfl rfl (r_pick1 rfl g295 rfl) ?_
                    refine s_pu (d := some 13) (v := (.bool (decide (x302 ≤ ((all14.len : Int)))))) rfl rfl rfl (r_assign rfl) ?_
                    refine s_fin ?_
                    exact N_mk (l := [(1, (Sl.v acts2)), (2, (Sl.v xs3)), (8, (.pointer (some p9))), (9, (Sl.v all14)), (10, (.int .i64 va15)), (11, (.int .i64 i16)), (12, (.bool y272)), (13, (.bool (decide (x302 ≤ ((all14.len : Int)))))), (14, (.pointer (some p29)))]) H ⟨rfl, rfl, rfl, rfl, rfl, rfl, rfl, rfl, rfl, trivial⟩
                  · have H := H.2 g295
                    refine s_sk (d := some 140) rfl rfl (wants_no rfl rfl rfl rfl g295) ?_
                    refine s_sk (d := some 141) rfl rfl (wants_no rfl rfl rfl rfl g295) ?_
                    refine s_sk (d := some 142) rfl rfl (wants_no rfl rfl rfl rfl g295) ?_
                    refine s_skl (d := some 143) rfl rfl (wants_no rfl rfl rfl rfl g295) ?_
                    refine s_sk (d := some 144) rfl rfl (wants_no rfl rfl rfl rfl g295) ?_
                    refine s_sk (d := some 145) rfl rfl (wants_no rfl rfl rfl rfl g295) ?_
                    refine s_sk (d := some 146) rfl rfl (wants_no rfl rfl rfl rfl g295) ?_
                    refine s_pu (d := some 147) (v := (.bool false)) rfl rfl rfl (r_pick0 rfl g295 rfl) ?_
                    refine s_pu (d := some 13) (v := (.bool false)) rfl rfl rfl (r_assign rfl) ?_
                    refine s_fin ?_
                    exact N_mk (l := [(1, (Sl.v acts2)), (2, (Sl.v xs3)), (8, (.pointer (some p9))), (9, (Sl.v all14)), (10, (.int .i64 va15)), (11, (.int .i64 i16)), (12, (.bool y272)), (13, (.bool false)), (14, (.pointer (some p29)))]) H ⟨rfl, rfl, rfl, rfl, rfl, rfl, rfl, rfl, rfl, trivial⟩
      · have H := H.2 g309
        refine W_exit (inX_here ?_)
        show W _ _ _ _ _ _ _ _
        refine W_seq ?_
        refine W_region (.pu 0 .fin) rfl rfl ?_
        refine s_pu (d := some 6) (v := (.bool true)) rfl rfl rfl (r_assign rfl) ?_
        refine s_fin ?_
        show W _ _ _ _ _ _ _ _
        refine W_ret ?_
        exact ⟨[(.bool true)], ⟨_, _, rfl, rfl, rfl⟩, true, rfl, H⟩
    · rcases Bool.eq_false_or_eq_true (decide (i16 < ((acts2.len : Int)))) with g18 | g18
      · refine s_pu (d := some 29) (v := (.int .i64 i16)) rfl rfl (wants_yes rfl rfl rfl rfl g18) (r_move rfl) ?_
        refine s_pu (d := some 30) (v := (Sl.v xs3)) rfl rfl (wants_yes rfl rfl rfl rfl g18) (r_move rfl) ?_
        refine s_pu (d := some 31) (v := (.int .i64 ((xs3.len : Int)))) rfl rfl (wants_yes rfl rfl rfl rfl g18) (r_len Try.underlying22 rfl) ?_
        refine s_pu (d := some 32) (v := (.bool (decide (i16 < ((xs3.len : Int)))))) rfl rfl (wants_yes rfl rfl rfl rfl g18) (r_lss rfl rfl) ?_
        refine s_pu (d := some 33) (v := (.bool (decide (i16 < ((xs3.len : Int)))))) rfl rfl rfl (r_pick1 rfl g18 rfl) ?_
        exact S_mk (l := [(1, (Sl.v acts2)), (2, (Sl.v xs3)), (8, (.pointer (some p9))), (9, (Sl.v all14)), (10, (.int .i64 va15)), (11, (.int .i64 i16)), (33, (.bool ((decide (i16 < ((acts2.len : Int)))) && (decide (i16 < ((xs3.len : Int)))))))]) HJ ⟨rfl, rfl, rfl, rfl, rfl, rfl, (by rw [g18]; rfl), trivial⟩
      · refine s_sk (d := some 29) rfl rfl (wants_no rfl rfl rfl rfl g18) ?_
        refine s_sk (d := some 30) rfl rfl (wants_no rfl rfl rfl rfl g18) ?_
        refine s_sk (d := some 31) rfl rfl (wants_no rfl rfl rfl rfl g18) ?_
        refine s_sk (d := some 32) rfl rfl (wants_no rfl rfl rfl rfl g18) ?_
        refine s_pu (d := some 33) (v := (.bool false)) rfl rfl rfl (r_pick0 rfl g18 rfl) ?_
        exact S_mk (l := [(1, (Sl.v acts2)), (2, (Sl.v xs3)), (8, (.pointer (some p9))), (9, (Sl.v all14)), (10, (.int .i64 va15)), (11, (.int .i64 i16)), (33, (.bool ((decide (i16 < ((acts2.len : Int)))) && (decide (i16 < ((xs3.len : Int)))))))]) HJ ⟨rfl, rfl, rfl, rfl, rfl, rfl, (by rw [g18]; rfl), trivial⟩

/-! ### law3_ZipEdits -/

def law3_ZipEdits_F (r : World) (l1 : Sl) (i2 : Int) (x3 : Int) (h : Heap) (R : Bool → Heap → Prop) : Prop :=
  law3_zipped r h fun y4 h1 =>
  Br (!y4) (
    R false h1) (
    zip_Of r l1 h1 fun y5 y6 y7 y8 h2 =>
    zip_Zip_Go r y5 y6 y7 y8 i2 h2 fun y9 y10 y11 y12 y13 h3 =>
    New h3 (.cells #[(.pointer none), (.int .i64 0), (.pointer none), (.int .i64 0)] 36) fun p14 h4 =>
    St h4 p14 4 [(.pointer y9), (.int .i64 y10), (.pointer y11), (.int .i64 y12)] fun h5 =>
    Br (!y13) (
      R true h5) (
      LdP h5 (Addr.add p14 0) fun x19 =>
      LdI h5 (Addr.add p14 1) fun x21 =>
      LdP h5 (Addr.add p14 2) fun x23 =>
      LdI h5 (Addr.add p14 3) fun x25 =>
      zip_Zip_Insert r x19 x21 x23 x25 x3 h5 fun y27 y28 y29 y30 h6 =>
      New h6 (.cells #[(.pointer none), (.int .i64 0), (.pointer none), (.int .i64 0)] 36) fun p31 h7 =>
      St h7 p31 4 [(.pointer y27), (.int .i64 y28), (.pointer y29), (.int .i64 y30)] fun h8 =>
      LdP h8 (Addr.add p31 0) fun x36 =>
      LdI h8 (Addr.add p31 1) fun x38 =>
      LdP h8 (Addr.add p31 2) fun x40 =>
      LdI h8 (Addr.add p31 3) fun x42 =>
      zip_Zip_Left r x36 x38 x40 x42 h8 fun y44 y45 y46 y47 y48 h9 =>
      New h9 (.cells #[(.pointer none), (.int .i64 0), (.pointer none), (.int .i64 0)] 36) fun p49 h10 =>
      St h10 p49 4 [(.pointer y44), (.int .i64 y45), (.pointer y46), (.int .i64 y47)] fun h11 =>
      LdP h11 (Addr.add p49 0) fun x54 =>
      LdI h11 (Addr.add p49 1) fun x56 =>
      LdP h11 (Addr.add p49 2) fun x58 =>
      LdI h11 (Addr.add p49 3) fun x60 =>
      zip_Zip_At r x54 x56 x58 x60 h11 fun y62 y63 h12 =>
      LdP h12 (Addr.add p49 0) fun x64 =>
      LdI h12 (Addr.add p49 1) fun x66 =>
      LdP h12 (Addr.add p49 2) fun x68 =>
      LdI h12 (Addr.add p49 3) fun x70 =>
      zip_Zip_Delete r x64 x66 x68 x70 h12 fun y72 y73 y74 y75 y76 h13 =>
      New h13 (.cells #[(.pointer none), (.int .i64 0), (.pointer none), (.int .i64 0)] 36) fun p77 h14 =>
      St h14 p77 4 [(.pointer y72), (.int .i64 y73), (.pointer y74), (.int .i64 y75)] fun h15 =>
      LdP h15 (Addr.add p77 0) fun x82 =>
      LdI h15 (Addr.add p77 1) fun x84 =>
      LdP h15 (Addr.add p77 2) fun x86 =>
      LdI h15 (Addr.add p77 3) fun x88 =>
      zip_Zip_Ints r x82 x84 x86 x88 h15 fun y90 h16 =>
      same_Ints r y90 l1 h16 fun y91 h17 =>
      ∀ J93 : Bool → Heap → Prop, (∀ (x92 : Bool) (h18 : Heap),
        (Br x92 (
          R false h18) (
          LdP h18 (Addr.add p14 0) fun x95 =>
          LdI h18 (Addr.add p14 1) fun x97 =>
          LdP h18 (Addr.add p14 2) fun x99 =>
          LdI h18 (Addr.add p14 3) fun x101 =>
          zip_Zip_Set r x95 x97 x99 x101 x3 h18 fun y103 y104 y105 y106 y107 h19 =>
          New h19 (.cells #[(.pointer none), (.int .i64 0), (.pointer none), (.int .i64 0)] 36) fun p108 h20 =>
          St h20 p108 4 [(.pointer y103), (.int .i64 y104), (.pointer y105), (.int .i64 y106)] fun h21 =>
          LdP h21 (Addr.add p108 0) fun x113 =>
          LdI h21 (Addr.add p108 1) fun x115 =>
          LdP h21 (Addr.add p108 2) fun x117 =>
          LdI h21 (Addr.add p108 3) fun x119 =>
          zip_Zip_At r x113 x115 x117 x119 h21 fun y121 y122 h22 =>
          LdP h22 (Addr.add p108 0) fun x123 =>
          LdI h22 (Addr.add p108 1) fun x125 =>
          LdP h22 (Addr.add p108 2) fun x127 =>
          LdI h22 (Addr.add p108 3) fun x129 =>
          zip_Zip_Ints r x123 x125 x127 x129 h22 fun y131 h23 =>
          New h23 (.cells #[(.int .i64 0)] 3) fun p132 h24 =>
          App 3 1 8 (.int .i64 0) y131 ((⟨some p132, 1, 1⟩ : Sl)) h24 fun s135 h25 =>
          ref1_Without r s135 (min i2 ((l1.len : Int))) h25 fun y136 h26 =>
          ref1_Cat r l1 Sl.nil h26 fun y137 h27 =>
          New h27 (.cells #[(.int .i64 0)] 3) fun p138 h28 =>
          App 3 1 8 (.int .i64 0) y137 ((⟨some p138, 1, 1⟩ : Sl)) h28 fun s141 h29 =>
          ref1_Without r s141 (min i2 ((l1.len : Int))) h29 fun y142 h30 =>
          same_Ints r y136 y142 h30 fun y143 h31 =>
          ∀ J146 : Bool → Prop, (∀ (x145 : Bool),
            (R x145 h31) →
            J146 x145) →
          Br (y107 == (decide (i2 < ((l1.len : Int))))) (
            Br (!y107) (
              J146 y143) (
              Br y122 (
                Br (decide (y121 = x3)) (
                  J146 y143) (
                  J146 false)) (
                J146 false))) (
            J146 false))) →
        J93 x92 h18) →
      Br (!y48) (
        J93 true h17) (
        Br (!y63) (
          J93 true h17) (
          Br (!y76) (
            J93 true h17) (
            Br (!decide (y62 = x3)) (
              J93 true h17) (
              Br (!y91) (
                J93 true h17) (
                LdP h17 (Addr.add p77 0) fun x159 =>
                LdI h17 (Addr.add p77 1) fun x161 =>
                LdP h17 (Addr.add p77 2) fun x163 =>
                LdI h17 (Addr.add p77 3) fun x165 =>
                zip_Zip_Place r x159 x161 x163 x165 h17 fun y167 h32 =>
                J93 (!decide (y167 = i2)) h32)))))))

set_option maxRecDepth 100000 in
theorem law3_ZipEdits_of {r : World} {l1 : Sl} {i2 : Int} {x3 : Int} {h : Heap} {R : Bool → Heap → Prop} (H : law3_ZipEdits_F r l1 i2 x3 h R) : law3_ZipEdits r l1 i2 x3 h R := by
  unfold law3_ZipEdits_F at H
  refine calls_of 133 [.tmp 6] Try.func7 rfl rfl rfl rfl rfl ?_
  refine W_seq ?_
  refine W_region (.pu 0 .fin) rfl rfl ?_
  refine s_pu (d := some 6) (v := (.bool false)) rfl rfl rfl (r_assign rfl) ?_
  refine s_fin ?_
  show W _ _ _ _ _ _ _ _
  refine W_seq ?_
  refine W_region (.ef 0 [] (.pu 1 .fin) .no) rfl rfl ?_
  refine s_ef (d := some 23) rfl rfl rfl (fun dr => r_call Try.call13 rfl rfl H) ?_ trivial
  rintro _ h1 ⟨y4, rfl, H⟩
  refine ⟨trivial, ?_⟩
  refine s_pu (d := some 7) (v := (.bool y4)) rfl rfl rfl (r_assign rfl) ?_
  refine s_fin ?_
  show W _ _ _ _ _ _ _ _
  refine W_seq ?_
  refine W_seq ?_
  refine W_region (.pu 0 (.pu 1 .fin)) rfl rfl ?_
  refine s_pu (d := some 24) (v := (.bool y4)) rfl rfl rfl (r_move rfl) ?_
  refine s_pu (d := some 25) (v := (.bool (!y4))) rfl rfl rfl (r_not rfl) ?_
  refine s_fin ?_
  show W _ _ _ _ _ _ _ _
  refine W_if (!y4) rfl (fun g169 => ?_) (fun g169 => ?_)
  · have H := H.1 g169
    refine W_seq ?_
    refine W_region (.pu 0 .fin) rfl rfl ?_
    refine s_pu (d := some 6) (v := (.bool false)) rfl rfl rfl (r_assign rfl) ?_
    refine s_fin ?_
    show W _ _ _ _ _ _ _ _
    refine W_ret ?_
    exact ⟨[(.bool false)], ⟨_, _, rfl, rfl, rfl⟩, false, rfl, H⟩
  · have H := H.2 g169
    refine W_skip ?_
    show W _ _ _ _ _ _ _ _
    refine W_seq ?_
    refine W_region (.pu 0 (.ef 1 [] (.pu 2 (.ef 3 [] (.pu 4 (.pu 5 (.pu 6 (.ef 7 [] (.ef 8 [] (.pu 9 .fin) .no) .no)))) .no)) .no)) rfl rfl ?_
    refine s_pu (d := some 27) (v := (Sl.v l1)) rfl rfl rfl (r_move rfl) ?_
    refine s_ef (d := some 28) rfl rfl rfl (fun dr => r_call Try.call14 rfl rfl H) ?_ trivial
    rintro _ h2 ⟨y5, y6, y7, y8, rfl, H⟩
    refine ⟨trivial, ?_⟩
    refine s_pu (d := some 29) (v := (.int .i64 i2)) rfl rfl rfl (r_move rfl) ?_
    refine s_ef (d := some 30) rfl rfl rfl (fun dr => r_call Try.call15 rfl rfl H) ?_ trivial
    rintro _ h3 ⟨y9, y10, y11, y12, y13, rfl, H⟩
    refine ⟨trivial, ?_⟩
    refine s_pu (d := some 26) (v := (.tuple #[(.agg #[(.pointer y9), (.int .i64 y10), (.pointer y11), (.int .i64 y12)]), (.bool y13)])) rfl rfl rfl (r_move rfl) ?_
    refine s_pu (d := some 31) (v := (.agg #[(.pointer y9), (.int .i64 y10), (.pointer y11), (.int .i64 y12)])) rfl rfl rfl (r_extract rfl rfl) ?_
    refine s_pu (d := some 32) (v := (.bool y13)) rfl rfl rfl (r_extract rfl rfl) ?_
    obtain ⟨p14, e15⟩ : ∃ p : Addr, p = ⟨h3.size, 0, none⟩ := ⟨_, rfl⟩
    obtain ⟨h4, e16⟩ : ∃ hh : Heap, hh = h3.push (.cells #[(.pointer none), (.int .i64 0), (.pointer none), (.int .i64 0)] 36) := ⟨_, rfl⟩
    have H := H p14 h4 e15 e16
    refine s_ef1 (d := some 8) (v := (.pointer (some p14))) (h' := h4) rfl rfl rfl (fun dr => (r_alloc Try.zeroValue36).trans (by rw [e15, e16]; rfl)) trivial ?_ trivial
    obtain ⟨e18, H⟩ := H
    obtain ⟨h5, e17⟩ : ∃ hh : Heap, hh = hsets h4 p14 0 [(.pointer y9), (.int .i64 y10), (.pointer y11), (.int .i64 y12)] := ⟨_, rfl⟩
    have H := H h5 e17
    refine s_st (d := none) (h' := h5) rfl rfl rfl (fun dr => (r_store (v := (.agg #[(.pointer y9), (.int .i64 y10), (.pointer y11), (.int .i64 y12)])) Try.sizeOf36 rfl rfl rfl (one_all rfl) e18).trans (by rw [e17]; rfl)) trivial ?_ trivial
    refine s_pu (d := some 9) (v := (.bool y13)) rfl rfl rfl (r_assign rfl) ?_
    refine s_fin ?_
    show W _ _ _ _ _ _ _ _
    refine W_seq ?_
    refine W_seq ?_
    refine W_region (.pu 0 (.pu 1 .fin)) rfl rfl ?_
    refine s_pu (d := some 33) (v := (.bool y13)) rfl rfl rfl (r_move rfl) ?_
    refine s_pu (d := some 34) (v := (.bool (!y13))) rfl rfl rfl (r_not rfl) ?_
    refine s_fin ?_
    show W _ _ _ _ _ _ _ _
    refine W_if (!y13) rfl (fun g168 => ?_) (fun g168 => ?_)
    · have H := H.1 g168
      refine W_seq ?_
      refine W_region (.pu 0 .fin) rfl rfl ?_
      refine s_pu (d := some 6) (v := (.bool true)) rfl rfl rfl (r_assign rfl) ?_
      refine s_fin ?_
      show W _ _ _ _ _ _ _ _
      refine W_ret ?_
      exact ⟨[(.bool true)], ⟨_, _, rfl, rfl, rfl⟩, true, rfl, H⟩
    · have H := H.2 g168
      refine W_skip ?_
      show W _ _ _ _ _ _ _ _
      refine W_seq ?_
      refine W_region (.rl 0 (.pu 1 (.ef 2 [] (.ef 3 [] (.ef 4 [] .fin .no) .no) .no))) rfl rfl ?_
      obtain ⟨x19, e20, H⟩ := H
      obtain ⟨x21, e22, H⟩ := H
      obtain ⟨x23, e24, H⟩ := H
      obtain ⟨x25, e26, H⟩ := H
      refine s_rl (d := some 35) (v := (.agg #[(.pointer x19), (.int .i64 x21), (.pointer x23), (.int .i64 x25)])) rfl rfl rfl (fun dr => r_loadN Try.isAgg36 Try.sizeOf36 (vs := [(.pointer x19), (.int .i64 x21), (.pointer x23), (.int .i64 x25)]) rfl rfl ⟨e20, e22, e24, e26, trivial⟩) ?_
      refine s_pu (d := some 36) (v := (.int .i64 x3)) rfl rfl rfl (r_move rfl) ?_
      refine s_ef (d := some 37) rfl rfl rfl (fun dr => r_call Try.call28 rfl rfl H) ?_ trivial
      rintro _ h6 ⟨y27, y28, y29, y30, rfl, H⟩
      refine ⟨trivial, ?_⟩
      obtain ⟨p31, e32⟩ : ∃ p : Addr, p = ⟨h6.size, 0, none⟩ := ⟨_, rfl⟩
      obtain ⟨h7, e33⟩ : ∃ hh : Heap, hh = h6.push (.cells #[(.pointer none), (.int .i64 0), (.pointer none), (.int .i64 0)] 36) := ⟨_, rfl⟩
      have H := H p31 h7 e32 e33
      refine s_ef1 (d := some 10) (v := (.pointer (some p31))) (h' := h7) rfl rfl rfl (fun dr => (r_alloc Try.zeroValue36).trans (by rw [e32, e33]; rfl)) trivial ?_ trivial
      obtain ⟨e35, H⟩ := H
      obtain ⟨h8, e34⟩ : ∃ hh : Heap, hh = hsets h7 p31 0 [(.pointer y27), (.int .i64 y28), (.pointer y29), (.int .i64 y30)] := ⟨_, rfl⟩
      have H := H h8 e34
      refine s_st (d := none) (h' := h8) rfl rfl rfl (fun dr => (r_store (v := (.agg #[(.pointer y27), (.int .i64 y28), (.pointer y29), (.int .i64 y30)])) Try.sizeOf36 rfl rfl rfl (one_all rfl) e35).trans (by rw [e34]; rfl)) trivial ?_ trivial
      refine s_fin ?_
      show W _ _ _ _ _ _ _ _
      refine W_seq ?_
      refine W_region (.rl 0 (.ef 1 [] (.pu 2 (.pu 3 (.pu 4 (.ef 5 [] (.ef 6 [] (.pu 7 .fin) .no) .no)))) .no)) rfl rfl ?_
      obtain ⟨x36, e37, H⟩ := H
      obtain ⟨x38, e39, H⟩ := H
      obtain ⟨x40, e41, H⟩ := H
      obtain ⟨x42, e43, H⟩ := H
      refine s_rl (d := some 39) (v := (.agg #[(.pointer x36), (.int .i64 x38), (.pointer x40), (.int .i64 x42)])) rfl rfl rfl (fun dr => r_loadN Try.isAgg36 Try.sizeOf36 (vs := [(.pointer x36), (.int .i64 x38), (.pointer x40), (.int .i64 x42)]) rfl rfl ⟨e37, e39, e41, e43, trivial⟩) ?_
      refine s_ef (d := some 40) rfl rfl rfl (fun dr => r_call Try.call19 rfl rfl H) ?_ trivial
      rintro _ h9 ⟨y44, y45, y46, y47, y48, rfl, H⟩
      refine ⟨trivial, ?_⟩
      refine s_pu (d := some 38) (v := (.tuple #[(.agg #[(.pointer y44), (.int .i64 y45), (.pointer y46), (.int .i64 y47)]), (.bool y48)])) rfl rfl rfl (r_move rfl) ?_
      refine s_pu (d := some 41) (v := (.agg #[(.pointer y44), (.int .i64 y45), (.pointer y46), (.int .i64 y47)])) rfl rfl rfl (r_extract rfl rfl) ?_
      refine s_pu (d := some 42) (v := (.bool y48)) rfl rfl rfl (r_extract rfl rfl) ?_
      obtain ⟨p49, e50⟩ : ∃ p : Addr, p = ⟨h9.size, 0, none⟩ := ⟨_, rfl⟩
      obtain ⟨h10, e51⟩ : ∃ hh : Heap, hh = h9.push (.cells #[(.pointer none), (.int .i64 0), (.pointer none), (.int .i64 0)] 36) := ⟨_, rfl⟩
      have H := H p49 h10 e50 e51
      refine s_ef1 (d := some 11) (v := (.pointer (some p49))) (h' := h10) rfl rfl rfl (fun dr => (r_alloc Try.zeroValue36).trans (by rw [e50, e51]; rfl)) trivial ?_ trivial
      obtain ⟨e53, H⟩ := H
      obtain ⟨h11, e52⟩ : ∃ hh : Heap, hh = hsets h10 p49 0 [(.pointer y44), (.int .i64 y45), (.pointer y46), (.int .i64 y47)] := ⟨_, rfl⟩
      have H := H h11 e52
      refine s_st (d := none) (h' := h11) rfl rfl rfl (fun dr => (r_store (v := (.agg #[(.pointer y44), (.int .i64 y45), (.pointer y46), (.int .i64 y47)])) Try.sizeOf36 rfl rfl rfl (one_all rfl) e53).trans (by rw [e52]; rfl)) trivial ?_ trivial
      refine s_pu (d := some 12) (v := (.bool y48)) rfl rfl rfl (r_assign rfl) ?_
      refine s_fin ?_
      show W _ _ _ _ _ _ _ _
      refine W_seq ?_
      refine W_region (.rl 0 (.ef 1 [] (.pu 2 (.pu 3 (.pu 4 (.pu 5 (.pu 6 .fin))))) .no)) rfl rfl ?_
      obtain ⟨x54, e55, H⟩ := H
      obtain ⟨x56, e57, H⟩ := H
      obtain ⟨x58, e59, H⟩ := H
      obtain ⟨x60, e61, H⟩ := H
      refine s_rl (d := some 44) (v := (.agg #[(.pointer x54), (.int .i64 x56), (.pointer x58), (.int .i64 x60)])) rfl rfl rfl (fun dr => r_loadN Try.isAgg36 Try.sizeOf36 (vs := [(.pointer x54), (.int .i64 x56), (.pointer x58), (.int .i64 x60)]) rfl rfl ⟨e55, e57, e59, e61, trivial⟩) ?_
      refine s_ef (d := some 45) rfl rfl rfl (fun dr => r_call Try.call34 rfl rfl H) ?_ trivial
      rintro _ h12 ⟨y62, y63, rfl, H⟩
      refine ⟨trivial, ?_⟩
      refine s_pu (d := some 43) (v := (.tuple #[(.int .i64 y62), (.bool y63)])) rfl rfl rfl (r_move rfl) ?_
      refine s_pu (d := some 46) (v := (.int .i64 y62)) rfl rfl rfl (r_extract rfl rfl) ?_
      refine s_pu (d := some 47) (v := (.bool y63)) rfl rfl rfl (r_extract rfl rfl) ?_
      refine s_pu (d := some 13) (v := (.int .i64 y62)) rfl rfl rfl (r_assign rfl) ?_
      refine s_pu (d := some 14) (v := (.bool y63)) rfl rfl rfl (r_assign rfl) ?_
      refine s_fin ?_
      show W _ _ _ _ _ _ _ _
      refine W_seq ?_
      refine W_region (.rl 0 (.ef 1 [] (.pu 2 (.pu 3 (.pu 4 (.ef 5 [] (.ef 6 [] (.pu 7 .fin) .no) .no)))) .no)) rfl rfl ?_
      obtain ⟨x64, e65, H⟩ := H
      obtain ⟨x66, e67, H⟩ := H
      obtain ⟨x68, e69, H⟩ := H
      obtain ⟨x70, e71, H⟩ := H
      refine s_rl (d := some 49) (v := (.agg #[(.pointer x64), (.int .i64 x66), (.pointer x68), (.int .i64 x70)])) rfl rfl rfl (fun dr => r_loadN Try.isAgg36 Try.sizeOf36 (vs := [(.pointer x64), (.int .i64 x66), (.pointer x68), (.int .i64 x70)]) rfl rfl ⟨e65, e67, e69, e71, trivial⟩) ?_
      refine s_ef (d := some 50) rfl rfl rfl (fun dr => r_call Try.call30 rfl rfl H) ?_ trivial
      rintro _ h13 ⟨y72, y73, y74, y75, y76, rfl, H⟩
      refine ⟨trivial, ?_⟩
      refine s_pu (d := some 48) (v := (.tuple #[(.agg #[(.pointer y72), (.int .i64 y73), (.pointer y74), (.int .i64 y75)]), (.bool y76)])) rfl rfl rfl (r_move rfl) ?_
      refine s_pu (d := some 51) (v := (.agg #[(.pointer y72), (.int .i64 y73), (.pointer y74), (.int .i64 y75)])) rfl rfl rfl (r_extract rfl rfl) ?_
      refine s_pu (d := some 52) (v := (.bool y76)) rfl rfl rfl (r_extract rfl rfl) ?_
      obtain ⟨p77, e78⟩ : ∃ p : Addr, p = ⟨h13.size, 0, none⟩ := ⟨_, rfl⟩
      obtain ⟨h14, e79⟩ : ∃ hh : Heap, hh = h13.push (.cells #[(.pointer none), (.int .i64 0), (.pointer none), (.int .i64 0)] 36) := ⟨_, rfl⟩
      have H := H p77 h14 e78 e79
      refine s_ef1 (d := some 15) (v := (.pointer (some p77))) (h' := h14) rfl rfl rfl (fun dr => (r_alloc Try.zeroValue36).trans (by rw [e78, e79]; rfl)) trivial ?_ trivial
      obtain ⟨e81, H⟩ := H
      obtain ⟨h15, e80⟩ : ∃ hh : Heap, hh = hsets h14 p77 0 [(.pointer y72), (.int .i64 y73), (.pointer y74), (.int .i64 y75)] := ⟨_, rfl⟩
      have H := H h15 e80
      refine s_st (d := none) (h' := h15) rfl rfl rfl (fun dr => (r_store (v := (.agg #[(.pointer y72), (.int .i64 y73), (.pointer y74), (.int .i64 y75)])) Try.sizeOf36 rfl rfl rfl (one_all rfl) e81).trans (by rw [e80]; rfl)) trivial ?_ trivial
      refine s_pu (d := some 16) (v := (.bool y76)) rfl rfl rfl (r_assign rfl) ?_
      refine s_fin ?_
      show W _ _ _ _ _ _ _ _
      refine W_seq ?_
      refine W_region (.rl 0 (.ef 1 [] (.pu 2 (.ef 3 [] (.pu 4 .fin) .no)) .no)) rfl rfl ?_
      obtain ⟨x82, e83, H⟩ := H
      obtain ⟨x84, e85, H⟩ := H
      obtain ⟨x86, e87, H⟩ := H
      obtain ⟨x88, e89, H⟩ := H
      refine s_rl (d := some 53) (v := (.agg #[(.pointer x82), (.int .i64 x84), (.pointer x86), (.int .i64 x88)])) rfl rfl rfl (fun dr => r_loadN Try.isAgg36 Try.sizeOf36 (vs := [(.pointer x82), (.int .i64 x84), (.pointer x86), (.int .i64 x88)]) rfl rfl ⟨e83, e85, e87, e89, trivial⟩) ?_
      refine s_ef (d := some 54) rfl rfl rfl (fun dr => r_call Try.call17 rfl rfl H) ?_ trivial
      rintro _ h16 ⟨y90, rfl, H⟩
      refine ⟨trivial, ?_⟩
      refine s_pu (d := some 55) (v := (Sl.v l1)) rfl rfl rfl (r_move rfl) ?_
      refine s_ef (d := some 56) rfl rfl rfl (fun dr => r_call Try.call16 rfl rfl H) ?_ trivial
      rintro _ h17 ⟨y91, rfl, H⟩
      refine ⟨trivial, ?_⟩
      refine s_pu (d := some 17) (v := (.bool y91)) rfl rfl rfl (r_assign rfl) ?_
      refine s_fin ?_
      show W _ _ _ _ _ _ _ _
      refine W_seq ?_
      refine W_seq ?_
      refine W_set ?_
      intro N94 eN94
      have H := H (fun (x92 : Bool) (h18 : Heap) => ∀ b, N94 [] (mkE [(0, (Sl.v l1)), (1, (.int .i64 i2)), (2, (.int .i64 x3)), (8, (.pointer (some p14))), (81, (.bool x92))] b) h18) (by
        intro x92 h18 H b
        rw [eN94]
        show W _ _ _ _ _ _ _ _
        refine W_if x92 rfl (fun g153 => ?_) (fun g153 => ?_)
        · have H := H.1 g153
          refine W_seq ?_
          refine W_region (.pu 0 .fin) rfl rfl ?_
          refine s_pu (d := some 6) (v := (.bool false)) rfl rfl rfl (r_assign rfl) ?_
          refine s_fin ?_
          show W _ _ _ _ _ _ _ _
          refine W_ret ?_
          exact ⟨[(.bool false)], ⟨_, _, rfl, rfl, rfl⟩, false, rfl, H⟩
        · have H := H.2 g153
          refine W_skip ?_
          show W _ _ _ _ _ _ _ _
          refine W_seq ?_
          refine W_region (.rl 0 (.pu 1 (.ef 2 [] (.pu 3 (.pu 4 (.pu 5 (.ef 6 [] (.ef 7 [] (.pu 8 .fin) .no) .no)))) .no))) rfl rfl ?_
          obtain ⟨x95, e96, H⟩ := H
          obtain ⟨x97, e98, H⟩ := H
          obtain ⟨x99, e100, H⟩ := H
          obtain ⟨x101, e102, H⟩ := H
          refine s_rl (d := some 83) (v := (.agg #[(.pointer x95), (.int .i64 x97), (.pointer x99), (.int .i64 x101)])) rfl rfl rfl (fun dr => r_loadN Try.isAgg36 Try.sizeOf36 (vs := [(.pointer x95), (.int .i64 x97), (.pointer x99), (.int .i64 x101)]) rfl rfl ⟨e96, e98, e100, e102, trivial⟩) ?_
          refine s_pu (d := some 84) (v := (.int .i64 x3)) rfl rfl rfl (r_move rfl) ?_
          refine s_ef (d := some 85) rfl rfl rfl (fun dr => r_call Try.call32 rfl rfl H) ?_ trivial
          rintro _ h19 ⟨y103, y104, y105, y106, y107, rfl, H⟩
          refine ⟨trivial, ?_⟩
          refine s_pu (d := some 82) (v := (.tuple #[(.agg #[(.pointer y103), (.int .i64 y104), (.pointer y105), (.int .i64 y106)]), (.bool y107)])) rfl rfl rfl (r_move rfl) ?_
          refine s_pu (d := some 86) (v := (.agg #[(.pointer y103), (.int .i64 y104), (.pointer y105), (.int .i64 y106)])) rfl rfl rfl (r_extract rfl rfl) ?_
          refine s_pu (d := some 87) (v := (.bool y107)) rfl rfl rfl (r_extract rfl rfl) ?_
          obtain ⟨p108, e109⟩ : ∃ p : Addr, p = ⟨h19.size, 0, none⟩ := ⟨_, rfl⟩
          obtain ⟨h20, e110⟩ : ∃ hh : Heap, hh = h19.push (.cells #[(.pointer none), (.int .i64 0), (.pointer none), (.int .i64 0)] 36) := ⟨_, rfl⟩
          have H := H p108 h20 e109 e110
          refine s_ef1 (d := some 18) (v := (.pointer (some p108))) (h' := h20) rfl rfl rfl (fun dr => (r_alloc Try.zeroValue36).trans (by rw [e109, e110]; rfl)) trivial ?_ trivial
          obtain ⟨e112, H⟩ := H
          obtain ⟨h21, e111⟩ : ∃ hh : Heap, hh = hsets h20 p108 0 [(.pointer y103), (.int .i64 y104), (.pointer y105), (.int .i64 y106)] := ⟨_, rfl⟩
          have H := H h21 e111
          refine s_st (d := none) (h' := h21) rfl rfl rfl (fun dr => (r_store (v := (.agg #[(.pointer y103), (.int .i64 y104), (.pointer y105), (.int .i64 y106)])) Try.sizeOf36 rfl rfl rfl (one_all rfl) e112).trans (by rw [e111]; rfl)) trivial ?_ trivial
          refine s_pu (d := some 19) (v := (.bool y107)) rfl rfl rfl (r_assign rfl) ?_
          refine s_fin ?_
          show W _ _ _ _ _ _ _ _
          refine W_seq ?_
          refine W_region (.rl 0 (.ef 1 [] (.pu 2 (.pu 3 (.pu 4 (.pu 5 (.pu 6 .fin))))) .no)) rfl rfl ?_
          obtain ⟨x113, e114, H⟩ := H
          obtain ⟨x115, e116, H⟩ := H
          obtain ⟨x117, e118, H⟩ := H
          obtain ⟨x119, e120, H⟩ := H
          refine s_rl (d := some 89) (v := (.agg #[(.pointer x113), (.int .i64 x115), (.pointer x117), (.int .i64 x119)])) rfl rfl rfl (fun dr => r_loadN Try.isAgg36 Try.sizeOf36 (vs := [(.pointer x113), (.int .i64 x115), (.pointer x117), (.int .i64 x119)]) rfl rfl ⟨e114, e116, e118, e120, trivial⟩) ?_
          refine s_ef (d := some 90) rfl rfl rfl (fun dr => r_call Try.call34 rfl rfl H) ?_ trivial
          rintro _ h22 ⟨y121, y122, rfl, H⟩
          refine ⟨trivial, ?_⟩
          refine s_pu (d := some 88) (v := (.tuple #[(.int .i64 y121), (.bool y122)])) rfl rfl rfl (r_move rfl) ?_
          refine s_pu (d := some 91) (v := (.int .i64 y121)) rfl rfl rfl (r_extract rfl rfl) ?_
          refine s_pu (d := some 92) (v := (.bool y122)) rfl rfl rfl (r_extract rfl rfl) ?_
          refine s_pu (d := some 20) (v := (.int .i64 y121)) rfl rfl rfl (r_assign rfl) ?_
          refine s_pu (d := some 21) (v := (.bool y122)) rfl rfl rfl (r_assign rfl) ?_
          refine s_fin ?_
          show W _ _ _ _ _ _ _ _
          refine W_seq ?_
          refine W_region (.rl 0 (.ef 1 [] (.ef 2 [] (.ef 3 [] (.pu 4 (.pu 5 (.pu 6 (.pu 7 (.ef 8 [] (.pu 9 (.ef 10 [] (.ef 11 [] (.ef 12 [] (.pu 13 (.pu 14 (.pu 15 (.pu 16 (.ef 17 [] (.ef 18 [] (.pu 19 .fin) .no) .no))))) .no) .no) .no)) .no))))) .no) .no) .no)) rfl rfl ?_
          obtain ⟨x123, e124, H⟩ := H
          obtain ⟨x125, e126, H⟩ := H
          obtain ⟨x127, e128, H⟩ := H
          obtain ⟨x129, e130, H⟩ := H
          refine s_rl (d := some 93) (v := (.agg #[(.pointer x123), (.int .i64 x125), (.pointer x127), (.int .i64 x129)])) rfl rfl rfl (fun dr => r_loadN Try.isAgg36 Try.sizeOf36 (vs := [(.pointer x123), (.int .i64 x125), (.pointer x127), (.int .i64 x129)]) rfl rfl ⟨e124, e126, e128, e130, trivial⟩) ?_
          refine s_ef (d := some 94) rfl rfl rfl (fun dr => r_call Try.call17 rfl rfl H) ?_ trivial
          rintro _ h23 ⟨y131, rfl, H⟩
          refine ⟨trivial, ?_⟩
          obtain ⟨p132, e133⟩ : ∃ p : Addr, p = ⟨h23.size, 0, none⟩ := ⟨_, rfl⟩
          obtain ⟨h24, e134⟩ : ∃ hh : Heap, hh = h23.push (.cells #[(.int .i64 0)] 3) := ⟨_, rfl⟩
          have H := H p132 h24 e133 e134
          refine s_ef1 (d := some 95) (v := (Sl.v ((⟨some p132, 1, 1⟩ : Sl)))) (h' := h24) rfl rfl rfl (fun dr => (slFZipX_22.build (cells := #[(.int .i64 0)]) (by decide) rfl (by kernel_rfl)).trans (by rw [e133, e134]; rfl)) trivial ?_ trivial
          refine s_ef (d := some 96) rfl rfl rfl (fun dr => slFZipX_22.append rfl rfl H) ?_ trivial
          rintro _ h25 ⟨s135, rfl, H⟩
          refine ⟨trivial, ?_⟩
          refine s_pu (d := some 97) (v := (.int .i64 i2)) rfl rfl rfl (r_move rfl) ?_
          refine s_pu (d := some 98) (v := (Sl.v l1)) rfl rfl rfl (r_move rfl) ?_
          refine s_pu (d := some 99) (v := (.int .i64 ((l1.len : Int)))) rfl rfl rfl (r_len Try.underlying22 rfl) ?_
          refine s_pu (d := some 100) (v := (.int .i64 (min i2 ((l1.len : Int))))) rfl rfl rfl (r_min rfl rfl) ?_
          refine s_ef (d := some 101) rfl rfl rfl (fun dr => r_call Try.call31 rfl rfl H) ?_ trivial
          rintro _ h26 ⟨y136, rfl, H⟩
          refine ⟨trivial, ?_⟩
          refine s_pu (d := some 102) (v := (Sl.v l1)) rfl rfl rfl (r_move rfl) ?_
          refine s_ef (d := some 103) rfl rfl rfl (fun dr => r_call Try.call35 rfl rfl H) ?_ trivial
          rintro _ h27 ⟨y137, rfl, H⟩
          refine ⟨trivial, ?_⟩
          obtain ⟨p138, e139⟩ : ∃ p : Addr, p = ⟨h27.size, 0, none⟩ := ⟨_, rfl⟩
          obtain ⟨h28, e140⟩ : ∃ hh : Heap, hh = h27.push (.cells #[(.int .i64 0)] 3) := ⟨_, rfl⟩
          have H := H p138 h28 e139 e140
          refine s_ef1 (d := some 104) (v := (Sl.v ((⟨some p138, 1, 1⟩ : Sl)))) (h' := h28) rfl rfl rfl (fun dr => (slFZipX_22.build (cells := #[(.int .i64 0)]) (by decide) rfl (by kernel_rfl)).trans (by rw [e139, e140]; rfl)) trivial ?_ trivial
          refine s_ef (d := some 105) rfl rfl rfl (fun dr => slFZipX_22.append rfl rfl H) ?_ trivial
          rintro _ h29 ⟨s141, rfl, H⟩
          refine ⟨trivial, ?_⟩
          refine s_pu (d := some 106) (v := (.int .i64 i2)) rfl rfl rfl (r_move rfl) ?_
          refine s_pu (d := some 107) (v := (Sl.v l1)) rfl rfl rfl (r_move rfl) ?_
          refine s_pu (d := some 108) (v := (.int .i64 ((l1.len : Int)))) rfl rfl rfl (r_len Try.underlying22 rfl) ?_
          refine s_pu (d := some 109) (v := (.int .i64 (min i2 ((l1.len : Int))))) rfl rfl rfl (r_min rfl rfl) ?_
          refine s_ef (d := some 110) rfl rfl rfl (fun dr => r_call Try.call31 rfl rfl H) ?_ trivial
          rintro _ h30 ⟨y142, rfl, H⟩
          refine ⟨trivial, ?_⟩
          refine s_ef (d := some 111) rfl rfl rfl (fun dr => r_call Try.call16 rfl rfl H) ?_ trivial
          rintro _ h31 ⟨y143, rfl, H⟩
          refine ⟨trivial, ?_⟩
          refine s_pu (d := some 22) (v := (.bool y143)) rfl rfl rfl (r_assign rfl) ?_
          refine s_fin ?_
          show W _ _ _ _ _ _ _ _
          refine W_seq ?_
          refine W_set ?_
          intro N147 eN147
          have H := H (fun (x145 : Bool) => ∀ b, N147 [] (mkE [(6, (.bool x145))] b) h31) (by
            intro x145 H b
            rw [eN147]
            show W _ _ _ _ _ _ _ _
            refine W_ret ?_
            exact ⟨[(.bool x145)], ⟨_, _, rfl, rfl, rfl⟩, x145, rfl, H⟩)
          clear eN147
          refine W_region (.pu 0 (.pu 1 (.pu 2 (.pu 3 (.pu 4 (.pu 5 (.pu 6 (.pu 7 (.pu 8 (.pu 9 (.pu 10 (.pu 11 (.pu 12 (.pu 13 (.pu 14 (.pu 15 (.pu 16 (.pu 17 (.pu 18 (.pu 19 (.pu 20 (.pu 21 .fin)))))))))))))))))))))) rfl rfl ?_
          refine s_pu (d := some 112) (v := (.bool y107)) rfl rfl rfl (r_move rfl) ?_
          refine s_pu (d := some 113) (v := (.int .i64 i2)) rfl rfl rfl (r_move rfl) ?_
          refine s_pu (d := some 114) (v := (Sl.v l1)) rfl rfl rfl (r_move rfl) ?_
          refine s_pu (d := some 115) (v := (.int .i64 ((l1.len : Int)))) rfl rfl rfl (r_len Try.underlying22 rfl) ?_
          refine s_pu (d := some 116) (v := (.bool (decide (i2 < ((l1.len : Int)))))) rfl rfl rfl (r_lss rfl rfl) ?_
          refine s_pu (d := some 117) (v := (.bool (y107 == (decide (i2 < ((l1.len : Int))))))) rfl rfl rfl (r_eqlB Try.underlying4 rfl rfl) ?_
          refine s_pu (d := some 118) (v := (.bool (y107 == (decide (i2 < ((l1.len : Int))))))) rfl rfl rfl (r_move rfl) ?_
          rcases Bool.eq_false_or_eq_true (y107 == (decide (i2 < ((l1.len : Int))))) with g149 | g149
          · have H := H.1 g149
            refine s_pu (d := some 119) (v := (.bool y107)) rfl rfl (wants_yes rfl rfl rfl rfl g149) (r_move rfl) ?_
            refine s_pu (d := some 120) (v := (.bool (!y107))) rfl rfl (wants_yes rfl rfl rfl rfl g149) (r_not rfl) ?_
            refine s_pu (d := some 121) (v := (.bool (!y107))) rfl rfl (wants_yes rfl rfl rfl rfl g149) (r_move rfl) ?_
            rcases Bool.eq_false_or_eq_true (!y107) with g150 | g150
            · have H := H.1 g150
              refine s_sk (d := some 122) rfl rfl (wants_no rfl rfl rfl rfl g150) ?_
              refine s_sk (d := some 123) rfl rfl (wants_no rfl rfl rfl rfl g150) ?_
              refine s_sk (d := some 124) rfl rfl (wants_un rfl rfl rfl) ?_
              refine s_sk (d := some 125) rfl rfl (wants_un rfl rfl rfl) ?_
              refine s_sk (d := some 126) rfl rfl (wants_un rfl rfl rfl) ?_
              refine s_sk (d := some 127) rfl rfl (wants_no rfl rfl rfl rfl g150) ?_
              refine s_pu (d := some 128) (v := (.bool true)) rfl rfl (wants_yes rfl rfl rfl rfl g149) (r_pick1 rfl g150 rfl) ?_
              refine s_pu (d := some 129) (v := (.bool true)) rfl rfl rfl (r_pick1 rfl g149 rfl) ?_
              refine s_pu (d := some 130) (v := (.bool true)) rfl rfl rfl (r_move rfl) ?_
              refine s_pu (d := some 131) (v := (.bool y143)) rfl rfl (wants_yes rfl rfl rfl rfl rfl) (r_move rfl) ?_
              refine s_pu (d := some 132) (v := (.bool y143)) rfl rfl rfl (r_pick1 rfl rfl rfl) ?_
              refine s_pu (d := some 6) (v := (.bool y143)) rfl rfl rfl (r_assign rfl) ?_
              refine s_fin ?_
              exact N_mk (l := [(6, (.bool y143))]) H ⟨rfl, trivial⟩
            · have H := H.2 g150
              refine s_pu (d := some 122) (v := (.bool y122)) rfl rfl (wants_yes rfl rfl rfl rfl g150) (r_move rfl) ?_
              refine s_pu (d := some 123) (v := (.bool y122)) rfl rfl (wants_yes rfl rfl rfl rfl g150) (r_move rfl) ?_
              rcases Bool.eq_false_or_eq_true y122 with g151 | g151
              · have H := H.1 g151
                refine s_pu (d := some 124) (v := (.int .i64 y121)) rfl rfl (wants_yes rfl rfl rfl rfl g151) (r_move rfl) ?_
                refine s_pu (d := some 125) (v := (.int .i64 x3)) rfl rfl (wants_yes rfl rfl rfl rfl g151) (r_move rfl) ?_
                refine s_pu (d := some 126) (v := (.bool (decide (y121 = x3)))) rfl rfl (wants_yes rfl rfl rfl rfl g151) (r_eql rfl rfl) ?_
                refine s_pu (d := some 127) (v := (.bool (decide (y121 = x3)))) rfl rfl (wants_yes rfl rfl rfl rfl g150) (r_pick1 rfl g151 rfl) ?_
                refine s_pu (d := some 128) (v := (.bool (decide (y121 = x3)))) rfl rfl (wants_yes rfl rfl rfl rfl g149) (r_pick0 rfl g150 rfl) ?_
                refine s_pu (d := some 129) (v := (.bool (decide (y121 = x3)))) rfl rfl rfl (r_pick1 rfl g149 rfl) ?_
                refine s_pu (d := some 130) (v := (.bool (decide (y121 = x3)))) rfl rfl rfl (r_move rfl) ?_
                rcases Bool.eq_false_or_eq_true (decide (y121 = x3)) with g152 | g152
                · have H := H.1 g152
                  refine s_pu (d := some 131) (v := (.bool y143)) rfl rfl (wants_yes rfl rfl rfl rfl g152) (r_move rfl) ?_
                  refine s_pu (d := some 132) (v := (.bool y143)) rfl rfl rfl (r_pick1 rfl g152 rfl) ?_
                  refine s_pu (d := some 6) (v := (.bool y143)) rfl rfl rfl (r_assign rfl) ?_
                  refine s_fin ?_
                  exact N_mk (l := [(6, (.bool y143))]) H ⟨rfl, trivial⟩
                · have H := H.2 g152
                  refine s_sk (d := some 131) rfl rfl (wants_no rfl rfl rfl rfl g152) ?_
                  refine s_pu (d := some 132) (v := (.bool false)) rfl rfl rfl (r_pick0 rfl g152 rfl) ?_
                  refine s_pu (d := some 6) (v := (.bool false)) rfl rfl rfl (r_assign rfl) ?_
                  refine s_fin ?_
                  exact N_mk (l := [(6, (.bool false))]) H ⟨rfl, trivial⟩
              · have H := H.2 g151
                refine s_sk (d := some 124) rfl rfl (wants_no rfl rfl rfl rfl g151) ?_
                refine s_sk (d := some 125) rfl rfl (wants_no rfl rfl rfl rfl g151) ?_
                refine s_sk (d := some 126) rfl rfl (wants_no rfl rfl rfl rfl g151) ?_
                refine s_pu (d := some 127) (v := (.bool false)) rfl rfl (wants_yes rfl rfl rfl rfl g150) (r_pick0 rfl g151 rfl) ?_
                refine s_pu (d := some 128) (v := (.bool false)) rfl rfl (wants_yes rfl rfl rfl rfl g149) (r_pick0 rfl g150 rfl) ?_
                refine s_pu (d := some 129) (v := (.bool false)) rfl rfl rfl (r_pick1 rfl g149 rfl) ?_
                refine s_pu (d := some 130) (v := (.bool false)) rfl rfl rfl (r_move rfl) ?_
                refine s_sk (d := some 131) rfl rfl (wants_no rfl rfl rfl rfl rfl) ?_
                refine s_pu (d := some 132) (v := (.bool false)) rfl rfl rfl (r_pick0 rfl rfl rfl) ?_
                refine s_pu (d := some 6) (v := (.bool false)) rfl rfl rfl (r_assign rfl) ?_
                refine s_fin ?_
                exact N_mk (l := [(6, (.bool false))]) H ⟨rfl, trivial⟩
          · have H := H.2 g149
            refine s_sk (d := some 119) rfl rfl (wants_no rfl rfl rfl rfl g149) ?_
            refine s_sk (d := some 120) rfl rfl (wants_no rfl rfl rfl rfl g149) ?_
            refine s_sk (d := some 121) rfl rfl (wants_no rfl rfl rfl rfl g149) ?_
            refine s_sk (d := some 122) rfl rfl (wants_un rfl rfl rfl) ?_
            refine s_sk (d := some 123) rfl rfl (wants_un rfl rfl rfl) ?_
            refine s_sk (d := some 124) rfl rfl (wants_un rfl rfl rfl) ?_
            refine s_sk (d := some 125) rfl rfl (wants_un rfl rfl rfl) ?_
            refine s_sk (d := some 126) rfl rfl (wants_un rfl rfl rfl) ?_
            refine s_sk (d := some 127) rfl rfl (wants_un rfl rfl rfl) ?_
            refine s_sk (d := some 128) rfl rfl (wants_no rfl rfl rfl rfl g149) ?_
            refine s_pu (d := some 129) (v := (.bool false)) rfl rfl rfl (r_pick0 rfl g149 rfl) ?_
            refine s_pu (d := some 130) (v := (.bool false)) rfl rfl rfl (r_move rfl) ?_
            refine s_sk (d := some 131) rfl rfl (wants_no rfl rfl rfl rfl rfl) ?_
            refine s_pu (d := some 132) (v := (.bool false)) rfl rfl rfl (r_pick0 rfl rfl rfl) ?_
            refine s_pu (d := some 6) (v := (.bool false)) rfl rfl rfl (r_assign rfl) ?_
            refine s_fin ?_
            exact N_mk (l := [(6, (.bool false))]) H ⟨rfl, trivial⟩)
      clear eN94
      refine W_region (.pu 0 (.pu 1 (.pu 2 (.pu 3 (.pu 4 (.pu 5 (.pu 6 (.pu 7 (.pu 8 (.pu 9 (.pu 10 (.pu 11 (.pu 12 (.pu 13 (.pu 14 (.pu 15 (.pu 16 (.pu 17 (.pu 18 (.pu 19 (.rl 20 (.ef 21 [] (.pu 22 (.pu 23 (.pu 24 .fin))) .no)))))))))))))))))))))) rfl rfl ?_
      refine s_pu (d := some 57) (v := (.bool y48)) rfl rfl rfl (r_move rfl) ?_
      refine s_pu (d := some 58) (v := (.bool (!y48))) rfl rfl rfl (r_not rfl) ?_
      refine s_pu (d := some 59) (v := (.bool (!y48))) rfl rfl rfl (r_move rfl) ?_
      rcases Bool.eq_false_or_eq_true (!y48) with g154 | g154
      · have H := H.1 g154
        refine s_sk (d := some 60) rfl rfl (wants_no rfl rfl rfl rfl g154) ?_
        refine s_sk (d := some 61) rfl rfl (wants_no rfl rfl rfl rfl g154) ?_
        refine s_pu (d := some 62) (v := (.bool true)) rfl rfl rfl (r_pick1 rfl g154 rfl) ?_
        refine s_pu (d := some 63) (v := (.bool true)) rfl rfl rfl (r_move rfl) ?_
        refine s_sk (d := some 64) rfl rfl (wants_no rfl rfl rfl rfl rfl) ?_
        refine s_sk (d := some 65) rfl rfl (wants_no rfl rfl rfl rfl rfl) ?_
        refine s_pu (d := some 66) (v := (.bool true)) rfl rfl rfl (r_pick1 rfl rfl rfl) ?_
        refine s_pu (d := some 67) (v := (.bool true)) rfl rfl rfl (r_move rfl) ?_
        refine s_sk (d := some 68) rfl rfl (wants_no rfl rfl rfl rfl rfl) ?_
        refine s_sk (d := some 69) rfl rfl (wants_no rfl rfl rfl rfl rfl) ?_
        refine s_sk (d := some 70) rfl rfl (wants_no rfl rfl rfl rfl rfl) ?_
        refine s_pu (d := some 71) (v := (.bool true)) rfl rfl rfl (r_pick1 rfl rfl rfl) ?_
        refine s_pu (d := some 72) (v := (.bool true)) rfl rfl rfl (r_move rfl) ?_
        refine s_sk (d := some 73) rfl rfl (wants_no rfl rfl rfl rfl rfl) ?_
        refine s_sk (d := some 74) rfl rfl (wants_no rfl rfl rfl rfl rfl) ?_
        refine s_pu (d := some 75) (v := (.bool true)) rfl rfl rfl (r_pick1 rfl rfl rfl) ?_
        refine s_pu (d := some 76) (v := (.bool true)) rfl rfl rfl (r_move rfl) ?_
        refine s_skl (d := some 77) rfl rfl (wants_no rfl rfl rfl rfl rfl) ?_
        refine s_skf (d := some 78) rfl rfl (wants_no rfl rfl rfl rfl rfl) trivial ?_ trivial
        refine s_sk (d := some 79) rfl rfl (wants_no rfl rfl rfl rfl rfl) ?_
        refine s_sk (d := some 80) rfl rfl (wants_no rfl rfl rfl rfl rfl) ?_
        refine s_pu (d := some 81) (v := (.bool true)) rfl rfl rfl (r_pick1 rfl rfl rfl) ?_
        refine s_fin ?_
        exact N_mk (l := [(0, (Sl.v l1)), (1, (.int .i64 i2)), (2, (.int .i64 x3)), (8, (.pointer (some p14))), (81, (.bool true))]) H ⟨rfl, rfl, rfl, rfl, rfl, trivial⟩
      · have H := H.2 g154
        refine s_pu (d := some 60) (v := (.bool y63)) rfl rfl (wants_yes rfl rfl rfl rfl g154) (r_move rfl) ?_
        refine s_pu (d := some 61) (v := (.bool (!y63))) rfl rfl (wants_yes rfl rfl rfl rfl g154) (r_not rfl) ?_
        refine s_pu (d := some 62) (v := (.bool (!y63))) rfl rfl rfl (r_pick0 rfl g154 rfl) ?_
        refine s_pu (d := some 63) (v := (.bool (!y63))) rfl rfl rfl (r_move rfl) ?_
        rcases Bool.eq_false_or_eq_true (!y63) with g155 | g155
        · have H := H.1 g155
          refine s_sk (d := some 64) rfl rfl (wants_no rfl rfl rfl rfl g155) ?_
          refine s_sk (d := some 65) rfl rfl (wants_no rfl rfl rfl rfl g155) ?_
          refine s_pu (d := some 66) (v := (.bool true)) rfl rfl rfl (r_pick1 rfl g155 rfl) ?_
          refine s_pu (d := some 67) (v := (.bool true)) rfl rfl rfl (r_move rfl) ?_
          refine s_sk (d := some 68) rfl rfl (wants_no rfl rfl rfl rfl rfl) ?_
          refine s_sk (d := some 69) rfl rfl (wants_no rfl rfl rfl rfl rfl) ?_
          refine s_sk (d := some 70) rfl rfl (wants_no rfl rfl rfl rfl rfl) ?_
          refine s_pu (d := some 71) (v := (.bool true)) rfl rfl rfl (r_pick1 rfl rfl rfl) ?_
          refine s_pu (d := some 72) (v := (.bool true)) rfl rfl rfl (r_move rfl) ?_
          refine s_sk (d := some 73) rfl rfl (wants_no rfl rfl rfl rfl rfl) ?_
          refine s_sk (d := some 74) rfl rfl (wants_no rfl rfl rfl rfl rfl) ?_
          refine s_pu (d := some 75) (v := (.bool true)) rfl rfl rfl (r_pick1 rfl rfl rfl) ?_
          refine s_pu (d := some 76) (v := (.bool true)) rfl rfl rfl (r_move rfl) ?_
          refine s_skl (d := some 77) rfl rfl (wants_no rfl rfl rfl rfl rfl) ?_
          refine s_skf (d := some 78) rfl rfl (wants_no rfl rfl rfl rfl rfl) trivial ?_ trivial
          refine s_sk (d := some 79) rfl rfl (wants_no rfl rfl rfl rfl rfl) ?_
          refine s_sk (d := some 80) rfl rfl (wants_no rfl rfl rfl rfl rfl) ?_
          refine s_pu (d := some 81) (v := (.bool true)) rfl rfl rfl (r_pick1 rfl rfl rfl) ?_
          refine s_fin ?_
          exact N_mk (l := [(0, (Sl.v l1)), (1, (.int .i64 i2)), (2, (.int .i64 x3)), (8, (.pointer (some p14))), (81, (.bool true))]) H ⟨rfl, rfl, rfl, rfl, rfl, trivial⟩
        · have H := H.2 g155
          refine s_pu (d := some 64) (v := (.bool y76)) rfl rfl (wants_yes rfl rfl rfl rfl g155) (r_move rfl) ?_
          refine s_pu (d := some 65) (v := (.bool (!y76))) rfl rfl (wants_yes rfl rfl rfl rfl g155) (r_not rfl) ?_
          refine s_pu (d := some 66) (v := (.bool (!y76))) rfl rfl rfl (r_pick0 rfl g155 rfl) ?_
          refine s_pu (d := some 67) (v := (.bool (!y76))) rfl rfl rfl (r_move rfl) ?_
          rcases Bool.eq_false_or_eq_true (!y76) with g156 | g156
          · have H := H.1 g156
            refine s_sk (d := some 68) rfl rfl (wants_no rfl rfl rfl rfl g156) ?_
            refine s_sk (d := some 69) rfl rfl (wants_no rfl rfl rfl rfl g156) ?_
            refine s_sk (d := some 70) rfl rfl (wants_no rfl rfl rfl rfl g156) ?_
            refine s_pu (d := some 71) (v := (.bool true)) rfl rfl rfl (r_pick1 rfl g156 rfl) ?_
            refine s_pu (d := some 72) (v := (.bool true)) rfl rfl rfl (r_move rfl) ?_
            refine s_sk (d := some 73) rfl rfl (wants_no rfl rfl rfl rfl rfl) ?_
            refine s_sk (d := some 74) rfl rfl (wants_no rfl rfl rfl rfl rfl) ?_
            refine s_pu (d := some 75) (v := (.bool true)) rfl rfl rfl (r_pick1 rfl rfl rfl) ?_
            refine s_pu (d := some 76) (v := (.bool true)) rfl rfl rfl (r_move rfl) ?_
            refine s_skl (d := some 77) rfl rfl (wants_no rfl rfl rfl rfl rfl) ?_
            refine s_skf (d := some 78) rfl rfl (wants_no rfl rfl rfl rfl rfl) trivial ?_ trivial
            refine s_sk (d := some 79) rfl rfl (wants_no rfl rfl rfl rfl rfl) ?_
            refine s_sk (d := some 80) rfl rfl (wants_no rfl rfl rfl rfl rfl) ?_
            refine s_pu (d := some 81) (v := (.bool true)) rfl rfl rfl (r_pick1 rfl rfl rfl) ?_
            refine s_fin ?_
            exact N_mk (l := [(0, (Sl.v l1)), (1, (.int .i64 i2)), (2, (.int .i64 x3)), (8, (.pointer (some p14))), (81, (.bool true))]) H ⟨rfl, rfl, rfl, rfl, rfl, trivial⟩
          · have H := H.2 g156
            refine s_pu (d := some 68) (v := (.int .i64 y62)) rfl rfl (wants_yes rfl rfl rfl rfl g156) (r_move rfl) ?_
            refine s_pu (d := some 69) (v := (.int .i64 x3)) rfl rfl (wants_yes rfl rfl rfl rfl g156) (r_move rfl) ?_
            refine s_pu (d := some 70) (v := (.bool (!decide (y62 = x3)))) rfl rfl (wants_yes rfl rfl rfl rfl g156) (r_neq rfl rfl) ?_
            refine s_pu (d := some 71) (v := (.bool (!decide (y62 = x3)))) rfl rfl rfl (r_pick0 rfl g156 rfl) ?_
            refine s_pu (d := some 72) (v := (.bool (!decide (y62 = x3)))) rfl rfl rfl (r_move rfl) ?_
            rcases Bool.eq_false_or_eq_true (!decide (y62 = x3)) with g157 | g157
            · have H := H.1 g157
              refine s_sk (d := some 73) rfl rfl (wants_no rfl rfl rfl rfl g157) ?_
              refine s_sk (d := some 74) rfl rfl (wants_no rfl rfl rfl rfl g157) ?_
              refine s_pu (d := some 75) (v := (.bool true)) rfl rfl rfl (r_pick1 rfl g157 rfl) ?_
              refine s_pu (d := some 76) (v := (.bool true)) rfl rfl rfl (r_move rfl) ?_
              refine s_skl (d := some 77) rfl rfl (wants_no rfl rfl rfl rfl rfl) ?_
              refine s_skf (d := some 78) rfl rfl (wants_no rfl rfl rfl rfl rfl) trivial ?_ trivial
              refine s_sk (d := some 79) rfl rfl (wants_no rfl rfl rfl rfl rfl) ?_
              refine s_sk (d := some 80) rfl rfl (wants_no rfl rfl rfl rfl rfl) ?_
              refine s_pu (d := some 81) (v := (.bool true)) rfl rfl rfl (r_pick1 rfl rfl rfl) ?_
              refine s_fin ?_
              exact N_mk (l := [(0, (Sl.v l1)), (1, (.int .i64 i2)), (2, (.int .i64 x3)), (8, (.pointer (some p14))), (81, (.bool true))]) H ⟨rfl, rfl, rfl, rfl, rfl, trivial⟩
            · have H := H.2 g157
              refine s_pu (d := some 73) (v := (.bool y91)) rfl rfl (wants_yes rfl rfl rfl rfl g157) (r_move rfl) ?_
              refine s_pu (d := some 74) (v := (.bool (!y91))) rfl rfl (wants_yes rfl rfl rfl rfl g157) (r_not rfl) ?_
              refine s_pu (d := some 75) (v := (.bool (!y91))) rfl rfl rfl (r_pick0 rfl g157 rfl) ?_
              refine s_pu (d := some 76) (v := (.bool (!y91))) rfl rfl rfl (r_move rfl) ?_
              rcases Bool.eq_false_or_eq_true (!y91) with g158 | g158
              · have H := H.1 g158
                refine s_skl (d := some 77) rfl rfl (wants_no rfl rfl rfl rfl g158) ?_
                refine s_skf (d := some 78) rfl rfl (wants_no rfl rfl rfl rfl g158) trivial ?_ trivial
                refine s_sk (d := some 79) rfl rfl (wants_no rfl rfl rfl rfl g158) ?_
                refine s_sk (d := some 80) rfl rfl (wants_no rfl rfl rfl rfl g158) ?_
                refine s_pu (d := some 81) (v := (.bool true)) rfl rfl rfl (r_pick1 rfl g158 rfl) ?_
                refine s_fin ?_
                exact N_mk (l := [(0, (Sl.v l1)), (1, (.int .i64 i2)), (2, (.int .i64 x3)), (8, (.pointer (some p14))), (81, (.bool true))]) H ⟨rfl, rfl, rfl, rfl, rfl, trivial⟩
              · have H := H.2 g158
                obtain ⟨x159, e160, H⟩ := H
                obtain ⟨x161, e162, H⟩ := H
                obtain ⟨x163, e164, H⟩ := H
                obtain ⟨x165, e166, H⟩ := H
                refine s_rl (d := some 77) (v := (.agg #[(.pointer x159), (.int .i64 x161), (.pointer x163), (.int .i64 x165)])) rfl rfl (wants_yes rfl rfl rfl rfl g158) (fun dr => r_loadN Try.isAgg36 Try.sizeOf36 (vs := [(.pointer x159), (.int .i64 x161), (.pointer x163), (.int .i64 x165)]) rfl rfl ⟨e160, e162, e164, e166, trivial⟩) ?_
                refine s_ef (d := some 78) rfl rfl (wants_yes rfl rfl rfl rfl g158) (fun dr => r_call Try.call20 rfl rfl H) ?_ trivial
                rintro _ h32 ⟨y167, rfl, H⟩
                refine ⟨trivial, ?_⟩
                refine s_pu (d := some 79) (v := (.int .i64 i2)) rfl rfl (wants_yes rfl rfl rfl rfl g158) (r_move rfl) ?_
                refine s_pu (d := some 80) (v := (.bool (!decide (y167 = i2)))) rfl rfl (wants_yes rfl rfl rfl rfl g158) (r_neq rfl rfl) ?_
                refine s_pu (d := some 81) (v := (.bool (!decide (y167 = i2)))) rfl rfl rfl (r_pick0 rfl g158 rfl) ?_
                refine s_fin ?_
                exact N_mk (l := [(0, (Sl.v l1)), (1, (.int .i64 i2)), (2, (.int .i64 x3)), (8, (.pointer (some p14))), (81, (.bool (!decide (y167 = i2))))]) H ⟨rfl, rfl, rfl, rfl, rfl, trivial⟩

end Go.Proofs.Ytgieabpckecjlaa
