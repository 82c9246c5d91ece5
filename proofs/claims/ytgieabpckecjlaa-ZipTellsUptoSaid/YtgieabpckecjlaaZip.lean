/- Typed words of functions, and that they hold: printed by gen.py (an own tool of this claim) off the model's own form of each function. -/
import Derived.Test.YtgieabpckecjlaaProg
import Derived.Test.YtgieabpckecjlaaLst
namespace Go.Proofs.Ytgieabpckecjlaa
open Go Go.RowKit Go.Tw
set_option linter.unusedVariables false

theorem slFZip_22 : SlF Try.prog 22 3 1 8 (.int .i64 0) := ⟨Try.underlying22, ⟨Try.t3, by kernel_rfl, rfl, rfl, rfl⟩, rfl, Try.sizeOf3, Try.zeroValue3⟩
theorem slFZip_60 : SlF Try.prog 60 22 1 24 (Sl.v Sl.nil) := ⟨Try.underlying60, ⟨Try.t22, by kernel_rfl, rfl, rfl, rfl⟩, rfl, Try.sizeOf22, Try.zeroValue22⟩

/-! ### the calls -/

abbrev zip_Of (r : World) (l1 : Sl) (h : Heap) (R : Option Addr → Int → Option Addr → Int → Heap → Prop) : Prop :=
  CallsH Try.prog r 14 [(Sl.v l1)] h fun v h' => ∃ (y2 : Option Addr) (y3 : Int) (y4 : Option Addr) (y5 : Int), v = (.agg #[(.pointer y2), (.int .i64 y3), (.pointer y4), (.int .i64 y5)]) ∧ R y2 y3 y4 y5 h'

theorem zip_Of.mono {r : World} {l1 : Sl} {h : Heap} {R R' : Option Addr → Int → Option Addr → Int → Heap → Prop} (H : zip_Of r l1 h R) (hr : ∀ y2 y3 y4 y5 h, R y2 y3 y4 y5 h → R' y2 y3 y4 y5 h) : zip_Of r l1 h R' :=
  CallsH.mono H fun _ _ hx => by
    obtain ⟨y2, y3, y4, y5, hv, hR⟩ := hx
    exact ⟨y2, y3, y4, y5, hv, hr _ _ _ _ _ hR⟩

abbrev zip_Zip_Go (r : World) (z1 : Option Addr) (z2 : Int) (z3 : Option Addr) (z4 : Int) (i5 : Int) (h : Heap) (R : Option Addr → Int → Option Addr → Int → Bool → Heap → Prop) : Prop :=
  CallsH Try.prog r 15 [(.agg #[(.pointer z1), (.int .i64 z2), (.pointer z3), (.int .i64 z4)]), (.int .i64 i5)] h fun v h' => ∃ (y6 : Option Addr) (y7 : Int) (y8 : Option Addr) (y9 : Int) (y10 : Bool), v = (.tuple #[(.agg #[(.pointer y6), (.int .i64 y7), (.pointer y8), (.int .i64 y9)]), (.bool y10)]) ∧ R y6 y7 y8 y9 y10 h'

theorem zip_Zip_Go.mono {r : World} {z1 : Option Addr} {z2 : Int} {z3 : Option Addr} {z4 : Int} {i5 : Int} {h : Heap} {R R' : Option Addr → Int → Option Addr → Int → Bool → Heap → Prop} (H : zip_Zip_Go r z1 z2 z3 z4 i5 h R) (hr : ∀ y6 y7 y8 y9 y10 h, R y6 y7 y8 y9 y10 h → R' y6 y7 y8 y9 y10 h) : zip_Zip_Go r z1 z2 z3 z4 i5 h R' :=
  CallsH.mono H fun _ _ hx => by
    obtain ⟨y6, y7, y8, y9, y10, hv, hR⟩ := hx
    exact ⟨y6, y7, y8, y9, y10, hv, hr _ _ _ _ _ _ hR⟩

abbrev zip_Zip_Ints (r : World) (z1 : Option Addr) (z2 : Int) (z3 : Option Addr) (z4 : Int) (h : Heap) (R : Sl → Heap → Prop) : Prop :=
  CallsH Try.prog r 17 [(.agg #[(.pointer z1), (.int .i64 z2), (.pointer z3), (.int .i64 z4)])] h fun v h' => ∃ (y5 : Sl), v = (Sl.v y5) ∧ R y5 h'

theorem zip_Zip_Ints.mono {r : World} {z1 : Option Addr} {z2 : Int} {z3 : Option Addr} {z4 : Int} {h : Heap} {R R' : Sl → Heap → Prop} (H : zip_Zip_Ints r z1 z2 z3 z4 h R) (hr : ∀ y5 h, R y5 h → R' y5 h) : zip_Zip_Ints r z1 z2 z3 z4 h R' :=
  CallsH.mono H fun _ _ hx => by
    obtain ⟨y5, hv, hR⟩ := hx
    exact ⟨y5, hv, hr _ _ hR⟩

abbrev zip_Zip_Right (r : World) (z1 : Option Addr) (z2 : Int) (z3 : Option Addr) (z4 : Int) (h : Heap) (R : Option Addr → Int → Option Addr → Int → Bool → Heap → Prop) : Prop :=
  CallsH Try.prog r 18 [(.agg #[(.pointer z1), (.int .i64 z2), (.pointer z3), (.int .i64 z4)])] h fun v h' => ∃ (y5 : Option Addr) (y6 : Int) (y7 : Option Addr) (y8 : Int) (y9 : Bool), v = (.tuple #[(.agg #[(.pointer y5), (.int .i64 y6), (.pointer y7), (.int .i64 y8)]), (.bool y9)]) ∧ R y5 y6 y7 y8 y9 h'

theorem zip_Zip_Right.mono {r : World} {z1 : Option Addr} {z2 : Int} {z3 : Option Addr} {z4 : Int} {h : Heap} {R R' : Option Addr → Int → Option Addr → Int → Bool → Heap → Prop} (H : zip_Zip_Right r z1 z2 z3 z4 h R) (hr : ∀ y5 y6 y7 y8 y9 h, R y5 y6 y7 y8 y9 h → R' y5 y6 y7 y8 y9 h) : zip_Zip_Right r z1 z2 z3 z4 h R' :=
  CallsH.mono H fun _ _ hx => by
    obtain ⟨y5, y6, y7, y8, y9, hv, hR⟩ := hx
    exact ⟨y5, y6, y7, y8, y9, hv, hr _ _ _ _ _ _ hR⟩

abbrev zip_Zip_Left (r : World) (z1 : Option Addr) (z2 : Int) (z3 : Option Addr) (z4 : Int) (h : Heap) (R : Option Addr → Int → Option Addr → Int → Bool → Heap → Prop) : Prop :=
  CallsH Try.prog r 19 [(.agg #[(.pointer z1), (.int .i64 z2), (.pointer z3), (.int .i64 z4)])] h fun v h' => ∃ (y5 : Option Addr) (y6 : Int) (y7 : Option Addr) (y8 : Int) (y9 : Bool), v = (.tuple #[(.agg #[(.pointer y5), (.int .i64 y6), (.pointer y7), (.int .i64 y8)]), (.bool y9)]) ∧ R y5 y6 y7 y8 y9 h'

theorem zip_Zip_Left.mono {r : World} {z1 : Option Addr} {z2 : Int} {z3 : Option Addr} {z4 : Int} {h : Heap} {R R' : Option Addr → Int → Option Addr → Int → Bool → Heap → Prop} (H : zip_Zip_Left r z1 z2 z3 z4 h R) (hr : ∀ y5 y6 y7 y8 y9 h, R y5 y6 y7 y8 y9 h → R' y5 y6 y7 y8 y9 h) : zip_Zip_Left r z1 z2 z3 z4 h R' :=
  CallsH.mono H fun _ _ hx => by
    obtain ⟨y5, y6, y7, y8, y9, hv, hR⟩ := hx
    exact ⟨y5, y6, y7, y8, y9, hv, hr _ _ _ _ _ _ hR⟩

abbrev zip_Zip_Place (r : World) (z1 : Option Addr) (z2 : Int) (z3 : Option Addr) (z4 : Int) (h : Heap) (R : Int → Heap → Prop) : Prop :=
  CallsH Try.prog r 20 [(.agg #[(.pointer z1), (.int .i64 z2), (.pointer z3), (.int .i64 z4)])] h fun v h' => ∃ (y5 : Int), v = (.int .i64 y5) ∧ R y5 h'

theorem zip_Zip_Place.mono {r : World} {z1 : Option Addr} {z2 : Int} {z3 : Option Addr} {z4 : Int} {h : Heap} {R R' : Int → Heap → Prop} (H : zip_Zip_Place r z1 z2 z3 z4 h R) (hr : ∀ y5 h, R y5 h → R' y5 h) : zip_Zip_Place r z1 z2 z3 z4 h R' :=
  CallsH.mono H fun _ _ hx => by
    obtain ⟨y5, hv, hR⟩ := hx
    exact ⟨y5, hv, hr _ _ hR⟩

abbrev zip_Zip_Insert (r : World) (z1 : Option Addr) (z2 : Int) (z3 : Option Addr) (z4 : Int) (x5 : Int) (h : Heap) (R : Option Addr → Int → Option Addr → Int → Heap → Prop) : Prop :=
  CallsH Try.prog r 28 [(.agg #[(.pointer z1), (.int .i64 z2), (.pointer z3), (.int .i64 z4)]), (.int .i64 x5)] h fun v h' => ∃ (y6 : Option Addr) (y7 : Int) (y8 : Option Addr) (y9 : Int), v = (.agg #[(.pointer y6), (.int .i64 y7), (.pointer y8), (.int .i64 y9)]) ∧ R y6 y7 y8 y9 h'

theorem zip_Zip_Insert.mono {r : World} {z1 : Option Addr} {z2 : Int} {z3 : Option Addr} {z4 : Int} {x5 : Int} {h : Heap} {R R' : Option Addr → Int → Option Addr → Int → Heap → Prop} (H : zip_Zip_Insert r z1 z2 z3 z4 x5 h R) (hr : ∀ y6 y7 y8 y9 h, R y6 y7 y8 y9 h → R' y6 y7 y8 y9 h) : zip_Zip_Insert r z1 z2 z3 z4 x5 h R' :=
  CallsH.mono H fun _ _ hx => by
    obtain ⟨y6, y7, y8, y9, hv, hR⟩ := hx
    exact ⟨y6, y7, y8, y9, hv, hr _ _ _ _ _ hR⟩

abbrev zip_Zip_Delete (r : World) (z1 : Option Addr) (z2 : Int) (z3 : Option Addr) (z4 : Int) (h : Heap) (R : Option Addr → Int → Option Addr → Int → Bool → Heap → Prop) : Prop :=
  CallsH Try.prog r 30 [(.agg #[(.pointer z1), (.int .i64 z2), (.pointer z3), (.int .i64 z4)])] h fun v h' => ∃ (y5 : Option Addr) (y6 : Int) (y7 : Option Addr) (y8 : Int) (y9 : Bool), v = (.tuple #[(.agg #[(.pointer y5), (.int .i64 y6), (.pointer y7), (.int .i64 y8)]), (.bool y9)]) ∧ R y5 y6 y7 y8 y9 h'

theorem zip_Zip_Delete.mono {r : World} {z1 : Option Addr} {z2 : Int} {z3 : Option Addr} {z4 : Int} {h : Heap} {R R' : Option Addr → Int → Option Addr → Int → Bool → Heap → Prop} (H : zip_Zip_Delete r z1 z2 z3 z4 h R) (hr : ∀ y5 y6 y7 y8 y9 h, R y5 y6 y7 y8 y9 h → R' y5 y6 y7 y8 y9 h) : zip_Zip_Delete r z1 z2 z3 z4 h R' :=
  CallsH.mono H fun _ _ hx => by
    obtain ⟨y5, y6, y7, y8, y9, hv, hR⟩ := hx
    exact ⟨y5, y6, y7, y8, y9, hv, hr _ _ _ _ _ _ hR⟩

abbrev zip_Zip_Set (r : World) (z1 : Option Addr) (z2 : Int) (z3 : Option Addr) (z4 : Int) (x5 : Int) (h : Heap) (R : Option Addr → Int → Option Addr → Int → Bool → Heap → Prop) : Prop :=
  CallsH Try.prog r 32 [(.agg #[(.pointer z1), (.int .i64 z2), (.pointer z3), (.int .i64 z4)]), (.int .i64 x5)] h fun v h' => ∃ (y6 : Option Addr) (y7 : Int) (y8 : Option Addr) (y9 : Int) (y10 : Bool), v = (.tuple #[(.agg #[(.pointer y6), (.int .i64 y7), (.pointer y8), (.int .i64 y9)]), (.bool y10)]) ∧ R y6 y7 y8 y9 y10 h'

theorem zip_Zip_Set.mono {r : World} {z1 : Option Addr} {z2 : Int} {z3 : Option Addr} {z4 : Int} {x5 : Int} {h : Heap} {R R' : Option Addr → Int → Option Addr → Int → Bool → Heap → Prop} (H : zip_Zip_Set r z1 z2 z3 z4 x5 h R) (hr : ∀ y6 y7 y8 y9 y10 h, R y6 y7 y8 y9 y10 h → R' y6 y7 y8 y9 y10 h) : zip_Zip_Set r z1 z2 z3 z4 x5 h R' :=
  CallsH.mono H fun _ _ hx => by
    obtain ⟨y6, y7, y8, y9, y10, hv, hR⟩ := hx
    exact ⟨y6, y7, y8, y9, y10, hv, hr _ _ _ _ _ _ hR⟩

abbrev zip_Zip_At (r : World) (z1 : Option Addr) (z2 : Int) (z3 : Option Addr) (z4 : Int) (h : Heap) (R : Int → Bool → Heap → Prop) : Prop :=
  CallsH Try.prog r 34 [(.agg #[(.pointer z1), (.int .i64 z2), (.pointer z3), (.int .i64 z4)])] h fun v h' => ∃ (y5 : Int) (y6 : Bool), v = (.tuple #[(.int .i64 y5), (.bool y6)]) ∧ R y5 y6 h'

theorem zip_Zip_At.mono {r : World} {z1 : Option Addr} {z2 : Int} {z3 : Option Addr} {z4 : Int} {h : Heap} {R R' : Int → Bool → Heap → Prop} (H : zip_Zip_At r z1 z2 z3 z4 h R) (hr : ∀ y5 y6 h, R y5 y6 h → R' y5 y6 h) : zip_Zip_At r z1 z2 z3 z4 h R' :=
  CallsH.mono H fun _ _ hx => by
    obtain ⟨y5, y6, hv, hR⟩ := hx
    exact ⟨y5, y6, hv, hr _ _ _ hR⟩

abbrev ref1_With (r : World) (l1 : Sl) (i2 : Int) (x3 : Int) (h : Heap) (R : Sl → Heap → Prop) : Prop :=
  CallsH Try.prog r 29 [(Sl.v l1), (.int .i64 i2), (.int .i64 x3)] h fun v h' => ∃ (y4 : Sl), v = (Sl.v y4) ∧ R y4 h'

theorem ref1_With.mono {r : World} {l1 : Sl} {i2 : Int} {x3 : Int} {h : Heap} {R R' : Sl → Heap → Prop} (H : ref1_With r l1 i2 x3 h R) (hr : ∀ y4 h, R y4 h → R' y4 h) : ref1_With r l1 i2 x3 h R' :=
  CallsH.mono H fun _ _ hx => by
    obtain ⟨y4, hv, hR⟩ := hx
    exact ⟨y4, hv, hr _ _ hR⟩

abbrev ref1_Without (r : World) (l1 : Sl) (i2 : Int) (h : Heap) (R : Sl → Heap → Prop) : Prop :=
  CallsH Try.prog r 31 [(Sl.v l1), (.int .i64 i2)] h fun v h' => ∃ (y3 : Sl), v = (Sl.v y3) ∧ R y3 h'

theorem ref1_Without.mono {r : World} {l1 : Sl} {i2 : Int} {h : Heap} {R R' : Sl → Heap → Prop} (H : ref1_Without r l1 i2 h R) (hr : ∀ y3 h, R y3 h → R' y3 h) : ref1_Without r l1 i2 h R' :=
  CallsH.mono H fun _ _ hx => by
    obtain ⟨y3, hv, hR⟩ := hx
    exact ⟨y3, hv, hr _ _ hR⟩

abbrev ref1_Put (r : World) (l1 : Sl) (i2 : Int) (x3 : Int) (h : Heap) (R : Sl → Heap → Prop) : Prop :=
  CallsH Try.prog r 33 [(Sl.v l1), (.int .i64 i2), (.int .i64 x3)] h fun v h' => ∃ (y4 : Sl), v = (Sl.v y4) ∧ R y4 h'

theorem ref1_Put.mono {r : World} {l1 : Sl} {i2 : Int} {x3 : Int} {h : Heap} {R R' : Sl → Heap → Prop} (H : ref1_Put r l1 i2 x3 h R) (hr : ∀ y4 h, R y4 h → R' y4 h) : ref1_Put r l1 i2 x3 h R' :=
  CallsH.mono H fun _ _ hx => by
    obtain ⟨y4, hv, hR⟩ := hx
    exact ⟨y4, hv, hr _ _ hR⟩

abbrev ref1_Cat (r : World) (a1 : Sl) (vb2 : Sl) (h : Heap) (R : Sl → Heap → Prop) : Prop :=
  CallsH Try.prog r 35 [(Sl.v a1), (Sl.v vb2)] h fun v h' => ∃ (y3 : Sl), v = (Sl.v y3) ∧ R y3 h'

theorem ref1_Cat.mono {r : World} {a1 : Sl} {vb2 : Sl} {h : Heap} {R R' : Sl → Heap → Prop} (H : ref1_Cat r a1 vb2 h R) (hr : ∀ y3 h, R y3 h → R' y3 h) : ref1_Cat r a1 vb2 h R' :=
  CallsH.mono H fun _ _ hx => by
    obtain ⟨y3, hv, hR⟩ := hx
    exact ⟨y3, hv, hr _ _ hR⟩

abbrev law3_zipped (r : World)  (h : Heap) (R : Bool → Heap → Prop) : Prop :=
  CallsH Try.prog r 13 [] h fun v h' => ∃ (y1 : Bool), v = (.bool y1) ∧ R y1 h'

theorem law3_zipped.mono {r : World}  {h : Heap} {R R' : Bool → Heap → Prop} (H : law3_zipped r  h R) (hr : ∀ y1 h, R y1 h → R' y1 h) : law3_zipped r  h R' :=
  CallsH.mono H fun _ _ hx => by
    obtain ⟨y1, hv, hR⟩ := hx
    exact ⟨y1, hv, hr _ _ hR⟩

/-! ### zip_Of -/

def zip_Of_F (r : World) (l1 : Sl) (h : Heap) (R : Option Addr → Int → Option Addr → Int → Heap → Prop) : Prop :=
  New h (.cells #[(.pointer none), (.int .i64 0), (.pointer none), (.int .i64 0)] 36) fun p2 h1 =>
  list_Of r l1 h1 fun y5 y6 h2 =>
  St h2 p2 4 [(.pointer none), (.int .i64 0), (.pointer y5), (.int .i64 y6)] fun h3 =>
  LdP h3 (Addr.add p2 0) fun x9 =>
  LdI h3 (Addr.add p2 1) fun x11 =>
  LdP h3 (Addr.add p2 2) fun x13 =>
  LdI h3 (Addr.add p2 3) fun x15 =>
  R x9 x11 x13 x15 h3

set_option maxRecDepth 100000 in
theorem zip_Of_of {r : World} {l1 : Sl} {h : Heap} {R : Option Addr → Int → Option Addr → Int → Heap → Prop} (H : zip_Of_F r l1 h R) : zip_Of r l1 h R := by
  unfold zip_Of_F at H
  refine calls_of 6 [.cell 2 36] Try.func14 rfl rfl rfl rfl rfl ?_
  refine W_seq ?_
  refine W_region (.ef 0 [] .fin .no) rfl rfl ?_
  obtain ⟨p2, e3⟩ : ∃ p : Addr, p = ⟨h.size, 0, none⟩ := ⟨_, rfl⟩
  obtain ⟨h1, e4⟩ : ∃ hh : Heap, hh = h.push (.cells #[(.pointer none), (.int .i64 0), (.pointer none), (.int .i64 0)] 36) := ⟨_, rfl⟩
  have H := H p2 h1 e3 e4
  refine s_ef1 (d := some 2) (v := (.pointer (some p2))) (h' := h1) rfl rfl rfl (fun dr => (r_alloc Try.zeroValue36).trans (by rw [e3, e4]; rfl)) trivial ?_ trivial
  refine s_fin ?_
  show W _ _ _ _ _ _ _ _
  refine W_seq ?_
  refine W_region (.pu 0 (.ef 1 [] (.pu 2 (.ef 3 [] .fin .no)) .no)) rfl rfl ?_
  refine s_pu (d := some 3) (v := (Sl.v l1)) rfl rfl rfl (r_move rfl) ?_
  refine s_ef (d := some 4) rfl rfl rfl (fun dr => r_call Try.call44 rfl rfl H) ?_ trivial
  rintro _ h2 ⟨y5, y6, rfl, H⟩
  refine ⟨trivial, ?_⟩
  refine s_pu (d := some 5) (v := (.agg #[(.pointer none), (.int .i64 0), (.pointer y5), (.int .i64 y6)])) rfl rfl rfl (fun w => by kernel_rfl) ?_
  obtain ⟨e8, H⟩ := H
  obtain ⟨h3, e7⟩ : ∃ hh : Heap, hh = hsets h2 p2 0 [(.pointer none), (.int .i64 0), (.pointer y5), (.int .i64 y6)] := ⟨_, rfl⟩
  have H := H h3 e7
  refine s_st (d := none) (h' := h3) rfl rfl rfl (fun dr => (r_store (v := (.agg #[(.pointer none), (.int .i64 0), (.pointer y5), (.int .i64 y6)])) Try.sizeOf36 rfl rfl rfl (one_all rfl) e8).trans (by rw [e7]; rfl)) trivial ?_ trivial
  refine s_fin ?_
  show W _ _ _ _ _ _ _ _
  refine W_ret ?_
  obtain ⟨x9, e10, H⟩ := H
  obtain ⟨x11, e12, H⟩ := H
  obtain ⟨x13, e14, H⟩ := H
  obtain ⟨x15, e16, H⟩ := H
  exact ⟨[(.agg #[(.pointer x9), (.int .i64 x11), (.pointer x13), (.int .i64 x15)])], ⟨_, _, _, rfl, rfl, fun dr => run_loadVarN Try.isAgg36 Try.sizeOf36 (vs := [(.pointer x9), (.int .i64 x11), (.pointer x13), (.int .i64 x15)]) rfl ⟨e10, e12, e14, e16, trivial⟩, rfl⟩, x9, x11, x13, x15, rfl, H⟩

/-! ### zip_Zip_Go -/

def zip_Zip_Go_F (r : World) (z1 : Option Addr) (z2 : Int) (z3 : Option Addr) (z4 : Int) (i5 : Int) (h : Heap) (R : Option Addr → Int → Option Addr → Int → Bool → Heap → Prop) : Prop :=
  New h (.cells #[(.pointer z1), (.int .i64 z2), (.pointer z3), (.int .i64 z4)] 36) fun p6 h1 =>
  New h1 (.cells #[(.pointer none), (.int .i64 0), (.pointer none), (.int .i64 0)] 36) fun p9 h2 =>
  ∀ J13 : Bool → Heap → Prop, (∀ (x12 : Bool) (h3 : Heap),
    (Br x12 (
      LdP h3 (Addr.add p6 0) fun x15 =>
      LdI h3 (Addr.add p6 1) fun x17 =>
      LdP h3 (Addr.add p6 2) fun x19 =>
      LdI h3 (Addr.add p6 3) fun x21 =>
      St h3 p9 4 [(.pointer x15), (.int .i64 x17), (.pointer x19), (.int .i64 x21)] fun h4 =>
      LdP h4 (Addr.add p9 0) fun x25 =>
      LdI h4 (Addr.add p9 1) fun x27 =>
      LdP h4 (Addr.add p9 2) fun x29 =>
      LdI h4 (Addr.add p9 3) fun x31 =>
      R x25 x27 x29 x31 false h4) (
      ∀ X33 : Heap → Prop, (∀ (h5 : Heap),
        (LdP h5 (Addr.add p6 0) fun x34 =>
        LdI h5 (Addr.add p6 1) fun x36 =>
        LdP h5 (Addr.add p6 2) fun x38 =>
        LdI h5 (Addr.add p6 3) fun x40 =>
        zip_Zip_Place r x34 x36 x38 x40 h5 fun y42 h6 =>
        Br (decide (i5 < y42)) (
          LdP h6 (Addr.add p6 0) fun x43 =>
          LdI h6 (Addr.add p6 1) fun x45 =>
          LdP h6 (Addr.add p6 2) fun x47 =>
          LdI h6 (Addr.add p6 3) fun x49 =>
          zip_Zip_Left r x43 x45 x47 x49 h6 fun y51 y52 y53 y54 y55 h7 =>
          St h7 p6 4 [(.pointer y51), (.int .i64 y52), (.pointer y53), (.int .i64 y54)] fun h8 =>
          X33 h8) (
          ∀ X58 : Heap → Prop, (∀ (h9 : Heap),
            (LdP h9 (Addr.add p6 0) fun x59 =>
            LdI h9 (Addr.add p6 1) fun x61 =>
            LdP h9 (Addr.add p6 2) fun x63 =>
            LdI h9 (Addr.add p6 3) fun x65 =>
            zip_Zip_Place r x59 x61 x63 x65 h9 fun y67 h10 =>
            Br (decide (y67 < i5)) (
              LdP h10 (Addr.add p6 0) fun x68 =>
              LdI h10 (Addr.add p6 1) fun x70 =>
              LdP h10 (Addr.add p6 2) fun x72 =>
              LdI h10 (Addr.add p6 3) fun x74 =>
              zip_Zip_Right r x68 x70 x72 x74 h10 fun y76 y77 y78 y79 y80 h11 =>
              St h11 p6 4 [(.pointer y76), (.int .i64 y77), (.pointer y78), (.int .i64 y79)] fun h12 =>
              X58 h12) (
              LdP h10 (Addr.add p6 0) fun x83 =>
              LdI h10 (Addr.add p6 1) fun x85 =>
              LdP h10 (Addr.add p6 2) fun x87 =>
              LdI h10 (Addr.add p6 3) fun x89 =>
              St h10 p9 4 [(.pointer x83), (.int .i64 x85), (.pointer x87), (.int .i64 x89)] fun h13 =>
              LdP h13 (Addr.add p9 0) fun x93 =>
              LdI h13 (Addr.add p9 1) fun x95 =>
              LdP h13 (Addr.add p9 2) fun x97 =>
              LdI h13 (Addr.add p9 3) fun x99 =>
              R x93 x95 x97 x99 true h13)) →
            X58 h9) →
          X58 h6)) →
        X33 h5) →
      X33 h3)) →
    J13 x12 h3) →
  Br (decide (i5 < 0)) (
    J13 true h2) (
    LdP h2 (Addr.add (Addr.add p6 0) 0) fun x105 =>
    LdI h2 (Addr.add (Addr.add p6 0) 1) fun x107 =>
    LdP h2 (Addr.add (Addr.add p6 2) 0) fun x109 =>
    LdI h2 (Addr.add (Addr.add p6 2) 1) fun x111 =>
    list_List_Len r x105 x107 h2 fun y113 h14 =>
    (hcell h14 (Addr.add (Addr.add p6 2) 0) = some (.pointer x109)) ∧
    (hcell h14 (Addr.add (Addr.add p6 2) 1) = some (.int .i64 x111)) ∧
    list_List_Len r x109 x111 h14 fun y116 h15 =>
    J13 (decide ((w64 (y113 + y116)) < i5)) h15)

set_option maxRecDepth 100000 in
theorem zip_Zip_Go_of {r : World} {z1 : Option Addr} {z2 : Int} {z3 : Option Addr} {z4 : Int} {i5 : Int} {h : Heap} {R : Option Addr → Int → Option Addr → Int → Bool → Heap → Prop} (H : zip_Zip_Go_F r z1 z2 z3 z4 i5 h R) : zip_Zip_Go r z1 z2 z3 z4 i5 h R := by
  unfold zip_Zip_Go_F at H
  refine calls_of 39 [.cell 4 36, .tmp 5] Try.func15 rfl rfl rfl rfl rfl ?_
  refine W_seq ?_
  refine W_region (.ef 0 [] (.ef 1 [] (.pu 2 .fin) .no) .no) rfl rfl ?_
  obtain ⟨p6, e7⟩ : ∃ p : Addr, p = ⟨h.size, 0, none⟩ := ⟨_, rfl⟩
  obtain ⟨h1, e8⟩ : ∃ hh : Heap, hh = h.push (.cells #[(.pointer z1), (.int .i64 z2), (.pointer z3), (.int .i64 z4)] 36) := ⟨_, rfl⟩
  have H := H p6 h1 e7 e8
  refine s_ef1 (d := some 2) (v := (.pointer (some p6))) (h' := h1) rfl rfl rfl (fun dr => (r_box (v := (.agg #[(.pointer z1), (.int .i64 z2), (.pointer z3), (.int .i64 z4)])) rfl).trans (by rw [e7, e8]; rfl)) trivial ?_ trivial
  obtain ⟨p9, e10⟩ : ∃ p : Addr, p = ⟨h1.size, 0, none⟩ := ⟨_, rfl⟩
  obtain ⟨h2, e11⟩ : ∃ hh : Heap, hh = h1.push (.cells #[(.pointer none), (.int .i64 0), (.pointer none), (.int .i64 0)] 36) := ⟨_, rfl⟩
  have H := H p9 h2 e10 e11
  refine s_ef1 (d := some 4) (v := (.pointer (some p9))) (h' := h2) rfl rfl rfl (fun dr => (r_alloc Try.zeroValue36).trans (by rw [e10, e11]; rfl)) trivial ?_ trivial
  refine s_pu (d := some 5) (v := (.bool false)) rfl rfl rfl (r_assign rfl) ?_
  refine s_fin ?_
  show W _ _ _ _ _ _ _ _
  refine W_seq ?_
  refine W_seq ?_
  refine W_set ?_
  intro N14 eN14
  have H := H (fun (x12 : Bool) (h3 : Heap) => ∀ b, N14 [] (mkE [(1, (.int .i64 i5)), (2, (.pointer (some p6))), (4, (.pointer (some p9))), (18, (.bool x12))] b) h3) (by
    intro x12 h3 H b
    rw [eN14]
    show W _ _ _ _ _ _ _ _
    refine W_if x12 rfl (fun g103 => ?_) (fun g103 => ?_)
    · have H := H.1 g103
      refine W_seq ?_
      refine W_region (.rl 0 (.ef 1 [] (.pu 2 .fin) .no)) rfl rfl ?_
      obtain ⟨x15, e16, H⟩ := H
      obtain ⟨x17, e18, H⟩ := H
      obtain ⟨x19, e20, H⟩ := H
      obtain ⟨x21, e22, H⟩ := H
      refine s_rl (d := some 19) (v := (.agg #[(.pointer x15), (.int .i64 x17), (.pointer x19), (.int .i64 x21)])) rfl rfl rfl (fun dr => r_loadN Try.isAgg36 Try.sizeOf36 (vs := [(.pointer x15), (.int .i64 x17), (.pointer x19), (.int .i64 x21)]) rfl rfl ⟨e16, e18, e20, e22, trivial⟩) ?_
      obtain ⟨e24, H⟩ := H
      obtain ⟨h4, e23⟩ : ∃ hh : Heap, hh = hsets h3 p9 0 [(.pointer x15), (.int .i64 x17), (.pointer x19), (.int .i64 x21)] := ⟨_, rfl⟩
      have H := H h4 e23
      refine s_st (d := none) (h' := h4) rfl rfl rfl (fun dr => (r_store (v := (.agg #[(.pointer x15), (.int .i64 x17), (.pointer x19), (.int .i64 x21)])) Try.sizeOf36 rfl rfl rfl (one_all rfl) e24).trans (by rw [e23]; rfl)) trivial ?_ trivial
      refine s_pu (d := some 5) (v := (.bool false)) rfl rfl rfl (r_assign rfl) ?_
      refine s_fin ?_
      show W _ _ _ _ _ _ _ _
      refine W_ret ?_
      obtain ⟨x25, e26, H⟩ := H
      obtain ⟨x27, e28, H⟩ := H
      obtain ⟨x29, e30, H⟩ := H
      obtain ⟨x31, e32, H⟩ := H
      exact ⟨[(.agg #[(.pointer x25), (.int .i64 x27), (.pointer x29), (.int .i64 x31)]), (.bool false)], ⟨_, _, _, rfl, rfl, fun dr => run_loadVarN Try.isAgg36 Try.sizeOf36 (vs := [(.pointer x25), (.int .i64 x27), (.pointer x29), (.int .i64 x31)]) rfl ⟨e26, e28, e30, e32, trivial⟩, ⟨_, _, rfl, rfl, rfl⟩⟩, x25, x27, x29, x31, false, rfl, H⟩
    · have H := H.2 g103
      refine W_skip ?_
      show W _ _ _ _ _ _ _ _
      refine W_seq ?_
      refine W_block ?_
      refine W_loop (WL_mk (l := [(1, (.int .i64 i5)), (2, (.pointer (some p6))), (4, (.pointer (some p9)))]) ?_ ⟨rfl, rfl, rfl, trivial⟩)
      refine H (fun (h5 : Heap) => ∀ b, WL _ _ _ _ _ _ (mkE [(1, (.int .i64 i5)), (2, (.pointer (some p6))), (4, (.pointer (some p9)))] b) h5) ?_
      intro h5 H b
      refine WL_round ?_
      refine W_seq ?_
      refine W_seq ?_
      refine W_region (.rl 0 (.ef 1 [] (.pu 2 (.pu 3 .fin)) .no)) rfl rfl ?_
      obtain ⟨x34, e35, H⟩ := H
      obtain ⟨x36, e37, H⟩ := H
      obtain ⟨x38, e39, H⟩ := H
      obtain ⟨x40, e41, H⟩ := H
      refine s_rl (d := some 20) (v := (.agg #[(.pointer x34), (.int .i64 x36), (.pointer x38), (.int .i64 x40)])) rfl rfl rfl (fun dr => r_loadN Try.isAgg36 Try.sizeOf36 (vs := [(.pointer x34), (.int .i64 x36), (.pointer x38), (.int .i64 x40)]) rfl rfl ⟨e35, e37, e39, e41, trivial⟩) ?_
      refine s_ef (d := some 21) rfl rfl rfl (fun dr => r_call Try.call20 rfl rfl H) ?_ trivial
      rintro _ h6 ⟨y42, rfl, H⟩
      refine ⟨trivial, ?_⟩
      refine s_pu (d := some 22) (v := (.int .i64 i5)) rfl rfl rfl (r_move rfl) ?_
      refine s_pu (d := some 23) (v := (.bool (decide (i5 < y42)))) rfl rfl rfl (r_gtr rfl rfl) ?_
      refine s_fin ?_
      show W _ _ _ _ _ _ _ _
      refine W_if (decide (i5 < y42)) rfl (fun g102 => ?_) (fun g102 => ?_)
      · have H := H.1 g102
        refine W_skip ?_
        show W _ _ _ _ _ _ _ _
        refine W_block ?_
        refine W_region (.rl 0 (.ef 1 [] (.pu 2 (.pu 3 (.pu 4 (.ef 5 [] .fin .no)))) .no)) rfl rfl ?_
        obtain ⟨x43, e44, H⟩ := H
        obtain ⟨x45, e46, H⟩ := H
        obtain ⟨x47, e48, H⟩ := H
        obtain ⟨x49, e50, H⟩ := H
        refine s_rl (d := some 25) (v := (.agg #[(.pointer x43), (.int .i64 x45), (.pointer x47), (.int .i64 x49)])) rfl rfl rfl (fun dr => r_loadN Try.isAgg36 Try.sizeOf36 (vs := [(.pointer x43), (.int .i64 x45), (.pointer x47), (.int .i64 x49)]) rfl rfl ⟨e44, e46, e48, e50, trivial⟩) ?_
        refine s_ef (d := some 26) rfl rfl rfl (fun dr => r_call Try.call19 rfl rfl H) ?_ trivial
        rintro _ h7 ⟨y51, y52, y53, y54, y55, rfl, H⟩
        refine ⟨trivial, ?_⟩
        refine s_pu (d := some 24) (v := (.tuple #[(.agg #[(.pointer y51), (.int .i64 y52), (.pointer y53), (.int .i64 y54)]), (.bool y55)])) rfl rfl rfl (r_move rfl) ?_
        refine s_pu (d := some 27) (v := (.agg #[(.pointer y51), (.int .i64 y52), (.pointer y53), (.int .i64 y54)])) rfl rfl rfl (r_extract rfl rfl) ?_
        refine s_pu (d := some 28) (v := (.bool y55)) rfl rfl rfl (r_extract rfl rfl) ?_
        obtain ⟨e57, H⟩ := H
        obtain ⟨h8, e56⟩ : ∃ hh : Heap, hh = hsets h7 p6 0 [(.pointer y51), (.int .i64 y52), (.pointer y53), (.int .i64 y54)] := ⟨_, rfl⟩
        have H := H h8 e56
        refine s_st (d := none) (h' := h8) rfl rfl rfl (fun dr => (r_store (v := (.agg #[(.pointer y51), (.int .i64 y52), (.pointer y53), (.int .i64 y54)])) Try.sizeOf36 rfl rfl rfl (one_all rfl) e57).trans (by rw [e56]; rfl)) trivial ?_ trivial
        refine s_fin ?_
        exact WL_mk (l := [(1, (.int .i64 i5)), (2, (.pointer (some p6))), (4, (.pointer (some p9)))]) H ⟨rfl, rfl, rfl, trivial⟩
      · have H := H.2 g102
        refine W_exit (inX_here ?_)
        show W _ _ _ _ _ _ _ _
        refine W_seq ?_
        refine W_block ?_
        refine W_loop (WL_mk (l := [(1, (.int .i64 i5)), (2, (.pointer (some p6))), (4, (.pointer (some p9)))]) ?_ ⟨rfl, rfl, rfl, trivial⟩)
        refine H (fun (h9 : Heap) => ∀ b, WL _ _ _ _ _ _ (mkE [(1, (.int .i64 i5)), (2, (.pointer (some p6))), (4, (.pointer (some p9)))] b) h9) ?_
        intro h9 H b
        refine WL_round ?_
        refine W_seq ?_
        refine W_seq ?_
        refine W_region (.rl 0 (.ef 1 [] (.pu 2 (.pu 3 .fin)) .no)) rfl rfl ?_
        obtain ⟨x59, e60, H⟩ := H
        obtain ⟨x61, e62, H⟩ := H
        obtain ⟨x63, e64, H⟩ := H
        obtain ⟨x65, e66, H⟩ := H
        refine s_rl (d := some 29) (v := (.agg #[(.pointer x59), (.int .i64 x61), (.pointer x63), (.int .i64 x65)])) rfl rfl rfl (fun dr => r_loadN Try.isAgg36 Try.sizeOf36 (vs := [(.pointer x59), (.int .i64 x61), (.pointer x63), (.int .i64 x65)]) rfl rfl ⟨e60, e62, e64, e66, trivial⟩) ?_
        refine s_ef (d := some 30) rfl rfl rfl (fun dr => r_call Try.call20 rfl rfl H) ?_ trivial
        rintro _ h10 ⟨y67, rfl, H⟩
        refine ⟨trivial, ?_⟩
        refine s_pu (d := some 31) (v := (.int .i64 i5)) rfl rfl rfl (r_move rfl) ?_
        refine s_pu (d := some 32) (v := (.bool (decide (y67 < i5)))) rfl rfl rfl (r_lss rfl rfl) ?_
        refine s_fin ?_
        show W _ _ _ _ _ _ _ _
        refine W_if (decide (y67 < i5)) rfl (fun g101 => ?_) (fun g101 => ?_)
        · have H := H.1 g101
          refine W_skip ?_
          show W _ _ _ _ _ _ _ _
          refine W_block ?_
          refine W_region (.rl 0 (.ef 1 [] (.pu 2 (.pu 3 (.pu 4 (.ef 5 [] .fin .no)))) .no)) rfl rfl ?_
          obtain ⟨x68, e69, H⟩ := H
          obtain ⟨x70, e71, H⟩ := H
          obtain ⟨x72, e73, H⟩ := H
          obtain ⟨x74, e75, H⟩ := H
          refine s_rl (d := some 34) (v := (.agg #[(.pointer x68), (.int .i64 x70), (.pointer x72), (.int .i64 x74)])) rfl rfl rfl (fun dr => r_loadN Try.isAgg36 Try.sizeOf36 (vs := [(.pointer x68), (.int .i64 x70), (.pointer x72), (.int .i64 x74)]) rfl rfl ⟨e69, e71, e73, e75, trivial⟩) ?_
          refine s_ef (d := some 35) rfl rfl rfl (fun dr => r_call Try.call18 rfl rfl H) ?_ trivial
          rintro _ h11 ⟨y76, y77, y78, y79, y80, rfl, H⟩
          refine ⟨trivial, ?_⟩
          refine s_pu (d := some 33) (v := (.tuple #[(.agg #[(.pointer y76), (.int .i64 y77), (.pointer y78), (.int .i64 y79)]), (.bool y80)])) rfl rfl rfl (r_move rfl) ?_
          refine s_pu (d := some 36) (v := (.agg #[(.pointer y76), (.int .i64 y77), (.pointer y78), (.int .i64 y79)])) rfl rfl rfl (r_extract rfl rfl) ?_
          refine s_pu (d := some 37) (v := (.bool y80)) rfl rfl rfl (r_extract rfl rfl) ?_
          obtain ⟨e82, H⟩ := H
          obtain ⟨h12, e81⟩ : ∃ hh : Heap, hh = hsets h11 p6 0 [(.pointer y76), (.int .i64 y77), (.pointer y78), (.int .i64 y79)] := ⟨_, rfl⟩
          have H := H h12 e81
          refine s_st (d := none) (h' := h12) rfl rfl rfl (fun dr => (r_store (v := (.agg #[(.pointer y76), (.int .i64 y77), (.pointer y78), (.int .i64 y79)])) Try.sizeOf36 rfl rfl rfl (one_all rfl) e82).trans (by rw [e81]; rfl)) trivial ?_ trivial
          refine s_fin ?_
          exact WL_mk (l := [(1, (.int .i64 i5)), (2, (.pointer (some p6))), (4, (.pointer (some p9)))]) H ⟨rfl, rfl, rfl, trivial⟩
        · have H := H.2 g101
          refine W_exit (inX_here ?_)
          show W _ _ _ _ _ _ _ _
          refine W_seq ?_
          refine W_region (.rl 0 (.ef 1 [] (.pu 2 .fin) .no)) rfl rfl ?_
          obtain ⟨x83, e84, H⟩ := H
          obtain ⟨x85, e86, H⟩ := H
          obtain ⟨x87, e88, H⟩ := H
          obtain ⟨x89, e90, H⟩ := H
          refine s_rl (d := some 38) (v := (.agg #[(.pointer x83), (.int .i64 x85), (.pointer x87), (.int .i64 x89)])) rfl rfl rfl (fun dr => r_loadN Try.isAgg36 Try.sizeOf36 (vs := [(.pointer x83), (.int .i64 x85), (.pointer x87), (.int .i64 x89)]) rfl rfl ⟨e84, e86, e88, e90, trivial⟩) ?_
          obtain ⟨e92, H⟩ := H
          obtain ⟨h13, e91⟩ : ∃ hh : Heap, hh = hsets h10 p9 0 [(.pointer x83), (.int .i64 x85), (.pointer x87), (.int .i64 x89)] := ⟨_, rfl⟩
          have H := H h13 e91
          refine s_st (d := none) (h' := h13) rfl rfl rfl (fun dr => (r_store (v := (.agg #[(.pointer x83), (.int .i64 x85), (.pointer x87), (.int .i64 x89)])) Try.sizeOf36 rfl rfl rfl (one_all rfl) e92).trans (by rw [e91]; rfl)) trivial ?_ trivial
          refine s_pu (d := some 5) (v := (.bool true)) rfl rfl rfl (r_assign rfl) ?_
          refine s_fin ?_
          show W _ _ _ _ _ _ _ _
          refine W_ret ?_
          obtain ⟨x93, e94, H⟩ := H
          obtain ⟨x95, e96, H⟩ := H
          obtain ⟨x97, e98, H⟩ := H
          obtain ⟨x99, e100, H⟩ := H
          exact ⟨[(.agg #[(.pointer x93), (.int .i64 x95), (.pointer x97), (.int .i64 x99)]), (.bool true)], ⟨_, _, _, rfl, rfl, fun dr => run_loadVarN Try.isAgg36 Try.sizeOf36 (vs := [(.pointer x93), (.int .i64 x95), (.pointer x97), (.int .i64 x99)]) rfl ⟨e94, e96, e98, e100, trivial⟩, ⟨_, _, rfl, rfl, rfl⟩⟩, x93, x95, x97, x99, true, rfl, H⟩)
  clear eN14
  refine W_draw [0, 1, 3, 7, 7, 23, 55, 7, 135, 503, 1015, 2047, 4095] (.pu 0 (.pu 1 (.pu 2 (.pu 3 (.pu 4 (.rd 5 (.pu 7 (.rd 8 (.ef 6 [5] (.ef 9 [5, 8] (.pu 10 (.pu 11 (.pu 12 .fin))) .no) .no))))))))) (by kernel_rfl) (by kernel_rfl) ?_
  refine s_pu (d := some 6) (v := (.int .i64 i5)) rfl rfl rfl (r_move rfl) ?_
  refine s_pu (d := some 7) (v := (.bool (decide (i5 < 0)))) rfl rfl rfl (r_lss rfl rfl) ?_
  refine s_pu (d := some 8) (v := (.bool (decide (i5 < 0)))) rfl rfl rfl (r_move rfl) ?_
  rcases Bool.eq_false_or_eq_true (decide (i5 < 0)) with g104 | g104
  · have H := H.1 g104
    refine s_sk (d := some 9) rfl rfl (wants_no rfl rfl rfl rfl g104) ?_
    refine s_sk (d := some 10) rfl rfl (wants_no rfl rfl rfl rfl g104) ?_
    refine s_skd (d := some 11) rfl rfl (wants_no rfl rfl rfl rfl g104) ?_
    refine s_sk (d := some 13) rfl rfl (wants_no rfl rfl rfl rfl g104) ?_
    refine s_skd (d := some 14) rfl rfl (wants_no rfl rfl rfl rfl g104) ?_
    refine s_skf (d := some 12) rfl rfl (wants_no rfl rfl rfl rfl g104) ⟨(.inr ⟨wants_no rfl rfl rfl rfl g104, rfl⟩), trivial, trivial⟩ ?_ trivial
    refine s_skf (d := some 15) rfl rfl (wants_no rfl rfl rfl rfl g104) ⟨trivial, trivial, trivial⟩ ?_ trivial
    refine s_sk (d := some 16) rfl rfl (wants_no rfl rfl rfl rfl g104) ?_
    refine s_sk (d := some 17) rfl rfl (wants_no rfl rfl rfl rfl g104) ?_
    refine s_pu (d := some 18) (v := (.bool true)) rfl rfl rfl (r_pick1 rfl g104 rfl) ?_
    refine s_fin ?_
    exact N_mk (l := [(1, (.int .i64 i5)), (2, (.pointer (some p6))), (4, (.pointer (some p9))), (18, (.bool true))]) H ⟨rfl, rfl, rfl, rfl, trivial⟩
  · have H := H.2 g104
    refine s_pu (d := some 9) (v := (.int .i64 i5)) rfl rfl (wants_yes rfl rfl rfl rfl g104) (r_move rfl) ?_
    refine s_pu (d := some 10) (v := (.pointer (some (Addr.add p6 0)))) rfl rfl (wants_yes rfl rfl rfl rfl g104) (r_fieldAddr Try.underlying36 Try.sizeOf34 rfl rfl rfl) ?_
    obtain ⟨x105, e106, H⟩ := H
    obtain ⟨x107, e108, H⟩ := H
    refine s_rd (d := some 11) (v := (.agg #[(.pointer x105), (.int .i64 x107)])) rfl rfl (wants_yes rfl rfl rfl rfl g104) (fun dr => r_loadN Try.isAgg34 Try.sizeOf34 (vs := [(.pointer x105), (.int .i64 x107)]) rfl rfl ⟨e106, e108, trivial⟩) ?_
    refine s_pu (d := some 13) (v := (.pointer (some (Addr.add p6 2)))) rfl rfl (wants_yes rfl rfl rfl rfl g104) (r_fieldAddr Try.underlying36 Try.sizeOf34 rfl rfl rfl) ?_
    obtain ⟨x109, e110, H⟩ := H
    obtain ⟨x111, e112, H⟩ := H
    refine s_rd (d := some 14) (v := (.agg #[(.pointer x109), (.int .i64 x111)])) rfl rfl (wants_yes rfl rfl rfl rfl g104) (fun dr => r_loadN Try.isAgg34 Try.sizeOf34 (vs := [(.pointer x109), (.int .i64 x111)]) rfl rfl ⟨e110, e112, trivial⟩) ?_
    refine s_ef (d := some 12) rfl rfl (wants_yes rfl rfl rfl rfl g104) (fun dr => r_call Try.call45 rfl rfl H) ?_ trivial
    rintro _ h14 ⟨y113, rfl, H⟩
    obtain ⟨e114, H⟩ := H
    obtain ⟨e115, H⟩ := H
    refine ⟨⟨(.inl ⟨(wants_yes rfl rfl rfl rfl g104), fun dr => r_loadN Try.isAgg34 Try.sizeOf34 (vs := [(.pointer x109), (.int .i64 x111)]) rfl rfl ⟨e114, e115, trivial⟩⟩), trivial, trivial⟩, ?_⟩
    refine s_ef (d := some 15) rfl rfl (wants_yes rfl rfl rfl rfl g104) (fun dr => r_call Try.call45 rfl rfl H) ?_ trivial
    rintro _ h15 ⟨y116, rfl, H⟩
    refine ⟨⟨trivial, trivial, trivial⟩, ?_⟩
    refine s_pu (d := some 16) (v := (.int .i64 (w64 (y113 + y116)))) rfl rfl (wants_yes rfl rfl rfl rfl g104) (r_add rfl rfl) ?_
    refine s_pu (d := some 17) (v := (.bool (decide ((w64 (y113 + y116)) < i5)))) rfl rfl (wants_yes rfl rfl rfl rfl g104) (r_gtr rfl rfl) ?_
    refine s_pu (d := some 18) (v := (.bool (decide ((w64 (y113 + y116)) < i5)))) rfl rfl rfl (r_pick0 rfl g104 rfl) ?_
    refine s_fin ?_
    exact N_mk (l := [(1, (.int .i64 i5)), (2, (.pointer (some p6))), (4, (.pointer (some p9))), (18, (.bool (decide ((w64 (y113 + y116)) < i5))))]) H ⟨rfl, rfl, rfl, rfl, trivial⟩

/-! ### zip_Zip_Ints -/

def zip_Zip_Ints_F (r : World) (z1 : Option Addr) (z2 : Int) (z3 : Option Addr) (z4 : Int) (h : Heap) (R : Sl → Heap → Prop) : Prop :=
  New h (.cells #[(.pointer z1), (.int .i64 z2), (.pointer z3), (.int .i64 z4)] 36) fun p5 h1 =>
  LdP h1 (Addr.add (Addr.add p5 0) 0) fun x8 =>
  LdI h1 (Addr.add (Addr.add p5 0) 1) fun x10 =>
  LdP h1 (Addr.add (Addr.add p5 2) 0) fun x12 =>
  LdI h1 (Addr.add (Addr.add p5 2) 1) fun x14 =>
  list_List_Rev r x8 x10 h1 fun y16 y17 h2 =>
  (hcell h2 (Addr.add (Addr.add p5 2) 0) = some (.pointer x12)) ∧
  (hcell h2 (Addr.add (Addr.add p5 2) 1) = some (.int .i64 x14)) ∧
  list_List_Ints r y16 y17 h2 fun y20 h3 =>
  (hcell h3 (Addr.add (Addr.add p5 2) 0) = some (.pointer x12)) ∧
  (hcell h3 (Addr.add (Addr.add p5 2) 1) = some (.int .i64 x14)) ∧
  list_List_Ints r x12 x14 h3 fun y23 h4 =>
  New h4 (.cells #[(Sl.v y20), (Sl.v y23)] 22) fun p24 h5 =>
  slices_Concat_int_int r ((⟨some p24, 2, 2⟩ : Sl)) h5 fun y27 h6 =>
  R y27 h6

set_option maxRecDepth 100000 in
theorem zip_Zip_Ints_of {r : World} {z1 : Option Addr} {z2 : Int} {z3 : Option Addr} {z4 : Int} {h : Heap} {R : Sl → Heap → Prop} (H : zip_Zip_Ints_F r z1 z2 z3 z4 h R) : zip_Zip_Ints r z1 z2 z3 z4 h R := by
  unfold zip_Zip_Ints_F at H
  refine calls_of 12 [.tmp 2] Try.func17 rfl rfl rfl rfl rfl ?_
  refine W_seq ?_
  refine W_region (.ef 0 [] (.pu 1 .fin) .no) rfl rfl ?_
  obtain ⟨p5, e6⟩ : ∃ p : Addr, p = ⟨h.size, 0, none⟩ := ⟨_, rfl⟩
  obtain ⟨h1, e7⟩ : ∃ hh : Heap, hh = h.push (.cells #[(.pointer z1), (.int .i64 z2), (.pointer z3), (.int .i64 z4)] 36) := ⟨_, rfl⟩
  have H := H p5 h1 e6 e7
  refine s_ef1 (d := some 1) (v := (.pointer (some p5))) (h' := h1) rfl rfl rfl (fun dr => (r_box (v := (.agg #[(.pointer z1), (.int .i64 z2), (.pointer z3), (.int .i64 z4)])) rfl).trans (by rw [e6, e7]; rfl)) trivial ?_ trivial
  refine s_pu (d := some 2) (v := (Sl.v Sl.nil)) rfl rfl rfl (r_assign rfl) ?_
  refine s_fin ?_
  show W _ _ _ _ _ _ _ _
  refine W_seq ?_
  refine W_draw [0, 1, 3, 7, 0, 16, 63, 127, 255, 511] (.pu 0 (.rd 1 (.pu 4 (.rd 5 (.ef 2 [1] (.ef 3 [1] (.ef 6 [1, 5] (.ef 7 [1, 5] (.ef 8 [1, 5] (.pu 9 .fin) .no) .no) .no) .no) .no))))) (by kernel_rfl) (by kernel_rfl) ?_
  refine s_pu (d := some 3) (v := (.pointer (some (Addr.add p5 0)))) rfl rfl rfl (r_fieldAddr Try.underlying36 Try.sizeOf34 rfl rfl rfl) ?_
  obtain ⟨x8, e9, H⟩ := H
  obtain ⟨x10, e11, H⟩ := H
  refine s_rd (d := some 4) (v := (.agg #[(.pointer x8), (.int .i64 x10)])) rfl rfl rfl (fun dr => r_loadN Try.isAgg34 Try.sizeOf34 (vs := [(.pointer x8), (.int .i64 x10)]) rfl rfl ⟨e9, e11, trivial⟩) ?_
  refine s_pu (d := some 7) (v := (.pointer (some (Addr.add p5 2)))) rfl rfl rfl (r_fieldAddr Try.underlying36 Try.sizeOf34 rfl rfl rfl) ?_
  obtain ⟨x12, e13, H⟩ := H
  obtain ⟨x14, e15, H⟩ := H
  refine s_rd (d := some 8) (v := (.agg #[(.pointer x12), (.int .i64 x14)])) rfl rfl rfl (fun dr => r_loadN Try.isAgg34 Try.sizeOf34 (vs := [(.pointer x12), (.int .i64 x14)]) rfl rfl ⟨e13, e15, trivial⟩) ?_
  refine s_ef (d := some 5) rfl rfl rfl (fun dr => r_call Try.call47 rfl rfl H) ?_ trivial
  rintro _ h2 ⟨y16, y17, rfl, H⟩
  obtain ⟨e18, H⟩ := H
  obtain ⟨e19, H⟩ := H
  refine ⟨⟨(.inl ⟨rfl, fun dr => r_loadN Try.isAgg34 Try.sizeOf34 (vs := [(.pointer x12), (.int .i64 x14)]) rfl rfl ⟨e18, e19, trivial⟩⟩), trivial, trivial⟩, ?_⟩
  refine s_ef (d := some 6) rfl rfl rfl (fun dr => r_call Try.call48 rfl rfl H) ?_ trivial
  rintro _ h3 ⟨y20, rfl, H⟩
  obtain ⟨e21, H⟩ := H
  obtain ⟨e22, H⟩ := H
  refine ⟨⟨(.inl ⟨rfl, fun dr => r_loadN Try.isAgg34 Try.sizeOf34 (vs := [(.pointer x12), (.int .i64 x14)]) rfl rfl ⟨e21, e22, trivial⟩⟩), trivial, trivial⟩, ?_⟩
  refine s_ef (d := some 9) rfl rfl rfl (fun dr => r_call Try.call48 rfl rfl H) ?_ trivial
  rintro _ h4 ⟨y23, rfl, H⟩
  refine ⟨⟨trivial, trivial, trivial⟩, ?_⟩
  obtain ⟨p24, e25⟩ : ∃ p : Addr, p = ⟨h4.size, 0, none⟩ := ⟨_, rfl⟩
  obtain ⟨h5, e26⟩ : ∃ hh : Heap, hh = h4.push (.cells #[(Sl.v y20), (Sl.v y23)] 22) := ⟨_, rfl⟩
  have H := H p24 h5 e25 e26
  refine s_ef1 (d := some 10) (v := (Sl.v ((⟨some p24, 2, 2⟩ : Sl)))) (h' := h5) rfl rfl rfl (fun dr => (slFZip_60.build (cells := #[(Sl.v y20), (Sl.v y23)]) (by decide) rfl (by kernel_rfl)).trans (by rw [e25, e26]; rfl)) ⟨trivial, trivial, trivial⟩ ?_ trivial
  refine s_ef (d := some 11) rfl rfl rfl (fun dr => r_call Try.call46 rfl rfl H) ?_ trivial
  rintro _ h6 ⟨y27, rfl, H⟩
  refine ⟨⟨trivial, trivial, trivial⟩, ?_⟩
  refine s_pu (d := some 2) (v := (Sl.v y27)) rfl rfl rfl (r_assign rfl) ?_
  refine s_fin ?_
  show W _ _ _ _ _ _ _ _
  refine W_ret ?_
  exact ⟨[(Sl.v y27)], ⟨_, _, rfl, rfl, rfl⟩, y27, rfl, H⟩

/-! ### zip_Zip_Right -/

def zip_Zip_Right_F (r : World) (z1 : Option Addr) (z2 : Int) (z3 : Option Addr) (z4 : Int) (h : Heap) (R : Option Addr → Int → Option Addr → Int → Bool → Heap → Prop) : Prop :=
  New h (.cells #[(.pointer z1), (.int .i64 z2), (.pointer z3), (.int .i64 z4)] 36) fun p5 h1 =>
  New h1 (.cells #[(.pointer none), (.int .i64 0), (.pointer none), (.int .i64 0)] 36) fun p8 h2 =>
  LdP h2 (Addr.add (Addr.add p5 2) 0) fun x11 =>
  LdI h2 (Addr.add (Addr.add p5 2) 1) fun x13 =>
  list_List_Pop r x11 x13 h2 fun y15 y16 y17 y18 h3 =>
  New h3 (.cells #[(.pointer none), (.int .i64 0)] 34) fun p19 h4 =>
  St h4 p19 2 [(.pointer y16), (.int .i64 y17)] fun h5 =>
  Br (!y18) (
    LdP h5 (Addr.add p5 0) fun x24 =>
    LdI h5 (Addr.add p5 1) fun x26 =>
    LdP h5 (Addr.add p5 2) fun x28 =>
    LdI h5 (Addr.add p5 3) fun x30 =>
    St h5 p8 4 [(.pointer x24), (.int .i64 x26), (.pointer x28), (.int .i64 x30)] fun h6 =>
    LdP h6 (Addr.add p8 0) fun x34 =>
    LdI h6 (Addr.add p8 1) fun x36 =>
    LdP h6 (Addr.add p8 2) fun x38 =>
    LdI h6 (Addr.add p8 3) fun x40 =>
    R x34 x36 x38 x40 false h6) (
    LdP h5 (Addr.add (Addr.add p5 0) 0) fun x42 =>
    LdI h5 (Addr.add (Addr.add p5 0) 1) fun x44 =>
    LdP h5 (Addr.add p19 0) fun x46 =>
    LdI h5 (Addr.add p19 1) fun x48 =>
    list_List_Push r x42 x44 y15 h5 fun y50 y51 h7 =>
    (hcell h7 (Addr.add p19 0) = some (.pointer x46)) ∧
    (hcell h7 (Addr.add p19 1) = some (.int .i64 x48)) ∧
    St h7 p8 4 [(.pointer y50), (.int .i64 y51), (.pointer x46), (.int .i64 x48)] fun h8 =>
    LdP h8 (Addr.add p8 0) fun x56 =>
    LdI h8 (Addr.add p8 1) fun x58 =>
    LdP h8 (Addr.add p8 2) fun x60 =>
    LdI h8 (Addr.add p8 3) fun x62 =>
    R x56 x58 x60 x62 true h8)

set_option maxRecDepth 100000 in
theorem zip_Zip_Right_of {r : World} {z1 : Option Addr} {z2 : Int} {z3 : Option Addr} {z4 : Int} {h : Heap} {R : Option Addr → Int → Option Addr → Int → Bool → Heap → Prop} (H : zip_Zip_Right_F r z1 z2 z3 z4 h R) : zip_Zip_Right r z1 z2 z3 z4 h R := by
  unfold zip_Zip_Right_F at H
  refine calls_of 23 [.cell 2 36, .tmp 3] Try.func18 rfl rfl rfl rfl rfl ?_
  refine W_seq ?_
  refine W_region (.ef 0 [] (.ef 1 [] (.pu 2 .fin) .no) .no) rfl rfl ?_
  obtain ⟨p5, e6⟩ : ∃ p : Addr, p = ⟨h.size, 0, none⟩ := ⟨_, rfl⟩
  obtain ⟨h1, e7⟩ : ∃ hh : Heap, hh = h.push (.cells #[(.pointer z1), (.int .i64 z2), (.pointer z3), (.int .i64 z4)] 36) := ⟨_, rfl⟩
  have H := H p5 h1 e6 e7
  refine s_ef1 (d := some 1) (v := (.pointer (some p5))) (h' := h1) rfl rfl rfl (fun dr => (r_box (v := (.agg #[(.pointer z1), (.int .i64 z2), (.pointer z3), (.int .i64 z4)])) rfl).trans (by rw [e6, e7]; rfl)) trivial ?_ trivial
  obtain ⟨p8, e9⟩ : ∃ p : Addr, p = ⟨h1.size, 0, none⟩ := ⟨_, rfl⟩
  obtain ⟨h2, e10⟩ : ∃ hh : Heap, hh = h1.push (.cells #[(.pointer none), (.int .i64 0), (.pointer none), (.int .i64 0)] 36) := ⟨_, rfl⟩
  have H := H p8 h2 e9 e10
  refine s_ef1 (d := some 2) (v := (.pointer (some p8))) (h' := h2) rfl rfl rfl (fun dr => (r_alloc Try.zeroValue36).trans (by rw [e9, e10]; rfl)) trivial ?_ trivial
  refine s_pu (d := some 3) (v := (.bool false)) rfl rfl rfl (r_assign rfl) ?_
  refine s_fin ?_
  show W _ _ _ _ _ _ _ _
  refine W_seq ?_
  refine W_region (.pu 0 (.rl 1 (.ef 2 [] (.pu 3 (.pu 4 (.pu 5 (.pu 6 (.ef 7 [] (.pu 8 (.ef 9 [] (.pu 10 .fin) .no)) .no))))) .no))) rfl rfl ?_
  refine s_pu (d := some 8) (v := (.pointer (some (Addr.add p5 2)))) rfl rfl rfl (r_fieldAddr Try.underlying36 Try.sizeOf34 rfl rfl rfl) ?_
  obtain ⟨x11, e12, H⟩ := H
  obtain ⟨x13, e14, H⟩ := H
  refine s_rl (d := some 9) (v := (.agg #[(.pointer x11), (.int .i64 x13)])) rfl rfl rfl (fun dr => r_loadN Try.isAgg34 Try.sizeOf34 (vs := [(.pointer x11), (.int .i64 x13)]) rfl rfl ⟨e12, e14, trivial⟩) ?_
  refine s_ef (d := some 10) rfl rfl rfl (fun dr => r_call Try.call49 rfl rfl H) ?_ trivial
  rintro _ h3 ⟨y15, y16, y17, y18, rfl, H⟩
  refine ⟨trivial, ?_⟩
  refine s_pu (d := some 7) (v := (.tuple #[(.int .i64 y15), (.agg #[(.pointer y16), (.int .i64 y17)]), (.bool y18)])) rfl rfl rfl (r_move rfl) ?_
  refine s_pu (d := some 11) (v := (.int .i64 y15)) rfl rfl rfl (r_extract rfl rfl) ?_
  refine s_pu (d := some 12) (v := (.agg #[(.pointer y16), (.int .i64 y17)])) rfl rfl rfl (r_extract rfl rfl) ?_
  refine s_pu (d := some 13) (v := (.bool y18)) rfl rfl rfl (r_extract rfl rfl) ?_
  obtain ⟨p19, e20⟩ : ∃ p : Addr, p = ⟨h3.size, 0, none⟩ := ⟨_, rfl⟩
  obtain ⟨h4, e21⟩ : ∃ hh : Heap, hh = h3.push (.cells #[(.pointer none), (.int .i64 0)] 34) := ⟨_, rfl⟩
  have H := H p19 h4 e20 e21
  refine s_ef1 (d := some 5) (v := (.pointer (some p19))) (h' := h4) rfl rfl rfl (fun dr => (r_alloc Try.zeroValue34).trans (by rw [e20, e21]; rfl)) trivial ?_ trivial
  refine s_pu (d := some 4) (v := (.int .i64 y15)) rfl rfl rfl (r_assign rfl) ?_
  obtain ⟨e23, H⟩ := H
  obtain ⟨h5, e22⟩ : ∃ hh : Heap, hh = hsets h4 p19 0 [(.pointer y16), (.int .i64 y17)] := ⟨_, rfl⟩
  have H := H h5 e22
  refine s_st (d := none) (h' := h5) rfl rfl rfl (fun dr => (r_store (v := (.agg #[(.pointer y16), (.int .i64 y17)])) Try.sizeOf34 rfl rfl rfl (one_all rfl) e23).trans (by rw [e22]; rfl)) trivial ?_ trivial
  refine s_pu (d := some 6) (v := (.bool y18)) rfl rfl rfl (r_assign rfl) ?_
  refine s_fin ?_
  show W _ _ _ _ _ _ _ _
  refine W_seq ?_
  refine W_seq ?_
  refine W_region (.pu 0 (.pu 1 .fin)) rfl rfl ?_
  refine s_pu (d := some 14) (v := (.bool y18)) rfl rfl rfl (r_move rfl) ?_
  refine s_pu (d := some 15) (v := (.bool (!y18))) rfl rfl rfl (r_not rfl) ?_
  refine s_fin ?_
  show W _ _ _ _ _ _ _ _
  refine W_if (!y18) rfl (fun g64 => ?_) (fun g64 => ?_)
  · have H := H.1 g64
    refine W_seq ?_
    refine W_region (.rl 0 (.ef 1 [] (.pu 2 .fin) .no)) rfl rfl ?_
    obtain ⟨x24, e25, H⟩ := H
    obtain ⟨x26, e27, H⟩ := H
    obtain ⟨x28, e29, H⟩ := H
    obtain ⟨x30, e31, H⟩ := H
    refine s_rl (d := some 16) (v := (.agg #[(.pointer x24), (.int .i64 x26), (.pointer x28), (.int .i64 x30)])) rfl rfl rfl (fun dr => r_loadN Try.isAgg36 Try.sizeOf36 (vs := [(.pointer x24), (.int .i64 x26), (.pointer x28), (.int .i64 x30)]) rfl rfl ⟨e25, e27, e29, e31, trivial⟩) ?_
    obtain ⟨e33, H⟩ := H
    obtain ⟨h6, e32⟩ : ∃ hh : Heap, hh = hsets h5 p8 0 [(.pointer x24), (.int .i64 x26), (.pointer x28), (.int .i64 x30)] := ⟨_, rfl⟩
    have H := H h6 e32
    refine s_st (d := none) (h' := h6) rfl rfl rfl (fun dr => (r_store (v := (.agg #[(.pointer x24), (.int .i64 x26), (.pointer x28), (.int .i64 x30)])) Try.sizeOf36 rfl rfl rfl (one_all rfl) e33).trans (by rw [e32]; rfl)) trivial ?_ trivial
    refine s_pu (d := some 3) (v := (.bool false)) rfl rfl rfl (r_assign rfl) ?_
    refine s_fin ?_
    show W _ _ _ _ _ _ _ _
    refine W_ret ?_
    obtain ⟨x34, e35, H⟩ := H
    obtain ⟨x36, e37, H⟩ := H
    obtain ⟨x38, e39, H⟩ := H
    obtain ⟨x40, e41, H⟩ := H
    exact ⟨[(.agg #[(.pointer x34), (.int .i64 x36), (.pointer x38), (.int .i64 x40)]), (.bool false)], ⟨_, _, _, rfl, rfl, fun dr => run_loadVarN Try.isAgg36 Try.sizeOf36 (vs := [(.pointer x34), (.int .i64 x36), (.pointer x38), (.int .i64 x40)]) rfl ⟨e35, e37, e39, e41, trivial⟩, ⟨_, _, rfl, rfl, rfl⟩⟩, x34, x36, x38, x40, false, rfl, H⟩
  · have H := H.2 g64
    refine W_skip ?_
    show W _ _ _ _ _ _ _ _
    refine W_seq ?_
    refine W_draw [0, 1, 0, 7, 0, 31, 63, 127] (.pu 0 (.rd 1 (.pu 2 (.rd 4 (.ef 3 [1] (.pu 5 (.ef 6 [1, 4] (.pu 7 .fin) .no)) .no))))) (by kernel_rfl) (by kernel_rfl) ?_
    refine s_pu (d := some 17) (v := (.pointer (some (Addr.add p5 0)))) rfl rfl rfl (r_fieldAddr Try.underlying36 Try.sizeOf34 rfl rfl rfl) ?_
    obtain ⟨x42, e43, H⟩ := H
    obtain ⟨x44, e45, H⟩ := H
    refine s_rd (d := some 18) (v := (.agg #[(.pointer x42), (.int .i64 x44)])) rfl rfl rfl (fun dr => r_loadN Try.isAgg34 Try.sizeOf34 (vs := [(.pointer x42), (.int .i64 x44)]) rfl rfl ⟨e43, e45, trivial⟩) ?_
    refine s_pu (d := some 19) (v := (.int .i64 y15)) rfl rfl rfl (r_move rfl) ?_
    obtain ⟨x46, e47, H⟩ := H
    obtain ⟨x48, e49, H⟩ := H
    refine s_rd (d := some 21) (v := (.agg #[(.pointer x46), (.int .i64 x48)])) rfl rfl rfl (fun dr => r_loadN Try.isAgg34 Try.sizeOf34 (vs := [(.pointer x46), (.int .i64 x48)]) rfl rfl ⟨e47, e49, trivial⟩) ?_
    refine s_ef (d := some 20) rfl rfl rfl (fun dr => r_call Try.call50 rfl rfl H) ?_ trivial
    rintro _ h7 ⟨y50, y51, rfl, H⟩
    obtain ⟨e52, H⟩ := H
    obtain ⟨e53, H⟩ := H
    refine ⟨⟨(.inl ⟨rfl, fun dr => r_loadN Try.isAgg34 Try.sizeOf34 (vs := [(.pointer x46), (.int .i64 x48)]) rfl rfl ⟨e52, e53, trivial⟩⟩), trivial, trivial⟩, ?_⟩
    refine s_pu (d := some 22) (v := (.agg #[(.pointer y50), (.int .i64 y51), (.pointer x46), (.int .i64 x48)])) rfl rfl rfl (fun w => by kernel_rfl) ?_
    obtain ⟨e55, H⟩ := H
    obtain ⟨h8, e54⟩ : ∃ hh : Heap, hh = hsets h7 p8 0 [(.pointer y50), (.int .i64 y51), (.pointer x46), (.int .i64 x48)] := ⟨_, rfl⟩
    have H := H h8 e54
    refine s_st (d := none) (h' := h8) rfl rfl rfl (fun dr => (r_store (v := (.agg #[(.pointer y50), (.int .i64 y51), (.pointer x46), (.int .i64 x48)])) Try.sizeOf36 rfl rfl rfl (one_all rfl) e55).trans (by rw [e54]; rfl)) ⟨trivial, trivial, trivial⟩ ?_ trivial
    refine s_pu (d := some 3) (v := (.bool true)) rfl rfl rfl (r_assign rfl) ?_
    refine s_fin ?_
    show W _ _ _ _ _ _ _ _
    refine W_ret ?_
    obtain ⟨x56, e57, H⟩ := H
    obtain ⟨x58, e59, H⟩ := H
    obtain ⟨x60, e61, H⟩ := H
    obtain ⟨x62, e63, H⟩ := H
    exact ⟨[(.agg #[(.pointer x56), (.int .i64 x58), (.pointer x60), (.int .i64 x62)]), (.bool true)], ⟨_, _, _, rfl, rfl, fun dr => run_loadVarN Try.isAgg36 Try.sizeOf36 (vs := [(.pointer x56), (.int .i64 x58), (.pointer x60), (.int .i64 x62)]) rfl ⟨e57, e59, e61, e63, trivial⟩, ⟨_, _, rfl, rfl, rfl⟩⟩, x56, x58, x60, x62, true, rfl, H⟩

/-! ### zip_Zip_Left -/

def zip_Zip_Left_F (r : World) (z1 : Option Addr) (z2 : Int) (z3 : Option Addr) (z4 : Int) (h : Heap) (R : Option Addr → Int → Option Addr → Int → Bool → Heap → Prop) : Prop :=
  New h (.cells #[(.pointer z1), (.int .i64 z2), (.pointer z3), (.int .i64 z4)] 36) fun p5 h1 =>
  New h1 (.cells #[(.pointer none), (.int .i64 0), (.pointer none), (.int .i64 0)] 36) fun p8 h2 =>
  LdP h2 (Addr.add (Addr.add p5 0) 0) fun x11 =>
  LdI h2 (Addr.add (Addr.add p5 0) 1) fun x13 =>
  list_List_Pop r x11 x13 h2 fun y15 y16 y17 y18 h3 =>
  New h3 (.cells #[(.pointer none), (.int .i64 0)] 34) fun p19 h4 =>
  St h4 p19 2 [(.pointer y16), (.int .i64 y17)] fun h5 =>
  Br (!y18) (
    LdP h5 (Addr.add p5 0) fun x24 =>
    LdI h5 (Addr.add p5 1) fun x26 =>
    LdP h5 (Addr.add p5 2) fun x28 =>
    LdI h5 (Addr.add p5 3) fun x30 =>
    St h5 p8 4 [(.pointer x24), (.int .i64 x26), (.pointer x28), (.int .i64 x30)] fun h6 =>
    LdP h6 (Addr.add p8 0) fun x34 =>
    LdI h6 (Addr.add p8 1) fun x36 =>
    LdP h6 (Addr.add p8 2) fun x38 =>
    LdI h6 (Addr.add p8 3) fun x40 =>
    R x34 x36 x38 x40 false h6) (
    LdP h5 (Addr.add p19 0) fun x42 =>
    LdI h5 (Addr.add p19 1) fun x44 =>
    LdP h5 (Addr.add (Addr.add p5 2) 0) fun x46 =>
    LdI h5 (Addr.add (Addr.add p5 2) 1) fun x48 =>
    list_List_Push r x46 x48 y15 h5 fun y50 y51 h7 =>
    (hcell h7 (Addr.add p19 0) = some (.pointer x42)) ∧
    (hcell h7 (Addr.add p19 1) = some (.int .i64 x44)) ∧
    St h7 p8 4 [(.pointer x42), (.int .i64 x44), (.pointer y50), (.int .i64 y51)] fun h8 =>
    LdP h8 (Addr.add p8 0) fun x56 =>
    LdI h8 (Addr.add p8 1) fun x58 =>
    LdP h8 (Addr.add p8 2) fun x60 =>
    LdI h8 (Addr.add p8 3) fun x62 =>
    R x56 x58 x60 x62 true h8)

set_option maxRecDepth 100000 in
theorem zip_Zip_Left_of {r : World} {z1 : Option Addr} {z2 : Int} {z3 : Option Addr} {z4 : Int} {h : Heap} {R : Option Addr → Int → Option Addr → Int → Bool → Heap → Prop} (H : zip_Zip_Left_F r z1 z2 z3 z4 h R) : zip_Zip_Left r z1 z2 z3 z4 h R := by
  unfold zip_Zip_Left_F at H
  refine calls_of 23 [.cell 2 36, .tmp 3] Try.func19 rfl rfl rfl rfl rfl ?_
  refine W_seq ?_
  refine W_region (.ef 0 [] (.ef 1 [] (.pu 2 .fin) .no) .no) rfl rfl ?_
  obtain ⟨p5, e6⟩ : ∃ p : Addr, p = ⟨h.size, 0, none⟩ := ⟨_, rfl⟩
  obtain ⟨h1, e7⟩ : ∃ hh : Heap, hh = h.push (.cells #[(.pointer z1), (.int .i64 z2), (.pointer z3), (.int .i64 z4)] 36) := ⟨_, rfl⟩
  have H := H p5 h1 e6 e7
  refine s_ef1 (d := some 1) (v := (.pointer (some p5))) (h' := h1) rfl rfl rfl (fun dr => (r_box (v := (.agg #[(.pointer z1), (.int .i64 z2), (.pointer z3), (.int .i64 z4)])) rfl).trans (by rw [e6, e7]; rfl)) trivial ?_ trivial
  obtain ⟨p8, e9⟩ : ∃ p : Addr, p = ⟨h1.size, 0, none⟩ := ⟨_, rfl⟩
  obtain ⟨h2, e10⟩ : ∃ hh : Heap, hh = h1.push (.cells #[(.pointer none), (.int .i64 0), (.pointer none), (.int .i64 0)] 36) := ⟨_, rfl⟩
  have H := H p8 h2 e9 e10
  refine s_ef1 (d := some 2) (v := (.pointer (some p8))) (h' := h2) rfl rfl rfl (fun dr => (r_alloc Try.zeroValue36).trans (by rw [e9, e10]; rfl)) trivial ?_ trivial
  refine s_pu (d := some 3) (v := (.bool false)) rfl rfl rfl (r_assign rfl) ?_
  refine s_fin ?_
  show W _ _ _ _ _ _ _ _
  refine W_seq ?_
  refine W_region (.pu 0 (.rl 1 (.ef 2 [] (.pu 3 (.pu 4 (.pu 5 (.pu 6 (.ef 7 [] (.pu 8 (.ef 9 [] (.pu 10 .fin) .no)) .no))))) .no))) rfl rfl ?_
  refine s_pu (d := some 8) (v := (.pointer (some (Addr.add p5 0)))) rfl rfl rfl (r_fieldAddr Try.underlying36 Try.sizeOf34 rfl rfl rfl) ?_
  obtain ⟨x11, e12, H⟩ := H
  obtain ⟨x13, e14, H⟩ := H
  refine s_rl (d := some 9) (v := (.agg #[(.pointer x11), (.int .i64 x13)])) rfl rfl rfl (fun dr => r_loadN Try.isAgg34 Try.sizeOf34 (vs := [(.pointer x11), (.int .i64 x13)]) rfl rfl ⟨e12, e14, trivial⟩) ?_
  refine s_ef (d := some 10) rfl rfl rfl (fun dr => r_call Try.call49 rfl rfl H) ?_ trivial
  rintro _ h3 ⟨y15, y16, y17, y18, rfl, H⟩
  refine ⟨trivial, ?_⟩
  refine s_pu (d := some 7) (v := (.tuple #[(.int .i64 y15), (.agg #[(.pointer y16), (.int .i64 y17)]), (.bool y18)])) rfl rfl rfl (r_move rfl) ?_
  refine s_pu (d := some 11) (v := (.int .i64 y15)) rfl rfl rfl (r_extract rfl rfl) ?_
  refine s_pu (d := some 12) (v := (.agg #[(.pointer y16), (.int .i64 y17)])) rfl rfl rfl (r_extract rfl rfl) ?_
  refine s_pu (d := some 13) (v := (.bool y18)) rfl rfl rfl (r_extract rfl rfl) ?_
  obtain ⟨p19, e20⟩ : ∃ p : Addr, p = ⟨h3.size, 0, none⟩ := ⟨_, rfl⟩
  obtain ⟨h4, e21⟩ : ∃ hh : Heap, hh = h3.push (.cells #[(.pointer none), (.int .i64 0)] 34) := ⟨_, rfl⟩
  have H := H p19 h4 e20 e21
  refine s_ef1 (d := some 5) (v := (.pointer (some p19))) (h' := h4) rfl rfl rfl (fun dr => (r_alloc Try.zeroValue34).trans (by rw [e20, e21]; rfl)) trivial ?_ trivial
  refine s_pu (d := some 4) (v := (.int .i64 y15)) rfl rfl rfl (r_assign rfl) ?_
  obtain ⟨e23, H⟩ := H
  obtain ⟨h5, e22⟩ : ∃ hh : Heap, hh = hsets h4 p19 0 [(.pointer y16), (.int .i64 y17)] := ⟨_, rfl⟩
  have H := H h5 e22
  refine s_st (d := none) (h' := h5) rfl rfl rfl (fun dr => (r_store (v := (.agg #[(.pointer y16), (.int .i64 y17)])) Try.sizeOf34 rfl rfl rfl (one_all rfl) e23).trans (by rw [e22]; rfl)) trivial ?_ trivial
  refine s_pu (d := some 6) (v := (.bool y18)) rfl rfl rfl (r_assign rfl) ?_
  refine s_fin ?_
  show W _ _ _ _ _ _ _ _
  refine W_seq ?_
  refine W_seq ?_
  refine W_region (.pu 0 (.pu 1 .fin)) rfl rfl ?_
  refine s_pu (d := some 14) (v := (.bool y18)) rfl rfl rfl (r_move rfl) ?_
  refine s_pu (d := some 15) (v := (.bool (!y18))) rfl rfl rfl (r_not rfl) ?_
  refine s_fin ?_
  show W _ _ _ _ _ _ _ _
  refine W_if (!y18) rfl (fun g64 => ?_) (fun g64 => ?_)
  · have H := H.1 g64
    refine W_seq ?_
    refine W_region (.rl 0 (.ef 1 [] (.pu 2 .fin) .no)) rfl rfl ?_
    obtain ⟨x24, e25, H⟩ := H
    obtain ⟨x26, e27, H⟩ := H
    obtain ⟨x28, e29, H⟩ := H
    obtain ⟨x30, e31, H⟩ := H
    refine s_rl (d := some 16) (v := (.agg #[(.pointer x24), (.int .i64 x26), (.pointer x28), (.int .i64 x30)])) rfl rfl rfl (fun dr => r_loadN Try.isAgg36 Try.sizeOf36 (vs := [(.pointer x24), (.int .i64 x26), (.pointer x28), (.int .i64 x30)]) rfl rfl ⟨e25, e27, e29, e31, trivial⟩) ?_
    obtain ⟨e33, H⟩ := H
    obtain ⟨h6, e32⟩ : ∃ hh : Heap, hh = hsets h5 p8 0 [(.pointer x24), (.int .i64 x26), (.pointer x28), (.int .i64 x30)] := ⟨_, rfl⟩
    have H := H h6 e32
    refine s_st (d := none) (h' := h6) rfl rfl rfl (fun dr => (r_store (v := (.agg #[(.pointer x24), (.int .i64 x26), (.pointer x28), (.int .i64 x30)])) Try.sizeOf36 rfl rfl rfl (one_all rfl) e33).trans (by rw [e32]; rfl)) trivial ?_ trivial
    refine s_pu (d := some 3) (v := (.bool false)) rfl rfl rfl (r_assign rfl) ?_
    refine s_fin ?_
    show W _ _ _ _ _ _ _ _
    refine W_ret ?_
    obtain ⟨x34, e35, H⟩ := H
    obtain ⟨x36, e37, H⟩ := H
    obtain ⟨x38, e39, H⟩ := H
    obtain ⟨x40, e41, H⟩ := H
    exact ⟨[(.agg #[(.pointer x34), (.int .i64 x36), (.pointer x38), (.int .i64 x40)]), (.bool false)], ⟨_, _, _, rfl, rfl, fun dr => run_loadVarN Try.isAgg36 Try.sizeOf36 (vs := [(.pointer x34), (.int .i64 x36), (.pointer x38), (.int .i64 x40)]) rfl ⟨e35, e37, e39, e41, trivial⟩, ⟨_, _, rfl, rfl, rfl⟩⟩, x34, x36, x38, x40, false, rfl, H⟩
  · have H := H.2 g64
    refine W_skip ?_
    show W _ _ _ _ _ _ _ _
    refine W_seq ?_
    refine W_draw [0, 0, 2, 0, 14, 31, 63, 127] (.rd 0 (.pu 1 (.rd 2 (.pu 3 (.ef 4 [2] (.pu 5 (.ef 6 [0, 2] (.pu 7 .fin) .no)) .no))))) (by kernel_rfl) (by kernel_rfl) ?_
    obtain ⟨x42, e43, H⟩ := H
    obtain ⟨x44, e45, H⟩ := H
    refine s_rd (d := some 17) (v := (.agg #[(.pointer x42), (.int .i64 x44)])) rfl rfl rfl (fun dr => r_loadN Try.isAgg34 Try.sizeOf34 (vs := [(.pointer x42), (.int .i64 x44)]) rfl rfl ⟨e43, e45, trivial⟩) ?_
    refine s_pu (d := some 18) (v := (.pointer (some (Addr.add p5 2)))) rfl rfl rfl (r_fieldAddr Try.underlying36 Try.sizeOf34 rfl rfl rfl) ?_
    obtain ⟨x46, e47, H⟩ := H
    obtain ⟨x48, e49, H⟩ := H
    refine s_rd (d := some 19) (v := (.agg #[(.pointer x46), (.int .i64 x48)])) rfl rfl rfl (fun dr => r_loadN Try.isAgg34 Try.sizeOf34 (vs := [(.pointer x46), (.int .i64 x48)]) rfl rfl ⟨e47, e49, trivial⟩) ?_
    refine s_pu (d := some 20) (v := (.int .i64 y15)) rfl rfl rfl (r_move rfl) ?_
    refine s_ef (d := some 21) rfl rfl rfl (fun dr => r_call Try.call50 rfl rfl H) ?_ trivial
    rintro _ h7 ⟨y50, y51, rfl, H⟩
    obtain ⟨e52, H⟩ := H
    obtain ⟨e53, H⟩ := H
    refine ⟨⟨trivial, (.inl ⟨rfl, fun dr => r_loadN Try.isAgg34 Try.sizeOf34 (vs := [(.pointer x42), (.int .i64 x44)]) rfl rfl ⟨e52, e53, trivial⟩⟩), trivial⟩, ?_⟩
    refine s_pu (d := some 22) (v := (.agg #[(.pointer x42), (.int .i64 x44), (.pointer y50), (.int .i64 y51)])) rfl rfl rfl (fun w => by kernel_rfl) ?_
    obtain ⟨e55, H⟩ := H
    obtain ⟨h8, e54⟩ : ∃ hh : Heap, hh = hsets h7 p8 0 [(.pointer x42), (.int .i64 x44), (.pointer y50), (.int .i64 y51)] := ⟨_, rfl⟩
    have H := H h8 e54
    refine s_st (d := none) (h' := h8) rfl rfl rfl (fun dr => (r_store (v := (.agg #[(.pointer x42), (.int .i64 x44), (.pointer y50), (.int .i64 y51)])) Try.sizeOf36 rfl rfl rfl (one_all rfl) e55).trans (by rw [e54]; rfl)) ⟨trivial, trivial, trivial⟩ ?_ trivial
    refine s_pu (d := some 3) (v := (.bool true)) rfl rfl rfl (r_assign rfl) ?_
    refine s_fin ?_
    show W _ _ _ _ _ _ _ _
    refine W_ret ?_
    obtain ⟨x56, e57, H⟩ := H
    obtain ⟨x58, e59, H⟩ := H
    obtain ⟨x60, e61, H⟩ := H
    obtain ⟨x62, e63, H⟩ := H
    exact ⟨[(.agg #[(.pointer x56), (.int .i64 x58), (.pointer x60), (.int .i64 x62)]), (.bool true)], ⟨_, _, _, rfl, rfl, fun dr => run_loadVarN Try.isAgg36 Try.sizeOf36 (vs := [(.pointer x56), (.int .i64 x58), (.pointer x60), (.int .i64 x62)]) rfl ⟨e57, e59, e61, e63, trivial⟩, ⟨_, _, rfl, rfl, rfl⟩⟩, x56, x58, x60, x62, true, rfl, H⟩

/-! ### zip_Zip_Place -/

def zip_Zip_Place_F (r : World) (z1 : Option Addr) (z2 : Int) (z3 : Option Addr) (z4 : Int) (h : Heap) (R : Int → Heap → Prop) : Prop :=
  New h (.cells #[(.pointer z1), (.int .i64 z2), (.pointer z3), (.int .i64 z4)] 36) fun p5 h1 =>
  LdP h1 (Addr.add (Addr.add p5 0) 0) fun x8 =>
  LdI h1 (Addr.add (Addr.add p5 0) 1) fun x10 =>
  list_List_Len r x8 x10 h1 fun y12 h2 =>
  R y12 h2

set_option maxRecDepth 100000 in
theorem zip_Zip_Place_of {r : World} {z1 : Option Addr} {z2 : Int} {z3 : Option Addr} {z4 : Int} {h : Heap} {R : Int → Heap → Prop} (H : zip_Zip_Place_F r z1 z2 z3 z4 h R) : zip_Zip_Place r z1 z2 z3 z4 h R := by
  unfold zip_Zip_Place_F at H
  refine calls_of 6 [.tmp 2] Try.func20 rfl rfl rfl rfl rfl ?_
  refine W_seq ?_
  refine W_region (.ef 0 [] (.pu 1 .fin) .no) rfl rfl ?_
  obtain ⟨p5, e6⟩ : ∃ p : Addr, p = ⟨h.size, 0, none⟩ := ⟨_, rfl⟩
  obtain ⟨h1, e7⟩ : ∃ hh : Heap, hh = h.push (.cells #[(.pointer z1), (.int .i64 z2), (.pointer z3), (.int .i64 z4)] 36) := ⟨_, rfl⟩
  have H := H p5 h1 e6 e7
  refine s_ef1 (d := some 1) (v := (.pointer (some p5))) (h' := h1) rfl rfl rfl (fun dr => (r_box (v := (.agg #[(.pointer z1), (.int .i64 z2), (.pointer z3), (.int .i64 z4)])) rfl).trans (by rw [e6, e7]; rfl)) trivial ?_ trivial
  refine s_pu (d := some 2) (v := (.int .i64 0)) rfl rfl rfl (r_assign rfl) ?_
  refine s_fin ?_
  show W _ _ _ _ _ _ _ _
  refine W_seq ?_
  refine W_region (.pu 0 (.rl 1 (.ef 2 [] (.pu 3 .fin) .no))) rfl rfl ?_
  refine s_pu (d := some 3) (v := (.pointer (some (Addr.add p5 0)))) rfl rfl rfl (r_fieldAddr Try.underlying36 Try.sizeOf34 rfl rfl rfl) ?_
  obtain ⟨x8, e9, H⟩ := H
  obtain ⟨x10, e11, H⟩ := H
  refine s_rl (d := some 4) (v := (.agg #[(.pointer x8), (.int .i64 x10)])) rfl rfl rfl (fun dr => r_loadN Try.isAgg34 Try.sizeOf34 (vs := [(.pointer x8), (.int .i64 x10)]) rfl rfl ⟨e9, e11, trivial⟩) ?_
  refine s_ef (d := some 5) rfl rfl rfl (fun dr => r_call Try.call45 rfl rfl H) ?_ trivial
  rintro _ h2 ⟨y12, rfl, H⟩
  refine ⟨trivial, ?_⟩
  refine s_pu (d := some 2) (v := (.int .i64 y12)) rfl rfl rfl (r_assign rfl) ?_
  refine s_fin ?_
  show W _ _ _ _ _ _ _ _
  refine W_ret ?_
  exact ⟨[(.int .i64 y12)], ⟨_, _, rfl, rfl, rfl⟩, y12, rfl, H⟩

/-! ### zip_Zip_Insert -/

def zip_Zip_Insert_F (r : World) (z1 : Option Addr) (z2 : Int) (z3 : Option Addr) (z4 : Int) (x5 : Int) (h : Heap) (R : Option Addr → Int → Option Addr → Int → Heap → Prop) : Prop :=
  New h (.cells #[(.pointer z1), (.int .i64 z2), (.pointer z3), (.int .i64 z4)] 36) fun p6 h1 =>
  New h1 (.cells #[(.pointer none), (.int .i64 0), (.pointer none), (.int .i64 0)] 36) fun p9 h2 =>
  LdP h2 (Addr.add (Addr.add p6 0) 0) fun x12 =>
  LdI h2 (Addr.add (Addr.add p6 0) 1) fun x14 =>
  LdP h2 (Addr.add (Addr.add p6 2) 0) fun x16 =>
  LdI h2 (Addr.add (Addr.add p6 2) 1) fun x18 =>
  list_List_Push r x12 x14 x5 h2 fun y20 y21 h3 =>
  (hcell h3 (Addr.add (Addr.add p6 2) 0) = some (.pointer x16)) ∧
  (hcell h3 (Addr.add (Addr.add p6 2) 1) = some (.int .i64 x18)) ∧
  St h3 p9 4 [(.pointer y20), (.int .i64 y21), (.pointer x16), (.int .i64 x18)] fun h4 =>
  LdP h4 (Addr.add p9 0) fun x26 =>
  LdI h4 (Addr.add p9 1) fun x28 =>
  LdP h4 (Addr.add p9 2) fun x30 =>
  LdI h4 (Addr.add p9 3) fun x32 =>
  R x26 x28 x30 x32 h4

set_option maxRecDepth 100000 in
theorem zip_Zip_Insert_of {r : World} {z1 : Option Addr} {z2 : Int} {z3 : Option Addr} {z4 : Int} {x5 : Int} {h : Heap} {R : Option Addr → Int → Option Addr → Int → Heap → Prop} (H : zip_Zip_Insert_F r z1 z2 z3 z4 x5 h R) : zip_Zip_Insert r z1 z2 z3 z4 x5 h R := by
  unfold zip_Zip_Insert_F at H
  refine calls_of 12 [.cell 4 36] Try.func28 rfl rfl rfl rfl rfl ?_
  refine W_seq ?_
  refine W_region (.ef 0 [] (.ef 1 [] .fin .no) .no) rfl rfl ?_
  obtain ⟨p6, e7⟩ : ∃ p : Addr, p = ⟨h.size, 0, none⟩ := ⟨_, rfl⟩
  obtain ⟨h1, e8⟩ : ∃ hh : Heap, hh = h.push (.cells #[(.pointer z1), (.int .i64 z2), (.pointer z3), (.int .i64 z4)] 36) := ⟨_, rfl⟩
  have H := H p6 h1 e7 e8
  refine s_ef1 (d := some 2) (v := (.pointer (some p6))) (h' := h1) rfl rfl rfl (fun dr => (r_box (v := (.agg #[(.pointer z1), (.int .i64 z2), (.pointer z3), (.int .i64 z4)])) rfl).trans (by rw [e7, e8]; rfl)) trivial ?_ trivial
  obtain ⟨p9, e10⟩ : ∃ p : Addr, p = ⟨h1.size, 0, none⟩ := ⟨_, rfl⟩
  obtain ⟨h2, e11⟩ : ∃ hh : Heap, hh = h1.push (.cells #[(.pointer none), (.int .i64 0), (.pointer none), (.int .i64 0)] 36) := ⟨_, rfl⟩
  have H := H p9 h2 e10 e11
  refine s_ef1 (d := some 4) (v := (.pointer (some p9))) (h' := h2) rfl rfl rfl (fun dr => (r_alloc Try.zeroValue36).trans (by rw [e10, e11]; rfl)) trivial ?_ trivial
  refine s_fin ?_
  show W _ _ _ _ _ _ _ _
  refine W_seq ?_
  refine W_draw [0, 1, 0, 7, 0, 16, 63, 127] (.pu 0 (.rd 1 (.pu 2 (.pu 4 (.rd 5 (.ef 3 [1] (.pu 6 (.ef 7 [1, 5] .fin .no)) .no)))))) (by kernel_rfl) (by kernel_rfl) ?_
  refine s_pu (d := some 5) (v := (.pointer (some (Addr.add p6 0)))) rfl rfl rfl (r_fieldAddr Try.underlying36 Try.sizeOf34 rfl rfl rfl) ?_
  obtain ⟨x12, e13, H⟩ := H
  obtain ⟨x14, e15, H⟩ := H
  refine s_rd (d := some 6) (v := (.agg #[(.pointer x12), (.int .i64 x14)])) rfl rfl rfl (fun dr => r_loadN Try.isAgg34 Try.sizeOf34 (vs := [(.pointer x12), (.int .i64 x14)]) rfl rfl ⟨e13, e15, trivial⟩) ?_
  refine s_pu (d := some 7) (v := (.int .i64 x5)) rfl rfl rfl (r_move rfl) ?_
  refine s_pu (d := some 9) (v := (.pointer (some (Addr.add p6 2)))) rfl rfl rfl (r_fieldAddr Try.underlying36 Try.sizeOf34 rfl rfl rfl) ?_
  obtain ⟨x16, e17, H⟩ := H
  obtain ⟨x18, e19, H⟩ := H
  refine s_rd (d := some 10) (v := (.agg #[(.pointer x16), (.int .i64 x18)])) rfl rfl rfl (fun dr => r_loadN Try.isAgg34 Try.sizeOf34 (vs := [(.pointer x16), (.int .i64 x18)]) rfl rfl ⟨e17, e19, trivial⟩) ?_
  refine s_ef (d := some 8) rfl rfl rfl (fun dr => r_call Try.call50 rfl rfl H) ?_ trivial
  rintro _ h3 ⟨y20, y21, rfl, H⟩
  obtain ⟨e22, H⟩ := H
  obtain ⟨e23, H⟩ := H
  refine ⟨⟨(.inl ⟨rfl, fun dr => r_loadN Try.isAgg34 Try.sizeOf34 (vs := [(.pointer x16), (.int .i64 x18)]) rfl rfl ⟨e22, e23, trivial⟩⟩), trivial, trivial⟩, ?_⟩
  refine s_pu (d := some 11) (v := (.agg #[(.pointer y20), (.int .i64 y21), (.pointer x16), (.int .i64 x18)])) rfl rfl rfl (fun w => by kernel_rfl) ?_
  obtain ⟨e25, H⟩ := H
  obtain ⟨h4, e24⟩ : ∃ hh : Heap, hh = hsets h3 p9 0 [(.pointer y20), (.int .i64 y21), (.pointer x16), (.int .i64 x18)] := ⟨_, rfl⟩
  have H := H h4 e24
  refine s_st (d := none) (h' := h4) rfl rfl rfl (fun dr => (r_store (v := (.agg #[(.pointer y20), (.int .i64 y21), (.pointer x16), (.int .i64 x18)])) Try.sizeOf36 rfl rfl rfl (one_all rfl) e25).trans (by rw [e24]; rfl)) ⟨trivial, trivial, trivial⟩ ?_ trivial
  refine s_fin ?_
  show W _ _ _ _ _ _ _ _
  refine W_ret ?_
  obtain ⟨x26, e27, H⟩ := H
  obtain ⟨x28, e29, H⟩ := H
  obtain ⟨x30, e31, H⟩ := H
  obtain ⟨x32, e33, H⟩ := H
  exact ⟨[(.agg #[(.pointer x26), (.int .i64 x28), (.pointer x30), (.int .i64 x32)])], ⟨_, _, _, rfl, rfl, fun dr => run_loadVarN Try.isAgg36 Try.sizeOf36 (vs := [(.pointer x26), (.int .i64 x28), (.pointer x30), (.int .i64 x32)]) rfl ⟨e27, e29, e31, e33, trivial⟩, rfl⟩, x26, x28, x30, x32, rfl, H⟩

/-! ### zip_Zip_Delete -/

def zip_Zip_Delete_F (r : World) (z1 : Option Addr) (z2 : Int) (z3 : Option Addr) (z4 : Int) (h : Heap) (R : Option Addr → Int → Option Addr → Int → Bool → Heap → Prop) : Prop :=
  New h (.cells #[(.pointer z1), (.int .i64 z2), (.pointer z3), (.int .i64 z4)] 36) fun p5 h1 =>
  New h1 (.cells #[(.pointer none), (.int .i64 0), (.pointer none), (.int .i64 0)] 36) fun p8 h2 =>
  LdP h2 (Addr.add (Addr.add p5 2) 0) fun x11 =>
  LdI h2 (Addr.add (Addr.add p5 2) 1) fun x13 =>
  list_List_Pop r x11 x13 h2 fun y15 y16 y17 y18 h3 =>
  New h3 (.cells #[(.pointer none), (.int .i64 0)] 34) fun p19 h4 =>
  St h4 p19 2 [(.pointer y16), (.int .i64 y17)] fun h5 =>
  Br (!y18) (
    LdP h5 (Addr.add p5 0) fun x24 =>
    LdI h5 (Addr.add p5 1) fun x26 =>
    LdP h5 (Addr.add p5 2) fun x28 =>
    LdI h5 (Addr.add p5 3) fun x30 =>
    St h5 p8 4 [(.pointer x24), (.int .i64 x26), (.pointer x28), (.int .i64 x30)] fun h6 =>
    LdP h6 (Addr.add p8 0) fun x34 =>
    LdI h6 (Addr.add p8 1) fun x36 =>
    LdP h6 (Addr.add p8 2) fun x38 =>
    LdI h6 (Addr.add p8 3) fun x40 =>
    R x34 x36 x38 x40 false h6) (
    LdP h5 (Addr.add (Addr.add p5 0) 0) fun x42 =>
    LdI h5 (Addr.add (Addr.add p5 0) 1) fun x44 =>
    LdP h5 (Addr.add p19 0) fun x46 =>
    LdI h5 (Addr.add p19 1) fun x48 =>
    St h5 p8 4 [(.pointer x42), (.int .i64 x44), (.pointer x46), (.int .i64 x48)] fun h7 =>
    LdP h7 (Addr.add p8 0) fun x52 =>
    LdI h7 (Addr.add p8 1) fun x54 =>
    LdP h7 (Addr.add p8 2) fun x56 =>
    LdI h7 (Addr.add p8 3) fun x58 =>
    R x52 x54 x56 x58 true h7)

set_option maxRecDepth 100000 in
theorem zip_Zip_Delete_of {r : World} {z1 : Option Addr} {z2 : Int} {z3 : Option Addr} {z4 : Int} {h : Heap} {R : Option Addr → Int → Option Addr → Int → Bool → Heap → Prop} (H : zip_Zip_Delete_F r z1 z2 z3 z4 h R) : zip_Zip_Delete r z1 z2 z3 z4 h R := by
  unfold zip_Zip_Delete_F at H
  refine calls_of 21 [.cell 2 36, .tmp 3] Try.func30 rfl rfl rfl rfl rfl ?_
  refine W_seq ?_
  refine W_region (.ef 0 [] (.ef 1 [] (.pu 2 .fin) .no) .no) rfl rfl ?_
  obtain ⟨p5, e6⟩ : ∃ p : Addr, p = ⟨h.size, 0, none⟩ := ⟨_, rfl⟩
  obtain ⟨h1, e7⟩ : ∃ hh : Heap, hh = h.push (.cells #[(.pointer z1), (.int .i64 z2), (.pointer z3), (.int .i64 z4)] 36) := ⟨_, rfl⟩
  have H := H p5 h1 e6 e7
  refine s_ef1 (d := some 1) (v := (.pointer (some p5))) (h' := h1) rfl rfl rfl (fun dr => (r_box (v := (.agg #[(.pointer z1), (.int .i64 z2), (.pointer z3), (.int .i64 z4)])) rfl).trans (by rw [e6, e7]; rfl)) trivial ?_ trivial
  obtain ⟨p8, e9⟩ : ∃ p : Addr, p = ⟨h1.size, 0, none⟩ := ⟨_, rfl⟩
  obtain ⟨h2, e10⟩ : ∃ hh : Heap, hh = h1.push (.cells #[(.pointer none), (.int .i64 0), (.pointer none), (.int .i64 0)] 36) := ⟨_, rfl⟩
  have H := H p8 h2 e9 e10
  refine s_ef1 (d := some 2) (v := (.pointer (some p8))) (h' := h2) rfl rfl rfl (fun dr => (r_alloc Try.zeroValue36).trans (by rw [e9, e10]; rfl)) trivial ?_ trivial
  refine s_pu (d := some 3) (v := (.bool false)) rfl rfl rfl (r_assign rfl) ?_
  refine s_fin ?_
  show W _ _ _ _ _ _ _ _
  refine W_seq ?_
  refine W_region (.pu 0 (.rl 1 (.ef 2 [] (.pu 3 (.pu 4 (.pu 5 (.pu 6 (.ef 7 [] (.pu 8 (.ef 9 [] (.pu 10 .fin) .no)) .no))))) .no))) rfl rfl ?_
  refine s_pu (d := some 8) (v := (.pointer (some (Addr.add p5 2)))) rfl rfl rfl (r_fieldAddr Try.underlying36 Try.sizeOf34 rfl rfl rfl) ?_
  obtain ⟨x11, e12, H⟩ := H
  obtain ⟨x13, e14, H⟩ := H
  refine s_rl (d := some 9) (v := (.agg #[(.pointer x11), (.int .i64 x13)])) rfl rfl rfl (fun dr => r_loadN Try.isAgg34 Try.sizeOf34 (vs := [(.pointer x11), (.int .i64 x13)]) rfl rfl ⟨e12, e14, trivial⟩) ?_
  refine s_ef (d := some 10) rfl rfl rfl (fun dr => r_call Try.call49 rfl rfl H) ?_ trivial
  rintro _ h3 ⟨y15, y16, y17, y18, rfl, H⟩
  refine ⟨trivial, ?_⟩
  refine s_pu (d := some 7) (v := (.tuple #[(.int .i64 y15), (.agg #[(.pointer y16), (.int .i64 y17)]), (.bool y18)])) rfl rfl rfl (r_move rfl) ?_
  refine s_pu (d := some 11) (v := (.int .i64 y15)) rfl rfl rfl (r_extract rfl rfl) ?_
  refine s_pu (d := some 12) (v := (.agg #[(.pointer y16), (.int .i64 y17)])) rfl rfl rfl (r_extract rfl rfl) ?_
  refine s_pu (d := some 13) (v := (.bool y18)) rfl rfl rfl (r_extract rfl rfl) ?_
  obtain ⟨p19, e20⟩ : ∃ p : Addr, p = ⟨h3.size, 0, none⟩ := ⟨_, rfl⟩
  obtain ⟨h4, e21⟩ : ∃ hh : Heap, hh = h3.push (.cells #[(.pointer none), (.int .i64 0)] 34) := ⟨_, rfl⟩
  have H := H p19 h4 e20 e21
  refine s_ef1 (d := some 5) (v := (.pointer (some p19))) (h' := h4) rfl rfl rfl (fun dr => (r_alloc Try.zeroValue34).trans (by rw [e20, e21]; rfl)) trivial ?_ trivial
  refine s_pu (d := some 4) (v := (.int .i64 y15)) rfl rfl rfl (r_assign rfl) ?_
  obtain ⟨e23, H⟩ := H
  obtain ⟨h5, e22⟩ : ∃ hh : Heap, hh = hsets h4 p19 0 [(.pointer y16), (.int .i64 y17)] := ⟨_, rfl⟩
  have H := H h5 e22
  refine s_st (d := none) (h' := h5) rfl rfl rfl (fun dr => (r_store (v := (.agg #[(.pointer y16), (.int .i64 y17)])) Try.sizeOf34 rfl rfl rfl (one_all rfl) e23).trans (by rw [e22]; rfl)) trivial ?_ trivial
  refine s_pu (d := some 6) (v := (.bool y18)) rfl rfl rfl (r_assign rfl) ?_
  refine s_fin ?_
  show W _ _ _ _ _ _ _ _
  refine W_seq ?_
  refine W_seq ?_
  refine W_region (.pu 0 (.pu 1 .fin)) rfl rfl ?_
  refine s_pu (d := some 14) (v := (.bool y18)) rfl rfl rfl (r_move rfl) ?_
  refine s_pu (d := some 15) (v := (.bool (!y18))) rfl rfl rfl (r_not rfl) ?_
  refine s_fin ?_
  show W _ _ _ _ _ _ _ _
  refine W_if (!y18) rfl (fun g60 => ?_) (fun g60 => ?_)
  · have H := H.1 g60
    refine W_seq ?_
    refine W_region (.rl 0 (.ef 1 [] (.pu 2 .fin) .no)) rfl rfl ?_
    obtain ⟨x24, e25, H⟩ := H
    obtain ⟨x26, e27, H⟩ := H
    obtain ⟨x28, e29, H⟩ := H
    obtain ⟨x30, e31, H⟩ := H
    refine s_rl (d := some 16) (v := (.agg #[(.pointer x24), (.int .i64 x26), (.pointer x28), (.int .i64 x30)])) rfl rfl rfl (fun dr => r_loadN Try.isAgg36 Try.sizeOf36 (vs := [(.pointer x24), (.int .i64 x26), (.pointer x28), (.int .i64 x30)]) rfl rfl ⟨e25, e27, e29, e31, trivial⟩) ?_
    obtain ⟨e33, H⟩ := H
    obtain ⟨h6, e32⟩ : ∃ hh : Heap, hh = hsets h5 p8 0 [(.pointer x24), (.int .i64 x26), (.pointer x28), (.int .i64 x30)] := ⟨_, rfl⟩
    have H := H h6 e32
    refine s_st (d := none) (h' := h6) rfl rfl rfl (fun dr => (r_store (v := (.agg #[(.pointer x24), (.int .i64 x26), (.pointer x28), (.int .i64 x30)])) Try.sizeOf36 rfl rfl rfl (one_all rfl) e33).trans (by rw [e32]; rfl)) trivial ?_ trivial
    refine s_pu (d := some 3) (v := (.bool false)) rfl rfl rfl (r_assign rfl) ?_
    refine s_fin ?_
    show W _ _ _ _ _ _ _ _
    refine W_ret ?_
    obtain ⟨x34, e35, H⟩ := H
    obtain ⟨x36, e37, H⟩ := H
    obtain ⟨x38, e39, H⟩ := H
    obtain ⟨x40, e41, H⟩ := H
    exact ⟨[(.agg #[(.pointer x34), (.int .i64 x36), (.pointer x38), (.int .i64 x40)]), (.bool false)], ⟨_, _, _, rfl, rfl, fun dr => run_loadVarN Try.isAgg36 Try.sizeOf36 (vs := [(.pointer x34), (.int .i64 x36), (.pointer x38), (.int .i64 x40)]) rfl ⟨e35, e37, e39, e41, trivial⟩, ⟨_, _, rfl, rfl, rfl⟩⟩, x34, x36, x38, x40, false, rfl, H⟩
  · have H := H.2 g60
    refine W_skip ?_
    show W _ _ _ _ _ _ _ _
    refine W_seq ?_
    refine W_region (.pu 0 (.rl 1 (.rl 2 (.pu 3 (.ef 4 [] (.pu 5 .fin) .no))))) rfl rfl ?_
    refine s_pu (d := some 17) (v := (.pointer (some (Addr.add p5 0)))) rfl rfl rfl (r_fieldAddr Try.underlying36 Try.sizeOf34 rfl rfl rfl) ?_
    obtain ⟨x42, e43, H⟩ := H
    obtain ⟨x44, e45, H⟩ := H
    refine s_rl (d := some 18) (v := (.agg #[(.pointer x42), (.int .i64 x44)])) rfl rfl rfl (fun dr => r_loadN Try.isAgg34 Try.sizeOf34 (vs := [(.pointer x42), (.int .i64 x44)]) rfl rfl ⟨e43, e45, trivial⟩) ?_
    obtain ⟨x46, e47, H⟩ := H
    obtain ⟨x48, e49, H⟩ := H
    refine s_rl (d := some 19) (v := (.agg #[(.pointer x46), (.int .i64 x48)])) rfl rfl rfl (fun dr => r_loadN Try.isAgg34 Try.sizeOf34 (vs := [(.pointer x46), (.int .i64 x48)]) rfl rfl ⟨e47, e49, trivial⟩) ?_
    refine s_pu (d := some 20) (v := (.agg #[(.pointer x42), (.int .i64 x44), (.pointer x46), (.int .i64 x48)])) rfl rfl rfl (fun w => by kernel_rfl) ?_
    obtain ⟨e51, H⟩ := H
    obtain ⟨h7, e50⟩ : ∃ hh : Heap, hh = hsets h5 p8 0 [(.pointer x42), (.int .i64 x44), (.pointer x46), (.int .i64 x48)] := ⟨_, rfl⟩
    have H := H h7 e50
    refine s_st (d := none) (h' := h7) rfl rfl rfl (fun dr => (r_store (v := (.agg #[(.pointer x42), (.int .i64 x44), (.pointer x46), (.int .i64 x48)])) Try.sizeOf36 rfl rfl rfl (one_all rfl) e51).trans (by rw [e50]; rfl)) trivial ?_ trivial
    refine s_pu (d := some 3) (v := (.bool true)) rfl rfl rfl (r_assign rfl) ?_
    refine s_fin ?_
    show W _ _ _ _ _ _ _ _
    refine W_ret ?_
    obtain ⟨x52, e53, H⟩ := H
    obtain ⟨x54, e55, H⟩ := H
    obtain ⟨x56, e57, H⟩ := H
    obtain ⟨x58, e59, H⟩ := H
    exact ⟨[(.agg #[(.pointer x52), (.int .i64 x54), (.pointer x56), (.int .i64 x58)]), (.bool true)], ⟨_, _, _, rfl, rfl, fun dr => run_loadVarN Try.isAgg36 Try.sizeOf36 (vs := [(.pointer x52), (.int .i64 x54), (.pointer x56), (.int .i64 x58)]) rfl ⟨e53, e55, e57, e59, trivial⟩, ⟨_, _, rfl, rfl, rfl⟩⟩, x52, x54, x56, x58, true, rfl, H⟩

/-! ### zip_Zip_Set -/

def zip_Zip_Set_F (r : World) (z1 : Option Addr) (z2 : Int) (z3 : Option Addr) (z4 : Int) (x5 : Int) (h : Heap) (R : Option Addr → Int → Option Addr → Int → Bool → Heap → Prop) : Prop :=
  New h (.cells #[(.pointer z1), (.int .i64 z2), (.pointer z3), (.int .i64 z4)] 36) fun p6 h1 =>
  New h1 (.cells #[(.pointer none), (.int .i64 0), (.pointer none), (.int .i64 0)] 36) fun p9 h2 =>
  LdP h2 (Addr.add (Addr.add p6 2) 0) fun x12 =>
  LdI h2 (Addr.add (Addr.add p6 2) 1) fun x14 =>
  list_List_Pop r x12 x14 h2 fun y16 y17 y18 y19 h3 =>
  New h3 (.cells #[(.pointer none), (.int .i64 0)] 34) fun p20 h4 =>
  St h4 p20 2 [(.pointer y17), (.int .i64 y18)] fun h5 =>
  Br (!y19) (
    LdP h5 (Addr.add p6 0) fun x25 =>
    LdI h5 (Addr.add p6 1) fun x27 =>
    LdP h5 (Addr.add p6 2) fun x29 =>
    LdI h5 (Addr.add p6 3) fun x31 =>
    St h5 p9 4 [(.pointer x25), (.int .i64 x27), (.pointer x29), (.int .i64 x31)] fun h6 =>
    LdP h6 (Addr.add p9 0) fun x35 =>
    LdI h6 (Addr.add p9 1) fun x37 =>
    LdP h6 (Addr.add p9 2) fun x39 =>
    LdI h6 (Addr.add p9 3) fun x41 =>
    R x35 x37 x39 x41 false h6) (
    LdP h5 (Addr.add (Addr.add p6 0) 0) fun x43 =>
    LdI h5 (Addr.add (Addr.add p6 0) 1) fun x45 =>
    LdP h5 (Addr.add p20 0) fun x47 =>
    LdI h5 (Addr.add p20 1) fun x49 =>
    list_List_Push r x47 x49 x5 h5 fun y51 y52 h7 =>
    (hcell h7 (Addr.add (Addr.add p6 0) 0) = some (.pointer x43)) ∧
    (hcell h7 (Addr.add (Addr.add p6 0) 1) = some (.int .i64 x45)) ∧
    St h7 p9 4 [(.pointer x43), (.int .i64 x45), (.pointer y51), (.int .i64 y52)] fun h8 =>
    LdP h8 (Addr.add p9 0) fun x57 =>
    LdI h8 (Addr.add p9 1) fun x59 =>
    LdP h8 (Addr.add p9 2) fun x61 =>
    LdI h8 (Addr.add p9 3) fun x63 =>
    R x57 x59 x61 x63 true h8)

set_option maxRecDepth 100000 in
theorem zip_Zip_Set_of {r : World} {z1 : Option Addr} {z2 : Int} {z3 : Option Addr} {z4 : Int} {x5 : Int} {h : Heap} {R : Option Addr → Int → Option Addr → Int → Bool → Heap → Prop} (H : zip_Zip_Set_F r z1 z2 z3 z4 x5 h R) : zip_Zip_Set r z1 z2 z3 z4 x5 h R := by
  unfold zip_Zip_Set_F at H
  refine calls_of 25 [.cell 4 36, .tmp 5] Try.func32 rfl rfl rfl rfl rfl ?_
  refine W_seq ?_
  refine W_region (.ef 0 [] (.ef 1 [] (.pu 2 .fin) .no) .no) rfl rfl ?_
  obtain ⟨p6, e7⟩ : ∃ p : Addr, p = ⟨h.size, 0, none⟩ := ⟨_, rfl⟩
  obtain ⟨h1, e8⟩ : ∃ hh : Heap, hh = h.push (.cells #[(.pointer z1), (.int .i64 z2), (.pointer z3), (.int .i64 z4)] 36) := ⟨_, rfl⟩
  have H := H p6 h1 e7 e8
  refine s_ef1 (d := some 2) (v := (.pointer (some p6))) (h' := h1) rfl rfl rfl (fun dr => (r_box (v := (.agg #[(.pointer z1), (.int .i64 z2), (.pointer z3), (.int .i64 z4)])) rfl).trans (by rw [e7, e8]; rfl)) trivial ?_ trivial
  obtain ⟨p9, e10⟩ : ∃ p : Addr, p = ⟨h1.size, 0, none⟩ := ⟨_, rfl⟩
  obtain ⟨h2, e11⟩ : ∃ hh : Heap, hh = h1.push (.cells #[(.pointer none), (.int .i64 0), (.pointer none), (.int .i64 0)] 36) := ⟨_, rfl⟩
  have H := H p9 h2 e10 e11
  refine s_ef1 (d := some 4) (v := (.pointer (some p9))) (h' := h2) rfl rfl rfl (fun dr => (r_alloc Try.zeroValue36).trans (by rw [e10, e11]; rfl)) trivial ?_ trivial
  refine s_pu (d := some 5) (v := (.bool false)) rfl rfl rfl (r_assign rfl) ?_
  refine s_fin ?_
  show W _ _ _ _ _ _ _ _
  refine W_seq ?_
  refine W_region (.pu 0 (.rl 1 (.ef 2 [] (.pu 3 (.pu 4 (.pu 5 (.pu 6 (.ef 7 [] (.pu 8 (.ef 9 [] (.pu 10 .fin) .no)) .no))))) .no))) rfl rfl ?_
  refine s_pu (d := some 10) (v := (.pointer (some (Addr.add p6 2)))) rfl rfl rfl (r_fieldAddr Try.underlying36 Try.sizeOf34 rfl rfl rfl) ?_
  obtain ⟨x12, e13, H⟩ := H
  obtain ⟨x14, e15, H⟩ := H
  refine s_rl (d := some 11) (v := (.agg #[(.pointer x12), (.int .i64 x14)])) rfl rfl rfl (fun dr => r_loadN Try.isAgg34 Try.sizeOf34 (vs := [(.pointer x12), (.int .i64 x14)]) rfl rfl ⟨e13, e15, trivial⟩) ?_
  refine s_ef (d := some 12) rfl rfl rfl (fun dr => r_call Try.call49 rfl rfl H) ?_ trivial
  rintro _ h3 ⟨y16, y17, y18, y19, rfl, H⟩
  refine ⟨trivial, ?_⟩
  refine s_pu (d := some 9) (v := (.tuple #[(.int .i64 y16), (.agg #[(.pointer y17), (.int .i64 y18)]), (.bool y19)])) rfl rfl rfl (r_move rfl) ?_
  refine s_pu (d := some 13) (v := (.int .i64 y16)) rfl rfl rfl (r_extract rfl rfl) ?_
  refine s_pu (d := some 14) (v := (.agg #[(.pointer y17), (.int .i64 y18)])) rfl rfl rfl (r_extract rfl rfl) ?_
  refine s_pu (d := some 15) (v := (.bool y19)) rfl rfl rfl (r_extract rfl rfl) ?_
  obtain ⟨p20, e21⟩ : ∃ p : Addr, p = ⟨h3.size, 0, none⟩ := ⟨_, rfl⟩
  obtain ⟨h4, e22⟩ : ∃ hh : Heap, hh = h3.push (.cells #[(.pointer none), (.int .i64 0)] 34) := ⟨_, rfl⟩
  have H := H p20 h4 e21 e22
  refine s_ef1 (d := some 7) (v := (.pointer (some p20))) (h' := h4) rfl rfl rfl (fun dr => (r_alloc Try.zeroValue34).trans (by rw [e21, e22]; rfl)) trivial ?_ trivial
  refine s_pu (d := some 6) (v := (.int .i64 y16)) rfl rfl rfl (r_assign rfl) ?_
  obtain ⟨e24, H⟩ := H
  obtain ⟨h5, e23⟩ : ∃ hh : Heap, hh = hsets h4 p20 0 [(.pointer y17), (.int .i64 y18)] := ⟨_, rfl⟩
  have H := H h5 e23
  refine s_st (d := none) (h' := h5) rfl rfl rfl (fun dr => (r_store (v := (.agg #[(.pointer y17), (.int .i64 y18)])) Try.sizeOf34 rfl rfl rfl (one_all rfl) e24).trans (by rw [e23]; rfl)) trivial ?_ trivial
  refine s_pu (d := some 8) (v := (.bool y19)) rfl rfl rfl (r_assign rfl) ?_
  refine s_fin ?_
  show W _ _ _ _ _ _ _ _
  refine W_seq ?_
  refine W_seq ?_
  refine W_region (.pu 0 (.pu 1 .fin)) rfl rfl ?_
  refine s_pu (d := some 16) (v := (.bool y19)) rfl rfl rfl (r_move rfl) ?_
  refine s_pu (d := some 17) (v := (.bool (!y19))) rfl rfl rfl (r_not rfl) ?_
  refine s_fin ?_
  show W _ _ _ _ _ _ _ _
  refine W_if (!y19) rfl (fun g65 => ?_) (fun g65 => ?_)
  · have H := H.1 g65
    refine W_seq ?_
    refine W_region (.rl 0 (.ef 1 [] (.pu 2 .fin) .no)) rfl rfl ?_
    obtain ⟨x25, e26, H⟩ := H
    obtain ⟨x27, e28, H⟩ := H
    obtain ⟨x29, e30, H⟩ := H
    obtain ⟨x31, e32, H⟩ := H
    refine s_rl (d := some 18) (v := (.agg #[(.pointer x25), (.int .i64 x27), (.pointer x29), (.int .i64 x31)])) rfl rfl rfl (fun dr => r_loadN Try.isAgg36 Try.sizeOf36 (vs := [(.pointer x25), (.int .i64 x27), (.pointer x29), (.int .i64 x31)]) rfl rfl ⟨e26, e28, e30, e32, trivial⟩) ?_
    obtain ⟨e34, H⟩ := H
    obtain ⟨h6, e33⟩ : ∃ hh : Heap, hh = hsets h5 p9 0 [(.pointer x25), (.int .i64 x27), (.pointer x29), (.int .i64 x31)] := ⟨_, rfl⟩
    have H := H h6 e33
    refine s_st (d := none) (h' := h6) rfl rfl rfl (fun dr => (r_store (v := (.agg #[(.pointer x25), (.int .i64 x27), (.pointer x29), (.int .i64 x31)])) Try.sizeOf36 rfl rfl rfl (one_all rfl) e34).trans (by rw [e33]; rfl)) trivial ?_ trivial
    refine s_pu (d := some 5) (v := (.bool false)) rfl rfl rfl (r_assign rfl) ?_
    refine s_fin ?_
    show W _ _ _ _ _ _ _ _
    refine W_ret ?_
    obtain ⟨x35, e36, H⟩ := H
    obtain ⟨x37, e38, H⟩ := H
    obtain ⟨x39, e40, H⟩ := H
    obtain ⟨x41, e42, H⟩ := H
    exact ⟨[(.agg #[(.pointer x35), (.int .i64 x37), (.pointer x39), (.int .i64 x41)]), (.bool false)], ⟨_, _, _, rfl, rfl, fun dr => run_loadVarN Try.isAgg36 Try.sizeOf36 (vs := [(.pointer x35), (.int .i64 x37), (.pointer x39), (.int .i64 x41)]) rfl ⟨e36, e38, e40, e42, trivial⟩, ⟨_, _, rfl, rfl, rfl⟩⟩, x35, x37, x39, x41, false, rfl, H⟩
  · have H := H.2 g65
    refine W_skip ?_
    show W _ _ _ _ _ _ _ _
    refine W_seq ?_
    refine W_draw [0, 1, 0, 0, 12, 31, 63, 127] (.pu 0 (.rd 1 (.rd 2 (.pu 3 (.ef 4 [2] (.pu 5 (.ef 6 [1, 2] (.pu 7 .fin) .no)) .no))))) (by kernel_rfl) (by kernel_rfl) ?_
    refine s_pu (d := some 19) (v := (.pointer (some (Addr.add p6 0)))) rfl rfl rfl (r_fieldAddr Try.underlying36 Try.sizeOf34 rfl rfl rfl) ?_
    obtain ⟨x43, e44, H⟩ := H
    obtain ⟨x45, e46, H⟩ := H
    refine s_rd (d := some 20) (v := (.agg #[(.pointer x43), (.int .i64 x45)])) rfl rfl rfl (fun dr => r_loadN Try.isAgg34 Try.sizeOf34 (vs := [(.pointer x43), (.int .i64 x45)]) rfl rfl ⟨e44, e46, trivial⟩) ?_
    obtain ⟨x47, e48, H⟩ := H
    obtain ⟨x49, e50, H⟩ := H
    refine s_rd (d := some 21) (v := (.agg #[(.pointer x47), (.int .i64 x49)])) rfl rfl rfl (fun dr => r_loadN Try.isAgg34 Try.sizeOf34 (vs := [(.pointer x47), (.int .i64 x49)]) rfl rfl ⟨e48, e50, trivial⟩) ?_
    refine s_pu (d := some 22) (v := (.int .i64 x5)) rfl rfl rfl (r_move rfl) ?_
    refine s_ef (d := some 23) rfl rfl rfl (fun dr => r_call Try.call50 rfl rfl H) ?_ trivial
    rintro _ h7 ⟨y51, y52, rfl, H⟩
    obtain ⟨e53, H⟩ := H
    obtain ⟨e54, H⟩ := H
    refine ⟨⟨trivial, (.inl ⟨rfl, fun dr => r_loadN Try.isAgg34 Try.sizeOf34 (vs := [(.pointer x43), (.int .i64 x45)]) rfl rfl ⟨e53, e54, trivial⟩⟩), trivial⟩, ?_⟩
    refine s_pu (d := some 24) (v := (.agg #[(.pointer x43), (.int .i64 x45), (.pointer y51), (.int .i64 y52)])) rfl rfl rfl (fun w => by kernel_rfl) ?_
    obtain ⟨e56, H⟩ := H
    obtain ⟨h8, e55⟩ : ∃ hh : Heap, hh = hsets h7 p9 0 [(.pointer x43), (.int .i64 x45), (.pointer y51), (.int .i64 y52)] := ⟨_, rfl⟩
    have H := H h8 e55
    refine s_st (d := none) (h' := h8) rfl rfl rfl (fun dr => (r_store (v := (.agg #[(.pointer x43), (.int .i64 x45), (.pointer y51), (.int .i64 y52)])) Try.sizeOf36 rfl rfl rfl (one_all rfl) e56).trans (by rw [e55]; rfl)) ⟨trivial, trivial, trivial⟩ ?_ trivial
    refine s_pu (d := some 5) (v := (.bool true)) rfl rfl rfl (r_assign rfl) ?_
    refine s_fin ?_
    show W _ _ _ _ _ _ _ _
    refine W_ret ?_
    obtain ⟨x57, e58, H⟩ := H
    obtain ⟨x59, e60, H⟩ := H
    obtain ⟨x61, e62, H⟩ := H
    obtain ⟨x63, e64, H⟩ := H
    exact ⟨[(.agg #[(.pointer x57), (.int .i64 x59), (.pointer x61), (.int .i64 x63)]), (.bool true)], ⟨_, _, _, rfl, rfl, fun dr => run_loadVarN Try.isAgg36 Try.sizeOf36 (vs := [(.pointer x57), (.int .i64 x59), (.pointer x61), (.int .i64 x63)]) rfl ⟨e58, e60, e62, e64, trivial⟩, ⟨_, _, rfl, rfl, rfl⟩⟩, x57, x59, x61, x63, true, rfl, H⟩

/-! ### zip_Zip_At -/

def zip_Zip_At_F (r : World) (z1 : Option Addr) (z2 : Int) (z3 : Option Addr) (z4 : Int) (h : Heap) (R : Int → Bool → Heap → Prop) : Prop :=
  New h (.cells #[(.pointer z1), (.int .i64 z2), (.pointer z3), (.int .i64 z4)] 36) fun p5 h1 =>
  LdP h1 (Addr.add (Addr.add p5 2) 0) fun x8 =>
  LdI h1 (Addr.add (Addr.add p5 2) 1) fun x10 =>
  list_List_At r x8 x10 0 h1 fun y12 y13 h2 =>
  R y12 y13 h2

set_option maxRecDepth 100000 in
theorem zip_Zip_At_of {r : World} {z1 : Option Addr} {z2 : Int} {z3 : Option Addr} {z4 : Int} {h : Heap} {R : Int → Bool → Heap → Prop} (H : zip_Zip_At_F r z1 z2 z3 z4 h R) : zip_Zip_At r z1 z2 z3 z4 h R := by
  unfold zip_Zip_At_F at H
  refine calls_of 9 [.tmp 2, .tmp 3] Try.func34 rfl rfl rfl rfl rfl ?_
  refine W_seq ?_
  refine W_region (.ef 0 [] (.pu 1 (.pu 2 .fin)) .no) rfl rfl ?_
  obtain ⟨p5, e6⟩ : ∃ p : Addr, p = ⟨h.size, 0, none⟩ := ⟨_, rfl⟩
  obtain ⟨h1, e7⟩ : ∃ hh : Heap, hh = h.push (.cells #[(.pointer z1), (.int .i64 z2), (.pointer z3), (.int .i64 z4)] 36) := ⟨_, rfl⟩
  have H := H p5 h1 e6 e7
  refine s_ef1 (d := some 1) (v := (.pointer (some p5))) (h' := h1) rfl rfl rfl (fun dr => (r_box (v := (.agg #[(.pointer z1), (.int .i64 z2), (.pointer z3), (.int .i64 z4)])) rfl).trans (by rw [e6, e7]; rfl)) trivial ?_ trivial
  refine s_pu (d := some 2) (v := (.int .i64 0)) rfl rfl rfl (r_assign rfl) ?_
  refine s_pu (d := some 3) (v := (.bool false)) rfl rfl rfl (r_assign rfl) ?_
  refine s_fin ?_
  show W _ _ _ _ _ _ _ _
  refine W_seq ?_
  refine W_region (.pu 0 (.rl 1 (.ef 2 [] (.pu 3 (.pu 4 (.pu 5 (.pu 6 .fin)))) .no))) rfl rfl ?_
  refine s_pu (d := some 4) (v := (.pointer (some (Addr.add p5 2)))) rfl rfl rfl (r_fieldAddr Try.underlying36 Try.sizeOf34 rfl rfl rfl) ?_
  obtain ⟨x8, e9, H⟩ := H
  obtain ⟨x10, e11, H⟩ := H
  refine s_rl (d := some 5) (v := (.agg #[(.pointer x8), (.int .i64 x10)])) rfl rfl rfl (fun dr => r_loadN Try.isAgg34 Try.sizeOf34 (vs := [(.pointer x8), (.int .i64 x10)]) rfl rfl ⟨e9, e11, trivial⟩) ?_
  refine s_ef (d := some 6) rfl rfl rfl (fun dr => r_call Try.call56 rfl rfl H) ?_ trivial
  rintro _ h2 ⟨y12, y13, rfl, H⟩
  refine ⟨trivial, ?_⟩
  refine s_pu (d := some 7) (v := (.int .i64 y12)) rfl rfl rfl (r_extract rfl rfl) ?_
  refine s_pu (d := some 8) (v := (.bool y13)) rfl rfl rfl (r_extract rfl rfl) ?_
  refine s_pu (d := some 2) (v := (.int .i64 y12)) rfl rfl rfl (r_assign rfl) ?_
  refine s_pu (d := some 3) (v := (.bool y13)) rfl rfl rfl (r_assign rfl) ?_
  refine s_fin ?_
  show W _ _ _ _ _ _ _ _
  refine W_ret ?_
  exact ⟨[(.int .i64 y12), (.bool y13)], ⟨_, _, rfl, rfl, ⟨_, _, rfl, rfl, rfl⟩⟩, y12, y13, rfl, H⟩

/-! ### ref1_With -/

def ref1_With_F (r : World) (l1 : Sl) (i2 : Int) (x3 : Int) (h : Heap) (R : Sl → Heap → Prop) : Prop :=
  Sub l1 0 i2 ((l1.cap : Int)) 1 fun s4 =>
  App 3 1 8 (.int .i64 0) Sl.nil s4 h fun s10 h1 =>
  New h1 (.cells #[(.int .i64 x3)] 3) fun p11 h2 =>
  App 3 1 8 (.int .i64 0) s10 ((⟨some p11, 1, 1⟩ : Sl)) h2 fun s14 h3 =>
  Sub l1 i2 ((l1.len : Int)) ((l1.cap : Int)) 1 fun s15 =>
  App 3 1 8 (.int .i64 0) s14 s15 h3 fun s21 h4 =>
  R s21 h4

set_option maxRecDepth 100000 in
theorem ref1_With_of {r : World} {l1 : Sl} {i2 : Int} {x3 : Int} {h : Heap} {R : Sl → Heap → Prop} (H : ref1_With_F r l1 i2 x3 h R) : ref1_With r l1 i2 x3 h R := by
  unfold ref1_With_F at H
  refine calls_of 22 [.tmp 6] Try.func29 rfl rfl rfl rfl rfl ?_
  refine W_seq ?_
  refine W_region (.pu 0 .fin) rfl rfl ?_
  refine s_pu (d := some 6) (v := (Sl.v Sl.nil)) rfl rfl rfl (r_assign rfl) ?_
  refine s_fin ?_
  show W _ _ _ _ _ _ _ _
  refine W_seq ?_
  refine W_region (.pu 0 .fin) rfl rfl ?_
  refine s_pu (d := some 7) (v := (Sl.v Sl.nil)) rfl rfl rfl (r_assign rfl) ?_
  refine s_fin ?_
  show W _ _ _ _ _ _ _ _
  refine W_seq ?_
  refine W_region (.pu 0 (.pu 1 (.pu 2 (.pu 3 (.ef 4 [] (.pu 5 .fin) .no))))) rfl rfl ?_
  refine s_pu (d := some 8) (v := (Sl.v Sl.nil)) rfl rfl rfl (r_move rfl) ?_
  refine s_pu (d := some 9) (v := (Sl.v l1)) rfl rfl rfl (r_move rfl) ?_
  refine s_pu (d := some 10) (v := (.int .i64 i2)) rfl rfl rfl (r_move rfl) ?_
  obtain ⟨e5, e6, e7, e8, H⟩ := H
  obtain ⟨s4, e9⟩ : ∃ t : Sl, t = ⟨sliceA l1.a (Int.toNat ((l1.cap : Int))) (Int.toNat 0) 1, Int.toNat i2 - Int.toNat 0, Int.toNat ((l1.cap : Int)) - Int.toNat 0⟩ := ⟨_, rfl⟩
  have H := H s4 e9
  refine s_pu (d := some 11) (v := (Sl.v s4)) rfl rfl rfl (fun w => (r_slice (lo := .none) (hi := (.some (.tmp 10))) (mx := .none) Try.underlying22 Try.sizeOf3 rfl ((l1.cap : Int)) i2 0 rfl ⟨_, rfl⟩ rfl e5 e6 (.inr e7) e8 w).trans (by rw [e9]; rfl)) ?_
  refine s_ef (d := some 12) rfl rfl rfl (fun dr => slFZip_22.append rfl rfl H) ?_ trivial
  rintro _ h1 ⟨s10, rfl, H⟩
  refine ⟨trivial, ?_⟩
  refine s_pu (d := some 7) (v := (Sl.v s10)) rfl rfl rfl (r_assign rfl) ?_
  refine s_fin ?_
  show W _ _ _ _ _ _ _ _
  refine W_seq ?_
  refine W_region (.pu 0 (.pu 1 (.ef 2 [] (.ef 3 [] (.pu 4 .fin) .no) .no))) rfl rfl ?_
  refine s_pu (d := some 13) (v := (Sl.v s10)) rfl rfl rfl (r_move rfl) ?_
  refine s_pu (d := some 14) (v := (.int .i64 x3)) rfl rfl rfl (r_move rfl) ?_
  obtain ⟨p11, e12⟩ : ∃ p : Addr, p = ⟨h1.size, 0, none⟩ := ⟨_, rfl⟩
  obtain ⟨h2, e13⟩ : ∃ hh : Heap, hh = h1.push (.cells #[(.int .i64 x3)] 3) := ⟨_, rfl⟩
  have H := H p11 h2 e12 e13
  refine s_ef1 (d := some 15) (v := (Sl.v ((⟨some p11, 1, 1⟩ : Sl)))) (h' := h2) rfl rfl rfl (fun dr => (slFZip_22.build (cells := #[(.int .i64 x3)]) (by decide) rfl (by kernel_rfl)).trans (by rw [e12, e13]; rfl)) trivial ?_ trivial
  refine s_ef (d := some 16) rfl rfl rfl (fun dr => slFZip_22.append rfl rfl H) ?_ trivial
  rintro _ h3 ⟨s14, rfl, H⟩
  refine ⟨trivial, ?_⟩
  refine s_pu (d := some 7) (v := (Sl.v s14)) rfl rfl rfl (r_assign rfl) ?_
  refine s_fin ?_
  show W _ _ _ _ _ _ _ _
  refine W_seq ?_
  refine W_region (.pu 0 (.pu 1 (.pu 2 (.pu 3 (.ef 4 [] (.pu 5 .fin) .no))))) rfl rfl ?_
  refine s_pu (d := some 17) (v := (Sl.v s14)) rfl rfl rfl (r_move rfl) ?_
  refine s_pu (d := some 18) (v := (Sl.v l1)) rfl rfl rfl (r_move rfl) ?_
  refine s_pu (d := some 19) (v := (.int .i64 i2)) rfl rfl rfl (r_move rfl) ?_
  obtain ⟨e16, e17, e18, e19, H⟩ := H
  obtain ⟨s15, e20⟩ : ∃ t : Sl, t = ⟨sliceA l1.a (Int.toNat ((l1.cap : Int))) (Int.toNat i2) 1, Int.toNat ((l1.len : Int)) - Int.toNat i2, Int.toNat ((l1.cap : Int)) - Int.toNat i2⟩ := ⟨_, rfl⟩
  have H := H s15 e20
  refine s_pu (d := some 20) (v := (Sl.v s15)) rfl rfl rfl (fun w => (r_slice (lo := (.some (.tmp 19))) (hi := .none) (mx := .none) Try.underlying22 Try.sizeOf3 rfl ((l1.cap : Int)) ((l1.len : Int)) i2 rfl ⟨rfl, rfl⟩ ⟨_, rfl⟩ e16 e17 (.inl rfl) e19 w).trans (by rw [e20]; rfl)) ?_
  refine s_ef (d := some 21) rfl rfl rfl (fun dr => slFZip_22.append rfl rfl H) ?_ trivial
  rintro _ h4 ⟨s21, rfl, H⟩
  refine ⟨trivial, ?_⟩
  refine s_pu (d := some 6) (v := (Sl.v s21)) rfl rfl rfl (r_assign rfl) ?_
  refine s_fin ?_
  show W _ _ _ _ _ _ _ _
  refine W_ret ?_
  exact ⟨[(Sl.v s21)], ⟨_, _, rfl, rfl, rfl⟩, s21, rfl, H⟩

/-! ### ref1_Without -/

def ref1_Without_F (r : World) (l1 : Sl) (i2 : Int) (h : Heap) (R : Sl → Heap → Prop) : Prop :=
  Sub l1 0 i2 ((l1.cap : Int)) 1 fun s3 =>
  App 3 1 8 (.int .i64 0) Sl.nil s3 h fun s9 h1 =>
  Sub l1 (w64 (i2 + 1)) ((l1.len : Int)) ((l1.cap : Int)) 1 fun s10 =>
  App 3 1 8 (.int .i64 0) s9 s10 h1 fun s16 h2 =>
  R s16 h2

set_option maxRecDepth 100000 in
theorem ref1_Without_of {r : World} {l1 : Sl} {i2 : Int} {h : Heap} {R : Sl → Heap → Prop} (H : ref1_Without_F r l1 i2 h R) : ref1_Without r l1 i2 h R := by
  unfold ref1_Without_F at H
  refine calls_of 17 [.tmp 4] Try.func31 rfl rfl rfl rfl rfl ?_
  refine W_seq ?_
  refine W_region (.pu 0 .fin) rfl rfl ?_
  refine s_pu (d := some 4) (v := (Sl.v Sl.nil)) rfl rfl rfl (r_assign rfl) ?_
  refine s_fin ?_
  show W _ _ _ _ _ _ _ _
  refine W_seq ?_
  refine W_region (.pu 0 .fin) rfl rfl ?_
  refine s_pu (d := some 5) (v := (Sl.v Sl.nil)) rfl rfl rfl (r_assign rfl) ?_
  refine s_fin ?_
  show W _ _ _ _ _ _ _ _
  refine W_seq ?_
  refine W_region (.pu 0 (.pu 1 (.pu 2 (.pu 3 (.ef 4 [] (.pu 5 .fin) .no))))) rfl rfl ?_
  refine s_pu (d := some 6) (v := (Sl.v Sl.nil)) rfl rfl rfl (r_move rfl) ?_
  refine s_pu (d := some 7) (v := (Sl.v l1)) rfl rfl rfl (r_move rfl) ?_
  refine s_pu (d := some 8) (v := (.int .i64 i2)) rfl rfl rfl (r_move rfl) ?_
  obtain ⟨e4, e5, e6, e7, H⟩ := H
  obtain ⟨s3, e8⟩ : ∃ t : Sl, t = ⟨sliceA l1.a (Int.toNat ((l1.cap : Int))) (Int.toNat 0) 1, Int.toNat i2 - Int.toNat 0, Int.toNat ((l1.cap : Int)) - Int.toNat 0⟩ := ⟨_, rfl⟩
  have H := H s3 e8
  refine s_pu (d := some 9) (v := (Sl.v s3)) rfl rfl rfl (fun w => (r_slice (lo := .none) (hi := (.some (.tmp 8))) (mx := .none) Try.underlying22 Try.sizeOf3 rfl ((l1.cap : Int)) i2 0 rfl ⟨_, rfl⟩ rfl e4 e5 (.inr e6) e7 w).trans (by rw [e8]; rfl)) ?_
  refine s_ef (d := some 10) rfl rfl rfl (fun dr => slFZip_22.append rfl rfl H) ?_ trivial
  rintro _ h1 ⟨s9, rfl, H⟩
  refine ⟨trivial, ?_⟩
  refine s_pu (d := some 5) (v := (Sl.v s9)) rfl rfl rfl (r_assign rfl) ?_
  refine s_fin ?_
  show W _ _ _ _ _ _ _ _
  refine W_seq ?_
  refine W_region (.pu 0 (.pu 1 (.pu 2 (.pu 3 (.pu 4 (.ef 5 [] (.pu 6 .fin) .no)))))) rfl rfl ?_
  refine s_pu (d := some 11) (v := (Sl.v s9)) rfl rfl rfl (r_move rfl) ?_
  refine s_pu (d := some 12) (v := (Sl.v l1)) rfl rfl rfl (r_move rfl) ?_
  refine s_pu (d := some 13) (v := (.int .i64 i2)) rfl rfl rfl (r_move rfl) ?_
  refine s_pu (d := some 14) (v := (.int .i64 (w64 (i2 + 1)))) rfl rfl rfl (r_add rfl rfl) ?_
  obtain ⟨e11, e12, e13, e14, H⟩ := H
  obtain ⟨s10, e15⟩ : ∃ t : Sl, t = ⟨sliceA l1.a (Int.toNat ((l1.cap : Int))) (Int.toNat (w64 (i2 + 1))) 1, Int.toNat ((l1.len : Int)) - Int.toNat (w64 (i2 + 1)), Int.toNat ((l1.cap : Int)) - Int.toNat (w64 (i2 + 1))⟩ := ⟨_, rfl⟩
  have H := H s10 e15
  refine s_pu (d := some 15) (v := (Sl.v s10)) rfl rfl rfl (fun w => (r_slice (lo := (.some (.tmp 14))) (hi := .none) (mx := .none) Try.underlying22 Try.sizeOf3 rfl ((l1.cap : Int)) ((l1.len : Int)) (w64 (i2 + 1)) rfl ⟨rfl, rfl⟩ ⟨_, rfl⟩ e11 e12 (.inl rfl) e14 w).trans (by rw [e15]; rfl)) ?_
  refine s_ef (d := some 16) rfl rfl rfl (fun dr => slFZip_22.append rfl rfl H) ?_ trivial
  rintro _ h2 ⟨s16, rfl, H⟩
  refine ⟨trivial, ?_⟩
  refine s_pu (d := some 4) (v := (Sl.v s16)) rfl rfl rfl (r_assign rfl) ?_
  refine s_fin ?_
  show W _ _ _ _ _ _ _ _
  refine W_ret ?_
  exact ⟨[(Sl.v s16)], ⟨_, _, rfl, rfl, rfl⟩, s16, rfl, H⟩

/-! ### ref1_Put -/

def ref1_Put_F (r : World) (l1 : Sl) (i2 : Int) (x3 : Int) (h : Heap) (R : Sl → Heap → Prop) : Prop :=
  ref1_Cat r l1 Sl.nil h fun y4 h1 =>
  Ix y4 i2 1 fun q9 =>
  St h1 q9 1 [(.int .i64 x3)] fun h2 =>
  R y4 h2

set_option maxRecDepth 100000 in
theorem ref1_Put_of {r : World} {l1 : Sl} {i2 : Int} {x3 : Int} {h : Heap} {R : Sl → Heap → Prop} (H : ref1_Put_F r l1 i2 x3 h R) : ref1_Put r l1 i2 x3 h R := by
  unfold ref1_Put_F at H
  refine calls_of 15 [.tmp 6] Try.func33 rfl rfl rfl rfl rfl ?_
  refine W_seq ?_
  refine W_region (.pu 0 .fin) rfl rfl ?_
  refine s_pu (d := some 6) (v := (Sl.v Sl.nil)) rfl rfl rfl (r_assign rfl) ?_
  refine s_fin ?_
  show W _ _ _ _ _ _ _ _
  refine W_seq ?_
  refine W_region (.pu 0 (.ef 1 [] (.pu 2 .fin) .no)) rfl rfl ?_
  refine s_pu (d := some 8) (v := (Sl.v l1)) rfl rfl rfl (r_move rfl) ?_
  refine s_ef (d := some 9) rfl rfl rfl (fun dr => r_call Try.call35 rfl rfl H) ?_ trivial
  rintro _ h1 ⟨y4, rfl, H⟩
  refine ⟨trivial, ?_⟩
  refine s_pu (d := some 7) (v := (Sl.v y4)) rfl rfl rfl (r_assign rfl) ?_
  refine s_fin ?_
  show W _ _ _ _ _ _ _ _
  refine W_seq ?_
  refine W_region (.pu 0 (.pu 1 (.pu 2 (.pu 3 (.ef 4 [] .fin .no))))) rfl rfl ?_
  refine s_pu (d := some 10) (v := (Sl.v y4)) rfl rfl rfl (r_move rfl) ?_
  refine s_pu (d := some 11) (v := (.int .i64 i2)) rfl rfl rfl (r_move rfl) ?_
  refine s_pu (d := some 12) (v := (.int .i64 x3)) rfl rfl rfl (r_move rfl) ?_
  obtain ⟨p5, e6, e7, e8, H⟩ := H
  obtain ⟨q9, e10⟩ : ∃ q : Addr, q = Addr.add p5 (Int.toNat i2 * 1) := ⟨_, rfl⟩
  rw [← e10] at H
  refine s_pu (d := some 13) (v := (.pointer (some q9))) rfl rfl rfl (fun w => (r_indexAddr Try.underlying22 Try.sizeOf3 rfl rfl e6 e7 e8 w).trans (by rw [e10])) ?_
  obtain ⟨e12, H⟩ := H
  obtain ⟨h2, e11⟩ : ∃ hh : Heap, hh = hsets h1 q9 0 [(.int .i64 x3)] := ⟨_, rfl⟩
  have H := H h2 e11
  refine s_st (d := none) (h' := h2) rfl rfl rfl (fun dr => (r_store (v := (.int .i64 x3)) Try.sizeOf3 rfl rfl rfl (one_all rfl) e12).trans (by rw [e11]; rfl)) trivial ?_ trivial
  refine s_fin ?_
  show W _ _ _ _ _ _ _ _
  refine W_seq ?_
  refine W_region (.pu 0 (.pu 1 .fin)) rfl rfl ?_
  refine s_pu (d := some 14) (v := (Sl.v y4)) rfl rfl rfl (r_move rfl) ?_
  refine s_pu (d := some 6) (v := (Sl.v y4)) rfl rfl rfl (r_assign rfl) ?_
  refine s_fin ?_
  show W _ _ _ _ _ _ _ _
  refine W_ret ?_
  exact ⟨[(Sl.v y4)], ⟨_, _, rfl, rfl, rfl⟩, y4, rfl, H⟩

/-! ### ref1_Cat -/

def ref1_Cat_F (r : World) (a1 : Sl) (vb2 : Sl) (h : Heap) (R : Sl → Heap → Prop) : Prop :=
  App 3 1 8 (.int .i64 0) Sl.nil a1 h fun s3 h1 =>
  App 3 1 8 (.int .i64 0) s3 vb2 h1 fun s4 h2 =>
  R s4 h2

set_option maxRecDepth 100000 in
theorem ref1_Cat_of {r : World} {a1 : Sl} {vb2 : Sl} {h : Heap} {R : Sl → Heap → Prop} (H : ref1_Cat_F r a1 vb2 h R) : ref1_Cat r a1 vb2 h R := by
  unfold ref1_Cat_F at H
  refine calls_of 12 [.tmp 4] Try.func35 rfl rfl rfl rfl rfl ?_
  refine W_seq ?_
  refine W_region (.pu 0 .fin) rfl rfl ?_
  refine s_pu (d := some 4) (v := (Sl.v Sl.nil)) rfl rfl rfl (r_assign rfl) ?_
  refine s_fin ?_
  show W _ _ _ _ _ _ _ _
  refine W_seq ?_
  refine W_region (.pu 0 .fin) rfl rfl ?_
  refine s_pu (d := some 5) (v := (Sl.v Sl.nil)) rfl rfl rfl (r_assign rfl) ?_
  refine s_fin ?_
  show W _ _ _ _ _ _ _ _
  refine W_seq ?_
  refine W_region (.pu 0 (.pu 1 (.ef 2 [] (.pu 3 .fin) .no))) rfl rfl ?_
  refine s_pu (d := some 6) (v := (Sl.v Sl.nil)) rfl rfl rfl (r_move rfl) ?_
  refine s_pu (d := some 7) (v := (Sl.v a1)) rfl rfl rfl (r_move rfl) ?_
  refine s_ef (d := some 8) rfl rfl rfl (fun dr => slFZip_22.append rfl rfl H) ?_ trivial
  rintro _ h1 ⟨s3, rfl, H⟩
  refine ⟨trivial, ?_⟩
  refine s_pu (d := some 5) (v := (Sl.v s3)) rfl rfl rfl (r_assign rfl) ?_
  refine s_fin ?_
  show W _ _ _ _ _ _ _ _
  refine W_seq ?_
  refine W_region (.pu 0 (.pu 1 (.ef 2 [] (.pu 3 .fin) .no))) rfl rfl ?_
  refine s_pu (d := some 9) (v := (Sl.v s3)) rfl rfl rfl (r_move rfl) ?_
  refine s_pu (d := some 10) (v := (Sl.v vb2)) rfl rfl rfl (r_move rfl) ?_
  refine s_ef (d := some 11) rfl rfl rfl (fun dr => slFZip_22.append rfl rfl H) ?_ trivial
  rintro _ h2 ⟨s4, rfl, H⟩
  refine ⟨trivial, ?_⟩
  refine s_pu (d := some 4) (v := (Sl.v s4)) rfl rfl rfl (r_assign rfl) ?_
  refine s_fin ?_
  show W _ _ _ _ _ _ _ _
  refine W_ret ?_
  exact ⟨[(Sl.v s4)], ⟨_, _, rfl, rfl, rfl⟩, s4, rfl, H⟩

/-! ### law3_zipped -/

def law3_zipped_F (r : World)  (h : Heap) (R : Bool → Heap → Prop) : Prop :=
  New h (.cells #[(.int .i64 5), (.int .i64 3)] 3) fun p1 h1 =>
  zip_Of r ((⟨some p1, 2, 2⟩ : Sl)) h1 fun y4 y5 y6 y7 h2 =>
  zip_Zip_Right r y4 y5 y6 y7 h2 fun y8 y9 y10 y11 y12 h3 =>
  New h3 (.cells #[(.pointer none), (.int .i64 0), (.pointer none), (.int .i64 0)] 36) fun p13 h4 =>
  St h4 p13 4 [(.pointer y8), (.int .i64 y9), (.pointer y10), (.int .i64 y11)] fun h5 =>
  LdP h5 (Addr.add p13 0) fun x18 =>
  LdI h5 (Addr.add p13 1) fun x20 =>
  LdP h5 (Addr.add p13 2) fun x22 =>
  LdI h5 (Addr.add p13 3) fun x24 =>
  zip_Zip_At r x18 x20 x22 x24 h5 fun y26 y27 h6 =>
  ∀ J29 : Bool → Heap → Prop, (∀ (x28 : Bool) (h7 : Heap),
    (R x28 h7) →
    J29 x28 h7) →
  Br y12 (
    Br y27 (
      Br (decide (y26 = 3)) (
        LdP h6 (Addr.add p13 0) fun x34 =>
        LdI h6 (Addr.add p13 1) fun x36 =>
        LdP h6 (Addr.add p13 2) fun x38 =>
        LdI h6 (Addr.add p13 3) fun x40 =>
        zip_Zip_Place r x34 x36 x38 x40 h6 fun y42 h8 =>
        J29 (decide (y42 = 1)) h8) (
        J29 false h6)) (
      J29 false h6)) (
    J29 false h6)

set_option maxRecDepth 100000 in
theorem law3_zipped_of {r : World}  {h : Heap} {R : Bool → Heap → Prop} (H : law3_zipped_F r  h R) : law3_zipped r  h R := by
  unfold law3_zipped_F at H
  refine calls_of 29 [.tmp 0] Try.func13 rfl rfl rfl rfl rfl ?_
  refine W_seq ?_
  refine W_region (.pu 0 .fin) rfl rfl ?_
  refine s_pu (d := some 0) (v := (.bool false)) rfl rfl rfl (r_assign rfl) ?_
  refine s_fin ?_
  show W _ _ _ _ _ _ _ _
  refine W_seq ?_
  refine W_region (.ef 0 [] (.ef 1 [] (.ef 2 [] (.pu 3 (.pu 4 (.pu 5 (.ef 6 [] (.ef 7 [] (.pu 8 .fin) .no) .no)))) .no) .no) .no) rfl rfl ?_
  obtain ⟨p1, e2⟩ : ∃ p : Addr, p = ⟨h.size, 0, none⟩ := ⟨_, rfl⟩
  obtain ⟨h1, e3⟩ : ∃ hh : Heap, hh = h.push (.cells #[(.int .i64 5), (.int .i64 3)] 3) := ⟨_, rfl⟩
  have H := H p1 h1 e2 e3
  refine s_ef1 (d := some 6) (v := (Sl.v ((⟨some p1, 2, 2⟩ : Sl)))) (h' := h1) rfl rfl rfl (fun dr => (slFZip_22.build (cells := #[(.int .i64 5), (.int .i64 3)]) (by decide) rfl (by kernel_rfl)).trans (by rw [e2, e3]; rfl)) trivial ?_ trivial
  refine s_ef (d := some 7) rfl rfl rfl (fun dr => r_call Try.call14 rfl rfl H) ?_ trivial
  rintro _ h2 ⟨y4, y5, y6, y7, rfl, H⟩
  refine ⟨trivial, ?_⟩
  refine s_ef (d := some 8) rfl rfl rfl (fun dr => r_call Try.call18 rfl rfl H) ?_ trivial
  rintro _ h3 ⟨y8, y9, y10, y11, y12, rfl, H⟩
  refine ⟨trivial, ?_⟩
  refine s_pu (d := some 5) (v := (.tuple #[(.agg #[(.pointer y8), (.int .i64 y9), (.pointer y10), (.int .i64 y11)]), (.bool y12)])) rfl rfl rfl (r_move rfl) ?_
  refine s_pu (d := some 9) (v := (.agg #[(.pointer y8), (.int .i64 y9), (.pointer y10), (.int .i64 y11)])) rfl rfl rfl (r_extract rfl rfl) ?_
  refine s_pu (d := some 10) (v := (.bool y12)) rfl rfl rfl (r_extract rfl rfl) ?_
  obtain ⟨p13, e14⟩ : ∃ p : Addr, p = ⟨h3.size, 0, none⟩ := ⟨_, rfl⟩
  obtain ⟨h4, e15⟩ : ∃ hh : Heap, hh = h3.push (.cells #[(.pointer none), (.int .i64 0), (.pointer none), (.int .i64 0)] 36) := ⟨_, rfl⟩
  have H := H p13 h4 e14 e15
  refine s_ef1 (d := some 1) (v := (.pointer (some p13))) (h' := h4) rfl rfl rfl (fun dr => (r_alloc Try.zeroValue36).trans (by rw [e14, e15]; rfl)) trivial ?_ trivial
  obtain ⟨e17, H⟩ := H
  obtain ⟨h5, e16⟩ : ∃ hh : Heap, hh = hsets h4 p13 0 [(.pointer y8), (.int .i64 y9), (.pointer y10), (.int .i64 y11)] := ⟨_, rfl⟩
  have H := H h5 e16
  refine s_st (d := none) (h' := h5) rfl rfl rfl (fun dr => (r_store (v := (.agg #[(.pointer y8), (.int .i64 y9), (.pointer y10), (.int .i64 y11)])) Try.sizeOf36 rfl rfl rfl (one_all rfl) e17).trans (by rw [e16]; rfl)) trivial ?_ trivial
  refine s_pu (d := some 2) (v := (.bool y12)) rfl rfl rfl (r_assign rfl) ?_
  refine s_fin ?_
  show W _ _ _ _ _ _ _ _
  refine W_seq ?_
  refine W_region (.rl 0 (.ef 1 [] (.pu 2 (.pu 3 (.pu 4 (.pu 5 (.pu 6 .fin))))) .no)) rfl rfl ?_
  obtain ⟨x18, e19, H⟩ := H
  obtain ⟨x20, e21, H⟩ := H
  obtain ⟨x22, e23, H⟩ := H
  obtain ⟨x24, e25, H⟩ := H
  refine s_rl (d := some 12) (v := (.agg #[(.pointer x18), (.int .i64 x20), (.pointer x22), (.int .i64 x24)])) rfl rfl rfl (fun dr => r_loadN Try.isAgg36 Try.sizeOf36 (vs := [(.pointer x18), (.int .i64 x20), (.pointer x22), (.int .i64 x24)]) rfl rfl ⟨e19, e21, e23, e25, trivial⟩) ?_
  refine s_ef (d := some 13) rfl rfl rfl (fun dr => r_call Try.call34 rfl rfl H) ?_ trivial
  rintro _ h6 ⟨y26, y27, rfl, H⟩
  refine ⟨trivial, ?_⟩
  refine s_pu (d := some 11) (v := (.tuple #[(.int .i64 y26), (.bool y27)])) rfl rfl rfl (r_move rfl) ?_
  refine s_pu (d := some 14) (v := (.int .i64 y26)) rfl rfl rfl (r_extract rfl rfl) ?_
  refine s_pu (d := some 15) (v := (.bool y27)) rfl rfl rfl (r_extract rfl rfl) ?_
  refine s_pu (d := some 3) (v := (.int .i64 y26)) rfl rfl rfl (r_assign rfl) ?_
  refine s_pu (d := some 4) (v := (.bool y27)) rfl rfl rfl (r_assign rfl) ?_
  refine s_fin ?_
  show W _ _ _ _ _ _ _ _
  refine W_seq ?_
  refine W_set ?_
  intro N30 eN30
  have H := H (fun (x28 : Bool) (h7 : Heap) => ∀ b, N30 [] (mkE [(0, (.bool x28))] b) h7) (by
    intro x28 h7 H b
    rw [eN30]
    show W _ _ _ _ _ _ _ _
    refine W_ret ?_
    exact ⟨[(.bool x28)], ⟨_, _, rfl, rfl, rfl⟩, x28, rfl, H⟩)
  clear eN30
  refine W_region (.pu 0 (.pu 1 (.pu 2 (.pu 3 (.pu 4 (.pu 5 (.pu 6 (.pu 7 (.pu 8 (.rl 9 (.ef 10 [] (.pu 11 (.pu 12 (.pu 13 .fin))) .no))))))))))) rfl rfl ?_
  refine s_pu (d := some 16) (v := (.bool y12)) rfl rfl rfl (r_move rfl) ?_
  refine s_pu (d := some 17) (v := (.bool y12)) rfl rfl rfl (r_move rfl) ?_
  rcases Bool.eq_false_or_eq_true y12 with g31 | g31
  · have H := H.1 g31
    refine s_pu (d := some 18) (v := (.bool y27)) rfl rfl (wants_yes rfl rfl rfl rfl g31) (r_move rfl) ?_
    refine s_pu (d := some 19) (v := (.bool y27)) rfl rfl rfl (r_pick1 rfl g31 rfl) ?_
    refine s_pu (d := some 20) (v := (.bool y27)) rfl rfl rfl (r_move rfl) ?_
    rcases Bool.eq_false_or_eq_true y27 with g32 | g32
    · have H := H.1 g32
      refine s_pu (d := some 21) (v := (.int .i64 y26)) rfl rfl (wants_yes rfl rfl rfl rfl g32) (r_move rfl) ?_
      refine s_pu (d := some 22) (v := (.bool (decide (y26 = 3)))) rfl rfl (wants_yes rfl rfl rfl rfl g32) (r_eql rfl rfl) ?_
      refine s_pu (d := some 23) (v := (.bool (decide (y26 = 3)))) rfl rfl rfl (r_pick1 rfl g32 rfl) ?_
      refine s_pu (d := some 24) (v := (.bool (decide (y26 = 3)))) rfl rfl rfl (r_move rfl) ?_
      rcases Bool.eq_false_or_eq_true (decide (y26 = 3)) with g33 | g33
      · have H := H.1 g33
        obtain ⟨x34, e35, H⟩ := H
        obtain ⟨x36, e37, H⟩ := H
        obtain ⟨x38, e39, H⟩ := H
        obtain ⟨x40, e41, H⟩ := H
        refine s_rl (d := some 25) (v := (.agg #[(.pointer x34), (.int .i64 x36), (.pointer x38), (.int .i64 x40)])) rfl rfl (wants_yes rfl rfl rfl rfl g33) (fun dr => r_loadN Try.isAgg36 Try.sizeOf36 (vs := [(.pointer x34), (.int .i64 x36), (.pointer x38), (.int .i64 x40)]) rfl rfl ⟨e35, e37, e39, e41, trivial⟩) ?_
        refine s_ef (d := some 26) rfl rfl (wants_yes rfl rfl rfl rfl g33) (fun dr => r_call Try.call20 rfl rfl H) ?_ trivial
        rintro _ h8 ⟨y42, rfl, H⟩
        refine ⟨trivial, ?_⟩
        refine s_pu (d := some 27) (v := (.bool (decide (y42 = 1)))) rfl rfl (wants_yes rfl rfl rfl rfl g33) (r_eql rfl rfl) ?_
        refine s_pu (d := some 28) (v := (.bool (decide (y42 = 1)))) rfl rfl rfl (r_pick1 rfl g33 rfl) ?_
        refine s_pu (d := some 0) (v := (.bool (decide (y42 = 1)))) rfl rfl rfl (r_assign rfl) ?_
        refine s_fin ?_
        exact N_mk (l := [(0, (.bool (decide (y42 = 1))))]) H ⟨rfl, trivial⟩
      · have H := H.2 g33
        refine s_skl (d := some 25) rfl rfl (wants_no rfl rfl rfl rfl g33) ?_
        refine s_skf (d := some 26) rfl rfl (wants_no rfl rfl rfl rfl g33) trivial ?_ trivial
        refine s_sk (d := some 27) rfl rfl (wants_no rfl rfl rfl rfl g33) ?_
        refine s_pu (d := some 28) (v := (.bool false)) rfl rfl rfl (r_pick0 rfl g33 rfl) ?_
        refine s_pu (d := some 0) (v := (.bool false)) rfl rfl rfl (r_assign rfl) ?_
        refine s_fin ?_
        exact N_mk (l := [(0, (.bool false))]) H ⟨rfl, trivial⟩
    · have H := H.2 g32
      refine s_sk (d := some 21) rfl rfl (wants_no rfl rfl rfl rfl g32) ?_
      refine s_sk (d := some 22) rfl rfl (wants_no rfl rfl rfl rfl g32) ?_
      refine s_pu (d := some 23) (v := (.bool false)) rfl rfl rfl (r_pick0 rfl g32 rfl) ?_
      refine s_pu (d := some 24) (v := (.bool false)) rfl rfl rfl (r_move rfl) ?_
      refine s_skl (d := some 25) rfl rfl (wants_no rfl rfl rfl rfl rfl) ?_
      refine s_skf (d := some 26) rfl rfl (wants_no rfl rfl rfl rfl rfl) trivial ?_ trivial
      refine s_sk (d := some 27) rfl rfl (wants_no rfl rfl rfl rfl rfl) ?_
      refine s_pu (d := some 28) (v := (.bool false)) rfl rfl rfl (r_pick0 rfl rfl rfl) ?_
      refine s_pu (d := some 0) (v := (.bool false)) rfl rfl rfl (r_assign rfl) ?_
      refine s_fin ?_
      exact N_mk (l := [(0, (.bool false))]) H ⟨rfl, trivial⟩
  · have H := H.2 g31
    refine s_sk (d := some 18) rfl rfl (wants_no rfl rfl rfl rfl g31) ?_
    refine s_pu (d := some 19) (v := (.bool false)) rfl rfl rfl (r_pick0 rfl g31 rfl) ?_
    refine s_pu (d := some 20) (v := (.bool false)) rfl rfl rfl (r_move rfl) ?_
    refine s_sk (d := some 21) rfl rfl (wants_no rfl rfl rfl rfl rfl) ?_
    refine s_sk (d := some 22) rfl rfl (wants_no rfl rfl rfl rfl rfl) ?_
    refine s_pu (d := some 23) (v := (.bool false)) rfl rfl rfl (r_pick0 rfl rfl rfl) ?_
    refine s_pu (d := some 24) (v := (.bool false)) rfl rfl rfl (r_move rfl) ?_
    refine s_skl (d := some 25) rfl rfl (wants_no rfl rfl rfl rfl rfl) ?_
    refine s_skf (d := some 26) rfl rfl (wants_no rfl rfl rfl rfl rfl) trivial ?_ trivial
    refine s_sk (d := some 27) rfl rfl (wants_no rfl rfl rfl rfl rfl) ?_
    refine s_pu (d := some 28) (v := (.bool false)) rfl rfl rfl (r_pick0 rfl rfl rfl) ?_
    refine s_pu (d := some 0) (v := (.bool false)) rfl rfl rfl (r_assign rfl) ?_
    refine s_fin ?_
    exact N_mk (l := [(0, (.bool false))]) H ⟨rfl, trivial⟩

end Go.Proofs.Ytgieabpckecjlaa
